/- Plain tools: what the words of the printed texts mean, loops. Conditions: none. -/
import Derived.Test.YtmfagdfkpjgeiaaGreatFD
import Derived.Test.YtmfagdfkpjgeiaaGreatXC
set_option linter.unusedVariables false
set_option linter.unusedSimpArgs false
set_option linter.unusedSectionVars false
set_option maxRecDepth 100000
open List renaming getElem?_eq_getElem → Aa, getElem?_eq_some_iff → Ab, mem_of_getElem? → Ac, mem_singleton → Ad, mem_append → Ae, mem_cons_self → Af, mem_cons → Ag, getElem?_of_mem → Ah, mem_cons_of_mem → Ai, pairwise_iff_getElem → Aj, pairwise_cons → Ak, length_append → Am, not_mem_nil → Ao, map_cons → Ap, length_cons → Ar, getElem?_append_left → Au, getElem_mem → Av, mem_iff_getElem? → Aw, getElem?_eq_none → Ax, nodup_cons → Ay, getLast?_concat → Az, take_length → Ba, mem_range → Bc, take_zero → Bd, pairwise_append → Be, getElem?_append_right → Bf, range → Bh, mem_of_find?_eq_some → Bj, length_pos_of_mem → Bl, mem_flatMap → Bm, take_append_drop → Bn, length_take → Bo, mem_append_left → Bp, append_nil → Bq, map_append → Br, range_succ → Bs, flatMap_append → Bt, length_pos_iff → Bu, dropLast_concat_getLast → Bv, find?_eq_none → Bw, flatMap_cons → By, append_assoc → Bz, getElem?_eq_none_iff → Da, nodup_append → Db, drop_eq_getElem_cons → Dc, getElem_take → Dd, getLast?_eq_getElem? → De, getLast?_eq_none_iff → Df, length_erase_of_mem → Dg, mem_map → Dh, pairwise_singleton → Di, find?_cons_of_neg → Dk, range_succ_eq_map → Dl, length_map → Dm, pairwise_lt_range → Dp, pairwise_flatMap → Dq, concat_eq_append → Dr, filterMap_append → Ds, length_singleton → Dt, mem_erase_of_ne → Dv, dropLast_concat → Dw
open Nat renaming le_refl → Aq, lt_trichotomy → Bb, strongRecOn → Dj, add_assoc → Dx
open Classical renaming byContradiction → As, not_forall → Du
open Int renaming tmod_eq_emod_of_nonneg → Bg
open Bool renaming not_eq_true' → Bk, eq_iff_iff → Do
namespace Go.Dn
open Go Go.Vv Go.Dn.W
section words
variable {α β:Type}
theorem EI(c:Bool)(x y:Option α):@W.br wv α c x y=if c=true then x else y:=rfl
theorem yj(c:Bool)(x:Option α):@W.gd wv α c x=if c=true then x else none:=rfl
theorem yh(l:List β)(i:Int)(k:β->Option α):@W.ge wv α β l i k=JG (Hy l i) k:=rfl
theorem bP(c:BS)(a:c.aT.T)(k:c.rT.T->Option α):@W.call wv α c a k=JG (c.fn a) k:=rfl
theorem bN{A B:Type}(b:A->Option (Nx A B))(a:A)(k:B->Option α):@W.loop wv A B α b a k=JG (X0 b CU a) k:=rfl
theorem bO{B:Type}(x:Option B)(k:B->Option α):@W.join wv B α x k=JG x k:=rfl
theorem DW{B:Type}{x:Option B}{k:B->Option α}{e:B}(h:x=some e):@W.join wv B α x k=k e:=by rw [bO,h];rfl
theorem AO(l:List α):@W.ln wv α l=(l.length:Int):=rfl
theorem BX(a b:Int):@W.pl wv a b=a+b:=rfl
theorem IX(a b:Int):@W.mi wv a b=a - b:=rfl
theorem yg(i n:Int):@W.ib wv i n=decide (0<=i/\i<n):=rfl
theorem Tz(a b:Int):@W.le wv a b=decide (a<=b):=rfl
theorem yu(b:Nat)(n:Int):@W.ft wv b n=decide (n * b<=room/\n<=9223372036854775807):=rfl
theorem CV(l m:List α):@W.ap wv α l m=l++m:=rfl
theorem Iq(l:List α)(a n:Int):@W.ct wv α l a n=(l.drop a.toNat).take n.toNat:=rfl
theorem GN(l:List α)(i:Int)(x:α):@W.st wv α l i x=l.set i.toNat x:=rfl
theorem mY(x:α)(n:Int):@W.rp wv α x n=List.replicate n.toNat x:=rfl
theorem mZ(a b:Int):@W.mx wv a b=if b > a then b else a:=rfl
theorem bM(a b:Int):@W.mn wv a b=if b<a then b else a:=rfl
theorem yc(k:IntKind)(a:Int):@W.ng wv k a=k.wrap (0 - a):=rfl
theorem BQ(a:Bool):@W.nt wv a=!a:=rfl
theorem LJ(a b:Bool):@W.an wv a b=(a&&b):=rfl
theorem yw(a b:Bool):@W.be wv a b=(a==b):=rfl
theorem yZ(n:Int)(k:Bool->Option α):@W.nq wv α n k=dK n k:=rfl
theorem J3(a b:Int):@W.ar wv .add .i64 a b=IntKind.wrap .i64 (a+b):=rfl
theorem Xo(a b:Int):@W.ar wv .sub .i64 a b=IntKind.wrap .i64 (a - b):=rfl
theorem L6(a b:Int):@W.ar wv .mul .i64 a b=IntKind.wrap .i64 (a * b):=rfl
theorem YV(a b:Int):@W.ar wv .quo .i64 a b=IntKind.wrap .i64 (a.tdiv b):=rfl
theorem sW(a b:Int):@W.ar wv .rem .i64 a b=a.tmod b:=rfl
theorem Qn(a b:Int):@W.cm wv .eql a b=(a==b):=rfl
theorem GZ(a b:Int):@W.cm wv .neq a b=(a != b):=rfl
theorem Li(a b:Int):@W.cm wv .lss a b=decide (a<b):=rfl
theorem Fz(a b:Int):@W.cm wv .leq a b=decide (a<=b):=rfl
theorem z7(a b:Int):@W.cm wv .gtr a b=decide (a > b):=rfl
theorem JH(a b:Int):@W.cm wv .geq a b=decide (a>=b):=rfl
theorem wr{n:Int}(h:-9223372036854775808<=n)(a:n<=9223372036854775807):IntKind.wrap .i64 n=n:=by rw [IntKind.wrap_i64,Int.emod_eq_of_lt]<;>omega
theorem fg{l:List α}{i:Nat}{x:α}(h:l[i]?=some x):Hy l (i:Int)=some x:=by unfold Hy;rw [if_pos (by omega),Int.toNat_natCast,h]
theorem Im{l:List α}{i:Int}(j:Nat){x:α}(e:i=j)(h:l[j]?=some x):Hy l i=some x:=by subst e;exact fg h
theorem NQ{l:List α}{x:α}(h:l[0]?=some x):Hy l 0=some x:=fg h
theorem AP{l:List β}{i:Int}{k:β->Option α}{x:β}(h:Hy l i=some x):@W.ge wv α β l i k=k x:=by rw [yh,h];rfl
theorem BH{c:BS}{a:c.aT.T}{k:c.rT.T->Option α}{r:c.rT.T}(h:c.fn a=some r):@W.call wv α c a k=k r:=by rw [bP,h];rfl
theorem BL{A B:Type}{b:A->Option (Nx A B)}{a:A}{k:B->Option α}{e:B}(h:X0 b CU a=some e):@W.loop wv A B α b a k=k e:=by rw [bN,h];rfl
theorem BA{c:Bool}{x y:Option α}(h:c=true):@W.br wv α c x y=x:=by rw [EI,if_pos h]
theorem AU{c:Bool}{x y:Option α}(h:c=false):@W.br wv α c x y=y:=by rw [EI,h];rfl
theorem Cb{c:Bool}{x:Option α}(h:c=true):@W.gd wv α c x=x:=by rw [yj,if_pos h]
theorem J5{a b:Int}{x y:Option α}(h:a<b):@W.br wv α (@W.cm wv .lss a b) x y=x:=BA (by rw [Li];exact decide_eq_true h)
theorem Jr{a b:Int}{x y:Option α}(h:¬a<b):@W.br wv α (@W.cm wv .lss a b) x y=y:=AU (by rw [Li];exact decide_eq_false h)
theorem ZL{b:Nat}{n:Int}{x:Option α}(h:n * b<=room/\n<=9223372036854775807):@W.gd wv α (@W.ft wv b n) x=x:=Cb (by rw [yu];exact decide_eq_true h)
theorem FQ{i n:Int}{x:Option α}(h:0<=i/\i<n):@W.gd wv α (@W.ib wv i n) x=x:=Cb (by rw [yg];exact decide_eq_true h)
end words
section loops
variable {A B:Type} {b:A->Option (Nx A B)}
theorem uZ{n:Nat}{s s':A}(h:b s=some (.go s')):X0 b (n+1) s=X0 b n s':=by simp only [X0,h]
theorem YM{n:Nat}{s:A}{e:B}(h:b s=some (.out e)):X0 b (n+1) s=some e:=by simp only [X0,h]
theorem J4k(st:Nat->A){e:B}:∀(k i N M:Nat),N=i+k->k<M->(∀j,i<=j->j<N->b (st j)=some (.go (st (j+1))))->b (st N)=some (.out e)->X0 b M (st i)=some e
 | 0,i,N,M+1,hN,hM,d,a=>by subst hN;exact YM a
 | k+1,i,N,M+1,hN,hM,d,a=>by rw [uZ (d i (Aq _) (by omega))];exact J4k st k (i+1) N M (by omega) (by omega) (λj f=>d j (by omega)) a
theorem Ki(st:Nat->A)(N:Nat){e:B}(hN:N<1000000000000)(f:∀i,i<N->b (st i)=some (.go (st (i+1))))(d:b (st N)=some (.out e)):X0 b CU (st 0)=some e:=
 J4k st N 0 N CU (by omega) (by unfold CU;omega) (λj _ a=>f j a) d
open Classical in
theorem YL(st:Nat->A)(N:Nat)(hN:N<1000000000000)(good:Nat->Prop){bad fin:B}
  (m:∀i,i<N->(∀j,j<i->good j)->(good i->b (st i)=some (.go (st (i+1))))/\(¬good i->b (st i)=some (.out bad))) (r:(∀i,i<N->good i)->b (st N)=some (.out fin)) :
  X0 b CU (st 0)=some (if ∀i,i<N->good i then fin else bad):=by
 by_cases d:∀i,i<N->good i
 ·rw [if_pos d];exact Ki st N hN (λi hi=>(m i hi λj f=>d j (by omega)).1 (d i hi)) (r d)
 ·rw [if_neg d];have:∃i,i<N/\¬good i/\∀j,j<i->good j:=by
   simp only [Du] at d;obtain ⟨i,hi,l⟩:=d
   induction i using Dj with
   | _ i o=>
    by_cases h:∀j,j<i->good j
    ·exact ⟨i,hi,l,h⟩
    ·simp only [Du] at h;obtain ⟨j,f,g⟩:=h;exact o j f (by omega) g
  obtain ⟨i,hi,l,a⟩:=this;exact Ki st i (by omega) (λj f=>(m j (by omega) λk v=>a k (by omega)).1 (a j f)) ((m i hi a).2 l)
theorem Jx7{α:Type}(l:List α)(hl:l.length<1000000000000)(st:Nat->A)(p:α->Bool)(out:α->B)(nf:B)
  (h:∀i x,i<l.length->l[i]?=some x->b (st i)=if p x=true then some (.out (out x)) else some (.go (st (i+1)))) (g:b (st l.length)=some (.out nf)) :
  X0 b CU (st 0)=some (match l.find? p with|some x=>out x|none=>nf):=by
 have key:∀(m:List α) (i M:Nat),i+m.length=l.length->m.length<M->(∀j,m[j]?=l[i+j]?)->X0 b M (st i)=some (match m.find? p with|some x=>out x|none=>nf):=by
  intro m
  induction m with
  | nil=>
   intro i M hi hM d;have:i=l.length:=by simpa using hi
   subst this;cases M with
   | zero=>simp at hM
   | succ M=>exact YM g
  | cons x m f=>
   intro i M hi hM d;simp only [Ar] at hi hM;have hx:l[i]?=some x:=by have:=d 0;simpa using this.symm
   have:=h i x (by omega) hx;cases M with
   | zero=>omega
   | succ M=>
    cases a:p x with
    | true=>
     rw [a,if_pos rfl] at this;rw [YM this,List.find?_cons_of_pos (by exact a)]
    | false=>
     rw [a,if_neg (by simp)] at this;rw [uZ this,Dk (by simp [a])];exact f (i+1) M (by omega) (by omega) λj=>by have:=d (j+1);rw [List.getElem?_cons_succ] at this;rw [this];congr 1;omega
 exact key l 0 CU (by simp) (by unfold CU;omega) λj=>by simp
theorem Xr(I:Nat->A->Prop)(Q:B->Prop)(N:Nat)(hN:N<1000000000000){s0:A}(o:I 0 s0)(m:∀i s,i<N->I i s->∃s',b s=some (.go s')/\I (i+1) s')(l:∀s,I N s->∃e,b s=some (.out e)/\Q e) :
  ∃e,X0 b CU s0=some e/\Q e:=by
 have key:∀(k i M:Nat) (s:A),i+k=N->k<M->I i s->∃e,X0 b M s=some e/\Q e:=by
  intro k
  induction k with
  | zero=>
   intro i M s hi hM hs;have:i=N:=by omega
   subst this;obtain ⟨e,g,d⟩:=l s hs;cases M with
   | zero=>omega
   | succ M=>exact ⟨e,YM g,d⟩
  | succ k h=>
   intro i M s hi hM hs;obtain ⟨s',a,f⟩:=m i s (by omega) hs;cases M with
   | zero=>omega
   | succ M=>
    obtain ⟨e,g,d⟩:=h (i+1) M s' (by omega) (by omega) f;exact ⟨e,(uZ a).trans g,d⟩
 exact key N 0 CU s0 (by omega) (by unfold CU;omega) o
theorem J3u{α:Type}(l:List α)(hl:l.length<1000000000000)(st:Nat->A)(p:α->Prop)(out:Nat->α->B)(nf:B)
  (o:∀i x,i<l.length->l[i]?=some x->(p x->b (st i)=some (.out (out i x)))/\(¬p x->b (st i)=some (.go (st (i+1))))) (y:b (st l.length)=some (.out nf)) :
  ∃e,X0 b CU (st 0)=some e/\((e=nf/\∀x∈l,¬p x)\/∃i x,l[i]?=some x/\p x/\e=out i x):=by
 by_cases v:∃i,i<l.length/\∃x,l[i]?=some x/\p x
 ·have:∃i,i<l.length/\(∃x,l[i]?=some x/\p x)/\∀j,j<i->∀x,l[j]?=some x->¬p x:=by
   obtain ⟨i,hi,hx⟩:=v
   induction i using Dj with
   | _ i w=>
    by_cases h:∃j,j<i/\∃x,l[j]?=some x/\p x
    ·obtain ⟨j,a,g⟩:=h;exact w j a (by omega) g
    ·exact ⟨i,hi,hx,λj a x f d=>h ⟨j,a,x,f,d⟩⟩
  obtain ⟨i,hi,⟨x,hx,d⟩,m⟩:=this;exact ⟨_,Ki st i (by omega) (λj a=>(o j l[j] (by omega) (Aa _)).2 (m j a _ (Aa _))) ((o i x hi hx).1 d),.inr ⟨i,x,hx,d,rfl⟩⟩
 ·have r:∀i x,l[i]?=some x->¬p x:=λi x hx d=>v ⟨i,(Ab.1 hx).1,x,hx,d⟩;exact ⟨nf,Ki st l.length hl (λj a=>(o j l[j] a (Aa _)).2 (r j _ (Aa _))) y,.inl ⟨rfl,λx hx=>by obtain ⟨i,hi⟩:=Aw.1 hx;exact r i x hi⟩⟩
theorem iW(I:A->Prop)(Q:B->Prop)(m:A->Nat)(h:∀s,I s->(∃s',b s=some (.go s')/\I s'/\m s'<m s)\/∃e,b s=some (.out e)/\Q e){s0:A}(r:I s0)(v:m s0<1000000000000):∃e,X0 b CU s0=some e/\Q e:=by
 have key:∀(n M:Nat) (s:A),m s<=n->n<M->I s->∃e,X0 b M s=some e/\Q e:=by
  intro n
  induction n with
  | zero=>
   intro M s hs hM hi;cases M with
   | zero=>omega
   | succ M=>
    rcases h s hi with ⟨s',_,_,o⟩|⟨e,d,a⟩
    ·omega
    ·exact ⟨e,YM d,a⟩
  | succ n f=>
   intro M s hs hM hi;cases M with
   | zero=>omega
   | succ M=>
    rcases h s hi with ⟨s',d,a,o⟩|⟨e,d,a⟩
    ·obtain ⟨e,l,g⟩:=f M s' (by omega) (by omega) a;exact ⟨e,(uZ d).trans l,g⟩
    ·exact ⟨e,YM d,a⟩
 exact key (m s0) CU s0 (Aq _) (by unfold CU;omega) r
end loops
section lists
variable {α β:Type}
theorem Ka{l:List α}{i:Nat}{x:α}(h:l[i]?=some x):l.take (i+1)=l.take i++[x]:=by rw [List.take_add_one,h];rfl
theorem rD{f:α->List β}{l:List α}{i:Nat}{x:α}(h:l[i]?=some x):(l.take (i+1)).flatMap f=(l.take i).flatMap f++f x:=by rw [Ka h,Bt,By,List.flatMap_nil,Bq]
theorem wV{f:α->β}{l:List α}{i:Nat}{x:α}(h:l[i]?=some x):(l.take (i+1)).map f=(l.take i).map f++[f x]:=by rw [Ka h,Br];rfl
def rng(a:Int)(n:Nat):List Int:=(Bh n).map λi:Nat=>a+(i:Int)
theorem OV(a:Int)(n:Nat):rng a (n+1)=rng a n++[a+(n:Int)]:=by simp [rng,Bs]
theorem Kam(a:Int)(n:Nat):(rng a n).length=n:=by simp [rng]
theorem J85{a x:Int}{n:Nat}:x∈rng a n↔a<=x/\x<a+n:=by
 simp only [rng,Dh,Bc];constructor
 ·rintro ⟨i,hi,rfl⟩;omega
 ·intro h;exact ⟨(x - a).toNat,by omega,by omega⟩
theorem OW(a:Int)(n:Nat):rng a (n+1)=a::rng (a+1) n:=by
 simp only [rng,Dl,Ap,List.map_map]
 congr 1
 ·simp
 ·apply List.map_congr_left;intro i _;simp only [Function.comp];omega
theorem cB(a:Int)(n:Nat):(rng a n).Pairwise (·<·):=by
 induction n generalizing a with
 | zero=>exact .nil
 | succ n d=>
  rw [OW];refine Ak.2 ⟨λx hx=>?_,d _⟩;have:=J85.1 hx;omega
theorem Jrm{f:α->List β}{l:List α}{n:Nat}(h:∀x∈l,(f x).length<=n):(l.flatMap f).length<=l.length * n:=by
 induction l with
 | nil=>simp
 | cons x l a=>
  have:=h x (Af ..);have:=a λy d=>h y (Ai _ d);simp only [By,Am,Ar,Nat.add_mul];omega
theorem ze(f:α->α)(x:α):∀l:List α,Zw (l++[x]) f=l++[f x]
 | []=>rfl
 | [y]=>rfl
 | y::z::l=>by show y::Zw (z::(l++[x])) f=_;rw [show z::(l++[x])=(z::l)++[x] from rfl,ze f x (z::l)];rfl
theorem J4b(l:List α)(x y:α):(l++[x]).set l.length y=l++[y]:=by rw [List.set_append_right _ _ (Aq _),Nat.sub_self];rfl
theorem iU(l:List α)(x:α):(l++[x])[l.length]?=some x:=by rw [Bf (Aq _),Nat.sub_self];rfl
end lists
end Go.Dn
namespace Go.Dn
abbrev Run:=Int×Int
abbrev Row:=Int×List Run
abbrev AY:=List Row
abbrev Cell:=Int×Int
abbrev Jt:=Int×(Bool×List Cell)
structure AJ (lo hi:Int) (l:List Run):Prop where
 bd:∀x∈l,lo<=x.1/\x.1<x.2/\x.2<=hi
 pw:l.Pairwise λa b=>a.2<b.1
structure AL (r:AY):Prop where
 y:∀w∈r,-4096<=w.1/\w.1<4096
 pw:r.Pairwise λa b=>a.1<b.1
 ne:∀w∈r,w.2≠[]
 rs:∀w∈r,AJ (-4096) 4096 w.2
def Jf(l:List Run)(x:Int):Prop:=∃u∈l,u.1<=x/\x<u.2
def Qo(r:AY)(c:Cell):Prop:=∃w∈r,w.1=c.2/\Jf w.2 c.1
def Ie(y:Int)(u:Run):List Cell:=(rng u.1 (u.2 - u.1).toNat).map λx=>(x,y)
def EP(w:Row):List Cell:=w.2.flatMap (Ie w.1)
def K8(r:AY):List Cell:=r.flatMap EP
def yx(a b:Cell):Prop:=a.2<b.2\/(a.2=b.2/\a.1<b.1)
theorem Jwk{y:Int}{u:Run}{c:Cell}:c∈Ie y u↔c.2=y/\u.1<=c.1/\c.1<u.2:=by
 simp only [Ie,Dh,J85];constructor
 ·rintro ⟨x,hx,rfl⟩;exact ⟨rfl,by omega,by omega⟩
 ·rintro ⟨rfl,d,a⟩;exact ⟨c.1,by omega,rfl⟩
theorem J2h{w:Row}{c:Cell}:c∈EP w↔c.2=w.1/\Jf w.2 c.1:=by
 simp only [EP,Bm,Jwk,Jf];constructor
 ·rintro ⟨u,a,f,d⟩;exact ⟨f,u,a,d⟩
 ·rintro ⟨f,u,a,d⟩;exact ⟨u,a,f,d⟩
theorem TD{r:AY}{c:Cell}:c∈K8 r↔Qo r c:=by
 simp only [K8,Bm,J2h,Qo];constructor
 ·rintro ⟨w,a,f,d⟩;exact ⟨w,a,f.symm,d⟩
 ·rintro ⟨w,a,f,d⟩;exact ⟨w,a,f.symm,d⟩
theorem AL.bd{r:AY}(h:AL r){c:Cell}(f:Qo r c):-4096<=c.1/\c.1<4096/\-4096<=c.2/\c.2<4096:=by obtain ⟨w,a,e,u,d,l,g⟩:=f;have:=(h.rs w a).bd u d;have:=h.y w a;omega
theorem WE(y:Int)(u:Run):(Ie y u).Pairwise yx:=by refine List.pairwise_map.2 ((cB _ _).imp λh=>.inr ⟨rfl,h⟩)
theorem bn{lo hi:Int}{w:Row}(h:AJ lo hi w.2):(EP w).Pairwise yx:=by refine Dq.2 ⟨λu _=>WE _ _,h.pw.imp λ{a b} g c f d hd=>?_⟩;have f:=Jwk.1 f;have hd:=Jwk.1 hd;exact .inr ⟨by omega,by omega⟩
theorem AL.IG{r:AY}(h:AL r):(K8 r).Pairwise yx:=by refine Dq.2 ⟨λw g=>bn (h.rs w g),h.pw.imp λ{a b} l c f d hd=>?_⟩;have f:=J2h.1 f;have hd:=J2h.1 hd;exact .inl (by omega)
theorem au(a:Cell):¬yx a a:=by unfold yx;omega
theorem vL{a b:Cell}(h:yx a b):¬yx b a:=by unfold yx at *;omega
theorem wz{α:Type}{R:α->α->Prop}(asy:∀a b,R a b->¬R b a):∀ {l m:List α},l.Pairwise R->m.Pairwise R->(∀x,x∈l↔x∈m)->l=m
 | [],[],_,_,_=>rfl
 | [],y::m,_,_,h=>by have:=(h y).2 (Af ..);cases this
 | x::l,[],_,_,h=>by have:=(h x).1 (Af ..);cases this
 | x::l,y::m,B,A,h=>by
  obtain ⟨o,v⟩:=Ak.1 B;obtain ⟨g,r⟩:=Ak.1 A;have e:x=y:=by
   rcases Ag.1 ((h x).1 (Af ..)) with e|hx
   ·exact e
   ·rcases Ag.1 ((h y).2 (Af ..)) with e|w
    ·exact e.symm
    ·exact (asy _ _ (o y w) (g x hx)).elim
  subst e;have irr:∀z,¬R z z:=λz d=>asy z z d d;rw [wz asy v r λz=>?_];constructor
  ·intro d;rcases Ag.1 ((h z).1 (Ai _ d)) with e|f
   ·subst e;exact (irr _ (o _ d)).elim
   ·exact f
  ·intro d;rcases Ag.1 ((h z).2 (Ai _ d)) with e|f
   ·subst e;exact (irr _ (g _ d)).elim
   ·exact f
theorem Om{α:Type}{R:α->α->Prop}(tr:∀a b c,R a b->R b c->R a c){l:List α}(h:∀i a b,l[i]?=some a->l[i+1]?=some b->R a b):l.Pairwise R:=by
 induction l with
 | nil=>exact .nil
 | cons x l g=>
  have ih':=g λi a b o m=>h (i+1) a b (by simpa using o) (by simpa using m);refine Ak.2 ⟨λy d=>?_,ih'⟩;cases l with
  | nil=>cases d
  | cons z l=>
   have f:R x z:=h 0 x z rfl rfl;rcases Ag.1 d with rfl|d
   ·exact f
   ·exact tr _ _ _ f ((Ak.1 ih').1 y d)
theorem yS{α:Type}{R:α->α->Prop}{l:List α}(h:l.Pairwise R){i:Nat}{a b:α}(m:l[i]?=some a)(g:l[i+1]?=some b):R a b:=by have r:=(Ab.1 m);have o:=(Ab.1 g);obtain ⟨f,w⟩:=r;obtain ⟨d,v⟩:=o;have:=Aj.1 h i (i+1) f d (by omega);rwa [w,v] at this
theorem J4f{l:List Run}(w:l.Pairwise λa b=>a.2<b.1){u v:Run}(h:u∈l)(r:v∈l):u=v\/u.2<v.1\/v.2<u.1:=by
 induction l with
 | nil=>cases h
 | cons x l o=>
  obtain ⟨g,m⟩:=Ak.1 w;rcases Ag.1 h with rfl|f<;>rcases Ag.1 r with rfl|d
  ·exact .inl rfl
  ·exact .inr (.inl (g _ d))
  ·exact .inr (.inr (g _ f))
  ·exact o m f d
theorem AJ.left{lo hi:Int}{l:List Run}(h:AJ lo hi l){u:Run}(f:u∈l):¬Jf l (u.1 - 1):=by
 rintro ⟨v,d,r,o⟩;have m:=h.bd u f;have g:=h.bd v d;have a:=h.pw;rcases J4f a f d with e|e|e
 ·subst e;omega
 ·omega
 ·omega
theorem AJ.right{lo hi:Int}{l:List Run}(h:AJ lo hi l){u:Run}(d:u∈l):¬Jf l u.2:=by
 rintro ⟨v,a,o,m⟩;have g:=h.bd u d;have f:=h.bd v a;rcases J4f h.pw d a with e|e|e
 ·subst e;omega
 ·omega
 ·omega
theorem AL.KC{r:AY}(h:AL r){w v:Row}(g:w∈r)(y:v∈r)(e:w.1=v.1):w=v:=by
 have A:=h.pw;clear h
 induction r with
 | nil=>cases g
 | cons x l o=>
  obtain ⟨f,m⟩:=Ak.1 A;rcases Ag.1 g with rfl|a<;>rcases Ag.1 y with rfl|d
  ·rfl
  ·have:=f _ d;omega
  ·have:=f _ a;omega
  ·exact o a d m
theorem AL.DC{r:AY}(h:AL r){w:Row}(a:w∈r)(x:Int):Qo r (x,w.1)↔Jf w.2 x:=by
 constructor
 ·rintro ⟨v,d,e,hx⟩;rw [h.KC a d e.symm];exact hx
 ·exact λhx=>⟨w,a,rfl,hx⟩
theorem YZ{lo hi:Int}{l:List Run}{u:Run}:AJ lo hi (l++[u])↔AJ lo hi l/\(lo<=u.1/\u.1<u.2/\u.2<=hi)/\∀v∈l,v.2<u.1:=by
 constructor
 ·rintro ⟨a,f⟩;obtain ⟨m,A,g⟩:=Be.1 f;exact ⟨⟨λx hx=>a x (Bp _ hx),m⟩,a u (by simp),λv d=>g v d u (by simp)⟩
 ·rintro ⟨⟨a,f⟩,y,r⟩;refine ⟨λx hx=>?_,Be.2 ⟨f,Di _ _,λv d w o=>?_⟩⟩
  ·rcases Ae.1 hx with h|h
   ·exact a x h
   ·rw [Ad.1 h];exact y
  ·rw [Ad.1 o];exact r v d
theorem Jl7{l:List Run}{u:Run}{x:Int}:Jf (l++[u]) x↔Jf l x\/(u.1<=x/\x<u.2):=by
 unfold Jf;constructor
 ·rintro ⟨v,a,h⟩;rcases Ae.1 a with q|q
  ·exact .inl ⟨v,q,h⟩
  ·rw [Ad.1 q] at h;exact .inr h
 ·rintro (⟨v,a,h⟩|h)
  ·exact ⟨v,Bp _ a,h⟩
  ·exact ⟨u,by simp,h⟩
end Go.Dn
namespace Go.Proofs.YtmfagdfkpjgeiaaGreat
open Go Go.Vv Go.Dn Go.Dn.W
theorem J0k(x:Int):@wQ wv x=some (decide (-4096<=x/\x<4096)):=by simp only [wQ,EI,JH,Li,decide_eq_true_eq];split<;>simp<;>omega
theorem lV{α:Type}(x:Int)(k:Bool->Option α):@W.call wv α Xg x k=k (decide (-4096<=x/\x<4096)):=BH (c:=Xg) (J0k x)
theorem Jzu(x:Int×Int):@wU wv x=some (decide (-1048576<=x.1/\x.1<=1048576/\-1048576<=x.2/\x.2<=1048576)):=by
 simp only [wU,EI,JH,Fz,decide_eq_true_eq]
 (repeat' split)<;>first|exact congrArg some (decide_eq_decide.2 (by omega))|exact congrArg some (decide_eq_false (by omega)).symm
theorem Jsw{α:Type}(x:Int×Int)(k:Bool->Option α):@W.call wv α ig x k=k (decide (-1048576<=x.1/\x.1<=1048576/\-1048576<=x.2/\x.2<=1048576)):=BH (c:=ig) (Jzu x)
def JL(lo hi:Int)(l:List Run)(i:Nat):Prop:=∀x,l[i]?=some x->lo<=x.1/\x.1<x.2/\x.2<=hi/\∀p,0<i->l[i - 1]?=some p->p.2<x.1
theorem rJ(lo hi:Int)(l:List Run):(∀i,i<l.length->JL lo hi l i)↔AJ lo hi l:=by
 constructor
 ·intro h;have key:∀(i:Nat) (x:Run),l[i]?=some x->lo<=x.1/\x.1<x.2/\x.2<=hi/\∀p,0<i->l[i - 1]?=some p->p.2<x.1:=λi x hx=>h i (Ab.1 hx).1 x hx;refine ⟨λx hx=>?_,?_⟩
  ·obtain ⟨i,hi⟩:=Aw.1 hx;have:=key i x hi;omega
  ·have g:(l.Pairwise λa b=>(a.1<a.2/\b.1<b.2/\a.2<b.1)):=Om (λa b c m f=>by omega) λi a b o d=>by have m:=key i a o;have f:=key (i+1) b d;have v:=f.2.2.2 a (by omega) (by simpa using o);omega
   exact g.imp λh=>h.2.2
 ·rintro ⟨m,f⟩ i hi x hx;have d:=m x (Ac hx);refine ⟨d.1,d.2.1,d.2.2,λp r g=>?_⟩;exact yS f g (by rwa [Nat.sub_add_cancel r])
open Classical in
theorem Jnk(l:List Run)(hl:l.length<=1000000000):@xE wv l=some (decide (AJ (-1048576) 1048576 l)):=by
 have g:=YL (b:=@Yg wv) (bad:=.inl ()) (fin:=.inr ()) (λi=>⟨l,l,(l.length:Int),(i:Int),()⟩) l.length (by omega) (JL (-1048576) 1048576 l) (λi hi _=>by
  have hx:=Aa hi;have w:@Yg wv ⟨l,l,(l.length:Int),(i:Int),()⟩=if JL (-1048576) 1048576 l i then some (.go ⟨l,l,(l.length:Int),((i+1:Nat):Int),()⟩) else some (.out (.inl ())):=by
   unfold Yg;dsimp only;rw [J5 (by omega),AP (fg hx)];simp only [EI,JH,z7,Fz,J3,BQ,Jsw,decide_eq_true_eq,Bk,decide_eq_false_iff_not];rw [wr (by omega) (by omega)];by_cases v:0<i
   ·have o:=Aa (l:=l) (i:=i - 1) (by omega);rw [AP (Im (i - 1) (by rw [Xo,wr (by omega) (by omega)];omega) o)];have r:JL (-1048576) 1048576 l i↔-1048576<=l[i].1/\l[i].1<l[i].2/\l[i].2<=1048576/\(l[i - 1]'(by omega)).2<l[i].1:=by
     constructor
     ·intro h;have:=h _ hx;exact ⟨this.1,this.2.1,this.2.2.1,this.2.2.2 _ v o⟩
     ·rintro ⟨a,b,c,d⟩ x f;rw [hx] at f;injection f with e;subst e;exact ⟨a,b,c,λp _ m=>by rw [o] at m;injection m with e;subst e;exact d⟩
    simp only [r]
    (repeat' split)<;>first|rfl|omega
   ·have r:JL (-1048576) 1048576 l i↔-1048576<=l[i].1/\l[i].1<l[i].2/\l[i].2<=1048576:=by
     constructor
     ·intro h;have:=h _ hx;exact ⟨this.1,this.2.1,this.2.2.1⟩
     ·rintro ⟨a,b,c⟩ x f;rw [hx] at f;injection f with e;subst e;exact ⟨a,b,c,λp h=>(v h).elim⟩
    simp only [r]
    (repeat' split)<;>first|rfl|omega
  rw [w];exact ⟨λh=>if_pos h,λh=>if_neg h⟩) (λ_=>by unfold Yg;dsimp only;rw [Jr (by omega)])
 refine (BL g).trans ?_;by_cases h:AJ (-1048576) 1048576 l
 ·rw [if_pos ((rJ _ _ _).2 h),decide_eq_true h]
 ·rw [if_neg λq=>h ((rJ _ _ _).1 q),decide_eq_false h]
open Classical in
theorem bF{α:Type}{l:List Run}(hl:l.length<=1000000000)(k:Bool->Option α):@W.call wv α J0 l k=k (decide (AJ (-1048576) 1048576 l)):=BH (c:=J0) (Jnk l hl)
def DF(r:AY):Prop:=r.length<=1000000000/\∀w∈r,w.2.length<=1000000000
theorem J6e{lo hi:Int}{l:List Run}(h:AJ lo hi l){x0:Run}(d:l[0]?=some x0):∀x∈l,x0.1<=x.1:=by
 cases l with
 | nil=>simp at d
 | cons y l=>
  simp only [List.getElem?_cons_zero,Option.some.injEq] at d;subst d;intro x hx;rcases Ag.1 hx with rfl|a
  ·omega
  ·have:=(Ak.1 h.pw).1 x a;have:=h.bd y (Af ..);omega
theorem J73{lo hi:Int}{l:List Run}(h:AJ lo hi l){x1:Run}(a:l[l.length - 1]?=some x1):∀x∈l,x.2<=x1.2:=by
 intro x hx;have g:=Ac a;obtain ⟨i,hi⟩:=Aw.1 hx;obtain ⟨f,o⟩:=Ab.1 hi;obtain ⟨d,m⟩:=Ab.1 a;have r:=h.bd x1 g;by_cases e:i=l.length - 1
 ·subst e;rw [hi] at a;injection a with a;subst a;omega
 ·have:=Aj.1 h.pw i (l.length - 1) f d (by omega);rw [o,m] at this;omega
def KT(r:AY)(i:Nat):Prop:=∀w,r[i]?=some w->-4096<=w.1/\w.1<4096/\w.2≠[]/\AJ (-4096) 4096 w.2/\∀p,0<i->r[i - 1]?=some p->p.1<w.1
theorem aZ(r:AY):(∀i,i<r.length->KT r i)↔AL r:=by
 constructor
 ·intro h;have key:∀(i:Nat) (w:Row),r[i]?=some w->-4096<=w.1/\w.1<4096/\w.2≠[]/\AJ (-4096) 4096 w.2/\∀p,0<i->r[i - 1]?=some p->p.1<w.1:=λi x hx=>h i (Ab.1 hx).1 x hx;have km:∀w∈r,-4096<=w.1/\w.1<4096/\w.2≠[]/\AJ (-4096) 4096 w.2:=λw d=>by obtain ⟨i,hi⟩:=Aw.1 d;have:=key i w hi;exact ⟨this.1,this.2.1,this.2.2.1,this.2.2.2.1⟩
  exact ⟨λw d=>⟨(km w d).1,(km w d).2.1⟩,Om (λa b c y v=>by omega) λi a b m l=>(key (i+1) b l).2.2.2.2 a (by omega) (by simpa using m),λw d=>(km w d).2.2.1,λw d=>(km w d).2.2.2⟩
 ·intro h i hi w d;have f:=Ac d;exact ⟨(h.y w f).1,(h.y w f).2,h.ne w f,h.rs w f,λp o g=>yS h.pw g (by rwa [Nat.sub_add_cancel o])⟩
theorem vS{l:List Run}{x0 x1:Run}(f:l[0]?=some x0)(d:l[l.length - 1]?=some x1):AJ (-4096) 4096 l↔AJ (-1048576) 1048576 l/\(-4096<=x0.1/\x0.1<4096)/\(-4096<=x1.2 - 1/\x1.2 - 1<4096):=by
 constructor
 ·intro h;have a:=h.bd x0 (Ac f);have b:=h.bd x1 (Ac d);exact ⟨⟨λx hx=>by have:=h.bd x hx;omega,h.pw⟩,by omega,by omega⟩
 ·rintro ⟨h,a,b⟩;exact ⟨λx hx=>by have m:=J6e h f x hx;have g:=J73 h d x hx;have:=h.bd x hx;omega,h.pw⟩
open Classical in
theorem Jq3(r:AY)(hl:DF r):@mF wv r=some (decide (AL r)):=by
 have g:=YL (b:=@Qk wv) (bad:=.inl ()) (fin:=.inr ()) (λi=>⟨r,(r.length:Int),(i:Int),r,()⟩) r.length (by have:=hl.1;omega) (KT r) (λi hi _=>by
  have hx:=Aa hi;have hL:=hl.1;have M:@Qk wv ⟨r,(r.length:Int),(i:Int),r,()⟩=if KT r i then some (.go ⟨r,(r.length:Int),((i+1:Nat):Int),r,()⟩) else some (.out (.inl ())):=by
   generalize N:r[i]=w at hx;have y:=Ac hx;have hLw:=hl.2 w y;unfold Qk;dsimp only;rw [J5 (by omega),AP (fg hx)];have tail:letI:W:=wv;∀X:Option (Nx _ (Unit ⊕ Unit)),(br (cm .eql (ln w.2) 0) (some (.out (.inl ()))) (call J0 (w.2:(List (Int×Int))) λ(v3:Bool)=>br (nt v3) (some (.out (.inl ()))) (ge w.2 0 λv4=>call Xg (v4.1:Int) λ(v5:Bool)=>br (nt v5) (some (.out (.inl ())))
     (ge w.2 (ar .sub .i64 (ln w.2) 1) λH=>call Xg ((ar .sub .i64 H.2 1):Int) λ(G:Bool)=>br (nt G) (some (.out (.inl ()))) X))):Option (Nx (HP (List (Int×(List (Int×Int)))) (HP Int (HP Int (HP (List (Int×(List (Int×Int)))) Unit)))) (Unit ⊕ Unit)))=if w.2≠[]/\AJ (-4096) 4096 w.2 then X else some (.out (.inl ())):=by
    intro X;cases hr:w.2 with
    | nil=>rfl
    | cons u l=>
     rw [hr] at hLw;have B:(u::l)[0]?=some u:=rfl;have o:(u::l)[(u::l).length - 1]?=some ((u::l)[(u::l).length - 1]'(by simp)):=Aa _;generalize ((u::l)[(u::l).length - 1]'(by simp))=x1 at o;have E:(0:Int)<((u::l).length:Int):=by simp only [Ar];omega
     rw [AU (by simp only [Qn,AO,beq_eq_false_iff_ne];omega),bF hLw];by_cases hV:AJ (-1048576) 1048576 (u::l)
     ·have K:=hV.bd x1 (Ac o);rw [AU (by simp [BQ,hV]),AP (NQ B),lV,AP (Im ((u::l).length - 1) (by rw [Xo,AO,wr (by omega) (by omega)];omega) o),lV,Xo,wr (by omega) (by omega)];have L:=vS B o;simp only [ne_eq,reduceCtorEq,not_false_iff,true_and,L,EI,BQ,Bk,decide_eq_false_iff_not,hV]
      (repeat' split)<;>first|rfl|omega
     ·rw [BA (by simp [BQ,hV]),if_neg];rintro ⟨-,h⟩;exact hV ((vS B o).1 h).1
   rw [tail];simp only [lV,EI,z7,Fz,BQ,J3,decide_eq_true_eq,Bk,decide_eq_false_iff_not];rw [wr (by omega) (by omega)];by_cases F:0<i
   ·have v:=Aa (l:=r) (i:=i - 1) (by omega);generalize r[i - 1]=p at v;rw [AP (Im (i - 1) (by rw [Xo,wr (by omega) (by omega)];omega) v)];have A:KT r i↔(-4096<=w.1/\w.1<4096)/\(w.2≠[]/\AJ (-4096) 4096 w.2)/\p.1<w.1:=by
     constructor
     ·intro h;have:=h _ hx;exact ⟨⟨this.1,this.2.1⟩,⟨this.2.2.1,this.2.2.2.1⟩,this.2.2.2.2 _ F v⟩
     ·rintro ⟨⟨a,b⟩,⟨c,d⟩,e⟩ x f;rw [hx] at f;injection f with q;subst q;exact ⟨a,b,c,d,λJ _ m=>by rw [v] at m;injection m with q;subst q;exact e⟩
    simp only [A];by_cases hT:w.2≠[]/\AJ (-4096) 4096 w.2
    ·simp only [hT,and_self,true_and,if_true,ne_eq,not_false_iff]
     (repeat' split)<;>first|rfl|omega
    ·simp only [hT,false_and,and_false,if_false]
     (repeat' split)<;>first|rfl|omega
   ·have A:KT r i↔(-4096<=w.1/\w.1<4096)/\(w.2≠[]/\AJ (-4096) 4096 w.2):=by
     constructor
     ·intro h;have:=h _ hx;exact ⟨⟨this.1,this.2.1⟩,this.2.2.1,this.2.2.2.1⟩
     ·rintro ⟨⟨a,b⟩,c,d⟩ x f;rw [hx] at f;injection f with q;subst q;exact ⟨a,b,c,d,λJ h=>(F h).elim⟩
    simp only [A];by_cases hT:w.2≠[]/\AJ (-4096) 4096 w.2
    ·simp only [hT,and_self,and_true,if_true,ne_eq,not_false_iff]
     (repeat' split)<;>first|rfl|omega
    ·simp only [hT,and_false,if_false]
     (repeat' split)<;>first|rfl|omega
  rw [M];exact ⟨λh=>if_pos h,λh=>if_neg h⟩) (λ_=>by unfold Qk;dsimp only;rw [Jr (by omega)])
 unfold mF;refine (BL g).trans ?_;by_cases h:AL r
 ·rw [if_pos ((aZ _).2 h),decide_eq_true h]
 ·rw [if_neg λq=>h ((aZ _).1 q),decide_eq_false h]
open Classical in
theorem rX{α:Type}{r:AY}(hl:DF r)(k:Bool->Option α):@W.call wv α J9 r k=k (decide (AL r)):=BH (c:=J9) (Jq3 r hl)
open Classical in
theorem J7q(l:List Run)(hl:l.length<=1000000000):@Xk wv l=some (decide (l≠[]/\AJ (-4096) 4096 l)):=by
 have g:=YL (b:=@Kp wv) (bad:=.inl ()) (fin:=.inr ⟨l,()⟩) (λi=>⟨l,(i:Int),()⟩) l.length (by omega) (JL (-4096) 4096 l) (λi hi _=>by
  have hx:=Aa hi;have w:@Kp wv ⟨l,(i:Int),()⟩=if JL (-4096) 4096 l i then some (.go ⟨l,((i+1:Nat):Int),()⟩) else some (.out (.inl ())):=by
   generalize y:l[i]=u at hx;unfold Kp;dsimp only;simp only [AP (fg hx)];rw [AO,J5 (by omega)];simp only [EI,JH,z7,Fz,Li,J3,decide_eq_true_eq];rw [wr (by omega) (by omega)];by_cases v:0<i
   ·have o:=Aa (l:=l) (i:=i - 1) (by omega);generalize l[i - 1]=p at o;rw [AP (Im (i - 1) (by rw [Xo,wr (by omega) (by omega)];omega) o)];have r:JL (-4096) 4096 l i↔-4096<=u.1/\u.1<u.2/\u.2<=4096/\p.2<u.1:=by
     constructor
     ·intro h;have:=h _ hx;exact ⟨this.1,this.2.1,this.2.2.1,this.2.2.2 _ v o⟩
     ·rintro ⟨a,b,c,d⟩ x f;rw [hx] at f;injection f with e;subst e;exact ⟨a,b,c,λp _ m=>by rw [o] at m;injection m with e;subst e;exact d⟩
    simp only [r]
    (repeat' split)<;>first|rfl|omega
   ·have r:JL (-4096) 4096 l i↔-4096<=u.1/\u.1<u.2/\u.2<=4096:=by
     constructor
     ·intro h;have:=h _ hx;exact ⟨this.1,this.2.1,this.2.2.1⟩
     ·rintro ⟨a,b,c⟩ x f;rw [hx] at f;injection f with e;subst e;exact ⟨a,b,c,λp h=>(v h).elim⟩
    simp only [r]
    (repeat' split)<;>first|rfl|omega
  rw [w];exact ⟨λh=>if_pos h,λh=>if_neg h⟩) (λ_=>by unfold Kp;dsimp only;rw [AO,Jr (by omega)])
 unfold Xk;refine (BL g).trans ?_;by_cases h:AJ (-4096) 4096 l
 ·rw [if_pos ((rJ _ _ _).2 h)];show some (decide ((l.length:Int) > 0))=_
  congr 1
  rw [decide_eq_decide];cases l<;>simp [h]
 ·rw [if_neg λq=>h ((rJ _ _ _).1 q),decide_eq_false λq=>h q.2]
open Classical in
theorem dz{α:Type}{l:List Run}(hl:l.length<=1000000000)(k:Bool->Option α):@W.call wv α Ky l k=k (decide (l≠[]/\AJ (-4096) 4096 l)):=BH (c:=Ky) (J7q l hl)
open Classical in
theorem Jy5(r:AY)(hl:DF r):@Qa wv r=some (decide (AL r)):=by
 have g:=YL (b:=@J6 wv) (bad:=.inl ()) (fin:=.inr ()) (λi=>⟨(i:Int),r,()⟩) r.length (by have:=hl.1;omega) (KT r) (λi hi _=>by
  have hx:=Aa hi;have hL:=hl.1;have B:@J6 wv ⟨(i:Int),r,()⟩=if KT r i then some (.go ⟨((i+1:Nat):Int),r,()⟩) else some (.out (.inl ())):=by
   generalize E:r[i]=w at hx;have hLw:=hl.2 w (Ac hx);unfold J6;dsimp only;simp only [AP (fg hx)];rw [AO,J5 (by omega)];simp only [EI,JH,z7,Fz,Li,J3,BQ,dz hLw,decide_eq_true_eq,Bk,decide_eq_false_iff_not];rw [wr (by omega) (by omega)];by_cases y:0<i
   ·have o:=Aa (l:=r) (i:=i - 1) (by omega);generalize r[i - 1]=p at o;rw [AP (Im (i - 1) (by rw [Xo,wr (by omega) (by omega)];omega) o)];have v:KT r i↔(-4096<=w.1/\w.1<4096)/\(w.2≠[]/\AJ (-4096) 4096 w.2)/\p.1<w.1:=by
     constructor
     ·intro h;have:=h _ hx;exact ⟨⟨this.1,this.2.1⟩,⟨this.2.2.1,this.2.2.2.1⟩,this.2.2.2.2 _ y o⟩
     ·rintro ⟨⟨a,b⟩,⟨c,d⟩,e⟩ x f;rw [hx] at f;injection f with q;subst q;exact ⟨a,b,c,d,λA _ m=>by rw [o] at m;injection m with q;subst q;exact e⟩
    simp only [v];by_cases hT:w.2≠[]/\AJ (-4096) 4096 w.2
    ·simp only [hT,and_self,true_and,if_true,ne_eq,not_false_iff,not_true_eq_false,if_false]
     (repeat' split)<;>first|rfl|omega
    ·simp only [hT,false_and,and_false,if_false,not_false_iff,if_true]
     (repeat' split)<;>first|rfl|omega
   ·have v:KT r i↔(-4096<=w.1/\w.1<4096)/\(w.2≠[]/\AJ (-4096) 4096 w.2):=by
     constructor
     ·intro h;have:=h _ hx;exact ⟨⟨this.1,this.2.1⟩,this.2.2.1,this.2.2.2.1⟩
     ·rintro ⟨⟨a,b⟩,c,d⟩ x f;rw [hx] at f;injection f with q;subst q;exact ⟨a,b,c,d,λA h=>(y h).elim⟩
    simp only [v];by_cases hT:w.2≠[]/\AJ (-4096) 4096 w.2
    ·simp only [hT,and_self,and_true,if_true,ne_eq,not_false_iff,not_true_eq_false,if_false]
     (repeat' split)<;>first|rfl|omega
    ·simp only [hT,and_false,if_false,not_false_iff,if_true]
     (repeat' split)<;>first|rfl|omega
  rw [B];exact ⟨λh=>if_pos h,λh=>if_neg h⟩) (λ_=>by unfold J6;dsimp only;rw [AO,Jr (by omega)])
 unfold Qa;refine (BL g).trans ?_;by_cases h:AL r
 ·rw [if_pos ((aZ _).2 h),decide_eq_true h]
 ·rw [if_neg λq=>h ((aZ _).1 q),decide_eq_false h]
open Classical in
theorem wW{α:Type}{r:AY}(hl:DF r)(k:Bool->Option α):@W.call wv α Jd r k=k (decide (AL r)):=BH (c:=Jd) (Jy5 r hl)
def JN(r:AY)(y:Int):List Run:=match r.find? (λw=>w.1==y) with|some w=>w.2|none=>[]
theorem J6a(r:AY)(y:Int)(hl:DF r):@yG wv (r,y)=some (JN r y):=by
 have a:=Jx7 (b:=@jm wv) r (by have:=hl.1;omega) (λi=>⟨y,(i:Int),r,()⟩) (λw=>w.1==y) (λw=>.inl ⟨w.2,()⟩) (.inr ()) (λi w hi d=>by have hL:=hl.1;unfold jm;dsimp only;simp only [AP (fg d)];rw [AO,J5 (by omega),J3,wr (by omega) (by omega),EI];rfl) (by unfold jm;dsimp only;rw [AO,Jr (by omega)])
 unfold yG;refine (BL a).trans ?_;unfold JN;cases r.find? λw=>w.1==y<;>rfl
theorem J8t{α:Type}{r:AY}{y:Int}(hl:DF r)(k:List Run->Option α):@W.call wv α X1 ((r,y):List (Int×List (Int×Int))×Int) k=k (JN r y):=BH (c:=X1) (J6a r y hl)
theorem J6v{r:AY}(hl:DF r)(y:Int):(JN r y).length<=1000000000:=by
 unfold JN;cases h:r.find? λw=>w.1==y with
 | none=>simp
 | some w=>exact hl.2 w (Bj h)
theorem Jrx{r:AY}(h:AL r)(c:Cell):Jf (JN r c.2) c.1↔Qo r c:=by
 unfold JN;cases d:r.find? λw=>w.1==c.2 with
 | none=>
  constructor
  ·rintro ⟨u,f,-⟩;cases f
  ·rintro ⟨w,a,e,-⟩;have:=Bw.1 d w a;simp [e] at this
 | some w=>
  have a:=Bj d;have e:w.1=c.2:=by have:=List.find?_some d;simpa using this
  have:=h.DC a c.1;rw [e] at this;exact this.symm
open Classical in
theorem Jrr(l:List Run)(x:Int)(hl:l.length<=1000000000):@Xu wv (l,x)=some (decide (Jf l x)):=by
 have a:=Jx7 (b:=@Ya wv) l (by omega) (λi=>⟨l,x,(i:Int),()⟩) (λu=>decide (u.1<=x)&&decide (x<u.2)) (λw=>.inl ()) (.inr ()) (λi w hi f=>by
  unfold Ya;dsimp only;simp only [AP (fg f)];rw [AO,J5 (by omega),J3,wr (by omega) (by omega)];simp only [EI,Fz,Li,decide_eq_true_eq,Bool.and_eq_true]
  (repeat' split)<;>first|rfl|omega) (by unfold Ya;dsimp only;rw [AO,Jr (by omega)])
 unfold Xu;refine (BL a).trans ?_;cases d:l.find? λu=>decide (u.1<=x)&&decide (x<u.2) with
 | none=>
  show some false=_;rw [decide_eq_false];rintro ⟨u,g,h⟩;have:=Bw.1 d u g;simp at this;omega
 | some w=>
  show some true=_;rw [decide_eq_true];have:=List.find?_some d;simp at this;exact ⟨w,Bj d,by omega⟩
open Classical in
theorem QI{α:Type}{l:List Run}{x:Int}(hl:l.length<=1000000000)(k:Bool->Option α):@W.call wv α Jz ((l,x):List (Int×Int)×Int) k=k (decide (Jf l x)):=BH (c:=Jz) (Jrr l x hl)
open Classical in
theorem Jqp(r:AY)(c:Cell)(hl:DF r):@Yl wv (r,c)=some (decide (AL r/\Qo r c)):=by
 unfold Yl;dsimp only;rw [wW hl];by_cases h:AL r
 ·rw [BA (by simp [h]),J8t hl,QI (J6v hl _)];simp only [h,Jrx h,true_and]
 ·rw [AU (by simp [h]),decide_eq_false λq=>h q.1]
open Classical in
theorem Jtc{α:Type}{r:AY}{c:Cell}(hl:DF r)(k:Bool->Option α):@W.call wv α Jg ((r,c):List (Int×List (Int×Int))×(Int×Int)) k=k (decide (AL r/\Qo r c)):=BH (c:=Jg) (Jqp r c hl)
theorem Ei{α:Type}{b:Nat}{n:Int}{x:Option α}(h:n<=1000000001)(d:0<=n)(a:b<=64):@W.gd wv α (@W.ft wv b n) x=x:=by refine ZL ⟨?_,by omega⟩;have:n * (b:Int)<=1000000001 * 64:=Int.mul_le_mul h (by omega) (by omega) (by omega);unfold room;omega
theorem FH{α:Type}{n:Int}{x:Option α}(h:n<=1000000001)(a:0<=n):@W.gd wv α (@W.ft wv 16 n) x=x:=Ei h a (by decide)
theorem sS{α:Type}{n:Int}{x:Option α}(h:n<=1000000001)(a:0<=n):@W.gd wv α (@W.ft wv 40 n) x=x:=Ei h a (by decide)
theorem jG{α:Type}{n:Int}{x:Option α}(h:n<=1000000001)(a:0<=n):@W.gd wv α (@W.ft wv 32 n) x=x:=Ei h a (by decide)
theorem vV(y:Int)(u:Run):(Ie y u).length=(u.2 - u.1).toNat:=by simp [Ie,Kam]
theorem J6k(y a:Int)(n:Nat):((rng a (n+1)).map λx=>((x,y):Cell))=((rng a n).map λx=>((x,y):Cell))++[(a+(n:Int),y)]:=by rw [OV,Br];rfl
theorem Jyr{w:Row}{k:Nat}{u:Run}(h:w.2[k]?=some u):(w.2.take (k+1)).flatMap (Ie w.1)=(w.2.take k).flatMap (Ie w.1)++Ie w.1 u:=rD h
theorem Jz4{α β:Type}(f:α->List β)(l:List α)(k:Nat):((l.take k).flatMap f).length<=(l.flatMap f).length:=by
 conv=>rhs;rw [<-Bn k l,Bt,Am]
 omega
theorem Jr4{α β:Type}(f:α->List β){l:List α}{x:α}{k:Nat}(h:l[k]?=some x):((l.take k).flatMap f).length+(f x).length<=(l.flatMap f).length:=by have:=Jz4 f l (k+1);rw [rD h,Am] at this;exact this
theorem J4s{r:AY}{w:Row}{u:Run}{i k:Nat}(a:r[i]?=some w)(d:w.2[k]?=some u):((r.take i).flatMap EP).length+((w.2.take k).flatMap (Ie w.1)).length+(Ie w.1 u).length<=(K8 r).length:=by have g:=Jr4 EP a;have f:=Jr4 (Ie w.1) d;unfold K8;have:(EP w).length=(w.2.flatMap (Ie w.1)).length:=rfl;omega
open Classical in
theorem J0g(r:AY)(hl:DF r)(o:AL r->(K8 r).length<=1000000000):@jz wv r=some (if AL r then K8 r else []):=by
 unfold jz;rw [wW hl];by_cases h:AL r
 case neg=>rw [BA (by simp [BQ,h]),if_neg h]
 rw [AU (by simp [BQ,h]),if_pos h];have hL:=hl.1;have o:=o h;have g:=Ki (b:=@Yr wv) (e:=⟨K8 r,()⟩) (λi=>⟨(i:Int),r,(r.take i).flatMap EP,()⟩) r.length (by omega) (λi hi=>by
  have d:=Aa hi;generalize r[i]=w at d;have hLw:=hl.2 w (Ac d);have a:=Ki (b:=@Yz wv) (e:=⟨(i:Int),r,(r.take i).flatMap EP++EP w,()⟩) (λk=>⟨(i:Int),(k:Int),r,(r.take i).flatMap EP++(w.2.take k).flatMap (Ie w.1),()⟩) w.2.length (by omega) (λk v=>by
   have f:=Aa v;generalize w.2[k]=u at f;have B:=(h.rs w (Ac d)).bd u (Ac f);have m:=J4s d f;rw [vV] at m;have l:=Ki (b:=@Ys wv) (e:=⟨(i:Int),(k:Int),r,(r.take i).flatMap EP++(w.2.take k).flatMap (Ie w.1)++Ie w.1 u,()⟩)
    (λj=>⟨(i:Int),(k:Int),u.1+(j:Int),r,(r.take i).flatMap EP++(w.2.take k).flatMap (Ie w.1)++(rng u.1 j).map λx=>(x,w.1),()⟩) (u.2 - u.1).toNat (by omega) (λj A=>by
    unfold Ys;dsimp only;simp only [AP (fg d),AP (fg f)];rw [J5 (by omega),AO,BX,FH (by simp only [Am,Dm,Kam];omega) (by omega),J3,wr (by omega) (by omega),CV,J6k,show u.1+(j:Int)+1=u.1+((j+1:Nat):Int) by omega,Bz _ _ [_]]) (by unfold Ys;dsimp only;simp only [AP (fg d),AP (fg f)];rw [Jr (by omega)];rfl)
   have y:u.1+((0:Nat):Int)=u.1:=by omega
   simp only [y,rng,List.range_zero,List.map_nil,Bq] at l;unfold Yz;dsimp only;simp only [AP (fg d),AP (fg f)];rw [AO,J5 (by omega),BL l];dsimp only;rw [J3,wr (by omega) (by omega),Jyr f,Bz];rfl) (by unfold Yz;dsimp only;simp only [AP (fg d)];rw [AO,Jr (by omega),Ba];rfl)
  simp only [Bd,List.flatMap_nil,Bq] at a;unfold Yr;dsimp only;rw [AO,J5 (by omega)];refine (BL a).trans ?_;dsimp only;rw [J3,wr (by omega) (by omega),rD d];rfl) (by unfold Yr;dsimp only;rw [AO,Jr (by omega),Ba];rfl)
 exact BL g
open Classical in
theorem J10{α:Type}{r:AY}(hl:DF r)(a:AL r->(K8 r).length<=1000000000)(k:List (Int×Int)->Option α):@W.call wv α Q9 r k=k (if AL r then K8 r else []):=BH (c:=Q9) (J0g r hl a)
structure Io (l:List Run):Prop where
 bd:∀u∈l,u.1<u.2
 pw:l.Pairwise λa b=>a.2<b.1
theorem vC{lo hi:Int}{l:List Run}(h:Io l)(d:∀x,Jf l x->lo<=x/\x<hi):AJ lo hi l:=by refine ⟨λu a=>?_,h.pw⟩;have m:=h.bd u a;have g:=d u.1 ⟨u,a,by omega,by omega⟩;have f:=d (u.2 - 1) ⟨u,a,by omega,by omega⟩;omega
theorem bA{l:List Run}{u:Run}:Io (l++[u])↔Io l/\u.1<u.2/\∀v∈l,v.2<u.1:=by
 constructor
 ·rintro ⟨a,f⟩;obtain ⟨m,A,g⟩:=Be.1 f;exact ⟨⟨λx hx=>a x (Bp _ hx),m⟩,a u (by simp),λv d=>g v d u (by simp)⟩
 ·rintro ⟨⟨a,f⟩,y,r⟩;refine ⟨λx hx=>?_,Be.2 ⟨f,Di _ _,λv d w o=>?_⟩⟩
  ·rcases Ae.1 hx with h|h
   ·exact a x h
   ·rw [Ad.1 h];exact y
  ·rw [Ad.1 o];exact r v d
def bnd(l:List Run)(i:Nat):Int:=match l[i / 2]? with
 | some u=>if i % 2=1 then u.2 else u.1
 | none=>1048577
theorem VH(l:List Run)(i:Nat)(hl:l.length<=1000000000):@yI wv (l,(i:Int))=some (decide (i=2 * l.length)):=by unfold yI;dsimp only;rw [Qn,L6,AO,wr (by omega) (by omega)];refine congrArg some ?_;rw [Do,beq_iff_eq,decide_eq_true_eq];omega
theorem NG{α:Type}{l:List Run}{i:Nat}(hl:l.length<=1000000000)(k:Bool->Option α):@W.call wv α Js ((l,(i:Int)):List (Int×Int)×Int) k=k (decide (i=2 * l.length)):=BH (c:=Js) (VH l i hl)
theorem eY(l:List Run)(i:Nat):@zp wv (l,(i:Int))=some (decide (i % 2=1)):=by unfold zp;dsimp only;rw [Cb (by rfl),sW,Qn,Bg (by omega)];refine congrArg some ?_;rw [Do,beq_iff_eq,decide_eq_true_eq];omega
theorem jJ{α:Type}{l:List Run}{i:Nat}(k:Bool->Option α):@W.call wv α Jq ((l,(i:Int)):List (Int×Int)×Int) k=k (decide (i % 2=1)):=BH (c:=Jq) (eY l i)
theorem VW(l:List Run)(i:Nat)(hl:l.length<=1000000000)(hi:i<=2 * l.length):@yD wv (l,(i:Int))=some (bnd l i):=by
 unfold yD;dsimp only;rw [NG hl];by_cases h:i=2 * l.length
 ·rw [BA (decide_eq_true h)];have:l[i / 2]?=none:=Ax (by omega);simp only [bnd,this]
 ·rw [AU (decide_eq_false h),jJ];have hx:=Aa (l:=l) (i:=i / 2) (by omega);have d:@W.ar wv .quo .i64 (i:Int) 2=((i / 2:Nat):Int):=by rw [YV,Int.tdiv_eq_ediv_of_nonneg (by omega),wr (by omega) (by omega)];omega
  simp only [bnd,hx];by_cases a:i % 2=1
  ·rw [BA (decide_eq_true a),Cb (by rfl),d,AP (fg hx),if_pos a]
  ·rw [AU (decide_eq_false a),Cb (by rfl),d,AP (fg hx),if_neg a]
theorem NY{α:Type}{l:List Run}{i:Nat}(hl:l.length<=1000000000)(hi:i<=2 * l.length)(k:Int->Option α):@W.call wv α Jp ((l,(i:Int)):List (Int×Int)×Int) k=k (bnd l i):=BH (c:=Jp) (VW l i hl hi)
def At(l:List Run)(p:Int)(i:Nat):Prop:=i<=2 * l.length/\(∀k,k<i->bnd l k<=p)/\∀k,i<=k->p<bnd l k\/2 * l.length<=k
theorem Sk{l:List Run}{p:Int}{i:Nat}(h:At l p i):Jf l p↔i % 2=1:=by
 obtain ⟨E,r,o⟩:=h;have m:∀q u,l[q]?=some u->bnd l (2 * q)=u.1/\bnd l (2 * q+1)=u.2:=λq u d=>by
  constructor
  ·simp only [bnd,show 2 * q / 2=q by omega,d];rw [if_neg (by omega)]
  ·simp only [bnd,show (2 * q+1) / 2=q by omega,d];rw [if_pos (by omega)]
 constructor
 ·rintro ⟨u,d,a,b⟩;obtain ⟨q,g⟩:=Aw.1 d;have f:=(Ab.1 g).1;obtain ⟨w,v⟩:=m q u g;by_cases A:i<=2 * q
  ·have:=o (2 * q) A;omega
  ·by_cases y:2 * q+1<i
   ·have:=r (2 * q+1) y;omega
   ·omega
 ·intro B;have f:i / 2<l.length:=by omega
  have d:=Aa f;obtain ⟨w,v⟩:=m (i / 2) _ d;have G:=r (2 * (i / 2)) (by omega);have F:=o (2 * (i / 2)+1) (by omega);exact ⟨_,Ac d,by omega,by omega⟩
theorem SH{lo hi:Int}{l:List Run}(h:AJ lo hi l){i:Nat}(g:i+1<2 * l.length):bnd l i<bnd l (i+1):=by
 have a:=Aa (l:=l) (i:=i / 2) (by omega);have d:=Aa (l:=l) (i:=(i+1) / 2) (by omega);simp only [bnd,a,d];by_cases f:i % 2=1
 ·rw [if_pos f,if_neg (by omega)];have e:(i+1) / 2=i / 2+1:=by omega
  have:=yS h.pw a (by rw [<-e];exact d);exact this
 ·rw [if_neg f,if_pos (by omega)];have e:(i+1) / 2=i / 2:=by omega
  simp only [e];exact (h.bd _ (Ac a)).2.1
theorem NW{l:List Run}(h:AJ (-1048576) 1048576 l)(i:Nat):-1048576<=bnd l i/\bnd l i<=1048577:=by
 unfold bnd;split
 ·rename_i u a;have:=h.bd u (Ac a);split<;>omega
 ·omega
theorem yY{l:List Run}(h:AJ (-1048576) 1048576 l):∀ {i k:Nat},i<k->k<2 * l.length->bnd l i<bnd l k
 | i,0,d,_=>by omega
 | i,k+1,d,a=>by
  have:=SH h a;by_cases e:i=k
  ·subst e;exact this
  ·have:=yY h (i:=i) (k:=k) (by omega) (by omega);omega
theorem kX{l:List Run}(h:AJ (-1048576) 1048576 l){p m:Int}{i:Nat}(g:At l p i)(E:m<=bnd l i)(w:p<m)(y:m<1048577):At l m (if bnd l i=m then i+1 else i)/\∀x,p<=x->x<m->(Jf l x↔i % 2=1):=by
 have B:=g;obtain ⟨o,f,F⟩:=g;refine ⟨?_,λx v r=>Sk ⟨o,λk a=>by have:=f k a;omega,λk a=>?_⟩⟩
 ·by_cases e:bnd l i=m
  ·rw [if_pos e];have A:i<2 * l.length:=by
    by_cases q:i<2 * l.length
    ·exact q
    ·have:l[i / 2]?=none:=Ax (by omega);simp only [bnd,this] at e;omega
   refine ⟨by omega,λk a=>?_,λk a=>?_⟩
   ·by_cases q:k=i
    ·subst q;omega
    ·have:=f k (by omega);omega
   ·by_cases q:2 * l.length<=k
    ·exact .inr q
    ·left;have:=yY h (i:=i) (k:=k) (by omega) (by omega);omega
  ·rw [if_neg e];refine ⟨o,λk a=>by have:=f k a;omega,λk a=>?_⟩;by_cases q:2 * l.length<=k
   ·exact .inr q
   ·left;by_cases d:k=i
    ·subst d;omega
    ·have:=yY h (i:=i) (k:=k) (by omega) (by omega);omega
 ·by_cases q:2 * l.length<=k
  ·exact .inr q
  ·left;by_cases d:k=i
   ·subst d;omega
   ·have:=yY h (i:=i) (k:=k) (by omega) (by omega);omega
def uN(was:Bool)(a:List Run)(i:Nat)(b:List Run)(j:Nat)(out:List Run):HP Bool (HP (List (Int×Int)) (HP Int (HP (List (Int×Int)) (HP Int (HP (List (Int×Int)) Unit))))):=
 let m:=min (bnd a i) (bnd b j);let f:=if bnd a i=m then i+1 else i;let d:=if bnd b j=m then j+1 else j;let now:=decide (f % 2=1)&&!decide (d % 2=1)
 ⟨now,a,(f:Int),b,(d:Int),if now=true/\was=false then out++[(m,0)] else if now=false/\was=true then Zw out (λu=>(u.1,m)) else out,()⟩
theorem Jmo{l:List Run}(a:l≠[])(m:Int):∃v,l[l.length - 1]?=some v/\l.set (l.length - 1) (v.1,m)=Zw l λu=>(u.1,m):=by
 obtain ⟨r,v,rfl⟩:∃r v,l=r++[v]:=by
  rcases l.eq_nil_or_concat with rfl|⟨r,v,e⟩
  ·exact (a rfl).elim
  ·exact ⟨r,v,by rw [e,Dr]⟩
 have e:(r++[v]).length - 1=r.length:=by simp
 rw [e];exact ⟨v,iU r v,by rw [J4b,ze]⟩
theorem J88(x y:Int):@W.mn wv x y=min x y:=by rw [bM];omega
theorem Nw(was:Bool)(a b out:List Run)(i j:Nat)(y:a.length<=1000000000)(w:b.length<=1000000000)(hi:i<=2 * a.length)(K:j<=2 * b.length)(P:out.length<=1000000000)(G:was=true->out≠[])(l:¬(i=2 * a.length/\j=2 * b.length)) :
  @Yn wv ⟨was,a,(i:Int),b,(j:Int),out,()⟩=some (.go (uN was a i b j out)):=by
 have M:@jt wv ⟨was,a,(i:Int),b,(j:Int),out,()⟩=some (.inl ⟨was,a,(i:Int),b,(j:Int),out,()⟩):=by
  unfold jt;dsimp only;rw [NG y];by_cases A:i=2 * a.length
  ·rw [AU (by simp [BQ,A]),NG w,BA (by simp [BQ];exact λq=>l ⟨A,q⟩)]
  ·rw [BA (by simp [BQ,A])]
 generalize J:min (bnd a i) (bnd b j)=m;have F:@Jdd wv ⟨was,a,(i:Int),b,(j:Int),out,()⟩ (bnd a i) (bnd b j)=some ⟨was,m,a,((if bnd a i=m then i+1 else i:Nat):Int),b,(j:Int),out,()⟩:=by
  unfold Jdd;dsimp only;rw [NY y hi,J88,J,J3,wr (by omega) (by omega)];by_cases c:bnd a i=m
  ·rw [BA (by rw [Qn];simp [c]),if_pos c];rfl
  ·rw [AU (by rw [Qn];simp [c]),if_neg c]
 generalize r:(if bnd a i=m then i+1 else i)=d at F;have E:@Jdf wv ⟨was,m,a,(d:Int),b,(j:Int),out,()⟩=some ⟨was,m,a,(d:Int),b,((if bnd b j=m then j+1 else j:Nat):Int),out,()⟩:=by
  unfold Jdf;dsimp only;rw [NY w K,J3,wr (by omega) (by omega)];by_cases c:bnd b j=m
  ·rw [BA (by rw [Qn];simp [c]),if_pos c];rfl
  ·rw [AU (by rw [Qn];simp [c]),if_neg c]
 generalize o:(if bnd b j=m then j+1 else j)=f at E;have B:@Jc2 wv ⟨was,m,a,(d:Int),b,(f:Int),out,()⟩=some ⟨was,m,decide (d % 2=1)&&!decide (f % 2=1),a,(d:Int),b,(f:Int),out,()⟩:=by
  unfold Jc2;dsimp only;rw [jJ,jJ];by_cases c:d % 2=1
  ·rw [BA (by simp [c])];simp [c,BQ]
  ·rw [AU (by simp [c])];simp [c]
 generalize g:(decide (d % 2=1)&&!decide (f % 2=1))=now at B;have h:∀ {α:Type} (x:Option α),@W.gd wv α (@W.ft wv 16 (@W.pl wv (@W.ln wv (Int×Int) out) 1)) x=x:=λx=>by rw [AO,BX];exact FH (by omega) (by omega)
 have L:@Jc0 wv ⟨was,m,now,a,(d:Int),b,(f:Int),out,()⟩=some ⟨now,a,(d:Int),b,(f:Int),if now=true/\was=false then out++[(m,0)] else if now=false/\was=true then Zw out (λu=>(u.1,m)) else out,()⟩:=by
  unfold Jc0;dsimp only;rw [h];have nt1:@W.nt wv true=false:=rfl;have nt0:@W.nt wv false=true:=rfl;cases now with
  | true=>
   cases was with
   | true=>rw [nt1,BA rfl,AU rfl,AU rfl,if_neg (by simp),if_neg (by simp)]
   | false=>rw [nt0,BA rfl,BA rfl,if_pos (by simp),CV]
  | false=>
   cases was with
   | false=>rw [nt0,AU rfl,BA rfl,AU rfl,if_neg (by simp),if_neg (by simp)]
   | true=>
    have H:=Bu.2 (G rfl);obtain ⟨v,N,O⟩:=Jmo (G rfl) m;rw [nt0,AU rfl,BA rfl,BA rfl,AO,Xo,wr (by omega) (by omega),FQ ⟨by omega,by omega⟩,AP (Im (out.length - 1) (by omega) N),if_neg (by simp),if_pos (by simp),GN,show ((out.length:Int) - 1).toNat=out.length - 1 by omega,O]
 unfold Yn;rw [DW M];dsimp only;rw [NY y hi,NY w K,DW F,DW E,DW B,DW L];unfold uN;dsimp only;rw [J,r,o,g]
def gK(a b:List Run)(p:Int)(was:Bool)(i j:Nat)(out:List Run):Prop:=
 At a p i/\At b p j/\was=(decide (i % 2=1)&&!decide (j % 2=1)) /\
 ((was=false/\Io out/\(∀u∈out,u.2<=p)/\∀x,x<p->(Jf out x↔Jf a x/\¬Jf b x)) \/
  ∃(o:List Run) (s z:Int),out=o++[(s,z)]/\was=true/\s<=p/\Io o/\(∀u∈o,u.2<s)/\(∀x,x<s->(Jf o x↔Jf a x/\¬Jf b x))/\∀x,s<=x->x<=p->Jf a x/\¬Jf b x)
theorem UF{a b:List Run}(R:AJ (-1048576) 1048576 a)(Q:AJ (-1048576) 1048576 b){p:Int}{was:Bool}{i j:Nat}{out:List Run}(hI:gK a b p was i j out)(N:¬(i=2 * a.length/\j=2 * b.length)) :
  ∃m,p<m/\∃(was':Bool) (H G:Nat) (out':List Run),uN was a i b j out=⟨was',a,(H:Int),b,(G:Int),out',()⟩/\gK a b m was' H G out'/\i+j<H+G/\out'.length<=out.length+1:=by
 obtain ⟨hA,hB,Z,hO⟩:=hI;have B:min (bnd a i) (bnd b j)<1048577:=by
  have Y:i<2 * a.length->bnd a i<1048577:=λq=>by have d:=Aa (l:=a) (i:=i / 2) (by omega);have:=R.bd _ (Ac d);simp only [bnd,d];split<;>omega
  have F:j<2 * b.length->bnd b j<1048577:=λq=>by have d:=Aa (l:=b) (i:=j / 2) (by omega);have:=Q.bd _ (Ac d);simp only [bnd,d];split<;>omega
  have w:=hA.1;have E:=hB.1;have L:i<2 * a.length\/j<2 * b.length:=by omega
  rcases L with L|L
  ·have:=Y L;omega
  ·have:=F L;omega
 have hp1:p<bnd a i:=by
  rcases hA.2.2 i (Aq _) with h|h
  ·exact h
  ·have e:a[i / 2]?=none:=Ax (by omega);have:p<1048577:=by
    have q:At b p j:=hB;by_cases F:j<2 * b.length
    ·rcases hB.2.2 j (Aq _) with h'|h'
     ·have:=NW Q j;omega
     ·omega
    ·exact (N ⟨by have:=hA.1;omega,by have:=hB.1;omega⟩).elim
   simp only [bnd,e];exact this
 have hp2:p<bnd b j:=by
  rcases hB.2.2 j (Aq _) with h|h
  ·exact h
  ·have e:b[j / 2]?=none:=Ax (by omega);have:p<1048577:=by have:=NW R i;omega
   simp only [bnd,e];exact this
 generalize A:min (bnd a i) (bnd b j)=m at B;have y:p<m:=by omega
 obtain ⟨hA',hAx⟩:=kX R hA (m:=m) (by omega) y B;obtain ⟨hB',hBx⟩:=kX Q hB (m:=m) (by omega) y B;refine ⟨m,y,_,_,_,_,by unfold uN;rw [A],?_,?_,?_⟩
 ·refine ⟨hA',hB',rfl,?_⟩;have hAm:=Sk hA';have hBm:=Sk hB';generalize (if bnd a i=m then i+1 else i)=H at *
  generalize (if bnd b j=m then j+1 else j)=G at *
  have hD:∀x,p<=x->x<m->(Jf a x/\¬Jf b x↔was=true):=λx w E=>by rw [hAx x w E,hBx x w E,Z];simp
  have hDm:Jf a m/\¬Jf b m↔(decide (H % 2=1)&&!decide (G % 2=1))=true:=by rw [hAm,hBm];simp
  generalize (decide (H % 2=1)&&!decide (G % 2=1))=now at *
  rcases hO with ⟨M,K,g,J⟩|⟨o,s,z,rfl,M,hs,K,g,J,X⟩
  ·subst M;cases now with
   | false=>
    left;rw [if_neg (by simp),if_neg (by simp)];refine ⟨rfl,K,λu d=>by have:=g u d;omega,λx hx=>?_⟩;by_cases q:x<p
    ·exact J x q
    ·rw [hD x (by omega) hx];refine ⟨λ⟨u,d,w,E⟩=>by have:=g u d;omega,λh=>by simp at h⟩
   | true=>
    right;rw [if_pos (by simp)];refine ⟨out,m,0,rfl,rfl,Int.le_refl _,K,λu d=>by have:=g u d;omega,λx hx=>?_,λx w E=>?_⟩
    ·by_cases q:x<p
     ·exact J x q
     ·rw [hD x (by omega) hx];refine ⟨λ⟨u,d,w,E⟩=>by have:=g u d;omega,λh=>by simp at h⟩
    ·have:x=m:=by omega
     subst this;exact hDm.2 rfl
  ·subst M;cases now with
   | true=>
    right;rw [if_neg (by simp),if_neg (by simp)];refine ⟨o,s,z,rfl,rfl,by omega,K,g,J,λx w E=>?_⟩;by_cases q:x<=p
    ·exact X x w q
    ·by_cases F:x=m
     ·subst F;exact hDm.2 rfl
     ·exact (hD x (by omega) (by omega)).2 rfl
   | false=>
    left;rw [if_neg (by simp),if_pos (by simp),ze];refine ⟨rfl,bA.2 ⟨K,by dsimp only;omega,g⟩,λu d=>?_,λx hx=>?_⟩
    ·rcases Ae.1 d with h|h
     ·have:=g u h;omega
     ·rw [Ad.1 h];exact Int.le_refl _
    ·rw [Jl7];dsimp only;by_cases q:x<s
     ·rw [J x q];exact ⟨λh=>h.resolve_right λh=>by omega,.inl⟩
     ·have P:Jf a x/\¬Jf b x:=by
       by_cases F:x<=p
       ·exact X x (by omega) F
       ·exact (hD x (by omega) hx).2 rfl
      exact ⟨λ_=>P,λ_=>.inr ⟨by omega,hx⟩⟩
 ·by_cases q:bnd a i=m
  ·rw [if_pos q];split<;>omega
  ·have:bnd b j=m:=by omega
   rw [if_pos this];split<;>omega
 ·have O:∀(l:List Run) (f:Run->Run),(Zw l f).length=l.length:=λl f=>by
   rcases l.eq_nil_or_concat with rfl|⟨r,v,rfl⟩
   ·rfl
   ·rw [Dr,ze];simp
  have key:∀nw ws:Bool,(if nw=true/\ws=false then out++[(m,0)] else if nw=false/\ws=true then Zw out (λu=>(u.1,m)) else out).length<=out.length+1:=λnw ws=>by cases nw<;>cases ws<;>simp [O]
  exact key _ _
theorem Ny(a b:List Run)(P:a.length<=100000000)(O:b.length<=100000000)(r:AJ (-1048576) 1048576 a)(w:AJ (-1048576) 1048576 b) :
  ∃e,X0 (@Yn wv) CU ⟨false,a,0,b,0,[],()⟩=some e/\Io e.e/\∀x,Jf e.e x↔Jf a x/\¬Jf b x:=by
 refine iW (b:=@Yn wv) (λs=>∃(p:Int) (was:Bool) (i j:Nat) (out:List Run),s=⟨was,a,(i:Int),b,(j:Int),out,()⟩/\gK a b p was i j out/\out.length<=i+j)
  (λe=>Io e.e/\∀x,Jf e.e x↔Jf a x/\¬Jf b x) (λs=>(2 * (a.length:Int)+2 * (b.length:Int) - s.j.j.e - s.j.j.j.j.e).toNat) ?_ ⟨-1048577,false,0,0,[],rfl,⟨⟨by omega,by omega,λk h=>?_⟩,⟨by omega,by omega,λk h=>?_⟩,rfl,.inl ⟨rfl,⟨by simp,.nil⟩,by simp,λx hx=>?_⟩⟩,by simp⟩ (by dsimp only;omega)
 ·rintro s ⟨p,was,i,j,out,rfl,hI,Y⟩;have B:=hI.1.1;have A:=hI.2.1.1;by_cases d:i=2 * a.length/\j=2 * b.length
  ·right;obtain ⟨rfl,rfl⟩:=d;have H:@jt wv ⟨was,a,((2 * a.length:Nat):Int),b,((2 * b.length:Nat):Int),out,()⟩=some (.inr ⟨out,()⟩):=by unfold jt;dsimp only;rw [NG (by omega),AU (by simp [BQ]),NG (by omega),AU (by simp [BQ])]
   unfold Yn;rw [DW H];refine ⟨_,rfl,?_⟩;obtain ⟨hA,hB,L,hO⟩:=hI;have l:was=false:=by rw [L];simp
   rcases hO with ⟨f,G,F,E⟩|⟨o,s,z,rfl,f,-⟩
   ·refine ⟨G,λx=>?_⟩;by_cases q:x<p
    ·exact E x q
    ·refine ⟨λ⟨u,g,y,Q⟩=>by have:=F u g;omega,λ⟨y,Q⟩=>?_⟩;have:At a x (2 * a.length):=⟨Aq _,λk h=>by have:=hA.2.1 k h;omega,λk h=>.inr h⟩;have:=(Sk this).1 y;omega
   ·rw [l] at f;cases f
  ·left;obtain ⟨m,M,was',K,J,out',e,hI',N,v⟩:=UF r w hI d;refine ⟨_,Nw was a b out i j (by omega) (by omega) B A (by omega) (λq=>?_) d,?_,?_⟩
   ·rcases hI.2.2.2 with ⟨f,-⟩|⟨o,s,z,rfl,-⟩
    ·rw [f] at q;cases q
    ·simp
   ·rw [e];exact ⟨m,was',K,J,out',rfl,hI',by omega⟩
   ·rw [e];have X:=hI'.1.1;have R:=hI'.2.1.1;dsimp only;omega
 ·by_cases q:2 * a.length<=k
  ·exact .inr q
  ·left;have:=NW r k;omega
 ·by_cases q:2 * b.length<=k
  ·exact .inr q
  ·left;have:=NW w k;omega
 ·constructor
  ·rintro ⟨u,g,-⟩;cases g
  ·rintro ⟨⟨u,g,B,A⟩,-⟩;have:=r.bd u g;omega
open Classical in
theorem J1t(a b:List Run)(f:a.length<=100000000)(d:b.length<=100000000)(h:AJ (-1048576) 1048576 a)(g:AJ (-1048576) 1048576 b) :
  ∃l,@xZ wv (a,b)=some l/\Io l/\∀x,Jf l x↔Jf a x/\¬Jf b x:=by obtain ⟨e,m,r,o⟩:=Ny a b f d h g;refine ⟨e.e,?_,r,o⟩;unfold xZ;dsimp only;rw [bF (by omega),AU (by simp [BQ,h]),bF (by omega),AU (by simp [BQ,g])];exact BL m
theorem UU(t:Jt)(d:t.2.2.length<=1000000000):@zt wv (t,t)=some true:=by
 have a:=Ki (b:=@Zf wv) (e:=.inr ()) (λi=>⟨(t.2.2.length:Int),(i:Int),t.1,t.2.1,t.2.2,t.1,t.2.1,t.2.2,()⟩) t.2.2.length (by omega) (λi hi=>by
  have hx:=Aa hi;unfold Zf;dsimp only;rw [J5 (by omega),AP (fg hx),AP (fg hx),AU (by simp [BQ,LJ,Qn]),J3,wr (by omega) (by omega)];rfl) (by unfold Zf;dsimp only;rw [Jr (by omega)])
 unfold zt;dsimp only;rw [AU (by simp [GZ]),AU (by simp [BQ,yw]),AU (by simp [GZ,AO])];exact BL a
theorem eF{α:Type}{t:Jt}(a:t.2.2.length<=1000000000)(k:Bool->Option α):@W.call wv α Xm (((t.1,(t.2.1,t.2.2)),(t.1,(t.2.1,t.2.2))):(Int×(Bool×List (Int×Int)))×(Int×(Bool×List (Int×Int)))) k=k true:=BH (c:=Xm) (UU t a)
def grid(c:Cell):Prop:=-4096<=c.1/\c.1<4096/\-4096<=c.2/\c.2<4096
instance (c:Cell):Decidable (grid c):=by unfold grid;exact inferInstance
def nb(a b:Cell):Prop:=(a.1 - b.1) * (a.1 - b.1)+(a.2 - b.2) * (a.2 - b.2)=1
instance (a b:Cell):Decidable (nb a b):=by unfold nb;exact inferInstance
theorem J89(c:Cell):@xS wv c=some (decide (grid c)):=by
 simp only [xS,EI,JH,Li,decide_eq_true_eq]
 (repeat' split)<;>first|exact congrArg some (decide_eq_decide.2 (by unfold grid;omega))|exact congrArg some (decide_eq_false (by unfold grid;omega)).symm
theorem QG{α:Type}(c:Cell)(k:Bool->Option α):@W.call wv α jC ((c.1,c.2):Int×Int) k=k (decide (grid c)):=BH (c:=jC) (J89 c)
theorem MC{d:Int}(g:-100000<=d)(f:d<=100000):0<=d * d/\d * d<=10000000000:=by have e:d * d=((d.natAbs * d.natAbs:Nat):Int):=(Int.natAbs_mul_self (a:=d)).symm;have:d.natAbs * d.natAbs<=100000 * 100000:=Nat.mul_le_mul (by omega) (by omega);omega
theorem J0t(a b:Cell)(g:grid a)(f:grid b):@yE wv (a,b)=some (decide (nb a b)):=by
 unfold grid at g f;have l:=MC (d:=a.1 - b.1) (by omega) (by omega);have h:=MC (d:=a.2 - b.2) (by omega) (by omega);unfold yE;dsimp only;simp only [J3,L6,Xo,Qn];rw [wr (n:=a.1 - b.1) (by omega) (by omega),wr (n:=a.2 - b.2) (by omega) (by omega),wr (n:=(a.1 - b.1) * (a.1 - b.1)) (by omega) (by omega),wr (n:=(a.2 - b.2) * (a.2 - b.2)) (by omega) (by omega),wr (by omega) (by omega)]
 congr 1
theorem Jrb{α:Type}{a b:Cell}(f:grid a)(d:grid b)(k:Bool->Option α):@W.call wv α Xz (((a.1,a.2),(b.1,b.2)):(Int×Int)×(Int×Int)) k=k (decide (nb a b)):=BH (c:=Xz) (J0t a b f d)
def jI(l:List Cell)(i:Nat):Prop:=∀c,l[i]?=some c->grid c/\∀p,0<i->l[i - 1]?=some p->nb p c
def VT(t:Jt):Prop:=(1<=t.1/\t.1<=7)/\(1<=t.2.2.length/\t.2.2.length<=65536)/\(∀i,i<t.2.2.length->jI t.2.2 i)/\(t.2.1=true->t.2.2.length=1\/∀a b,t.2.2[t.2.2.length - 1]?=some a->t.2.2[0]?=some b->nb a b)
open Classical in
theorem Jtn(t:Jt):@xL wv t=some (decide (VT t)):=by
 obtain ⟨role,closed,l⟩:=t;unfold xL;dsimp only;simp only [AO];by_cases H:1<=role/\role<=7
 case neg=>
  rw [decide_eq_false λq:VT _=>H q.1];simp only [EI,Li,z7,decide_eq_true_eq];by_cases A:role<1
  ·rw [if_pos A]
  ·rw [if_neg A,if_pos (by omega)]
 rw [Jr (by omega),AU (by rw [z7];exact decide_eq_false (by omega))];by_cases A:1<=l.length/\l.length<=65536
 case neg=>
  rw [decide_eq_false λq:VT _=>A q.2.1];simp only [EI,Li,z7,decide_eq_true_eq];by_cases m:(l.length:Int)<1
  ·rw [if_pos m]
  ·rw [if_neg m,if_pos (by omega)]
 rw [Jr (by omega),AU (by rw [z7];exact decide_eq_false (by omega))];have v:=YL (b:=@rz wv) (bad:=.inl ()) (fin:=.inr ⟨(l.length:Int),role,closed,l,()⟩) (λi=>⟨(l.length:Int),l,(l.length:Int),(i:Int),role,closed,l,()⟩) l.length (by omega) (jI l) (λi hi r=>by
  have hx:=Aa hi;generalize l[i]=c at hx;have O:@rz wv ⟨(l.length:Int),l,(l.length:Int),(i:Int),role,closed,l,()⟩=if jI l i then some (.go ⟨(l.length:Int),l,(l.length:Int),((i+1:Nat):Int),role,closed,l,()⟩) else some (.out (.inl ())):=by
   unfold rz;dsimp only;rw [J5 (by omega),AP (fg hx),QG];by_cases B:grid c
   case neg=>rw [BA (by simp [BQ,B]),if_neg λq=>B (q c hx).1]
   rw [AU (by simp [BQ,B]),J3,wr (by omega) (by omega)];by_cases L:0<i
   ·have F:=Aa (l:=l) (i:=i - 1) (by omega);generalize l[i - 1]=p at F;have J:grid p:=(r (i - 1) (by omega) p F).1;rw [BA (by rw [z7];exact decide_eq_true (by omega)),AP (Im (i - 1) (by rw [Xo,wr (by omega) (by omega)];omega) F),Jrb J B];have o:jI l i↔nb p c:=by
     constructor
     ·intro q;exact (q c hx).2 p L F
     ·intro q c' g;rw [hx] at g;injection g with e;subst e;exact ⟨B,λM _ E=>by rw [F] at E;injection E with e;subst e;exact q⟩
    by_cases G:nb p c
    ·rw [AU (by simp [BQ,G]),if_pos (o.2 G)];rfl
    ·rw [BA (by simp [BQ,G]),if_neg λq=>G (o.1 q)]
   ·rw [AU (by rw [z7];exact decide_eq_false (by omega)),if_pos]
    ·rfl
    ·intro c' g;rw [hx] at g;injection g with e;subst e;exact ⟨B,λM h=>(L h).elim⟩
  rw [O];exact ⟨λh=>if_pos h,λh=>if_neg h⟩) (λ_=>by unfold rz;dsimp only;rw [Jr (by omega)])
 refine (BL v).trans ?_;by_cases m:∀i,i<l.length->jI l i
 case neg=>rw [if_neg m,decide_eq_false λq:VT _=>m q.2.2.1]
 rw [if_pos m];dsimp only;cases N:closed with
 | false=>rw [BA (by rfl),decide_eq_true];exact ⟨H,A,m,λq=>by cases q⟩
 | true=>
  rw [AU (by rfl)];by_cases K:l.length=1
  ·rw [BA (by rw [Qn,K];rfl),decide_eq_true];exact ⟨H,A,m,λ_=>.inl K⟩
  ·have d:=Aa (l:=l) (i:=l.length - 1) (by omega);have f:=Aa (l:=l) (i:=0) (by omega);generalize l[l.length - 1]=a at d;generalize l[0]=b at f;rw [AU (by rw [Qn,beq_eq_false_iff_ne];omega),AP (Im (l.length - 1) (by rw [Xo,wr (by omega) (by omega)];omega) d),AP (NQ f),Jrb (m _ (by omega) a d).1 (m _ (by omega) b f).1];refine congrArg some (decide_eq_decide.2 ⟨λq=>⟨H,A,m,λ_=>.inr λa' R y w=>?_⟩,λq=>?_⟩)
   ·dsimp only at y w;rw [d] at y;rw [f] at w;injection y with Q;injection w with P;subst Q;subst P;exact q
   ·rcases q.2.2.2 rfl with e|e
    ·exact (K e).elim
    ·exact e a b d f
open Classical in
theorem Jwd{α:Type}{t:Jt}(k:Bool->Option α):@W.call wv α jB ((t.1,(t.2.1,t.2.2)):Int×(Bool×List (Int×Int))) k=k (decide (VT t)):=BH (c:=jB) (Jtn t)
def EJ(r:AY)(y:Int):List Run:=((r.find? λw=>w.1==y).map Prod.snd).getD []
theorem aS{r:AY}(h:AL r){w:Row}(d:w∈r):EJ r w.1=w.2:=by
 have m:=h.pw;clear h
 induction r with
 | nil=>cases d
 | cons v r l=>
  obtain ⟨g,f⟩:=Ak.1 m;unfold EJ;rcases Ag.1 d with rfl|a
  ·simp
  ·have o:=g w a;rw [Dk (by simp;omega)];exact l a f
theorem ko{r:AY}{y:Int}(h:∀w∈r,w.1≠y):EJ r y=[]:=by unfold EJ;rw [Bw.2 (λw a=>by simp [h w a])];rfl
theorem YP{r:AY}(h:AL r){x y:Int}:Qo r (x,y)↔Jf (EJ r y) x:=by
 constructor
 ·rintro ⟨w,a,e,hx⟩;have e:w.1=y:=e;rw [<-e,aS h a];exact hx
 ·intro hx;by_cases d:∃w∈r,w.1=y
  ·obtain ⟨w,a,e⟩:=d;rw [<-e,aS h a] at hx;exact ⟨w,a,e,hx⟩
  ·rw [ko (λw a e=>d ⟨w,a,e⟩)] at hx;obtain ⟨u,f,_⟩:=hx;cases f
theorem kS{r:AY}(h:AL r)(y:Int):AJ (-4096) 4096 (EJ r y):=by
 by_cases d:∃w∈r,w.1=y
 ·obtain ⟨w,a,e⟩:=d;rw [<-e,aS h a];exact h.rs w a
 ·rw [ko (λw a e=>d ⟨w,a,e⟩)];exact ⟨by simp,.nil⟩
theorem YE{r:AY}(h:AL r){i j:Nat}{a b:Row}(m:r[i]?=some a)(l:r[j]?=some b)(d:i<j):a.1<b.1:=by obtain ⟨g,rfl⟩:=Ab.1 m;obtain ⟨f,rfl⟩:=Ab.1 l;exact Aj.1 h.pw i j g f d
theorem Tc{r:AY}(h:AL r){i j:Nat}{a b:Row}(g:r[i]?=some a)(f:r[j]?=some b)(d:i<=j):a.1<=b.1:=by
 rcases Nat.lt_or_eq_of_le d with l|rfl
 ·have:=YE h g f l;omega
 ·rw [g] at f;injection f with e;subst e;omega
theorem J4u{r:AY}(h:AL r){i:Nat}{w:Row}(d:r[i]?=some w) :
  EJ r (w.1 - 1)=(if 0<i then (match r[i - 1]? with|some v=>if v.1=w.1 - 1 then v.2 else []|none=>[]) else []):=by
 by_cases hi:0<i
 ·rw [if_pos hi];have l:=(Ab.1 d).1;have g:r[i - 1]?=some r[i - 1]:=Aa (by omega);rw [g];dsimp only;by_cases o:r[i - 1].1=w.1 - 1
  ·rw [if_pos o,<-o,aS h (Av _)]
  ·rw [if_neg o];refine ko λv a e=>?_;obtain ⟨j,f⟩:=Ah a;have y:=YE h g d (by omega);rcases Nat.lt_or_ge (i - 1) j with l|m
   ·have:=Tc h d f (by omega);omega
   ·have:=Tc h f g m;omega
 ·rw [if_neg hi];refine ko λv a e=>?_;obtain ⟨j,f⟩:=Ah a;have:=Tc h d f (by omega);omega
theorem PX{r:AY}(h:AL r){i:Nat}{w:Row}(f:r[i]?=some w) :
  EJ r (w.1+1)=(match r[i+1]? with|some v=>if v.1=w.1+1 then v.2 else []|none=>[]):=by
 cases d:r[i+1]? with
 | none=>
  dsimp only;refine ko λv g e=>?_;obtain ⟨j,a⟩:=Ah g;have A:=(Ab.1 a).1;have B:=Da.1 d;have:=Tc h a f (by omega);omega
 | some v=>
  dsimp only;by_cases m:v.1=w.1+1
  ·rw [if_pos m,<-m,aS h (Ac d)]
  ·rw [if_neg m];refine ko λu o e=>?_;obtain ⟨j,a⟩:=Ah o;have A:=YE h f d (by omega);rcases Nat.lt_or_ge i j with y|l
   ·have:=Tc h d a (by omega);omega
   ·have:=Tc h a f l;omega
theorem J7z(r:AY)(h:AL r)(hl:r.length<=1000000000){i:Nat}{w:Row}(f:r[i]?=some w) :
  @yA wv (r,(i:Int))=some (EJ r (w.1 - 1),EJ r (w.1+1)):=by
 have hi:=(Ab.1 f).1;have B:=h.y w (Ac f);have l:@W.ar wv .sub .i64 w.1 1=w.1 - 1:=by rw [Xo,wr (by omega) (by omega)]
 have A:@W.ar wv .add .i64 w.1 1=w.1+1:=by rw [J3,wr (by omega) (by omega)]
 have y:@W.ar wv .add .i64 (i:Int) 1=((i+1:Nat):Int):=by rw [J3,wr (by omega) (by omega)];omega
 have tail:∀up:List Run,
   (@W.br wv (List Run×List Run) (@W.cm wv .lss (@W.ar wv .add .i64 (i:Int) 1) (@W.ln wv Row r)) (@W.ge wv (List Run×List Run) Row r (@W.ar wv .add .i64 (i:Int) 1) λv3=>
    @W.br wv (List Run×List Run) (@W.cm wv .eql v3.1 (@W.ar wv .add .i64 w.1 1)) (@W.ge wv (List Run×List Run) Row r (@W.ar wv .add .i64 (i:Int) 1) λv4=>some (up,v4.2)) (some (up,[]))) (some (up,[])))=some (up,EJ r (w.1+1)):=by
  intro up;rw [PX h f,y,AO,A];cases d:r[i+1]? with
  | none=>
   have m:=Da.1 d;rw [Jr (by omega)]
  | some v=>
   have m:=(Ab.1 d).1;rw [J5 (by omega),AP (fg d)];dsimp only;by_cases a:v.1=w.1+1
   ·rw [BA (by rw [Qn];simpa using a),AP (fg d),if_pos a]
   ·rw [AU (by rw [Qn];simpa using a),if_neg a]
 unfold yA;dsimp only;rw [AP (fg f)];by_cases g:0<i
 ·have d:r[i - 1]?=some r[i - 1]:=Aa (by omega);have o:@W.ar wv .sub .i64 (i:Int) 1=((i - 1:Nat):Int):=by rw [Xo,wr (by omega) (by omega)];omega
  rw [BA (by rw [z7];exact decide_eq_true (by omega)),o,AP (fg d),J4u h f,if_pos g,d];dsimp only;by_cases a:r[i - 1].1=w.1 - 1
  ·rw [BA (by rw [Qn,l];simpa using a),AP (fg d),if_pos a];exact tail _
  ·rw [AU (by rw [Qn,l];simpa using a),if_neg a];exact tail _
 ·rw [AU (by rw [z7];exact decide_eq_false (by omega)),J4u h f,if_neg g];exact tail _
theorem QK{α:Type}{r:AY}(h:AL r)(hl:r.length<=1000000000){i:Nat}{w:Row}(a:r[i]?=some w)(k:List (Int×Int)×List (Int×Int)->Option α):@W.call wv α Zn ((r,(i:Int)):List (Int×List (Int×Int))×Int) k=k (EJ r (w.1 - 1),EJ r (w.1+1)):=BH (c:=Zn) (J7z r h hl a)
def Zb(h:Int)(p:Cell):Cell:=if h=0 then (p.1+1,p.2) else if h=1 then (p.1,p.2+1) else if h=2 then (p.1 - 1,p.2) else (p.1,p.2 - 1)
def X5(p:Cell):Prop:=(-1000000000<=p.1/\p.1<=1000000000)/\-1000000000<=p.2/\p.2<=1000000000
theorem WR(h:Int)(p:Cell)(a:X5 p):@Zg wv (h,p)=some (Zb h p):=by
 obtain ⟨⟨l,g⟩,f,d⟩:=a;unfold Zg Zb;dsimp only;simp only [J3,Xo,EI,Qn,beq_iff_eq];rw [wr (n:=p.1+1) (by omega) (by omega),wr (n:=p.2+1) (by omega) (by omega),wr (n:=p.1 - 1) (by omega) (by omega),wr (n:=p.2 - 1) (by omega) (by omega)];split
 ·rfl
 split
 ·rfl
 split<;>rfl
theorem dw{α:Type}{h:Int}{p:Cell}(a:X5 p)(k:Int×Int->Option α):@W.call wv α Ko ((h,p):Int×(Int×Int)) k=k (Zb h p):=BH (c:=Ko) (WR h p a)
theorem WG(h:Int)(d:0<=h)(a:h<=3):@Za wv h=some ((h+1) % 4):=by unfold Za;rw [Cb (by rfl),sW,J3,wr (by omega) (by omega),Bg (by omega)]
theorem dh{α:Type}{h:Int}(d:0<=h)(a:h<=3)(k:Int->Option α):@W.call wv α Kl (h:Int) k=k ((h+1) % 4):=BH (c:=Kl) (WG h d a)
theorem Oa(h:Int)(d:0<=h)(a:h<=3):@Yv wv h=some ((h+3) % 4):=by unfold Yv;rw [Cb (by rfl),sW,J3,wr (by omega) (by omega),Bg (by omega)]
theorem WH{α:Type}{h:Int}(d:0<=h)(a:h<=3)(k:Int->Option α):@W.call wv α Ke (h:Int) k=k ((h+3) % 4):=BH (c:=Ke) (Oa h d a)
theorem QX(l:List Int)(x:Int)(hl:l.length<=1000000000):∃e,@Ju wv (l,x)=some e/\((e=-1/\x∉l)\/∃i:Nat,l[i]?=some x/\e=(i:Int)):=by
 obtain ⟨e,d,f⟩:=J3u (b:=@J2 wv) l (by omega) (λi=>⟨l,x,(l.length:Int),(i:Int),()⟩) (λy=>x=y) (λi _=>.inl ⟨(i:Int),()⟩) (.inr ()) (λi y hi a=>by
  have r:@W.ar wv .add .i64 (i:Int) 1=((i+1:Nat):Int):=by rw [J3,wr (by omega) (by omega)];omega
  unfold J2;dsimp only;rw [J5 (by omega),AP (fg a)];refine ⟨λh=>?_,λh=>?_⟩
  ·rw [BA (by rw [Qn];simpa using h)]
  ·rw [AU (by rw [Qn];simpa using h),r]) (by unfold J2;dsimp only;rw [Jr (by omega)])
 unfold Ju;dsimp only;rw [AO];rcases f with ⟨rfl,m⟩|⟨i,y,a,g,rfl⟩
 ·exact ⟨-1,BL d,.inl ⟨rfl,λo=>m x o rfl⟩⟩
 ·exact ⟨(i:Int),BL d,.inr ⟨i,by rw [a,g],rfl⟩⟩
theorem J9j{l:List Int}(x:Int)(hl:l.length<=1000000000):∃e:Int,(∀ {α:Type} (k:Int->Option α),@W.call wv α Jh ((l,x):List Int×Int) k=k e)/\((e=-1/\x∉l)\/∃i:Nat,l[i]?=some x/\e=(i:Int)):=by obtain ⟨e,d,a⟩:=QX l x hl;exact ⟨e,λk=>BH (c:=Jh) d,a⟩
theorem J1k(l:List Int)(x:Int)(hl:l.length<=1000000000):@J1 wv (l,x)=some (decide (x∈l)):=by
 obtain ⟨e,f,a⟩:=J9j x hl;unfold J1;dsimp only;rw [f];refine congrArg some ?_;rw [JH];refine decide_eq_decide.2 ?_;rcases a with ⟨rfl,d⟩|⟨i,hi,rfl⟩
 ·exact ⟨λh=>by omega,λh=>(d h).elim⟩
 ·exact ⟨λ_=>Ac hi,λ_=>by omega⟩
theorem J5d{α:Type}{l:List Int}{x:Int}(hl:l.length<=1000000000)(k:Bool->Option α):@W.call wv α Jb ((l,x):List Int×Int) k=k (decide (x∈l)):=BH (c:=Jb) (J1k l x hl)
abbrev Cr:=List ((Int×Int)×List Int)
def Cu:Cr->Cell->List Int
 | [],_=>[]
 | e::r,p=>if p=e.1 then e.2 else Cu r p
def EZ:Cr->Cell->List Int->Cr
 | [],p,v=>[(p,v)]
 | e::r,p,v=>if p=e.1 then (p,v)::r else e::EZ r p v
def FV:Cr->Cell->Cr
 | [],p=>[]
 | e::r,p=>if p=e.1 then r else e::FV r p
theorem gZ(p q:Cell):Ty.FE (.p I I) p q=decide (p=q):=by show ((p.1==q.1)&&(p.2==q.2))=_;rw [Do,Bool.and_eq_true,beq_iff_eq,beq_iff_eq,decide_eq_true_eq,Prod.ext_iff]
theorem sQ(m:Cr)(p:Cell):@W.mg wv (.p I I) (.ls I) m p []=Cu m p:=by
 show (FJ (a:=.p I I) (b:=.ls I) p m).getD []=_
 induction m with
 | nil=>rfl
 | cons e r d=>
  show _=if p=e.1 then e.2 else Cu r p;by_cases h:p=e.1
  ·have hd:Ty.FE (.p I I) p e.1=true:=by rw [gZ];exact decide_eq_true h
   rw [if_pos h];exact congrArg (λo:Option (List Int)=>o.getD []) (show FJ (a:=.p I I) (b:=.ls I) p (e::r)=some e.2 from if_pos hd)
  ·have hd:¬Ty.FE (.p I I) p e.1=true:=by rw [gZ];exact λf=>h (of_decide_eq_true f)
   rw [if_neg h,<-d];exact congrArg (λo:Option (List Int)=>o.getD []) (show FJ (a:=.p I I) (b:=.ls I) p (e::r)=FJ (a:=.p I I) (b:=.ls I) p r from if_neg hd)
theorem Pb(m:Cr)(p:Cell)(v:List Int):@W.ms wv (.p I I) (.ls I) m p v=EZ m p v:=by
 show Fg (a:=.p I I) (b:=.ls I) p v m=_
 induction m with
 | nil=>rfl
 | cons e r d=>
  show (if Ty.FE (.p I I) p e.1=true then (p,v)::r else e::Fg (a:=.p I I) (b:=.ls I) p v r)=if p=e.1 then (p,v)::r else e::EZ r p v;rw [gZ];by_cases h:p=e.1
  ·rw [if_pos (decide_eq_true h),if_pos h]
  ·rw [if_neg (λf=>h (of_decide_eq_true f)),if_neg h,d]
theorem dX(m:Cr)(p:Cell):@W.md wv (.p I I) (.ls I) m p=FV m p:=by
 show Iz (a:=.p I I) (b:=.ls I) p m=_
 induction m with
 | nil=>rfl
 | cons e r d=>
  show (if Ty.FE (.p I I) p e.1=true then r else e::Iz (a:=.p I I) (b:=.ls I) p r)=if p=e.1 then r else e::FV r p;rw [gZ];by_cases h:p=e.1
  ·rw [if_pos (decide_eq_true h),if_pos h]
  ·rw [if_neg (λf=>h (of_decide_eq_true f)),if_neg h,d]
theorem yT(m:Cr)(p q:Cell)(v:List Int):Cu (EZ m p v) q=if q=p then v else Cu m q:=by
 induction m with
 | nil=>rfl
 | cons e r d=>
  unfold EZ;by_cases h:p=e.1
  ·rw [if_pos h];show (if q=p then v else Cu r q)=if q=p then v else (if q=e.1 then e.2 else Cu r q);by_cases a:q=p
   ·rw [if_pos a,if_pos a]
   ·rw [if_neg a,if_neg a,if_neg (by rw [<-h];exact a)]
  ·rw [if_neg h];show (if q=e.1 then e.2 else Cu (EZ r p v) q)=if q=p then v else (if q=e.1 then e.2 else Cu r q);rw [d];by_cases a:q=e.1
   ·rw [if_pos a,if_neg (by rw [a];exact λe=>h e.symm),if_pos a]
   ·rw [if_neg a,if_neg a]
theorem J46{m:Cr}{p:Cell}(h:p∉m.map (·.1)):Cu m p=[]:=by
 induction m with
 | nil=>rfl
 | cons e r a=>
  simp only [Ap,Ag,not_or] at h;unfold Cu;rw [if_neg h.1,a h.2]
theorem QA(m:Cr)(p:Cell)(v:List Int):(EZ m p v).map (·.1)=if p∈m.map (·.1) then m.map (·.1) else m.map (·.1)++[p]:=by
 induction m with
 | nil=>simp [EZ]
 | cons e r d=>
  unfold EZ;by_cases h:p=e.1
  ·rw [if_pos h,if_pos (by simp [h])];simp [h]
  ·rw [if_neg h,Ap,d];by_cases a:p∈r.map (·.1)
   ·rw [if_pos a,if_pos (by rw [Ap];exact Ai _ a),Ap]
   ·rw [if_neg a,if_neg (by rw [Ap,Ag];exact λf=>f.elim h a),Ap,List.cons_append]
theorem Jy6{m:Cr}(h:(m.map (·.1)).Nodup)(p:Cell)(v:List Int):((EZ m p v).map (·.1)).Nodup:=by
 rw [QA];split
 ·exact h
 ·next f=>exact Db.2 ⟨h,Ay.2 ⟨by simp,.nil⟩,λa g b d e=>by rw [Ad] at d;exact f (by rw [<-d,<-e];exact g)⟩
theorem QC(m:Cr)(p:Cell):((FV m p).map (·.1)).Sublist (m.map (·.1)):=by
 induction m with
 | nil=>exact .slnil
 | cons e r a=>
  unfold FV;split
  ·exact .cons _ (List.Sublist.refl _)
  ·rw [Ap,Ap];exact .cons_cons _ a
theorem SN{m:Cr}(h:(m.map (·.1)).Nodup)(p q:Cell):Cu (FV m p) q=if q=p then [] else Cu m q:=by
 induction m with
 | nil=>simp [FV,Cu]
 | cons e r f=>
  obtain ⟨l,g⟩:=Ay.1 (by rw [Ap] at h;exact h);unfold FV;by_cases d:p=e.1
  ·rw [if_pos d];show Cu r q=if q=p then [] else (if q=e.1 then e.2 else Cu r q);by_cases a:q=p
   ·rw [if_pos a];exact J46 (by rw [a,d];exact l)
   ·rw [if_neg a,if_neg (by rw [<-d];exact a)]
  ·rw [if_neg d];show (if q=e.1 then e.2 else Cu (FV r p) q)=if q=p then [] else (if q=e.1 then e.2 else Cu r q);rw [f g];by_cases a:q=e.1
   ·rw [if_pos a,if_neg (by rw [a];exact λe=>d e.symm),if_pos a]
   ·rw [if_neg a,if_neg a]
theorem J8e{m:Cr}(h:(m.map (·.1)).Nodup)(p:Cell):((FV m p).map (·.1)).Nodup:=h.sublist (QC m p)
structure BN (m:Cr) (S:Cell->Int->Prop):Prop where
 nd:(m.map (·.1)).Nodup
 mem:∀p h,h∈Cu m p↔S p h
 one:∀p,(Cu m p).Nodup
 ne:∀e∈m,e.2≠[]
theorem BN.nil:BN [] λ_ _=>False:=⟨.nil,λp h=>⟨λh=>(Ao h).elim,False.elim⟩,λp=>.nil,λe a=>(Ao a).elim⟩
theorem BN.congr{m:Cr}{S T:Cell->Int->Prop}(h:BN m S)(e:∀p x,S p x↔T p x):BN m T:=⟨h.nd,λp x=>(h.mem p x).trans (e p x),h.one,h.ne⟩
theorem PZ{m:Cr}(h:∀e∈m,e.2≠[])(p:Cell){v:List Int}(d:v≠[]):∀e∈EZ m p v,e.2≠[]:=by
 induction m with
 | nil=>
  intro e a;rw [EZ,Ad] at a;rw [a];exact d
 | cons x r f=>
  intro e a;unfold EZ at a;split at a
  ·rcases Ag.1 a with rfl|a
   ·exact d
   ·exact h e (Ai _ a)
  ·rcases Ag.1 a with rfl|a
   ·exact h _ (Af ..)
   ·exact f (λe a=>h e (Ai _ a)) e a
theorem dN{m:Cr}(h:∀e∈m,e.2≠[])(p:Cell):∀e∈FV m p,e.2≠[]:=by
 induction m with
 | nil=>exact h
 | cons x r d=>
  intro e a;unfold FV at a;split at a
  ·exact h e (Ai _ a)
  ·rcases Ag.1 a with rfl|a
   ·exact h _ (Af ..)
   ·exact d (λe a=>h e (Ai _ a)) e a
theorem J53{m:Cr}(h:(m.map (·.1)).Nodup){e:(Int×Int)×List Int}(a:e∈m):Cu m e.1=e.2:=by
 induction m with
 | nil=>exact (Ao a).elim
 | cons x r d=>
  obtain ⟨g,f⟩:=Ay.1 (by rw [Ap] at h;exact h);unfold Cu;rcases Ag.1 a with rfl|a
  ·rw [if_pos rfl]
  ·rw [if_neg (λl=>g (by rw [<-l];exact List.mem_map_of_mem a)),d f a]
theorem BN.key{m:Cr}{S:Cell->Int->Prop}(h:BN m S)(p:Cell):p∈m.map (·.1)↔∃x,S p x:=by
 constructor
 ·intro a;obtain ⟨e,g,rfl⟩:=Dh.1 a;have d:=h.ne e g;have f:=J53 h.nd g;cases hl:e.2 with
  | nil=>exact (d hl).elim
  | cons x l=>exact ⟨x,(h.mem e.1 x).1 (by rw [f,hl];exact Af ..)⟩
 ·rintro ⟨x,hx⟩;by_cases a:p∈m.map (·.1)
  ·exact a
  ·have:=(h.mem p x).2 hx;rw [J46 a] at this;exact (Ao this).elim
theorem BN.add{m:Cr}{S:Cell->Int->Prop}(h:BN m S){p:Cell}{x:Int}(g:¬S p x):BN (EZ m p (Cu m p++[x])) λq y=>S q y\/(q=p/\y=x):=by
 refine ⟨Jy6 h.nd _ _,λq y=>?_,λq=>?_,PZ h.ne _ (by simp)⟩
 ·rw [yT];by_cases d:q=p
  ·subst d;rw [if_pos rfl,Ae,Ad,h.mem];exact ⟨λh=>h.imp id λe=>⟨rfl,e⟩,λh=>h.imp id And.right⟩
  ·rw [if_neg d,h.mem];exact ⟨.inl,λh=>h.elim id λe=>(d e.1).elim⟩
 ·rw [yT];split
  ·refine Db.2 ⟨h.one p,Ay.2 ⟨by simp,.nil⟩,λa l b f e=>?_⟩;rw [Ad] at f;exact g ((h.mem p x).1 (by rw [<-f,<-e];exact l))
  ·exact h.one q
theorem WC{l:List Int}(h:l.Nodup){i:Nat}{x y:Int}(hx:l[i]?=some x):y∈l.take i++l.drop (i+1)↔y∈l/\y≠x:=by
 obtain ⟨hi,e⟩:=Ab.1 hx;have hl:l=l.take i++x::l.drop (i+1):=by
  conv=>lhs;rw [<-Bn i l,Dc hi,e]
 have d:=h;rw [hl] at d;obtain ⟨v,o,m⟩:=Db.1 d;obtain ⟨g,r⟩:=Ay.1 o;constructor
 ·intro a;rcases Ae.1 a with a|a
  ·exact ⟨List.mem_of_mem_take a,λe=>m y a x (Af ..) e⟩
  ·exact ⟨List.mem_of_mem_drop a,λe=>g (by rw [<-e];exact a)⟩
 ·rintro ⟨a,f⟩;rw [hl] at a;rcases Ae.1 a with a|a
  ·exact Ae.2 (.inl a)
  ·rcases Ag.1 a with e|a
   ·exact (f e).elim
   ·exact Ae.2 (.inr a)
theorem BN.cut{m:Cr}{S:Cell->Int->Prop}(h:BN m S){p:Cell}{x:Int}{i:Nat}(hx:(Cu m p)[i]?=some x)(d:(Cu m p).length≠1) :
  BN (EZ m p ((Cu m p).take i++(Cu m p).drop (i+1))) λq y=>S q y/\¬(q=p/\y=x):=by
 have hi:=(Ab.1 hx).1;refine ⟨Jy6 h.nd _ _,λq y=>?_,λq=>?_,PZ h.ne _ λe=>?_⟩
 ·rw [yT];by_cases a:q=p
  ·subst a;rw [if_pos rfl,WC (h.one q) hx,h.mem];exact ⟨λh=>⟨h.1,λe=>h.2 e.2⟩,λh=>⟨h.1,λe=>h.2 ⟨rfl,e⟩⟩⟩
  ·rw [if_neg a,h.mem];exact ⟨λh=>⟨h,λe=>a e.1⟩,And.left⟩
 ·rw [yT];split
  ·have:=h.one p;rw [<-Bn i (Cu m p),Dc hi] at this;exact this.sublist (.append (List.Sublist.refl _) (.cons _ (List.Sublist.refl _)))
  ·exact h.one q
 ·have:=congrArg List.length e;rw [Am,Bo,List.length_drop,List.length_nil] at this;omega
theorem BN.del{m:Cr}{S:Cell->Int->Prop}(h:BN m S){p:Cell}{x:Int}(hx:Cu m p=[x]) :
  BN (FV m p) λq y=>S q y/\¬(q=p/\y=x):=by
 refine ⟨J8e h.nd _,λq y=>?_,λq=>?_,dN h.ne _⟩
 ·rw [SN h.nd];by_cases a:q=p
  ·subst a;rw [if_pos rfl,<-h.mem,hx,Ad];exact ⟨λh=>(Ao h).elim,λh=>(h.2 ⟨rfl,h.1⟩).elim⟩
  ·rw [if_neg a,h.mem];exact ⟨λh=>⟨h,λe=>a e.1⟩,And.left⟩
 ·rw [SN h.nd];split
  ·exact .nil
  ·exact h.one q
theorem J3b:∀ {l k:List Int},l.Nodup->(∀x∈l,x∈k)->l.length<=k.length
 | [],k,_,_=>Nat.zero_le _
 | x::l,k,h,hs=>by obtain ⟨f,d⟩:=Ay.1 h;have hx:=hs x (Af ..);have:=J3b (l:=l) (k:=k.erase x) d λy a=>(Dv (λe=>f (by rw [<-e];exact a))).2 (hs y (Ai _ a));rw [Dg hx] at this;have:0<k.length:=Bl hx;rw [Ar];omega
def FM(S:Cell->Int->Prop):Prop:=∀p h,S p h->h=0\/h=1\/h=2\/h=3
theorem BN.le4{m:Cr}{S:Cell->Int->Prop}(h:BN m S)(hd:FM S)(p:Cell):(Cu m p).length<=4:=
 J3b (k:=[0,1,2,3]) (h.one p) λx hx=>by rcases hd p x ((h.mem p x).1 hx) with rfl|rfl|rfl|rfl<;>simp
theorem uo{α:Type}{m:Cr}{S:Cell->Int->Prop}(h:BN m S)(hd:FM S)(p:Cell)(x:Option α):@W.gd wv α (@W.ft wv 8 (@W.pl wv (@W.ln wv Int (@W.mg wv (.p I I) (.ls I) m p [])) 1)) x=x:=by have a:=h.le4 hd p;rw [sQ,BX,AO];exact Ei (by omega) (by omega) (by decide)
theorem E5{A B:Type}{x y:A}{r t:B}(h:x=y)(a:r=t):(⟨x,r⟩:HP A B)=⟨y,t⟩:=by rw [h,a]
theorem yL(m:Cr)(p:Cell)(x:Int):@W.ms wv (.p I I) (.ls I) m p (@W.ap wv Int (@W.mg wv (.p I I) (.ls I) m p []) [x])=EZ m p (Cu m p++[x]):=by rw [sQ,Pb,CV]
theorem pE(a:AY)(s0:List Run)(r:AY)(o l:Int)(s5:List Run)(s6 g:Int)(s8:AY)(y:Int)(s10:List Run)(u v:Int)(m:Cr){S:Cell->Int->Prop}
  (h:BN m S) (hd:FM S) (K:∀x,u<=x->x<v->¬S (x,y) 0) (O:-4096<=u/\u<=v/\v<=4096) :
  ∃f,X0 (@Zv wv a) CU ⟨s0,u,r,o,l,s5,s6,g,s8,y,s10,u,v,m,()⟩=some ⟨s0,r,o,l,s5,s6,g,s8,y,s10,f,()⟩ /\
   BN f (λp x=>S p x\/(p.2=y/\u<=p.1/\p.1<v/\x=0)):=by
 obtain ⟨e,L,f,rfl,E⟩:=Xr (b:=@Zv wv a)
  (λi s=>∃f,s=⟨s0,u+(i:Int),r,o,l,s5,s6,g,s8,y,s10,u,v,f,()⟩/\BN f (λp x=>S p x\/(p.2=y/\u<=p.1/\p.1<u+i/\x=0)))
  (λe=>∃f,e=⟨s0,r,o,l,s5,s6,g,s8,y,s10,f,()⟩/\BN f (λp x=>S p x\/(p.2=y/\u<=p.1/\p.1<v/\x=0)))
  (v - u).toNat (by omega) (s0:=⟨s0,u,r,o,l,s5,s6,g,s8,y,s10,u,v,m,()⟩)
  ⟨m,by simp,h.congr λp x=>⟨.inl,λh=>h.elim id λh=>by omega⟩⟩
  (λi s hi=>by
   rintro ⟨w,rfl,B⟩;have M:@W.ar wv .add .i64 (u+(i:Int)) 1=u+((i+1:Nat):Int):=by rw [J3,wr (by omega) (by omega)];omega
   have F:FM (λp x=>S p x\/(p.2=y/\u<=p.1/\p.1<u+i/\x=0)):=λp x d=>d.elim (hd p x) λd=>.inl d.2.2.2;refine ⟨_,?_,EZ w (u+(i:Int),y) (Cu w (u+(i:Int),y)++[0]),rfl,?_⟩
   ·unfold Zv;dsimp only;rw [J5 (by omega)];refine (uo B F (u+(i:Int),y) _).trans ?_;refine congrArg some (congrArg Nx.go ?_);rw [M];refine E5 rfl (E5 rfl (E5 rfl (E5 rfl (E5 rfl (E5 rfl (E5 rfl (E5 rfl (E5 rfl (E5 rfl (E5 rfl (E5 rfl (E5 rfl (E5 ?_ rfl)))))))))))));exact yL w (u+(i:Int),y) 0
   ·refine (B.add (p:=(u+(i:Int),y)) (x:=0) λA=>?_).congr λp x=>?_
    ·rcases A with A|A
     ·exact K _ (by omega) (by omega) A
     ·have:=A.2.2.1;dsimp only at this;omega
    ·constructor
     ·rintro ((d|d)|⟨rfl,rfl⟩)
      ·exact .inl d
      ·exact .inr ⟨d.1,d.2.1,by have:=d.2.2.1;omega,d.2.2.2⟩
      ·exact .inr ⟨rfl,by dsimp only;omega,by dsimp only;omega,rfl⟩
     ·rintro (d|⟨G,H,N,rfl⟩)
      ·exact .inl (.inl d)
      ·by_cases J:p.1<u+(i:Int)
       ·exact .inl (.inr ⟨G,H,J,rfl⟩)
       ·exact .inr ⟨Prod.ext (by dsimp only;omega) G,rfl⟩)
  (by
   rintro s ⟨w,rfl,B⟩;refine ⟨_,?_,w,rfl,B.congr λp x=>?_⟩
   ·unfold Zv;dsimp only;rw [Jr (by omega)]
   ·have:u+(((v - u).toNat:Nat):Int)=v:=by omega
    rw [this])
 exact ⟨f,L,E⟩
theorem ou(a:AY)(w:AY)(r o:Int)(l:List Run)(s5 s6:Int)(g:AY)(y:Int)(s9:List Run)(u v:Int)(m:Cr){S:Cell->Int->Prop}
  (h:BN m S) (hd:FM S) (L:∀x,u<=x->x<v->¬S (x+1,y+1) 2) (R:-4096<=u/\u<=v/\v<=4096) (Q:-4096<=y/\y<4096) :
  ∃f,X0 (@Zt wv a) CU ⟨u,w,r,o,l,s5,s6,g,y,s9,u,v,m,()⟩=some ⟨w,r,o,l,s5,s6,g,y,s9,f,()⟩ /\
   BN f (λp x=>S p x\/(p.2=y+1/\u<p.1/\p.1<=v/\x=2)):=by
 obtain ⟨e,M,f,rfl,F⟩:=Xr (b:=@Zt wv a)
  (λi s=>∃f,s=⟨u+(i:Int),w,r,o,l,s5,s6,g,y,s9,u,v,f,()⟩/\BN f (λp x=>S p x\/(p.2=y+1/\u<p.1/\p.1<=u+i/\x=2)))
  (λe=>∃f,e=⟨w,r,o,l,s5,s6,g,y,s9,f,()⟩/\BN f (λp x=>S p x\/(p.2=y+1/\u<p.1/\p.1<=v/\x=2)))
  (v - u).toNat (by omega) (s0:=⟨u,w,r,o,l,s5,s6,g,y,s9,u,v,m,()⟩)
  ⟨m,by simp,h.congr λp x=>⟨.inl,λh=>h.elim id λh=>by omega⟩⟩
  (λi s hi=>by
   rintro ⟨A,rfl,E⟩;have O:@W.ar wv .add .i64 (u+(i:Int)) 1=u+((i+1:Nat):Int):=by rw [J3,wr (by omega) (by omega)];omega
   have N:@W.ar wv .add .i64 y 1=y+1:=by rw [J3,wr (by omega) (by omega)]
   have G:FM (λp x=>S p x\/(p.2=y+1/\u<p.1/\p.1<=u+i/\x=2)):=λp x d=>d.elim (hd p x) λd=>.inr (.inr (.inl d.2.2.2));refine ⟨_,?_,EZ A (u+((i+1:Nat):Int),y+1) (Cu A (u+((i+1:Nat):Int),y+1)++[2]),rfl,?_⟩
   ·unfold Zt;dsimp only;rw [J5 (by omega),O,N];refine (uo E G (u+((i+1:Nat):Int),y+1) _).trans ?_;refine congrArg some (congrArg Nx.go ?_);refine E5 rfl (E5 rfl (E5 rfl (E5 rfl (E5 rfl (E5 rfl (E5 rfl (E5 rfl (E5 rfl (E5 rfl (E5 rfl (E5 rfl (E5 ?_ rfl))))))))))));exact yL A (u+((i+1:Nat):Int),y+1) 2
   ·refine (E.add (p:=(u+((i+1:Nat):Int),y+1)) (x:=2) λB=>?_).congr λp x=>?_
    ·rcases B with B|B
     ·have:=L (u+(i:Int)) (by omega) (by omega);refine this ?_;have e:u+((i+1:Nat):Int)=u+(i:Int)+1:=by omega
      rw [<-e];exact B
     ·have:=B.2.2.1;dsimp only at this;omega
    ·constructor
     ·rintro ((d|d)|⟨rfl,rfl⟩)
      ·exact .inl d
      ·exact .inr ⟨d.1,d.2.1,by have:=d.2.2.1;omega,d.2.2.2⟩
      ·exact .inr ⟨rfl,by dsimp only;omega,by dsimp only;omega,rfl⟩
     ·rintro (d|⟨H,J,P,rfl⟩)
      ·exact .inl (.inl d)
      ·by_cases K:p.1<=u+(i:Int)
       ·exact .inl (.inr ⟨H,J,K,rfl⟩)
       ·exact .inr ⟨Prod.ext (by dsimp only;omega) H,rfl⟩)
  (by
   rintro s ⟨A,rfl,E⟩;refine ⟨_,?_,A,rfl,E.congr λp x=>?_⟩
   ·unfold Zt;dsimp only;rw [Jr (by omega)]
   ·have:u+(((v - u).toNat:Nat):Int)=v:=by omega
    rw [this])
 exact ⟨f,M,F⟩
theorem Jsp{l:List Run}{i:Nat}{w:Run}(h:l[i]?=some w)(x:Int):Jf (l.take (i+1)) x↔Jf (l.take i) x\/(w.1<=x/\x<w.2):=by
 rw [Ka h];unfold Jf;constructor
 ·rintro ⟨u,a,hx⟩;rcases Ae.1 a with a|a
  ·exact .inl ⟨u,a,hx⟩
  ·rw [Ad] at a;subst a;exact .inr hx
 ·rintro (⟨u,a,hx⟩|hx)
  ·exact ⟨u,Ae.2 (.inl a),hx⟩
  ·exact ⟨w,Ae.2 (.inr (Ad.2 rfl)),hx⟩
theorem Jt5{lo hi:Int}{l:List Run}(hl:AJ lo hi l){i:Nat}{w:Run}(h:l[i]?=some w){x:Int}(hx:Jf (l.take i) x):x<w.1:=by obtain ⟨u,f,r,o⟩:=hx;obtain ⟨j,g⟩:=Ah f;obtain ⟨a,e⟩:=Ab.1 g;rw [Bo] at a;rw [Dd] at e;obtain ⟨d,m⟩:=Ab.1 h;have:=Aj.1 hl.pw j i (by omega) d (by omega);rw [e,m] at this;omega
theorem pF(a:AY)(s0:List Run)(v:AY)(r o:Int)(l:List Run)(g:AY)(y:Int)(s9:List Run)(m:Cr){S:Cell->Int->Prop}
  (h:BN m S) (hd:FM S) (hl:AJ (-4096) 4096 l) (Z:l.length<=1000000000) (P:∀x,Jf l x->¬S (x,y) 0) :
  ∃f,X0 (@ja wv a) CU ⟨s0,v,r,o,l,(l.length:Int),0,g,y,s9,m,()⟩=some ⟨s0,v,r,o,g,y,s9,f,()⟩ /\
   BN f (λp x=>S p x\/(p.2=y/\Jf l p.1/\x=0)):=by
 obtain ⟨e,Q,f,rfl,H⟩:=Xr (b:=@ja wv a)
  (λi s=>∃f,s=⟨s0,v,r,o,l,(l.length:Int),(i:Int),g,y,s9,f,()⟩/\BN f (λp x=>S p x\/(p.2=y/\Jf (l.take i) p.1/\x=0)))
  (λe=>∃f,e=⟨s0,v,r,o,g,y,s9,f,()⟩/\BN f (λp x=>S p x\/(p.2=y/\Jf l p.1/\x=0)))
  l.length (by omega) (s0:=⟨s0,v,r,o,l,(l.length:Int),0,g,y,s9,m,()⟩)
  ⟨m,rfl,h.congr λp x=>⟨.inl,λh=>h.elim id λh=>by obtain ⟨_,⟨u,N,_⟩,_⟩:=h;rw [Bd] at N;exact (Ao N).elim⟩⟩
  (λi s hi=>by
   rintro ⟨B,rfl,K⟩;have X:@W.ar wv .add .i64 (i:Int) 1=((i+1:Nat):Int):=by rw [J3,wr (by omega) (by omega)];omega
   have J:FM (λp x=>S p x\/(p.2=y/\Jf (l.take i) p.1/\x=0)):=λp x d=>d.elim (hd p x) λd=>.inl d.2.2;have G:l[i]?=some l[i]:=Aa hi;have hb:=hl.bd l[i] (Av _);obtain ⟨O,Y,R⟩:=pE a s0 v r o l (l.length:Int) (i:Int) g y s9 l[i].1 l[i].2 B K J (λx F E w=>by
    rcases w with w|w
    ·exact P x ⟨l[i],Av _,F,E⟩ w
    ·have:=Jt5 hl G w.2.1;dsimp only at this;omega) (by omega)
   refine ⟨_,?_,O,rfl,R.congr λp x=>?_⟩
   ·unfold ja;dsimp only;rw [J5 (by omega),AP (fg G)];refine (BL Y).trans ?_;dsimp only;rw [X]
   ·rw [Jsp G];constructor
    ·rintro ((d|d)|d)
     ·exact .inl d
     ·exact .inr ⟨d.1,.inl d.2.1,d.2.2⟩
     ·exact .inr ⟨d.1,.inr ⟨d.2.1,d.2.2.1⟩,d.2.2.2⟩
    ·rintro (d|⟨M,A|A,L⟩)
     ·exact .inl (.inl d)
     ·exact .inl (.inr ⟨M,A,L⟩)
     ·exact .inr ⟨M,A.1,A.2,L⟩)
  (by
   rintro s ⟨B,rfl,K⟩;refine ⟨_,?_,B,rfl,K.congr λp x=>?_⟩
   ·unfold ja;dsimp only;rw [Jr (by omega)]
   ·rw [Ba])
 exact ⟨f,Q,H⟩
theorem oz(a:AY)(s0:AY)(o g:Int)(l:List Run)(s6:AY)(y:Int)(s8:List Run)(m:Cr){S:Cell->Int->Prop}
  (h:BN m S) (hd:FM S) (hl:AJ (-4096) 4096 l) (Y:l.length<=1000000000) (N:-4096<=y/\y<4096) (O:∀x,Jf l x->¬S (x+1,y+1) 2) :
  ∃f,X0 (@jd wv a) CU ⟨s0,o,g,l,(l.length:Int),0,s6,y,s8,m,()⟩=some ⟨s0,o,g,s6,y,s8,f,()⟩ /\
   BN f (λp x=>S p x\/(p.2=y+1/\Jf l (p.1 - 1)/\x=2)):=by
 obtain ⟨e,P,f,rfl,E⟩:=Xr (b:=@jd wv a)
  (λi s=>∃f,s=⟨s0,o,g,l,(l.length:Int),(i:Int),s6,y,s8,f,()⟩/\BN f (λp x=>S p x\/(p.2=y+1/\Jf (l.take i) (p.1 - 1)/\x=2)))
  (λe=>∃f,e=⟨s0,o,g,s6,y,s8,f,()⟩/\BN f (λp x=>S p x\/(p.2=y+1/\Jf l (p.1 - 1)/\x=2)))
  l.length (by omega) (s0:=⟨s0,o,g,l,(l.length:Int),0,s6,y,s8,m,()⟩)
  ⟨m,rfl,h.congr λp x=>⟨.inl,λh=>h.elim id λh=>by obtain ⟨_,⟨u,L,_⟩,_⟩:=h;rw [Bd] at L;exact (Ao L).elim⟩⟩
  (λi s hi=>by
   rintro ⟨v,rfl,G⟩;have R:@W.ar wv .add .i64 (i:Int) 1=((i+1:Nat):Int):=by rw [J3,wr (by omega) (by omega)];omega
   have F:FM (λp x=>S p x\/(p.2=y+1/\Jf (l.take i) (p.1 - 1)/\x=2)):=λp x d=>d.elim (hd p x) λd=>.inr (.inr (.inl d.2.2));have B:l[i]?=some l[i]:=Aa hi;have Z:=hl.bd l[i] (Av _);obtain ⟨M,X,Q⟩:=ou a s0 o g l (l.length:Int) (i:Int) s6 y s8 l[i].1 l[i].2 v G F (λx A w r=>by
    rcases r with r|r
    ·exact O x ⟨l[i],Av _,A,w⟩ r
    ·have:=Jt5 hl B r.2.1;dsimp only at this;omega) (by omega) N
   refine ⟨_,?_,M,rfl,Q.congr λp x=>?_⟩
   ·unfold jd;dsimp only;rw [J5 (by omega),AP (fg B)];refine (BL X).trans ?_;dsimp only;rw [R]
   ·rw [Jsp B];constructor
    ·rintro ((d|d)|d)
     ·exact .inl d
     ·exact .inr ⟨d.1,.inl d.2.1,d.2.2⟩
     ·exact .inr ⟨d.1,.inr ⟨by omega,by omega⟩,d.2.2.2⟩
    ·rintro (d|⟨K,J|J,H⟩)
     ·exact .inl (.inl d)
     ·exact .inl (.inr ⟨K,J,H⟩)
     ·exact .inr ⟨K,by omega,by omega,H⟩)
  (by
   rintro s ⟨v,rfl,G⟩;refine ⟨_,?_,v,rfl,G.congr λp x=>?_⟩
   ·unfold jd;dsimp only;rw [Jr (by omega)]
   ·rw [Ba])
 exact ⟨f,P,E⟩
theorem oq(a:AY)(s0:AY)(G F:Int)(l:List Run)(s6:AY)(y:Int)(s8:List Run)(m:Cr){S:Cell->Int->Prop}
  (h:BN m S) (hd:FM S) (hl:AJ (-4096) 4096 l) (hn:l.length<=1000000000) (hy:-4096<=y/\y<4096) (O:∀w∈l,¬S (w.2,y) 1) (N:∀w∈l,¬S (w.1,y+1) 3) :
  ∃o,X0 (@Zz wv a) CU ⟨s0,G,F,l,(l.length:Int),0,s6,y,s8,m,()⟩=some ⟨s0,G,F,s6,o,()⟩/\BN o (λp x=>S p x\/(p.2=y/\(∃w∈l,p.1=w.2)/\x=1)\/(p.2=y+1/\(∃w∈l,p.1=w.1)/\x=3)):=by
 have hS:∀i,FM (λp x=>S p x\/(p.2=y/\(∃w∈l.take i,p.1=w.2)/\x=1)\/(p.2=y+1/\(∃w∈l.take i,p.1=w.1)/\x=3)):=λi p x f=>by
  rcases f with f|f|f
  ·exact hd p x f
  ·exact .inr (.inl f.2.2)
  ·exact .inr (.inr (.inr f.2.2))
 obtain ⟨e,X,o,rfl,K⟩:=Xr (b:=@Zz wv a)
  (λi s=>∃o,s=⟨s0,G,F,l,(l.length:Int),(i:Int),s6,y,s8,o,()⟩/\BN o (λp x=>S p x\/(p.2=y/\(∃w∈(l.take i),p.1=w.2)/\x=1)\/(p.2=y+1/\(∃w∈(l.take i),p.1=w.1)/\x=3)))
  (λe=>∃o,e=⟨s0,G,F,s6,o,()⟩/\BN o (λp x=>S p x\/(p.2=y/\(∃w∈l,p.1=w.2)/\x=1)\/(p.2=y+1/\(∃w∈l,p.1=w.1)/\x=3)))
  l.length (by omega) (s0:=⟨s0,G,F,l,(l.length:Int),0,s6,y,s8,m,()⟩)
  ⟨m,rfl,h.congr λp x=>⟨.inl,λh=>by
   rcases h with h|⟨_,⟨w,B,_⟩,_⟩|⟨_,⟨w,B,_⟩,_⟩
   ·exact h
   ·rw [Bd] at B;exact (Ao B).elim
   ·rw [Bd] at B;exact (Ao B).elim⟩⟩
  (λi s hi=>by
   rintro ⟨H,rfl,E⟩;have e3:@W.ar wv .add .i64 (i:Int) 1=((i+1:Nat):Int):=by rw [J3,wr (by omega) (by omega)];omega
   have e4:@W.ar wv .add .i64 y 1=y+1:=by rw [J3,wr (by omega) (by omega)]
   have B:l[i]?=some l[i]:=Aa hi;have L:l[i]∈l:=Av _;have old:∀w∈l.take i,w.2<l[i].1/\w.1<w.2:=λw d=>by obtain ⟨j,R⟩:=Ah d;obtain ⟨M,e⟩:=Ab.1 R;rw [Bo] at M;rw [Dd] at e;have E:=Aj.1 hl.pw j i (by omega) hi (by omega);have J:=hl.bd _ (Av (l:=l) (n:=j) (by omega));rw [e] at E J;omega
   have Y:=hl.bd l[i] L;have J:=E.add (p:=(l[i].2,y)) (x:=1) (λA=>by
    rcases A with A|⟨_,⟨w,d,e⟩,_⟩|⟨_,_,e⟩
    ·exact O _ L A
    ·have:=old w d;dsimp only at e;omega
    ·omega)
   have P:FM (λp x=>(S p x\/(p.2=y/\(∃w∈l.take i,p.1=w.2)/\x=1)\/(p.2=y+1/\(∃w∈l.take i,p.1=w.1)/\x=3))\/(p=(l[i].2,y)/\x=1)):=λp x f=>f.elim (hS i p x) λf=>.inr (.inl f.2);have Z:=J.add (p:=(l[i].1,y+1)) (x:=3) (λA=>by
    rcases A with (A|⟨_,_,e⟩|⟨_,⟨w,d,e⟩,_⟩)|A
    ·exact N _ L A
    ·omega
    ·have:=old w d;dsimp only at e;omega
    ·have:=A.2;omega)
   refine ⟨_,?_,_,rfl,Z.congr λp x=>?_⟩
   ·unfold Zz;dsimp only;rw [J5 (by omega),AP (fg B),e3,e4];refine (uo E (hS i) (l[i].2,y) _).trans ?_;have q:=yL H (l[i].2,y) 1;have g:=uo (α:=Nx (HP AY (HP Int (HP Int (HP (List Run) (HP Int (HP Int (HP AY (HP Int (HP (List Run) (HP Cr Unit)))))))))) (HP AY (HP Int (HP Int (HP AY (HP Cr Unit)))))) J P (l[i].1,y+1);rw [<-q] at g;refine (g _).trans ?_;refine congrArg some (congrArg Nx.go ?_);refine E5 rfl (E5 rfl (E5 rfl (E5 rfl (E5 rfl (E5 rfl (E5 rfl (E5 rfl (E5 rfl (E5 ?_ rfl)))))))));have Q:=yL (EZ H (l[i].2,y) (Cu H (l[i].2,y)++[1])) (l[i].1,y+1) 3;rw [<-q] at Q ⊢;exact Q
   ·rw [Ka B];constructor
    ·rintro (((f|⟨v,⟨w,d,e⟩,r⟩|⟨v,⟨w,d,e⟩,r⟩)|⟨rfl,rfl⟩)|⟨rfl,rfl⟩)
     ·exact .inl f
     ·exact .inr (.inl ⟨v,⟨w,Ae.2 (.inl d),e⟩,r⟩)
     ·exact .inr (.inr ⟨v,⟨w,Ae.2 (.inl d),e⟩,r⟩)
     ·exact .inr (.inl ⟨rfl,⟨l[i],Ae.2 (.inr (Ad.2 rfl)),rfl⟩,rfl⟩)
     ·exact .inr (.inr ⟨rfl,⟨l[i],Ae.2 (.inr (Ad.2 rfl)),rfl⟩,rfl⟩)
    ·rintro (f|⟨v,⟨w,d,e⟩,r⟩|⟨v,⟨w,d,e⟩,r⟩)
     ·exact .inl (.inl (.inl f))
     ·rcases Ae.1 d with d|d
      ·exact .inl (.inl (.inr (.inl ⟨v,⟨w,d,e⟩,r⟩)))
      ·rw [Ad] at d;subst d;exact .inl (.inr ⟨Prod.ext e v,r⟩)
     ·rcases Ae.1 d with d|d
      ·exact .inl (.inl (.inr (.inr ⟨v,⟨w,d,e⟩,r⟩)))
      ·rw [Ad] at d;subst d;exact .inr ⟨Prod.ext e v,r⟩)
  (by
   rintro s ⟨H,rfl,E⟩;refine ⟨_,?_,H,rfl,E.congr λp x=>?_⟩
   ·unfold Zz;dsimp only;rw [Jr (by omega)]
   ·rw [Ba])
 exact ⟨o,X,K⟩
theorem ql{hi:Int}:∀ {l:List Run} {lo:Int},lo<=hi->AJ lo hi l->(l.length:Int)<=hi - lo
 | [],lo,g,_=>by simp;omega
 | u::l,lo,g,h=>by
  obtain ⟨f,d⟩:=Ak.1 h.pw;have m:=h.bd u (Af ..);have:=ql (l:=l) (lo:=u.2) (hi:=hi) (by omega) ⟨λx hx=>by have a:=h.bd x (Ai _ hx);have o:=f x hx;exact ⟨by omega,a.2.1,a.2.2⟩,d⟩
  rw [Ar];omega
theorem Jxx{lo hi lo' a:Int}{l:List Run}(h:AJ lo hi l)(f:lo'<=lo)(d:hi<=a):AJ lo' a l:=
 ⟨λx hx=>by have:=h.bd x hx;exact ⟨by omega,this.2.1,by omega⟩,h.pw⟩
theorem rA{l:List Run}(h:AJ (-4096) 4096 l):l.length<=8192:=by have:=ql (by omega) h;omega
theorem Jt9{a b:List Run}(d:AJ (-4096) 4096 a)(f:AJ (-4096) 4096 b) :
  ∃l:List Run,(∀ {α:Type} (k:List (Int×Int)->Option α),@W.call wv α jb ((a,b):List (Int×Int)×List (Int×Int)) k=k l)/\AJ (-4096) 4096 l/\∀x,Jf l x↔Jf a x/\¬Jf b x:=by have la:=rA d;have lb:=rA f;obtain ⟨l,hl,m,hx⟩:=J1t a b (by omega) (by omega) (Jxx d (by omega) (by omega)) (Jxx f (by omega) (by omega));refine ⟨l,λk=>BH (c:=jb) hl,vC m λx h=>?_,hx⟩;obtain ⟨u,g,r,o⟩:=((hx x).1 h).1;have:=d.bd u g;omega
def XV(r:AY)(w:Row)(p:Cell)(x:Int):Prop:=
 (p.2=w.1/\(Jf w.2 p.1/\¬Jf (EJ r (w.1 - 1)) p.1)/\x=0)\/(p.2=w.1+1/\(Jf w.2 (p.1 - 1)/\¬Jf (EJ r (w.1+1)) (p.1 - 1))/\x=2) \/
 (p.2=w.1/\(∃u∈w.2,p.1=u.2)/\x=1)\/(p.2=w.1+1/\(∃u∈w.2,p.1=u.1)/\x=3)
theorem XP(a r:AY)(hr:AL r)(o:r.length<=1000000000){i:Nat}{w:Row}(A:r[i]?=some w)(m:Cr){S:Cell->Int->Prop}(h:BN m S)(hd:FM S)(B:∀p x,XV r w p x->¬S p x) :
  ∃F,@X2 wv a ⟨r,(r.length:Int),(i:Int),r,m,()⟩=some (.go ⟨r,(r.length:Int),((i+1:Nat):Int),r,F,()⟩) /\
   BN F (λp x=>S p x\/XV r w p x):=by
 have hi:=(Ab.1 A).1;have J:=Ac A;have G:=hr.y w J;have g:=hr.rs w J;have Y:@W.ar wv .add .i64 (i:Int) 1=((i+1:Nat):Int):=by rw [J3,wr (by omega) (by omega)];omega
 obtain ⟨up,ku,H,xu⟩:=Jt9 g (kS hr (w.1 - 1));obtain ⟨dn,kd,v,xd⟩:=Jt9 g (kS hr (w.1+1));obtain ⟨P,M,X⟩:=pF a (EJ r (w.1+1)) r (r.length:Int) (i:Int) up r w.1 w.2 m h hd H (by have:=rA H;omega) (λx hx=>B _ _ (.inl ⟨rfl,(xu x).1 hx,rfl⟩));have y:FM (λp x=>S p x\/(p.2=w.1/\Jf up p.1/\x=0)):=λp x d=>d.elim (hd p x) λd=>.inl d.2.2;obtain ⟨O,L,R⟩:=oz a r (r.length:Int) (i:Int) dn r w.1 w.2 P X y v (by have:=rA v;omega) G (λx hx f=>by
  rcases f with f|f
  ·exact B _ _ (.inr (.inl ⟨rfl,by dsimp only;rw [show x+1 - 1=x by omega];exact (xd x).1 hx,rfl⟩)) f
  ·have:=f.2.2;omega)
 have E:FM (λp x=>(S p x\/(p.2=w.1/\Jf up p.1/\x=0))\/(p.2=w.1+1/\Jf dn (p.1 - 1)/\x=2)):=λp x d=>d.elim (y p x) λd=>.inr (.inr (.inl d.2.2));obtain ⟨N,K,Q⟩:=oq a r (r.length:Int) (i:Int) w.2 r w.1 w.2 O R E g (by have:=rA g;omega) G (λu l f=>by
  rcases f with (f|f)|f
  ·exact B (u.2,w.1) 1 (.inr (.inr (.inl ⟨rfl,⟨u,l,rfl⟩,rfl⟩))) f
  ·have:=f.2.2;omega
  ·have:=f.2.2;omega) (λu l f=>by
  rcases f with (f|f)|f
  ·exact B (u.1,w.1+1) 3 (.inr (.inr (.inr ⟨rfl,⟨u,l,rfl⟩,rfl⟩))) f
  ·have:=f.2.2;omega
  ·have:=f.2.2;omega)
 refine ⟨N,?_,Q.congr λp x=>?_⟩
 ·unfold X2;dsimp only;rw [J5 (by omega),AP (fg A),QK hr o A];dsimp only;rw [ku];refine (BL M).trans ?_;dsimp only;rw [kd];refine (BL L).trans ?_;dsimp only;refine (BL K).trans ?_;dsimp only;rw [Y]
 ·unfold XV;rw [xu,xd];constructor
  ·rintro (((d|d)|d)|d|d)
   ·exact .inl d
   ·exact .inr (.inl d)
   ·exact .inr (.inr (.inl d))
   ·exact .inr (.inr (.inr (.inl d)))
   ·exact .inr (.inr (.inr (.inr d)))
  ·rintro (d|d|d|d|d)
   ·exact .inl (.inl (.inl d))
   ·exact .inl (.inl (.inr d))
   ·exact .inl (.inr d)
   ·exact .inr (.inl d)
   ·exact .inr (.inr d)
def Qm(p:Cell)(x:Int):Cell:=if x=0 then p else if x=1 then (p.1 - 1,p.2) else if x=2 then (p.1 - 1,p.2 - 1) else (p.1,p.2 - 1)
theorem Ka8{r:AY}{w:Row}{p:Cell}{x:Int}(h:XV r w p x):w.1=(Qm p x).2:=by
 unfold Qm;rcases h with ⟨a,_,rfl⟩|⟨a,_,rfl⟩|⟨a,_,rfl⟩|⟨a,_,rfl⟩
 ·rw [if_pos rfl];omega
 ·rw [if_neg (by decide),if_neg (by decide),if_pos rfl];dsimp only;omega
 ·rw [if_neg (by decide),if_pos rfl];dsimp only;omega
 ·rw [if_neg (by decide),if_neg (by decide),if_neg (by decide)];dsimp only;omega
theorem OT{r:AY}{w:Row}{p:Cell}{x:Int}(h:XV r w p x):x=0\/x=1\/x=2\/x=3:=by rcases h with ⟨_,_,rfl⟩|⟨_,_,rfl⟩|⟨_,_,rfl⟩|⟨_,_,rfl⟩<;>simp
theorem J6p(a r:AY)(hr:AL r)(h:r.length<=1000000000) :
  ∃m,X0 (@X2 wv a) CU ⟨r,(r.length:Int),0,r,[],()⟩=some ⟨m,()⟩/\BN m (λp x=>∃w∈r,XV r w p x):=by
 obtain ⟨e,G,m,rfl,E⟩:=Xr (b:=@X2 wv a)
  (λi s=>∃m,s=⟨r,(r.length:Int),(i:Int),r,m,()⟩/\BN m (λp x=>∃w∈r.take i,XV r w p x))
  (λe=>∃m,e=⟨m,()⟩/\BN m (λp x=>∃w∈r,XV r w p x))
  r.length (by omega) (s0:=⟨r,(r.length:Int),0,r,[],()⟩)
  ⟨[],rfl,BN.nil.congr λp x=>⟨False.elim,λ⟨w,g,_⟩=>by rw [Bd] at g;exact (Ao g).elim⟩⟩
  (λi s hi=>by
   rintro ⟨o,rfl,A⟩;have g:r[i]?=some r[i]:=Aa hi;obtain ⟨B,q,J⟩:=XP a r hr h g o A (λp x ⟨w,_,f⟩=>OT f) (λp x f ⟨w,d,y⟩=>by obtain ⟨j,F⟩:=Ah d;obtain ⟨v,e⟩:=Ab.1 F;rw [Bo] at v;rw [Dd] at e;have H:=YE hr (Aa (l:=r) (i:=j) (by omega)) g (by omega);rw [e,Ka8 f,Ka8 y] at H;omega)
   refine ⟨_,q,B,rfl,J.congr λp x=>?_⟩;rw [Ka g];constructor
   ·rintro (⟨w,d,f⟩|f)
    ·exact ⟨w,Ae.2 (.inl d),f⟩
    ·exact ⟨_,Ae.2 (.inr (Ad.2 rfl)),f⟩
   ·rintro ⟨w,d,f⟩;rcases Ae.1 d with d|d
    ·exact .inl ⟨w,d,f⟩
    ·rw [Ad] at d;subst d;exact .inr f)
  (by
   rintro s ⟨o,rfl,A⟩;refine ⟨_,?_,o,rfl,A.congr λp x=>?_⟩
   ·unfold X2;dsimp only;rw [Jr (by omega)]
   ·rw [Ba])
 exact ⟨m,G,E⟩
def DI(r:AY)(p:Cell)(x:Int):Prop:=
 (x=0/\Qo r (p.1,p.2)/\¬Qo r (p.1,p.2 - 1))\/(x=1/\Qo r (p.1 - 1,p.2)/\¬Qo r (p.1,p.2)) \/
 (x=2/\Qo r (p.1 - 1,p.2 - 1)/\¬Qo r (p.1 - 1,p.2))\/(x=3/\Qo r (p.1,p.2 - 1)/\¬Qo r (p.1 - 1,p.2 - 1))
theorem J19{lo hi:Int}{l:List Run}(h:AJ lo hi l)(x:Int):(∃u∈l,x=u.2)↔Jf l (x - 1)/\¬Jf l x:=by
 constructor
 ·rintro ⟨u,d,rfl⟩;have E:=h.bd u d;refine ⟨⟨u,d,by omega,by omega⟩,?_⟩;rintro ⟨v,r,B,A⟩;obtain ⟨i,hi⟩:=Ah d;obtain ⟨j,y⟩:=Ah r;obtain ⟨o,g⟩:=Ab.1 hi;obtain ⟨m,f⟩:=Ab.1 y;have pw:=Aj.1 h.pw;rcases Bb i j with a|a|a
  ·have:=pw i j o m a;rw [g,f] at this;omega
  ·subst a;rw [g] at f;subst f;omega
  ·have:=pw j i m o a;rw [g,f] at this;omega
 ·rintro ⟨⟨u,d,B,A⟩,w⟩;refine ⟨u,d,?_⟩;by_cases hx:x<u.2
  ·exact (w ⟨u,d,by omega,hx⟩).elim
  ·omega
theorem Kbi{lo hi:Int}{l:List Run}(h:AJ lo hi l)(x:Int):(∃u∈l,x=u.1)↔Jf l x/\¬Jf l (x - 1):=by
 constructor
 ·rintro ⟨u,d,rfl⟩;have E:=h.bd u d;refine ⟨⟨u,d,by omega,by omega⟩,?_⟩;rintro ⟨v,r,B,A⟩;obtain ⟨i,hi⟩:=Ah d;obtain ⟨j,y⟩:=Ah r;obtain ⟨o,g⟩:=Ab.1 hi;obtain ⟨m,f⟩:=Ab.1 y;have pw:=Aj.1 h.pw;rcases Bb i j with a|a|a
  ·have:=pw i j o m a;rw [g,f] at this;omega
  ·subst a;rw [g] at f;subst f;omega
  ·have:=pw j i m o a;rw [g,f] at this;omega
 ·rintro ⟨⟨u,d,B,A⟩,w⟩;refine ⟨u,d,?_⟩;by_cases hx:u.1<=x - 1
  ·exact (w ⟨u,d,hx,by omega⟩).elim
  ·omega
theorem DC{r:AY}(hr:AL r){w:Row}(a:w∈r){x y:Int}(e:y=w.1):Qo r (x,y)↔Jf w.2 x:=by rw [YP hr,e,aS hr a]
theorem Wm{r:AY}(hr:AL r)(p:Cell)(x:Int):(∃w∈r,XV r w p x)↔DI r p x:=by
 constructor
 ·rintro ⟨w,d,h⟩;have m:=hr.rs w d;rcases h with ⟨f,g,rfl⟩|⟨f,g,rfl⟩|⟨f,g,rfl⟩|⟨f,g,rfl⟩
  ·exact .inl ⟨rfl,(DC hr d f).2 g.1,by rw [YP hr,f];exact g.2⟩
  ·exact .inr (.inr (.inl ⟨rfl,(DC hr d (by omega)).2 g.1,by rw [YP hr,f];exact g.2⟩))
  ·have:=(J19 m p.1).1 g;exact .inr (.inl ⟨rfl,(DC hr d f).2 this.1,λl=>this.2 ((DC hr d f).1 l)⟩)
  ·have:=(Kbi m p.1).1 g;exact .inr (.inr (.inr ⟨rfl,(DC hr d (by omega)).2 this.1,λl=>this.2 ((DC hr d (by omega)).1 l)⟩))
 ·have key:∀ {a b:Int},Qo r (a,b)->∃w∈r,w.1=b:=λ⟨w,d,e,_⟩=>⟨w,d,e⟩;rintro (⟨rfl,f,g⟩|⟨rfl,f,g⟩|⟨rfl,f,g⟩|⟨rfl,f,g⟩)
  ·obtain ⟨w,d,e⟩:=key f;exact ⟨w,d,.inl ⟨e.symm,⟨(DC hr d e.symm).1 f,λl=>g (by rw [YP hr,<-e];exact l)⟩,rfl⟩⟩
  ·obtain ⟨w,d,e⟩:=key f;exact ⟨w,d,.inr (.inr (.inl ⟨e.symm,(J19 (hr.rs w d) p.1).2 ⟨(DC hr d e.symm).1 f,λl=>g ((DC hr d e.symm).2 l)⟩,rfl⟩))⟩
  ·obtain ⟨w,d,e⟩:=key f;exact ⟨w,d,.inr (.inl ⟨by omega,⟨(DC hr d e.symm).1 f,λl=>g (by rw [YP hr,show p.2=w.1+1 by omega];exact l)⟩,rfl⟩)⟩
  ·obtain ⟨w,d,e⟩:=key f;exact ⟨w,d,.inr (.inr (.inr ⟨by omega,(Kbi (hr.rs w d) p.1).2 ⟨(DC hr d e.symm).1 f,λl=>g ((DC hr d e.symm).2 l)⟩,rfl⟩))⟩
theorem DI.e{r:AY}{p:Cell}{x:Int}(h:DI r p x):x=0\/x=1\/x=2\/x=3:=by rcases h with ⟨h,_⟩|⟨h,_⟩|⟨h,_⟩|⟨h,_⟩<;>simp [h]
theorem DI.opp{r:AY}{p:Cell}{x y:Int}(h:DI r p x)(h':DI r p y)(l:x≠y):(x+2) % 4=y:=by
 rcases h with ⟨rfl,g,f⟩|⟨rfl,g,f⟩|⟨rfl,g,f⟩|⟨rfl,g,f⟩ <;>
 rcases h' with ⟨rfl,d,a⟩|⟨rfl,d,a⟩|⟨rfl,d,a⟩|⟨rfl,d,a⟩ <;>
 first|rfl|exact (l rfl).elim|exact (f d).elim|exact (a g).elim
open Classical in
noncomputable def Eb(r:AY)(p:Cell)(x:Int):Int:=
 let q:=Zb x p
 if DI r q ((x+1) % 4) then (x+1) % 4 else if DI r q x then x else (x+3) % 4
open Classical in
theorem J1w{r:AY}{p:Cell}{x:Int}(h:DI r p x):DI r (Zb x p) (Eb r p x):=by
 unfold Eb;dsimp only;split
 ·assumption
 split
 ·assumption
 ·next g f=>
  rcases h with ⟨rfl,d,a⟩|⟨rfl,d,a⟩|⟨rfl,d,a⟩|⟨rfl,d,a⟩<;>simp [Zb,DI] at *<;>grind
open Classical in
theorem VO{r:AY}{p q:Cell}{x y:Int}(o:DI r p x)(v:DI r q y)(a:Zb x p=Zb y q)(m:Eb r p x=Eb r q y):p=q/\x=y:=by
 by_cases d:x=y
 ·subst d;refine ⟨?_,rfl⟩;unfold Zb at a;rw [Prod.ext_iff] at a ⊢;split at a
  ·dsimp only at a;omega
  split at a
  ·dsimp only at a;omega
  split at a<;>(dsimp only at a;omega)
 ·exfalso;unfold Eb at m;dsimp only at m;rw [<-a] at m;have w:=o;obtain ⟨F,E⟩:=p;obtain ⟨B,A⟩:=q;rcases o with ⟨rfl,l,h⟩|⟨rfl,l,h⟩|⟨rfl,l,h⟩|⟨rfl,l,h⟩ <;>
  rcases v with ⟨rfl,g,f⟩|⟨rfl,g,f⟩|⟨rfl,g,f⟩|⟨rfl,g,f⟩ <;>
  first
   | exact (d rfl).elim
   | (simp [Zb,DI] at *<;>grind)
section
variable {α:Type}
def BR(f:α->α):Nat->α->α
 | 0,c=>c
 | k+1,c=>f (BR f k c)
theorem Me(f:α->α)(c:α)(j:Nat):∀k,BR f (k+j) c=BR f k (BR f j c)
 | 0=>by rw [Nat.zero_add];rfl
 | k+1=>by rw [Nat.add_right_comm];exact congrArg f (Me f c j k)
theorem Tm:∀ {l m:List α},l.Nodup->(∀x∈l,x∈m)->l.length<=m.length
 | [],_,_,_=>Nat.zero_le _
 | x::l,m,h,hs=>by
  classical
  obtain ⟨f,d⟩:=Ay.1 h;have hx:=hs x (Af ..);have:=Tm (m:=m.erase x) d λy a=>(Dv (λe=>f (by rw [<-e];exact a))).2 (hs y (Ai _ a));rw [Dg hx] at this;have:=Bl hx;rw [Ar];omega
structure Ring (f:α->α) (cl:List α):Prop where
 mem:∀c∈cl,f c∈cl
 inj:∀c∈cl,∀d∈cl,f c=f d->c=d
variable {f:α->α} {cl:List α}
theorem Ring.EM(h:Ring f cl){c:α}(a:c∈cl):∀k,BR f k c∈cl
 | 0=>a
 | k+1=>h.mem _ (h.EM a k)
theorem Ring.Fj(h:Ring f cl){c d:α}(a:c∈cl)(hd:d∈cl):∀k,BR f k c=BR f k d->c=d
 | 0,e=>e
 | k+1,e=>h.Fj a hd k (h.inj _ (h.EM a k) _ (h.EM hd k) e)
structure Ez (f:α->α) (c:α) (N:Nat):Prop where
 pos:0<N
 back:BR f N c=c
 ne:∀i,0<i->i<N->BR f i c≠c
theorem Ring.zG(h:Ring f cl){c:α}(w:c∈cl):∃N,Ez f c N/\N<=cl.length:=by
 classical
 have v:∃n,0<n/\n<=cl.length/\BR f n c=c:=by
  apply As;intro l;have o:((Bh (cl.length+1)).map λi=>BR f i c).Nodup:=by
   refine List.pairwise_map.2 ?_;refine List.Pairwise.imp_of_mem (R:=(·<·)) (λ{i j} hi B E e=>?_) Dp;rw [Bc] at hi B;refine l ⟨j - i,by omega,by omega,?_⟩;have G:BR f j c=BR f i (BR f (j - i) c):=by rw [<-Me,show i+(j - i)=j by omega]
   exact (h.Fj w (h.EM w _) i (by rw [<-G];exact e)).symm
  have:=Tm o λx hx=>by obtain ⟨i,_,rfl⟩:=Dh.1 hx;exact h.EM w i
  rw [Dm,List.length_range] at this;omega
 have r:∃N,(0<N/\N<=cl.length/\BR f N c=c)/\∀i,0<i->i<N->BR f i c≠c:=by
  obtain ⟨n,A⟩:=v
  induction n using Dj with
  | _ n y=>
   by_cases hx:∃m,m<n/\0<m/\BR f m c=c
   ·obtain ⟨m,g,d,a⟩:=hx;exact y m g ⟨d,by omega,a⟩
   ·exact ⟨n,A,λi g d a=>hx ⟨i,d,g,a⟩⟩
 obtain ⟨N,⟨g,d,a⟩,F⟩:=r;exact ⟨N,⟨g,a,F⟩,d⟩
theorem Ez.per{c:α}{N:Nat}(h:Ez f c N)(k:Nat):BR f (k+N) c=BR f k c:=by rw [Me,h.back]
theorem Ez.from(hr:Ring f cl){c:α}{N:Nat}(h:Ez f c N)(a:c∈cl)(j:Nat):Ez f (BR f j c) N:=by
 have e:∀i,BR f i (BR f j c)=BR f j (BR f i c):=λi=>by rw [<-Me,<-Me,Nat.add_comm]
 refine ⟨h.pos,by rw [e,h.back],λi l g d=>h.ne i l g ?_⟩;rw [e] at d;exact hr.Fj (hr.EM a i) a j d
theorem Ez.Ph{c:α}{N:Nat}(h:Ez f c N):∀k,∃i,i<N/\BR f k c=BR f i c
 | 0=>⟨0,h.pos,rfl⟩
 | k+1=>by
  obtain ⟨i,g,a⟩:=h.Ph k;by_cases d:i+1<N
  ·exact ⟨i+1,d,congrArg f a⟩
  ·refine ⟨0,h.pos,(congrArg f a).trans ?_⟩;have:i+1=N:=by omega
   rw [show f (BR f i c)=BR f (i+1) c from rfl,this,h.back];rfl
theorem Ez.to(c:α){N:Nat}(h:Ez f c N)(k:Nat):∃j,BR f j (BR f k c)=c:=by
 refine ⟨N * k - k,?_⟩;have d:k<=N * k:=Nat.le_mul_of_pos_left _ h.pos;rw [<-Me,show N * k - k+k=N * k by omega];clear d
 induction k with
 | zero=>rfl
 | succ k a=>rw [Nat.mul_succ,h.per,a]
theorem Ring.dist(h:Ring f cl){c:α}(d:c∈cl){N:Nat}(hN:Ez f c N){i j:Nat}(hi:i<N)(l:j<N)(e:BR f i c=BR f j c):i=j:=by
 rcases Bb i j with a|a|a
 ·have g:BR f j c=BR f i (BR f (j - i) c):=by rw [<-Me,show i+(j - i)=j by omega]
  exact (hN.ne (j - i) (by omega) (by omega) (h.Fj d (h.EM d _) i (by rw [<-g];exact e)).symm).elim
 ·exact a
 ·have g:BR f i c=BR f j (BR f (i - j) c):=by rw [<-Me,show j+(i - j)=i by omega]
  exact (hN.ne (i - j) (by omega) (by omega) (h.Fj d (h.EM d _) j (by rw [<-g];exact e.symm)).symm).elim
end
abbrev Ck:=Cell×Int
open Classical in
noncomputable def NU(r:AY)(c:Cell):List Ck:=
 (if Qo r (c.1,c.2 - 1) then [] else [((c.1,c.2),0)])++(if Qo r (c.1+1,c.2) then [] else [((c.1+1,c.2),1)]) ++
 (if Qo r (c.1,c.2+1) then [] else [((c.1+1,c.2+1),2)])++(if Qo r (c.1 - 1,c.2) then [] else [((c.1,c.2+1),3)])
noncomputable def Cy(r:AY):List Ck:=(K8 r).flatMap (NU r)
theorem lK{r:AY}{c:Cell}{k:Ck}:k∈NU r c↔(¬Qo r (c.1,c.2 - 1)/\k=((c.1,c.2),0))\/(¬Qo r (c.1+1,c.2)/\k=((c.1+1,c.2),1)) \/
  (¬Qo r (c.1,c.2+1)/\k=((c.1+1,c.2+1),2))\/(¬Qo r (c.1 - 1,c.2)/\k=((c.1,c.2+1),3)):=by
 classical
 have h:∀(p:Prop) (x:Ck),k∈(if p then [] else [x])↔¬p/\k=x:=λp x=>by by_cases a:p<;>simp [a]
 unfold NU;simp only [Ae,h,or_assoc]
theorem zh{r:AY}{k:Ck}:k∈Cy r↔DI r k.1 k.2:=by
 unfold Cy;rw [Bm];obtain ⟨⟨x,y⟩,h⟩:=k;constructor
 ·rintro ⟨⟨a,b⟩,g,l⟩;rw [TD] at g;rcases lK.1 l with ⟨d,f⟩|⟨d,f⟩|⟨d,f⟩|⟨d,f⟩<;>simp only [Prod.mk.injEq] at f<;>obtain ⟨⟨rfl,rfl⟩,rfl⟩:=f
  ·exact .inl ⟨rfl,g,d⟩
  ·exact .inr (.inl ⟨rfl,by simpa using g,d⟩)
  ·exact .inr (.inr (.inl ⟨rfl,by simpa using g,by simpa using d⟩))
  ·exact .inr (.inr (.inr ⟨rfl,by simpa using g,by simpa using d⟩))
 ·rintro (⟨e,d,f⟩|⟨e,d,f⟩|⟨e,d,f⟩|⟨e,d,f⟩)<;>have e:h=_:=e<;>subst e
  ·exact ⟨_,TD.2 d,lK.2 (.inl ⟨f,rfl⟩)⟩
  ·exact ⟨_,TD.2 d,lK.2 (.inr (.inl ⟨by simpa using f,by simp⟩))⟩
  ·exact ⟨_,TD.2 d,lK.2 (.inr (.inr (.inl ⟨by simpa using f,by simp⟩)))⟩
  ·exact ⟨_,TD.2 d,lK.2 (.inr (.inr (.inr ⟨by simpa using f,by simp⟩)))⟩
noncomputable def nx(r:AY)(c:Ck):Ck:=(Zb c.2 c.1,Eb r c.1 c.2)
theorem ring(r:AY):Ring (nx r) (Cy r):=
 ⟨λc a=>zh.2 (J1w (zh.1 a)),λc a d hd e=>by obtain ⟨l,h⟩:=Prod.mk.injEq ..▸e;obtain ⟨g,f⟩:=VO (zh.1 a) (zh.1 hd) l h;exact Prod.ext g f⟩
def CS(r:AY)(c:Ck):Prop:=DI r c.1 c.2/\∀k,¬yx (BR (nx r) k c).1 c.1
theorem J2a(p:Cell){h:Int}(a:h=2\/h=3):yx (Zb h p) p:=by unfold yx Zb;rcases a with rfl|rfl<;>simp<;>omega
theorem J8z(p:Cell){h:Int}(a:h=0\/h=1):yx p (Zb h p):=by unfold yx Zb;rcases a with rfl|rfl<;>simp<;>omega
theorem CS.e{r:AY}{c:Ck}(h:CS r c):c.2=0\/c.2=1:=by
 rcases h.1.e with e|e|e|e
 ·exact .inl e
 ·exact .inr e
 ·exact (h.2 1 (J2a c.1 (.inl e))).elim
 ·exact (h.2 1 (J2a c.1 (.inr e))).elim
theorem CS.mem{r:AY}{c:Ck}(h:CS r c):c∈Cy r:=zh.2 h.1
theorem Y0{r:AY}{c:Ck}(h:DI r c.1 c.2)(k:Nat):DI r (BR (nx r) k c).1 (BR (nx r) k c).2:=zh.1 ((ring r).EM (zh.2 h) k)
theorem CS.prev{r:AY}{c:Ck}(h:CS r c){k:Nat}(d:BR (nx r) (k+1) c=c):(BR (nx r) k c).2=2\/(BR (nx r) k c).2=3:=by
 have e:nx r (BR (nx r) k c)=c:=d;have a:Zb (BR (nx r) k c).2 (BR (nx r) k c).1=c.1:=congrArg Prod.fst e;rcases (Y0 h.1 k).e with e|e|e|e
 ·exact (h.2 k (by have:=J8z (BR (nx r) k c).1 (.inl e);rwa [a] at this)).elim
 ·exact (h.2 k (by have:=J8z (BR (nx r) k c).1 (.inr e);rwa [a] at this)).elim
 ·exact .inl e
 ·exact .inr e
theorem CS.only{r:AY}{c d:Ck}(h:CS r c)(hd:DI r d.1 d.2)(e:d.1=c.1)(g:¬yx (nx r d).1 c.1):d=c:=by
 refine Prod.ext e ?_;apply As;intro a;have f:=h.1.opp (y:=d.2) (by rw [<-e];exact hd) (λe=>a e.symm);have l:d.2=2\/d.2=3:=by rcases h.e with e|e<;>rw [e] at f<;>omega
 exact g (by rw [<-e];exact J2a d.1 l)
theorem CS.ne{r:AY}{c:Ck}(h:CS r c){N:Nat}(hN:Ez (nx r) c N){k:Nat}(d:0<k)(a:k<N):(BR (nx r) k c).1≠c.1:=λe=>
 hN.ne k d a (h.only (Y0 h.1 k) e (h.2 (k+1)))
theorem CS.uniq{r:AY}{c d:Ck}(h:CS r c)(h':CS r d)(e:d.1=c.1):d=c:=
 h.only h'.1 e (by rw [<-e];exact h'.2 1)
theorem qE(a b:Cell):yx a b\/a=b\/yx b a:=by
 unfold yx;by_cases h:a=b
 ·exact .inr (.inl h)
 ·have:¬(a.1=b.1/\a.2=b.2):=λe=>h (Prod.ext e.1 e.2);omega
theorem qg{a b c:Cell}(h:yx a b)(h':yx b c):yx a c:=by unfold yx at *;omega
theorem Ka2{r:AY}{c:Ck}(h:DI r c.1 c.2):∃j,CS r (BR (nx r) j c):=by
 obtain ⟨N,hN,_⟩:=(ring r).zG (zh.2 h);have key:∀n,0<n->∃j,j<n/\∀k,k<n->¬yx (BR (nx r) k c).1 (BR (nx r) j c).1:=by
  intro n v
  induction n with
  | zero=>omega
  | succ n l=>
   by_cases o:0<n
   ·obtain ⟨j,m,d⟩:=l o;by_cases g:yx (BR (nx r) n c).1 (BR (nx r) j c).1
    ·refine ⟨n,by omega,λk f a=>?_⟩;by_cases e:k=n
     ·subst e;exact au _ a
     ·exact d k (by omega) (qg a g)
    ·refine ⟨j,by omega,λk f=>?_⟩;by_cases e:k=n
     ·subst e;exact g
     ·exact d k (by omega)
   ·have:n=0:=by omega
    subst this;exact ⟨0,by omega,λk d=>by rw [show k=0 by omega];exact au _⟩
 obtain ⟨j,m,d⟩:=key N hN.pos;refine ⟨j,Y0 h j,λk=>?_⟩;rw [<-Me];obtain ⟨i,hi,e⟩:=hN.Ph (k+j);rw [e];exact d i hi
noncomputable def JJ(r:AY)(c:Ck)(k:Nat):Option Cell:=if (BR (nx r) (k+1) c).2=(BR (nx r) k c).2 then none else some (BR (nx r) (k+1) c).1
noncomputable def seg(r:AY)(c:Ck)(a n:Nat):List Cell:=(Bh n).filterMap λi=>JJ r c (a+i)
noncomputable def poly(r:AY)(c:Ck)(N:Nat):List Cell:=c.1::seg r c 0 (N - 1)
theorem qc(r:AY)(c:Ck)(a n:Nat):seg r c a (n+1)=seg r c a n++(JJ r c (a+n)).toList:=by unfold seg;rw [Bs,Ds];cases h:JJ r c (a+n)<;>simp [h]
theorem qN(r:AY)(c:Ck)(a m:Nat):∀n,seg r c a (m+n)=seg r c a m++seg r c (a+m) n
 | 0=>by simp [seg]
 | n+1=>by rw [<-Dx,qc,qN r c a m n,qc,Bz,Dx]
theorem J8g(r:AY)(c:Ck)(a:Nat):seg r c a 1=(JJ r c a).toList:=by rw [show (1:Nat)=0+1 from rfl,qc];simp [seg]
theorem Jze(r:AY)(c:Ck)(j k:Nat):JJ r (BR (nx r) j c) k=JJ r c (k+j):=by unfold JJ;rw [<-Me,<-Me,show k+1+j=k+j+1 by omega]
theorem Nq{r:AY}{c:Ck}{N:Nat}(h:Ez (nx r) c N)(k:Nat):JJ r c (k+N)=JJ r c k:=by unfold JJ;rw [show k+N+1=k+1+N by omega,h.per,h.per]
theorem OM(r:AY)(c:Ck)(j a n:Nat):seg r (BR (nx r) j c) a n=seg r c (a+j) n:=by
 unfold seg
 congr 1
 funext i;rw [Jze,show a+i+j=a+j+i by omega]
theorem J9x{r:AY}{c:Ck}{N:Nat}(h:Ez (nx r) c N)(a n:Nat):seg r c (a+N) n=seg r c a n:=by
 unfold seg
 congr 1
 funext i;rw [show a+N+i=a+i+N by omega,Nq h]
theorem J9r{r:AY}{c:Ck}{a n:Nat}{x:Cell}(h:x∈seg r c a n):∃i,i<n/\x=(BR (nx r) (a+i+1) c).1:=by
 unfold seg at h;obtain ⟨i,hi,e⟩:=List.mem_filterMap.1 h;refine ⟨i,Bc.1 hi,?_⟩;unfold JJ at e;split at e
 ·cases e
 ·injection e with e;exact e.symm
theorem CS.turn{r:AY}{s:Ck}(h:CS r s){N:Nat}(hN:Ez (nx r) s N):JJ r s (N - 1)=some s.1:=by
 have a:=hN.pos;unfold JJ;have e:BR (nx r) (N - 1+1) s=s:=by rw [show N - 1+1=N by omega,hN.back]
 rw [e,if_neg];have f:=h.e;have d:=h.prev e;omega
theorem Ox{r:AY}{s:Ck}(h:CS r s){N:Nat}(hN:Ez (nx r) s N):poly r s N=seg r s (N - 1) N:=by
 have a:=hN.pos;have e:seg r s (N - 1) (1+(N - 1))=seg r s (N - 1) N:=by rw [show 1+(N - 1)=N by omega]
 rw [<-e,qN,J8g,h.turn hN,show N - 1+1=0+N by omega,J9x hN];rfl
theorem CS.above{r:AY}{s:Ck}(h:CS r s){N:Nat}(hN:Ez (nx r) s N){k:Nat}(d:0<k)(a:k<N):yx s.1 (BR (nx r) k s).1:=by
 rcases qE s.1 (BR (nx r) k s).1 with e|e|e
 ·exact e
 ·exact (h.ne hN d a e.symm).elim
 ·exact (h.2 k e).elim
theorem J71{r:AY}{c:Ck}(d:DI r c.1 c.2){N j:Nat}(hN:Ez (nx r) c N)(g:j<N)(h:CS r (BR (nx r) j c)) :
  ∃A B,seg r c (N - 1) N=A++(BR (nx r) j c).1::B/\poly r (BR (nx r) j c) N=(BR (nx r) j c).1::B++A/\∀x∈A++B,yx (BR (nx r) j c).1 x:=by
 have hs:Ez (nx r) (BR (nx r) j c) N:=hN.from (ring r) (zh.2 d) j
 have f:=hN.pos;have a:=h.turn hs;rw [Jze] at a;have eB:seg r c (N - 1+j) (N - j)=(BR (nx r) j c).1::seg r c (N+j) (N - j - 1):=by
  conv=>lhs;rw [show N - j=1+(N - j - 1) by omega]
  rw [qN,J8g,a,show N - 1+j+1=N+j by omega];rfl
 refine ⟨seg r c (N - 1) j,seg r c (N+j) (N - j - 1),?_,?_,?_⟩
 ·rw [<-eB,<-qN,show j+(N - j)=N by omega]
 ·rw [Ox h hs,OM,<-eB];have e:seg r c (N - 1+j) ((N - j)+j)=seg r c (N - 1+j) N:=by rw [show N - j+j=N by omega]
  rw [<-e,qN,show N - 1+j+(N - j)=N - 1+N by omega,J9x hN]
 ·intro x hx;rcases Ae.1 hx with hx|hx
  ·obtain ⟨i,hi,rfl⟩:=J9r hx;have:=h.above hs (k:=i+N - j) (by omega) (by omega);rwa [<-Me,show i+N - j+j=N - 1+i+1 by omega] at this
  ·obtain ⟨i,hi,rfl⟩:=J9r hx;have:=h.above hs (k:=i+1) (by omega) (by omega);rwa [<-Me,<-hN.per (i+1+j),show i+1+j+N=N+j+i+1 by omega] at this
theorem Ez.uniq{α:Type}{f:α->α}{c:α}{N M:Nat}(h:Ez f c N)(h':Ez f c M):N=M:=by
 rcases Bb N M with e|e|e
 ·exact (h'.ne N h.pos e h.back).elim
 ·exact e
 ·exact (h.ne M h'.pos e h'.back).elim
open Classical in
noncomputable def EK(r:AY)(c:Ck):Nat:=if h:∃N,Ez (nx r) c N then h.choose else 0
theorem YN{r:AY}{c:Ck}(h:DI r c.1 c.2):Ez (nx r) c (EK r c):=by have hx:∃N,Ez (nx r) c N:=(ring r).zG (zh.2 h) |>.imp λN h=>h.1;unfold EK;rw [dif_pos hx];exact hx.choose_spec
theorem qK{r:AY}{c:Ck}{N:Nat}(h:DI r c.1 c.2)(hN:Ez (nx r) c N):EK r c=N:=(YN h).uniq hN
theorem kZ{r:AY}{c:Ck}(h:DI r c.1 c.2):EK r c<=(Cy r).length:=by obtain ⟨N,d,a⟩:=(ring r).zG (zh.2 h);rw [qK h d];exact a
noncomputable def pol(r:AY)(c:Ck):List Cell:=poly r c (EK r c)
structure Starts (r:AY) (l:List Ck):Prop where
 pw:l.Pairwise λa b=>yx a.1 b.1
 mem:∀c,c∈l↔CS r c
theorem Starts.uniq{r:AY}{l m:List Ck}(h:Starts r l)(h':Starts r m):l=m:=
 wz (λa b h=>vL h) h.pw h'.pw λx=>(h.mem x).trans (h'.mem x).symm
def Closed(r:AY)(S:Ck->Prop):Prop:=(∀c,S c->DI r c.1 c.2)/\∀c,S c->S (nx r c)
theorem Closed.BR{r:AY}{S:Ck->Prop}(h:Closed r S){c:Ck}(a:S c):∀k,S (BR (nx r) k c)
 | 0=>a
 | k+1=>h.2 _ (h.BR a k)
theorem Closed.sub{r:AY}{S:Ck->Prop}(h:Closed r S){c:Ck}(a:DI r c.1 c.2):Closed r λd=>S d/\¬ ∃k,d=Go.Proofs.YtmfagdfkpjgeiaaGreat.BR (nx r) k c:=by
 refine ⟨λd hd=>h.1 d hd.1,λd hd=>⟨h.2 d hd.1,?_⟩⟩;rintro ⟨k,f⟩;refine hd.2 ?_;have hN:=YN a;have e:nx r d=nx r (Go.Proofs.YtmfagdfkpjgeiaaGreat.BR (nx r) (k+EK r c - 1) c):=by have g:=hN.pos;rw [f,show nx r (Go.Proofs.YtmfagdfkpjgeiaaGreat.BR (nx r) (k+EK r c - 1) c)=Go.Proofs.YtmfagdfkpjgeiaaGreat.BR (nx r) (k+EK r c - 1+1) c from rfl,show k+EK r c - 1+1=k+EK r c by omega,hN.per]
 exact ⟨_,(ring r).inj _ (zh.2 (h.1 d hd.1)) _ (zh.2 (Y0 a _)) e⟩
def BP(h:Int):Cell:=if h=0 then (1,0) else if h=1 then (0,1) else if h=2 then (-1,0) else (0,-1)
def Em(p d:Cell):Cell:=(p.1+d.1,p.2+d.2)
def fwd(p:Cell)(h:Int)(n:Nat):Cell:=(p.1+(n:Int) * (BP h).1,p.2+(n:Int) * (BP h).2)
theorem vw(h:Int)(p:Cell):Zb h p=Em p (BP h):=by
 unfold Zb Em BP;split
 ·simp
 split
 ·simp
 split
 ·simp [Int.sub_eq_add_neg]
 ·simp [Int.sub_eq_add_neg]
theorem Jwi(p:Cell)(h:Int):fwd p h 0=p:=by unfold fwd;simp
theorem Jwv(p:Cell)(h:Int)(n:Nat):fwd p h (n+1)=Zb h (fwd p h n):=by rw [vw];unfold fwd Em;dsimp only;rw [show ((n+1:Nat):Int)=(n:Int)+1 by omega,Int.add_mul,Int.add_mul,Int.one_mul,Int.one_mul,Int.add_assoc,Int.add_assoc]
section
variable (r:AY) (s:Ck)
noncomputable def Cc(k:Nat):Int:=(BR (nx r) k s).2
noncomputable def DV(k:Nat):Cell:=(BR (nx r) k s).1
theorem vF(k:Nat):DV r s (k+1)=Zb (Cc r s k) (DV r s k):=rfl
noncomputable def DZ(N:Nat):List Nat:=(Bh N).filter λk=>decide (k=0\/Cc r s k≠Cc r s (k - 1))
theorem J2s{N k:Nat}:k∈DZ r s N↔k<N/\(k=0\/Cc r s k≠Cc r s (k - 1)):=by unfold DZ;rw [List.mem_filter,Bc,decide_eq_true_eq]
theorem Ns(N:Nat):(DZ r s N).Pairwise (·<·):=List.Pairwise.filter _ Dp
theorem Jw9{N:Nat}(h:0<N):DZ r s N=0::((Bh (N - 1)).filter λk=>decide (Cc r s (k+1)≠Cc r s k)).map (·+1):=by
 unfold DZ;obtain ⟨M,rfl⟩:∃M,N=M+1:=⟨N - 1,by omega⟩;rw [Dl,List.filter_cons_of_pos (by simp),List.filter_map,Nat.add_sub_cancel]
 congr 2
 refine List.filter_congr λk _=>?_;simp
theorem Jw2{N:Nat}(h:0<N):poly r s N=(DZ r s N).map (DV r s):=by
 rw [Jw9 r s h,Ap,poly]
 congr 1
 unfold seg;generalize N - 1=M;clear h
 induction M with
 | zero=>rfl
 | succ M f=>
  rw [Bs,Ds,List.filter_append,Br,Br,f]
  congr 1
  have d:(0:Nat)+M=M:=Nat.zero_add M;by_cases a:Cc r s (M+1)=Cc r s M
  ·have:JJ r s M=none:=if_pos a;simp [a,this,d]
  ·have:JJ r s M=some (DV r s (M+1)):=if_neg a;simp [a,this,d]
noncomputable def tpN(N i:Nat):Nat:=(DZ r s N)[i]?.getD N
theorem qX{N:Nat}(h:0<N):tpN r s N 0=0:=by unfold tpN;rw [Jw9 r s h];rfl
theorem kV{N i:Nat}(h:(DZ r s N).length<=i):tpN r s N i=N:=by unfold tpN;rw [Ax h];rfl
theorem kU{N i:Nat}(h:i<(DZ r s N).length):(DZ r s N)[i]?=some (tpN r s N i):=by unfold tpN;rw [Aa h];rfl
theorem iC{N i:Nat}(h:i<(DZ r s N).length):tpN r s N i<tpN r s N (i+1):=by
 have a:=kU r s h;by_cases d:i+1<(DZ r s N).length
 ·exact yS (Ns r s N) a (kU r s d)
 ·rw [kV r s (i:=i+1) (by omega)];exact (J2s r s).1 (Ac a) |>.1
theorem sw{N i:Nat}:tpN r s N i<=N:=by
 by_cases h:i<(DZ r s N).length
 ·exact Nat.le_of_lt ((J2s r s).1 (Ac (kU r s h)) |>.1)
 ·rw [kV r s (by omega)];exact Aq _
theorem between{N i:Nat}(h:i<(DZ r s N).length){k:Nat}(J:tpN r s N i<k)(F:k<tpN r s N (i+1)):Cc r s k=Cc r s (k - 1):=by
 apply As;intro f;have A:k∈DZ r s N:=(J2s r s).2 ⟨Nat.lt_of_lt_of_le F (sw r s),.inr f⟩;obtain ⟨j,v⟩:=Ah A;have g:=(Ab.1 v).1;have e:tpN r s N j=k:=by unfold tpN;rw [v];rfl
 have mono:∀ {a b:Nat},a<b->b<(DZ r s N).length->tpN r s N a<tpN r s N b:=λ{a b} o B=>by have E:=kU r s (N:=N) (i:=a) (by omega);have m:=kU r s B;obtain ⟨y,H⟩:=Ab.1 E;obtain ⟨w,G⟩:=Ab.1 m;rw [<-H,<-G];exact Aj.1 (Ns r s N) a b y w o
 rcases Bb j i with d|d|d
 ·have:=mono d h;omega
 ·subst d;omega
 ·by_cases l:j=i+1
  ·subst l;omega
  ·have:=mono (a:=i+1) (b:=j) (by omega) g;omega
theorem qG{N i:Nat}(h:i<(DZ r s N).length):∀j,tpN r s N i+j<tpN r s N (i+1)->Cc r s (tpN r s N i+j)=Cc r s (tpN r s N i)
 | 0,_=>rfl
 | j+1,a=>by rw [between r s h (k:=tpN r s N i+(j+1)) (by omega) a,show tpN r s N i+(j+1) - 1=tpN r s N i+j by omega];exact qG h j (by omega)
theorem edge{N i:Nat}(h:i<(DZ r s N).length):∀j,tpN r s N i+j<=tpN r s N (i+1)->DV r s (tpN r s N i+j)=fwd (DV r s (tpN r s N i)) (Cc r s (tpN r s N i)) j
 | 0,_=>(Jwi _ _).symm
 | j+1,a=>by rw [<-Dx,vF,qG r s h j (by omega),edge h j (by omega),Jwv]
def VA(h h':Int):Prop:=h'=(h+3) % 4
instance (h h':Int):Decidable (VA h h'):=inferInstanceAs (Decidable (_=_))
noncomputable def Ef(k:Nat):List Cell:=Qm (DV r s k) (Cc r s k)::if VA (Cc r s k) (Cc r s (k+1)) then [Em (Qm (DV r s k) (Cc r s k)) (BP (Cc r s k))] else []
noncomputable def raw(n:Nat):List Cell:=(Bh n).flatMap (Ef r s)
theorem iN(n:Nat):raw r s (n+1)=raw r s n++Ef r s n:=by unfold raw;rw [Bs,Bt];simp
end
def ZE(a b:Cell):Prop:=((a.1 - b.1=1\/a.1 - b.1=-1)/\a.2=b.2)\/(a.1=b.1/\(a.2 - b.2=1\/a.2 - b.2=-1))
def near(a b:Cell):Prop:=a=b\/ZE a b
def HZ(R:Cell->Cell->Prop)(l:List Cell):Prop:=∀i a b,l[i]?=some a->l[i+1]?=some b->R a b
theorem HZ.nil(R:Cell->Cell->Prop):HZ R []:=λi a b h=>by simp at h
theorem HZ.snoc{R:Cell->Cell->Prop}{l:List Cell}{c:Cell}(h:HZ R l)(hl:∀a,l.getLast?=some a->R a c):HZ R (l++[c]):=by
 intro i a b f d;have hi:i+1<(l++[c]).length:=(Ab.1 d).1;rw [Am,Dt] at hi;by_cases g:i+1<l.length
 ·rw [Au (by omega)] at f d;exact h i a b f d
 ·have e:i+1=l.length:=by omega
  rw [Au (by omega)] at f;rw [Bf (by omega),show i+1 - l.length=0 by omega] at d;simp at d;subst d;exact hl a (by rw [De,show l.length - 1=i by omega];exact f)
theorem HZ.left{R:Cell->Cell->Prop}{l m:List Cell}(h:HZ R (l++m)):HZ R l:=λi a b f d=>by have g:=(Ab.1 d).1;exact h i a b (by rw [Au (by omega)];exact f) (by rw [Au (by omega)];exact d)
theorem HZ.last{R:Cell->Cell->Prop}{l:List Cell}{c a:Cell}(h:HZ R (l++[c]))(f:l.getLast?=some a):R a c:=by
 have d:l≠[]:=λe=>by subst e;simp at f
 have g:=Bu.2 d;rw [De] at f;exact h (l.length - 1) a c (by rw [Au (by omega)];exact f) (by rw [show l.length - 1+1=l.length by omega,Bf (by omega)];simp)
def JA(out:List Cell)(c:Cell):List Cell:=if out.getLast?=some c then out else out++[c]
def dd(l:List Cell):List Cell:=l.foldl JA []
theorem iF(l:List Cell)(c:Cell):dd (l++[c])=JA (dd l) c:=by unfold dd;rw [List.foldl_append];rfl
theorem Rx(l m:List Cell):dd (l++m)=m.foldl JA (dd l):=by unfold dd;rw [List.foldl_append]
theorem qY{P:List Cell->Prop}(f:P [])(d:∀l c,P l->P (l++[c]))(l:List Cell):P l:=by
 have key:∀m:List Cell,P m.reverse:=λm=>by
  induction m with
  | nil=>exact f
  | cons c m a=>rw [List.reverse_cons];exact d _ _ a
 have:=key l.reverse;rwa [List.reverse_reverse] at this
theorem Kbk(l:List Cell):(dd l).getLast?=l.getLast?:=by
 refine qY (P:=λl=>(dd l).getLast?=l.getLast?) rfl (λl c a=>?_) l;rw [iF,Az];unfold JA;split
 ·assumption
 ·exact Az ..
theorem Wi(l:List Cell):(dd l).head?=l.head?:=by
 refine qY (P:=λl=>(dd l).head?=l.head?) rfl (λl c d=>?_) l;rw [iF];have a:∀m:List Cell,(m++[c]).head?=m.head?.or (some c):=λm=>by cases m<;>rfl
 rw [a l,<-d];unfold JA;split
 ·rename_i h;cases hd:dd l with
  | nil=>rw [hd] at h;simp at h
  | cons x m=>rfl
 ·rw [a]
theorem fP(l:List Cell)(x:Cell):x∈dd l↔x∈l:=by
 refine qY (P:=λl=>x∈dd l↔x∈l) Iff.rfl (λl c a=>?_) l;rw [iF,Ae,Ad,<-a];unfold JA;split
 ·rename_i h;refine ⟨.inl,λhx=>hx.elim id λe=>?_⟩;subst e;exact List.mem_of_getLast? h
 ·rw [Ae,Ad]
theorem qC(l:List Cell):(dd l).length<=l.length:=by
 refine qY (P:=λl=>(dd l).length<=l.length) (Aq _) (λl c a=>?_) l;rw [iF,Am];unfold JA;split
 ·omega
 ·rw [Am];simp only [Dt];omega
theorem fQ{l:List Cell}(h:HZ near l):HZ ZE (dd l):=by
 revert h;refine qY (P:=λl=>HZ near l->HZ ZE (dd l)) (λ_=>HZ.nil _) (λl c f h=>?_) l;rw [iF];unfold JA;split
 ·exact f h.left
 ·rename_i d;refine (f h.left).snoc λa g=>?_;rcases h.last (by rw [<-Kbk];exact g) with e|m
  ·exact (d (by rw [g,e])).elim
  ·exact m
def trim(l:List Cell):List Cell:=if 1<l.length/\l.head?=l.getLast? then l.dropLast else l
def NA(l:List Cell):List Cell:=trim (dd l)
structure bJ (l:List Cell):Prop where
 ne:l≠[]
 adj:HZ ZE l
 cl:l.length=1\/∀a b,l.getLast?=some a->l.head?=some b->ZE a b
theorem J1e{l:List Cell}(m:l≠[])(h:HZ near l)(A:∀a b,l.getLast?=some a->l.head?=some b->near a b):bJ (NA l):=by
 have hD:=fQ h;have r:=Kbk l;have B:=Wi l;have hneD:dd l≠[]:=λe=>by rw [e] at r;exact m (Df.1 r.symm)
 unfold NA trim;generalize dd l=D at *
 split
 ·rename_i hx;obtain ⟨o,g⟩:=hx;obtain ⟨M,x,rfl⟩:∃M x,D=M++[x]:=⟨D.dropLast,D.getLast hneD,(Bv hneD).symm⟩;rw [Dw];rw [Az] at g;have hM:M≠[]:=λe=>by subst e;simp at o
  have w:M.head?=some x:=by
   cases M with
   | nil=>exact (hM rfl).elim
   | cons y M=>simpa using g
  refine ⟨hM,hD.left,.inr λa b f d=>?_⟩;rw [w] at d;injection d with d;subst d;exact hD.last f
 ·rename_i hx;refine ⟨hneD,hD,?_⟩;by_cases o:D.length=1
  ·exact .inl o
  ·refine .inr λa b f d=>?_;have g:1<D.length:=by have:=Bu.2 hneD;omega
   rcases A a b (by rw [<-r];exact f) (by rw [<-B];exact d) with e|v
   ·exact (hx ⟨g,by rw [f,d,e]⟩).elim
   ·exact v
theorem O6{l:List Cell}(x:Cell):x∈NA l↔x∈l:=by
 rw [<-fP l];unfold NA trim;generalize dd l=D;split
 ·rename_i hx;obtain ⟨g,f⟩:=hx;refine ⟨λh=>(List.dropLast_sublist _).subset h,λa=>?_⟩;have d:D≠[]:=λe=>by subst e;simp at g
  obtain ⟨M,y,rfl⟩:∃M y,D=M++[y]:=⟨D.dropLast,D.getLast d,(Bv d).symm⟩;rw [Dw];rw [Az] at f;rcases Ae.1 a with a|a
  ·exact a
  ·rw [Ad] at a;subst a;cases M with
   | nil=>simp at g
   | cons y M=>
    have:y=x:=by simpa using f
    subst this;exact Af ..
 ·exact Iff.rfl
theorem O7(l:List Cell):(NA l).length<=l.length:=by
 have:=qC l;unfold NA trim;split
 ·rw [List.length_dropLast];omega
 ·exact this
theorem HZ.app{R:Cell->Cell->Prop}{l:List Cell}(h:HZ R l):∀ {m:List Cell},HZ R m->(∀a b,l.getLast?=some a->m.head?=some b->R a b)->HZ R (l++m):=by
 intro m
 induction m generalizing l with
 | nil=>intro _ _;rw [Bq];exact h
 | cons c m o=>
  intro g hl;have e:l++c::m=(l++[c])++m:=by simp
  rw [e];refine o (h.snoc λa d=>hl a c d rfl) (λi a b d f=>g (i+1) a b (by simpa using d) (by simpa using f)) λa b d f=>?_;rw [Az] at d;injection d with d;subst d;exact g 0 c b rfl (by rw [<-f];cases m<;>rfl)
theorem dI(r:AY)(p:Cell)(x:Int):Eb r p x=(x+1) % 4\/Eb r p x=x\/Eb r p x=(x+3) % 4:=by
 unfold Eb;dsimp only;split
 ·exact .inl rfl
 split
 ·exact .inr (.inl rfl)
 ·exact .inr (.inr rfl)
theorem J0i{r:AY}{s:Ck}(hs:DI r s.1 s.2)(k:Nat):∀a,(Ef r s k).getLast?=some a->near a (Qm (DV r s (k+1)) (Cc r s (k+1))):=by
 have h:=Y0 hs k;intro a d;have f:=dI r (DV r s k) (Cc r s k);rw [show Eb r (DV r s k) (Cc r s k)=Cc r s (k+1) from rfl] at f;have hx:Cc r s k=0\/Cc r s k=1\/Cc r s k=2\/Cc r s k=3:=h.e;rw [vF];unfold Ef at d;generalize Cc r s k=x at *
 generalize Cc r s (k+1)=y at *
 generalize DV r s k=p at *
 rcases hx with rfl|rfl|rfl|rfl<;>rcases f with rfl|rfl|rfl<;>simp [VA,List.getLast?] at d<;>subst d<;>simp [near,ZE,Qm,Zb,Em,BP]<;>omega
theorem Kba(r:AY)(s:Ck)(hs:DI r s.1 s.2)(k:Nat):HZ near (Ef r s k):=by
 have hx:Cc r s k=0\/Cc r s k=1\/Cc r s k=2\/Cc r s k=3:=(Y0 hs k).e;unfold Ef;split
 ·intro i a b f d;cases i with
  | zero=>
   simp at f d;subst f;subst d;refine .inr ?_;generalize Cc r s k=x at *
   rcases hx with rfl|rfl|rfl|rfl<;>simp [ZE,Em,BP]<;>omega
  | succ i=>simp at d
 ·intro i a b f d;simp at d
theorem J97(r:AY)(s:Ck)(k:Nat):(Ef r s k).head?=some (Qm (DV r s k) (Cc r s k)):=rfl
theorem VF(r:AY)(s:Ck)(k:Nat):Ef r s k≠[]:=λe=>by cases e
theorem J3d(r:AY)(s:Ck){n:Nat}:(raw r s (n+1)).getLast?=(Ef r s n).getLast?:=by
 rw [iN,List.getLast?_append];cases h:(Ef r s n).getLast? with
 | none=>exact (VF r s n (Df.1 h)).elim
 | some a=>rfl
theorem J96{r:AY}{s:Ck}(hs:DI r s.1 s.2):∀n,HZ near (raw r s n)
 | 0=>HZ.nil _
 | n+1=>by
  rw [iN];refine (J96 hs n).app (Kba r s hs n) λa b f d=>?_;cases n with
  | zero=>simp [raw] at f
  | succ n=>
   rw [J3d] at f;rw [J97] at d;injection d with d;subst d;exact J0i hs n a f
theorem Jv1(r:AY)(s:Ck):∀ {n:Nat},0<n->(raw r s n).head?=some (Qm s.1 s.2)
 | 1,_=>by rw [iN];rfl
 | n+2,_=>by
  rw [iN];have:=Jv1 r s (n:=n+1) (by omega);cases h:raw r s (n+1) with
  | nil=>rw [h] at this;cases this
  | cons x l=>rw [h] at this;exact this
theorem cZ(r:AY)(s:Ck){n:Nat}(h:0<n):raw r s n≠[]:=λe=>by have:=Jv1 r s h;rw [e] at this;cases this
theorem J02{r:AY}{s:Ck}(hs:DI r s.1 s.2){N:Nat}(hN:Ez (nx r) s N):bJ (NA (raw r s N)):=by have f:=hN.pos;obtain ⟨M,rfl⟩:∃M,N=M+1:=⟨N - 1,by omega⟩;refine J1e (cZ r s f) (J96 hs _) λa b g d=>?_;rw [J3d] at g;rw [Jv1 r s f] at d;injection d with d;subst d;have:=J0i hs M a g;have e:BR (nx r) (M+1) s=s:=hN.back;have l:DV r s (M+1)=s.1:=congrArg Prod.fst e;have h:Cc r s (M+1)=s.2:=congrArg Prod.snd e;rwa [l,h] at this
theorem J63{r:AY}{p:Cell}{x:Int}(h:DI r p x):Qo r (Qm p x):=by rcases h with ⟨rfl,a,d⟩|⟨rfl,a,d⟩|⟨rfl,a,d⟩|⟨rfl,a,d⟩<;>simpa [Qm] using a
theorem Ka7{r:AY}{p:Cell}{x:Int}(h:DI r p x)(a:Eb r p x=(x+3) % 4):Qo r (Em (Qm p x) (BP x)):=by
 unfold Eb at a;dsimp only at a;split at a
 ·rcases h.e with rfl|rfl|rfl|rfl<;>simp at a
 split at a
 ·rcases h.e with rfl|rfl|rfl|rfl<;>simp at a
 ·next o m=>
  obtain ⟨l,g⟩:=p;rcases h with ⟨rfl,f,d⟩|⟨rfl,f,d⟩|⟨rfl,f,d⟩|⟨rfl,f,d⟩<;>simp [Zb,DI,Qm,Em,BP] at *<;>grind
theorem VE{r:AY}{s:Ck}{n:Nat}{x:Cell}(h:x∈raw r s n):∃k,k<n/\x∈Ef r s k:=by obtain ⟨k,a,hx⟩:=Bm.1 h;exact ⟨k,Bc.1 a,hx⟩
theorem dA{r:AY}{s:Ck}(hs:DI r s.1 s.2){n:Nat}{x:Cell}(h:x∈raw r s n):Qo r x:=by
 obtain ⟨k,d,hx⟩:=VE h;have a:=Y0 hs k;unfold Ef at hx;rcases Ag.1 hx with rfl|hx
 ·exact J63 a
 ·split at hx
  ·rename_i hr;rw [Ad] at hx;subst hx;exact Ka7 a hr
  ·exact (Ao hx).elim
theorem Oj(r:AY)(s:Ck)(k:Nat):(Ef r s k).length<=2:=by unfold Ef;split<;>simp
theorem iG(r:AY)(s:Ck):∀n,(raw r s n).length<=2 * n
 | 0=>Aq _
 | n+1=>by rw [iN,Am];have:=iG r s n;have:=Oj r s n;omega
theorem Jtx(r:AY)(c:Cell):(NU r c).length<=4:=by unfold NU;split<;>split<;>split<;>split<;>simp
theorem qR(r:AY):(Cy r).length<=4 * (K8 r).length:=by
 unfold Cy;generalize K8 r=l
 induction l with
 | nil=>exact Aq _
 | cons c l a=>
  rw [By,Am,Ar];have:=Jtx r c;omega
theorem J65(r:AY)(s:Ck)(N:Nat):(DZ r s N).length<=N:=by have:=List.length_filter_le (λk=>decide (k=0\/Cc r s k≠Cc r s (k - 1))) (Bh N);rw [List.length_range] at this;exact this
theorem UE{r:AY}{s:Ck}(h:CS r s){N:Nat}(hN:Ez (nx r) s N):2<=(DZ r s N).length:=by
 have l:=hN.pos;rw [Jw9 r s l,Ar,Dm];have o:Cc r s 0=0\/Cc r s 0=1:=h.e;have m:Cc r s (N - 1)=2\/Cc r s (N - 1)=3:=h.prev (k:=N - 1) (by rw [show N - 1+1=N by omega,hN.back])
 suffices hs:∃k,k<N - 1/\Cc r s (k+1)≠Cc r s k by obtain ⟨k,f,a⟩:=hs;have:k∈(Bh (N - 1)).filter λk=>decide (Cc r s (k+1)≠Cc r s k):=List.mem_filter.2 ⟨Bc.2 f,decide_eq_true a⟩;have:=Bl this;omega
 apply As;intro d;have key:∀k,k<=N - 1->Cc r s k=Cc r s 0:=by
  intro k
  induction k with
  | zero=>intro _;rfl
  | succ k g=>
   intro f;rw [<-g (by omega)];apply As;intro a;exact d ⟨k,by omega,a⟩
 have:=key (N - 1) (Aq _);omega
end Go.Proofs.YtmfagdfkpjgeiaaGreat
