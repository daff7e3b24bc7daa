/- Plain tools: what the words of the printed texts mean, loops. Conditions: none. -/
import Derived.Test.YtmfagdfkpjgeiaaGreatFD
import Derived.Test.YtmfagdfkpjgeiaaGreatXC
set_option linter.unusedVariables false
set_option linter.unusedSimpArgs false
set_option linter.unusedSectionVars false
set_option maxRecDepth 100000
open List renaming getElem?_eq_getElem → Aa, getElem?_eq_some_iff → Ab, mem_singleton → Ac, mem_append → Ad, mem_of_getElem? → Ae, mem_cons_self → Af, mem_cons → Ag, getElem?_of_mem → Ah, mem_cons_of_mem → Ai, pairwise_iff_getElem → Aj, pairwise_cons → Ak, not_mem_nil → Am, length_append → Ao, map_cons → Ap, getElem?_append_left → As, length_cons → Au, getElem_mem → Av, mem_iff_getElem? → Aw, getElem?_eq_none → Ax, nodup_cons → Ay, getLast?_concat → Az, mem_range → Bb, pairwise_append → Bc, getElem?_append_right → Bd, range → Bf, take_zero → Bg, length_pos_of_mem → Bj, mem_flatMap → Bk, take_append_drop → Bl, length_take → Bm, take_length → Bn, mem_append_left → Bo, flatMap_append → Bp, length_pos_iff → Bq, dropLast_concat_getLast → Br, flatMap_cons → Bs, getElem?_eq_none_iff → Bt, nodup_append → Bu, drop_eq_getElem_cons → Bv, getElem_take → Bw, getLast?_eq_getElem? → By, getLast?_eq_none_iff → Bz, length_erase_of_mem → Da, mem_map → Db, pairwise_singleton → Dc, map_append → De, range_succ_eq_map → Df, pairwise_lt_range → Dh, range_succ → Di, pairwise_flatMap → Dj, concat_eq_append → Dk, filterMap_append → Dl, length_singleton → Dm, mem_erase_of_ne → Dp, dropLast_concat → Dq
open Nat renaming le_refl → Aq, lt_trichotomy → Ba, strongRecOn → Dd, add_assoc → Dr
open Classical renaming byContradiction → Ar, not_forall → Do
open Int renaming tmod_eq_emod_of_nonneg → Be
open Bool renaming not_eq_true' → Bh, eq_iff_iff → Dg
namespace Go.Dn
open Go Go.Vv Go.Dn.W
section words
variable {α β:Type}
theorem w_br(c:Bool)(x y:Option α):@W.br wv α c x y=if c=true then x else y:=rfl
theorem w_gd(c:Bool)(x:Option α):@W.gd wv α c x=if c=true then x else none:=rfl
theorem w_ge(l:List β)(i:Int)(k:β->Option α):@W.ge wv α β l i k=Jed (fget l i) k:=rfl
theorem w_call(c:Ctr)(a:c.aT.T)(k:c.rT.T->Option α):@W.call wv α c a k=Jed (c.fn a) k:=rfl
theorem w_loop{A B:Type}(b:A->Option (Nx A B))(a:A)(k:B->Option α):@W.loop wv A B α b a k=Jed (Yl b bigN a) k:=rfl
theorem w_join{B:Type}(x:Option B)(k:B->Option α):@W.join wv B α x k=Jed x k:=rfl
theorem jo_s{B:Type}{x:Option B}{k:B->Option α}{e:B}(h:x=some e):@W.join wv B α x k=k e:=by rw [w_join,h];rfl
theorem w_ln(l:List α):@W.ln wv α l=(l.length:Int):=rfl
theorem w_pl(a b:Int):@W.pl wv a b=a+b:=rfl
theorem w_ib(i n:Int):@W.ib wv i n=decide (0<=i/\i<n):=rfl
theorem w_le(a b:Int):@W.le wv a b=decide (a<=b):=rfl
theorem w_ft(b:Nat)(n:Int):@W.ft wv b n=decide (n * b<=room/\n<=9223372036854775807):=rfl
theorem w_ap(l m:List α):@W.ap wv α l m=l++m:=rfl
theorem w_ct(l:List α)(a n:Int):@W.ct wv α l a n=(l.drop a.toNat).take n.toNat:=rfl
theorem w_st(l:List α)(i:Int)(x:α):@W.st wv α l i x=l.set i.toNat x:=rfl
theorem w_rp(x:α)(n:Int):@W.rp wv α x n=List.replicate n.toNat x:=rfl
theorem w_mx(a b:Int):@W.mx wv a b=if b > a then b else a:=rfl
theorem w_mn(a b:Int):@W.mn wv a b=if b<a then b else a:=rfl
theorem w_nt(a:Bool):@W.nt wv a=!a:=rfl
theorem w_an(a b:Bool):@W.an wv a b=(a&&b):=rfl
theorem w_be(a b:Bool):@W.be wv a b=(a==b):=rfl
theorem w_nq(n:Int)(k:Bool->Option α):@W.nq wv α n k=nlv n k:=rfl
theorem Ks(a b:Int):@W.ar wv .add .i64 a b=IntKind.wrap .i64 (a+b):=rfl
theorem Zb(a b:Int):@W.ar wv .sub .i64 a b=IntKind.wrap .i64 (a - b):=rfl
theorem w_mul(a b:Int):@W.ar wv .mul .i64 a b=IntKind.wrap .i64 (a * b):=rfl
theorem w_quo(a b:Int):@W.ar wv .quo .i64 a b=IntKind.wrap .i64 (a.tdiv b):=rfl
theorem w_rem(a b:Int):@W.ar wv .rem .i64 a b=a.tmod b:=rfl
theorem Xr(a b:Int):@W.cm wv .eql a b=(a==b):=rfl
theorem Jna(a b:Int):@W.cm wv .neq a b=(a != b):=rfl
theorem Jng(a b:Int):@W.cm wv .lss a b=decide (a<b):=rfl
theorem Jir(a b:Int):@W.cm wv .leq a b=decide (a<=b):=rfl
theorem Jat(a b:Int):@W.cm wv .gtr a b=decide (a > b):=rfl
theorem Jl8(a b:Int):@W.cm wv .geq a b=decide (a>=b):=rfl
theorem wr{n:Int}(h:-9223372036854775808<=n)(a:n<=9223372036854775807):IntKind.wrap .i64 n=n:=by rw [IntKind.wrap_i64,Int.emod_eq_of_lt]<;>omega
theorem fg{l:List α}{i:Nat}{x:α}(h:l[i]?=some x):fget l (i:Int)=some x:=by unfold fget;rw [if_pos (by omega),Int.toNat_natCast,h]
theorem fgz{l:List α}{i:Int}(j:Nat){x:α}(e:i=j)(h:l[j]?=some x):fget l i=some x:=by subst e;exact fg h
theorem fg0{l:List α}{x:α}(h:l[0]?=some x):fget l 0=some x:=fg h
theorem ge_s{l:List β}{i:Int}{k:β->Option α}{x:β}(h:fget l i=some x):@W.ge wv α β l i k=k x:=by rw [w_ge,h];rfl
theorem ca_s{c:Ctr}{a:c.aT.T}{k:c.rT.T->Option α}{r:c.rT.T}(h:c.fn a=some r):@W.call wv α c a k=k r:=by rw [w_call,h];rfl
theorem lo_s{A B:Type}{b:A->Option (Nx A B)}{a:A}{k:B->Option α}{e:B}(h:Yl b bigN a=some e):@W.loop wv A B α b a k=k e:=by rw [w_loop,h];rfl
theorem br_t{c:Bool}{x y:Option α}(h:c=true):@W.br wv α c x y=x:=by rw [w_br,if_pos h]
theorem br_f{c:Bool}{x y:Option α}(h:c=false):@W.br wv α c x y=y:=by rw [w_br,h];rfl
theorem gd_t{c:Bool}{x:Option α}(h:c=true):@W.gd wv α c x=x:=by rw [w_gd,if_pos h]
theorem Qw{a b:Int}{x y:Option α}(h:a<b):@W.br wv α (@W.cm wv .lss a b) x y=x:=br_t (by rw [Jng];exact decide_eq_true h)
theorem Kq{a b:Int}{x y:Option α}(h:¬a<b):@W.br wv α (@W.cm wv .lss a b) x y=y:=br_f (by rw [Jng];exact decide_eq_false h)
theorem gd_ft{b:Nat}{n:Int}{x:Option α}(h:n * b<=room/\n<=9223372036854775807):@W.gd wv α (@W.ft wv b n) x=x:=gd_t (by rw [w_ft];exact decide_eq_true h)
theorem Jjr{i n:Int}{x:Option α}(h:0<=i/\i<n):@W.gd wv α (@W.ib wv i n) x=x:=gd_t (by rw [w_ib];exact decide_eq_true h)
end words
section loops
variable {A B:Type} {b:A->Option (Nx A B)}
theorem Jvt{n:Nat}{s s':A}(h:b s=some (.go s')):Yl b (n+1) s=Yl b n s':=by simp only [Yl,h]
theorem Jh6{n:Nat}{s:A}{e:B}(h:b s=some (.out e)):Yl b (n+1) s=some e:=by simp only [Yl,h]
theorem Jxt(st:Nat->A){e:B}:∀(k i N M:Nat),N=i+k->k<M->(∀j,i<=j->j<N->b (st j)=some (.go (st (j+1))))->b (st N)=some (.out e)->Yl b M (st i)=some e
 | 0,i,N,M+1,hN,hM,d,a=>by subst hN;exact Jh6 a
 | k+1,i,N,M+1,hN,hM,d,a=>by rw [Jvt (d i (Aq _) (by omega))];exact Jxt st k (i+1) N M (by omega) (by omega) (λj f=>d j (by omega)) a
theorem Ql(st:Nat->A)(N:Nat){e:B}(hN:N<1000000000000)(f:∀i,i<N->b (st i)=some (.go (st (i+1))))(d:b (st N)=some (.out e)):Yl b bigN (st 0)=some e:=
 Jxt st N 0 N bigN (by omega) (by unfold bigN;omega) (λj _ a=>f j a) d
open Classical in
theorem Jbg(st:Nat->A)(N:Nat)(hN:N<1000000000000)(good:Nat->Prop){bad fin:B}
  (m:∀i,i<N->(∀j,j<i->good j)->(good i->b (st i)=some (.go (st (i+1))))/\(¬good i->b (st i)=some (.out bad))) (r:(∀i,i<N->good i)->b (st N)=some (.out fin)) :
  Yl b bigN (st 0)=some (if ∀i,i<N->good i then fin else bad):=by
 by_cases d:∀i,i<N->good i
 ·rw [if_pos d];exact Ql st N hN (λi hi=>(m i hi λj f=>d j (by omega)).1 (d i hi)) (r d)
 ·rw [if_neg d];have:∃i,i<N/\¬good i/\∀j,j<i->good j:=by
   simp only [Do] at d;obtain ⟨i,hi,l⟩:=d
   induction i using Dd with
   | _ i o=>
    by_cases h:∀j,j<i->good j
    ·exact ⟨i,hi,l,h⟩
    ·simp only [Do] at h;obtain ⟨j,f,g⟩:=h;exact o j f (by omega) g
  obtain ⟨i,hi,l,a⟩:=this;exact Ql st i (by omega) (λj f=>(m j (by omega) λk v=>a k (by omega)).1 (a j f)) ((m i hi a).2 l)
theorem jq(I:Nat->A->Prop)(Q:B->Prop)(N:Nat)(hN:N<1000000000000){s0:A}(o:I 0 s0)(m:∀i s,i<N->I i s->∃s',b s=some (.go s')/\I (i+1) s')(l:∀s,I N s->∃e,b s=some (.out e)/\Q e) :
  ∃e,Yl b bigN s0=some e/\Q e:=by
 have key:∀(k i M:Nat) (s:A),i+k=N->k<M->I i s->∃e,Yl b M s=some e/\Q e:=by
  intro k
  induction k with
  | zero=>
   intro i M s hi hM hs;have:i=N:=by omega
   subst this;obtain ⟨e,g,d⟩:=l s hs;cases M with
   | zero=>omega
   | succ M=>exact ⟨e,Jh6 g,d⟩
  | succ k h=>
   intro i M s hi hM hs;obtain ⟨s',a,f⟩:=m i s (by omega) hs;cases M with
   | zero=>omega
   | succ M=>
    obtain ⟨e,g,d⟩:=h (i+1) M s' (by omega) (by omega) f;exact ⟨e,(Jvt a).trans g,d⟩
 exact key N 0 bigN s0 (by omega) (by unfold bigN;omega) o
theorem loop_any{α:Type}(l:List α)(hl:l.length<1000000000000)(st:Nat->A)(p:α->Prop)(out:Nat->α->B)(nf:B)
  (o:∀i x,i<l.length->l[i]?=some x->(p x->b (st i)=some (.out (out i x)))/\(¬p x->b (st i)=some (.go (st (i+1))))) (y:b (st l.length)=some (.out nf)) :
  ∃e,Yl b bigN (st 0)=some e/\((e=nf/\∀x∈l,¬p x)\/∃i x,l[i]?=some x/\p x/\e=out i x):=by
 by_cases v:∃i,i<l.length/\∃x,l[i]?=some x/\p x
 ·have:∃i,i<l.length/\(∃x,l[i]?=some x/\p x)/\∀j,j<i->∀x,l[j]?=some x->¬p x:=by
   obtain ⟨i,hi,hx⟩:=v
   induction i using Dd with
   | _ i w=>
    by_cases h:∃j,j<i/\∃x,l[j]?=some x/\p x
    ·obtain ⟨j,a,g⟩:=h;exact w j a (by omega) g
    ·exact ⟨i,hi,hx,λj a x f d=>h ⟨j,a,x,f,d⟩⟩
  obtain ⟨i,hi,⟨x,hx,d⟩,m⟩:=this;exact ⟨_,Ql st i (by omega) (λj a=>(o j l[j] (by omega) (Aa _)).2 (m j a _ (Aa _))) ((o i x hi hx).1 d),.inr ⟨i,x,hx,d,rfl⟩⟩
 ·have r:∀i x,l[i]?=some x->¬p x:=λi x hx d=>v ⟨i,(Ab.1 hx).1,x,hx,d⟩;exact ⟨nf,Ql st l.length hl (λj a=>(o j l[j] a (Aa _)).2 (r j _ (Aa _))) y,.inl ⟨rfl,λx hx=>by obtain ⟨i,hi⟩:=Aw.1 hx;exact r i x hi⟩⟩
theorem Jh7(I:A->Prop)(Q:B->Prop)(m:A->Nat)(h:∀s,I s->(∃s',b s=some (.go s')/\I s'/\m s'<m s)\/∃e,b s=some (.out e)/\Q e){s0:A}(r:I s0)(v:m s0<1000000000000):∃e,Yl b bigN s0=some e/\Q e:=by
 have key:∀(n M:Nat) (s:A),m s<=n->n<M->I s->∃e,Yl b M s=some e/\Q e:=by
  intro n
  induction n with
  | zero=>
   intro M s hs hM hi;cases M with
   | zero=>omega
   | succ M=>
    rcases h s hi with ⟨s',_,_,o⟩|⟨e,d,a⟩
    ·omega
    ·exact ⟨e,Jh6 d,a⟩
  | succ n f=>
   intro M s hs hM hi;cases M with
   | zero=>omega
   | succ M=>
    rcases h s hi with ⟨s',d,a,o⟩|⟨e,d,a⟩
    ·obtain ⟨e,l,g⟩:=f M s' (by omega) (by omega) a;exact ⟨e,(Jvt d).trans l,g⟩
    ·exact ⟨e,Jh6 d,a⟩
 exact key (m s0) bigN s0 (Aq _) (by unfold bigN;omega) r
end loops
section lists
variable {α β:Type}
theorem Qc{l:List α}{i:Nat}{x:α}(h:l[i]?=some x):l.take (i+1)=l.take i++[x]:=by rw [List.take_add_one,h];rfl
theorem Jlz{f:α->List β}{l:List α}{i:Nat}{x:α}(h:l[i]?=some x):(l.take (i+1)).flatMap f=(l.take i).flatMap f++f x:=by rw [Qc h,Bp,Bs,List.flatMap_nil,List.append_nil]
theorem Jgq{f:α->β}{l:List α}{i:Nat}{x:α}(h:l[i]?=some x):(l.take (i+1)).map f=(l.take i).map f++[f x]:=by rw [Qc h,De];rfl
def rng(a:Int)(n:Nat):List Int:=(Bf n).map λi:Nat=>a+(i:Int)
theorem rng_len(a:Int)(n:Nat):(rng a n).length=n:=by simp [rng]
theorem J0m{a x:Int}{n:Nat}:x∈rng a n↔a<=x/\x<a+n:=by
 simp only [rng,Db,Bb];constructor
 ·rintro ⟨i,hi,rfl⟩;omega
 ·intro h;exact ⟨(x - a).toNat,by omega,by omega⟩
theorem rng_cons(a:Int)(n:Nat):rng a (n+1)=a::rng (a+1) n:=by
 simp only [rng,Df,Ap,List.map_map]
 congr 1
 ·simp
 ·apply List.map_congr_left;intro i _;simp only [Function.comp];omega
theorem rng_pw(a:Int)(n:Nat):(rng a n).Pairwise (·<·):=by
 induction n generalizing a with
 | zero=>exact .nil
 | succ n d=>
  rw [rng_cons];refine Ak.2 ⟨λx hx=>?_,d _⟩;have:=J0m.1 hx;omega
theorem Jvv{f:α->List β}{l:List α}{n:Nat}(h:∀x∈l,(f x).length<=n):(l.flatMap f).length<=l.length * n:=by
 induction l with
 | nil=>simp
 | cons x l a=>
  have:=h x (Af ..);have:=a λy d=>h y (Ai _ d);simp only [Bs,Ao,Au,Nat.add_mul];omega
theorem X7(f:α->α)(x:α):∀l:List α,Xd (l++[x]) f=l++[f x]
 | []=>rfl
 | [y]=>rfl
 | y::z::l=>by show y::Xd (z::(l++[x])) f=_;rw [show z::(l++[x])=(z::l)++[x] from rfl,X7 f x (z::l)];rfl
theorem Jyg(l:List α)(x y:α):(l++[x]).set l.length y=l++[y]:=by rw [List.set_append_right _ _ (Aq _),Nat.sub_self];rfl
theorem Jj4(l:List α)(x:α):(l++[x])[l.length]?=some x:=by rw [Bd (Aq _),Nat.sub_self];rfl
end lists
end Go.Dn
namespace Go.Dn
abbrev Run:=Int×Int
abbrev Row:=Int×List Run
abbrev Reg:=List Row
abbrev Cell:=Int×Int
abbrev J0:=Int×(Bool×List Cell)
structure RunsOK (lo hi:Int) (l:List Run):Prop where
 bd:∀x∈l,lo<=x.1/\x.1<x.2/\x.2<=hi
 pw:l.Pairwise λa b=>a.2<b.1
structure RegOK (r:Reg):Prop where
 y:∀w∈r,-4096<=w.1/\w.1<4096
 pw:r.Pairwise λa b=>a.1<b.1
 ne:∀w∈r,w.2≠[]
 rs:∀w∈r,RunsOK (-4096) 4096 w.2
def Jh(l:List Run)(x:Int):Prop:=∃u∈l,u.1<=x/\x<u.2
def Qf(r:Reg)(c:Cell):Prop:=∃w∈r,w.1=c.2/\Jh w.2 c.1
def Jf5(y:Int)(u:Run):List Cell:=(rng u.1 (u.2 - u.1).toNat).map λx=>(x,y)
def rowC(w:Row):List Cell:=w.2.flatMap (Jf5 w.1)
def X5(r:Reg):List Cell:=r.flatMap rowC
def yx(a b:Cell):Prop:=a.2<b.2\/(a.2=b.2/\a.1<b.1)
theorem Jqt{y:Int}{u:Run}{c:Cell}:c∈Jf5 y u↔c.2=y/\u.1<=c.1/\c.1<u.2:=by
 simp only [Jf5,Db,J0m];constructor
 ·rintro ⟨x,hx,rfl⟩;exact ⟨rfl,by omega,by omega⟩
 ·rintro ⟨rfl,d,a⟩;exact ⟨c.1,by omega,rfl⟩
theorem Jum{w:Row}{c:Cell}:c∈rowC w↔c.2=w.1/\Jh w.2 c.1:=by
 simp only [rowC,Bk,Jqt,Jh];constructor
 ·rintro ⟨u,a,f,d⟩;exact ⟨f,u,a,d⟩
 ·rintro ⟨f,u,a,d⟩;exact ⟨u,a,f,d⟩
theorem Zz{r:Reg}{c:Cell}:c∈X5 r↔Qf r c:=by
 simp only [X5,Bk,Jum,Qf];constructor
 ·rintro ⟨w,a,f,d⟩;exact ⟨w,a,f.symm,d⟩
 ·rintro ⟨w,a,f,d⟩;exact ⟨w,a,f.symm,d⟩
theorem RegOK.bd{r:Reg}(h:RegOK r){c:Cell}(f:Qf r c):-4096<=c.1/\c.1<4096/\-4096<=c.2/\c.2<4096:=by obtain ⟨w,a,e,u,d,l,g⟩:=f;have:=(h.rs w a).bd u d;have:=h.y w a;omega
theorem line_pw(y:Int)(u:Run):(Jf5 y u).Pairwise yx:=by refine List.pairwise_map.2 ((rng_pw _ _).imp λh=>.inr ⟨rfl,h⟩)
theorem row_pw{lo hi:Int}{w:Row}(h:RunsOK lo hi w.2):(rowC w).Pairwise yx:=by refine Dj.2 ⟨λu _=>line_pw _ _,h.pw.imp λ{a b} g c f d hd=>?_⟩;have f:=Jqt.1 f;have hd:=Jqt.1 hd;exact .inr ⟨by omega,by omega⟩
theorem RegOK.cells_pw{r:Reg}(h:RegOK r):(X5 r).Pairwise yx:=by refine Dj.2 ⟨λw g=>row_pw (h.rs w g),h.pw.imp λ{a b} l c f d hd=>?_⟩;have f:=Jum.1 f;have hd:=Jum.1 hd;exact .inl (by omega)
theorem Jhx(a:Cell):¬yx a a:=by unfold yx;omega
theorem Jq3{a b:Cell}(h:yx a b):¬yx b a:=by unfold yx at *;omega
theorem Jdz{α:Type}{R:α->α->Prop}(asy:∀a b,R a b->¬R b a):∀ {l m:List α},l.Pairwise R->m.Pairwise R->(∀x,x∈l↔x∈m)->l=m
 | [],[],_,_,_=>rfl
 | [],y::m,_,_,h=>by have:=(h y).2 (Af ..);cases this
 | x::l,[],_,_,h=>by have:=(h x).1 (Af ..);cases this
 | x::l,y::m,B,A,h=>by
  obtain ⟨o,v⟩:=Ak.1 B;obtain ⟨g,r⟩:=Ak.1 A;have e:x=y:=by
   rcases Ag.1 ((h x).1 (Af ..)) with e|hx
   ·exact e
   ·rcases Ag.1 ((h y).2 (Af ..)) with e|w
    ·exact e.symm
    ·exact (asy _ _ (o y w) (g x hx)).elim
  subst e;have irr:∀z,¬R z z:=λz d=>asy z z d d;rw [Jdz asy v r λz=>?_];constructor
  ·intro d;rcases Ag.1 ((h z).1 (Ai _ d)) with e|f
   ·subst e;exact (irr _ (o _ d)).elim
   ·exact f
  ·intro d;rcases Ag.1 ((h z).2 (Ai _ d)) with e|f
   ·subst e;exact (irr _ (g _ d)).elim
   ·exact f
theorem pw_adj{α:Type}{R:α->α->Prop}(tr:∀a b c,R a b->R b c->R a c){l:List α}(h:∀i a b,l[i]?=some a->l[i+1]?=some b->R a b):l.Pairwise R:=by
 induction l with
 | nil=>exact .nil
 | cons x l g=>
  have ih':=g λi a b o m=>h (i+1) a b (by simpa using o) (by simpa using m);refine Ak.2 ⟨λy d=>?_,ih'⟩;cases l with
  | nil=>cases d
  | cons z l=>
   have f:R x z:=h 0 x z rfl rfl;rcases Ag.1 d with rfl|d
   ·exact f
   ·exact tr _ _ _ f ((Ak.1 ih').1 y d)
theorem Jyj{α:Type}{R:α->α->Prop}{l:List α}(h:l.Pairwise R){i:Nat}{a b:α}(m:l[i]?=some a)(g:l[i+1]?=some b):R a b:=by have r:=(Ab.1 m);have o:=(Ab.1 g);obtain ⟨f,w⟩:=r;obtain ⟨d,v⟩:=o;have:=Aj.1 h i (i+1) f d (by omega);rwa [w,v] at this
theorem Jyf{l:List Run}(w:l.Pairwise λa b=>a.2<b.1){u v:Run}(h:u∈l)(r:v∈l):u=v\/u.2<v.1\/v.2<u.1:=by
 induction l with
 | nil=>cases h
 | cons x l o=>
  obtain ⟨g,m⟩:=Ak.1 w;rcases Ag.1 h with rfl|f<;>rcases Ag.1 r with rfl|d
  ·exact .inl rfl
  ·exact .inr (.inl (g _ d))
  ·exact .inr (.inr (g _ f))
  ·exact o m f d
theorem RunsOK.left{lo hi:Int}{l:List Run}(h:RunsOK lo hi l){u:Run}(f:u∈l):¬Jh l (u.1 - 1):=by
 rintro ⟨v,d,r,o⟩;have m:=h.bd u f;have g:=h.bd v d;have a:=h.pw;rcases Jyf a f d with e|e|e
 ·subst e;omega
 ·omega
 ·omega
theorem RunsOK.right{lo hi:Int}{l:List Run}(h:RunsOK lo hi l){u:Run}(d:u∈l):¬Jh l u.2:=by
 rintro ⟨v,a,o,m⟩;have g:=h.bd u d;have f:=h.bd v a;rcases Jyf h.pw d a with e|e|e
 ·subst e;omega
 ·omega
 ·omega
theorem RegOK.row_uniq{r:Reg}(h:RegOK r){w v:Row}(g:w∈r)(y:v∈r)(e:w.1=v.1):w=v:=by
 have A:=h.pw;clear h
 induction r with
 | nil=>cases g
 | cons x l o=>
  obtain ⟨f,m⟩:=Ak.1 A;rcases Ag.1 g with rfl|a<;>rcases Ag.1 y with rfl|d
  ·rfl
  ·have:=f _ d;omega
  ·have:=f _ a;omega
  ·exact o a d m
theorem RegOK.in_row{r:Reg}(h:RegOK r){w:Row}(a:w∈r)(x:Int):Qf r (x,w.1)↔Jh w.2 x:=by
 constructor
 ·rintro ⟨v,d,e,hx⟩;rw [h.row_uniq a d e.symm];exact hx
 ·exact λhx=>⟨w,a,rfl,hx⟩
theorem runsOK_snoc{lo hi:Int}{l:List Run}{u:Run}:RunsOK lo hi (l++[u])↔RunsOK lo hi l/\(lo<=u.1/\u.1<u.2/\u.2<=hi)/\∀v∈l,v.2<u.1:=by
 constructor
 ·rintro ⟨a,f⟩;obtain ⟨m,A,g⟩:=Bc.1 f;exact ⟨⟨λx hx=>a x (Bo _ hx),m⟩,a u (by simp),λv d=>g v d u (by simp)⟩
 ·rintro ⟨⟨a,f⟩,y,r⟩;refine ⟨λx hx=>?_,Bc.2 ⟨f,Dc _ _,λv d w o=>?_⟩⟩
  ·rcases Ad.1 hx with h|h
   ·exact a x h
   ·rw [Ac.1 h];exact y
  ·rw [Ac.1 o];exact r v d
theorem Jgk{l:List Run}{u:Run}{x:Int}:Jh (l++[u]) x↔Jh l x\/(u.1<=x/\x<u.2):=by
 unfold Jh;constructor
 ·rintro ⟨v,a,h⟩;rcases Ad.1 a with q|q
  ·exact .inl ⟨v,q,h⟩
  ·rw [Ac.1 q] at h;exact .inr h
 ·rintro (⟨v,a,h⟩|h)
  ·exact ⟨v,Bo _ a,h⟩
  ·exact ⟨u,by simp,h⟩
end Go.Dn
namespace Go.Proofs.YtmfagdfkpjgeiaaGreat
open Go Go.Vv Go.Dn Go.Dn.W
theorem Jtq(x:Int):@Jdh wv x=some (decide (-4096<=x/\x<4096)):=by simp only [Jdh,w_br,Jl8,Jng,decide_eq_true_eq];split<;>simp<;>omega
theorem Jal{α:Type}(x:Int)(k:Bool->Option α):@W.call wv α K8 x k=k (decide (-4096<=x/\x<4096)):=ca_s (c:=K8) (Jtq x)
theorem Jts(x:Int×Int):@Jdo wv x=some (decide (-1048576<=x.1/\x.1<=1048576/\-1048576<=x.2/\x.2<=1048576)):=by
 simp only [Jdo,w_br,Jl8,Jir,decide_eq_true_eq]
 (repeat' split)<;>first|exact congrArg some (decide_eq_decide.2 (by omega))|exact congrArg some (decide_eq_false (by omega)).symm
theorem Jlv{α:Type}(x:Int×Int)(k:Bool->Option α):@W.call wv α Jab x k=k (decide (-1048576<=x.1/\x.1<=1048576/\-1048576<=x.2/\x.2<=1048576)):=ca_s (c:=Jab) (Jts x)
def Yk(lo hi:Int)(l:List Run)(i:Nat):Prop:=∀x,l[i]?=some x->lo<=x.1/\x.1<x.2/\x.2<=hi/\∀p,0<i->l[i - 1]?=some p->p.2<x.1
theorem Jc4(lo hi:Int)(l:List Run):(∀i,i<l.length->Yk lo hi l i)↔RunsOK lo hi l:=by
 constructor
 ·intro h;have key:∀(i:Nat) (x:Run),l[i]?=some x->lo<=x.1/\x.1<x.2/\x.2<=hi/\∀p,0<i->l[i - 1]?=some p->p.2<x.1:=λi x hx=>h i (Ab.1 hx).1 x hx;refine ⟨λx hx=>?_,?_⟩
  ·obtain ⟨i,hi⟩:=Aw.1 hx;have:=key i x hi;omega
  ·have g:(l.Pairwise λa b=>(a.1<a.2/\b.1<b.2/\a.2<b.1)):=pw_adj (λa b c m f=>by omega) λi a b o d=>by have m:=key i a o;have f:=key (i+1) b d;have v:=f.2.2.2 a (by omega) (by simpa using o);omega
   exact g.imp λh=>h.2.2
 ·rintro ⟨m,f⟩ i hi x hx;have d:=m x (Ae hx);refine ⟨d.1,d.2.1,d.2.2,λp r g=>?_⟩;exact Jyj f g (by rwa [Nat.sub_add_cancel r])
open Classical in
theorem Jhd(l:List Run)(hl:l.length<=1000000000):@Jce wv l=some (decide (RunsOK (-1048576) 1048576 l)):=by
 have g:=Jbg (b:=@Qj wv) (bad:=.inl ()) (fin:=.inr ()) (λi=>⟨l,l,(l.length:Int),(i:Int),()⟩) l.length (by omega) (Yk (-1048576) 1048576 l) (λi hi _=>by
  have hx:=Aa hi;have w:@Qj wv ⟨l,l,(l.length:Int),(i:Int),()⟩=if Yk (-1048576) 1048576 l i then some (.go ⟨l,l,(l.length:Int),((i+1:Nat):Int),()⟩) else some (.out (.inl ())):=by
   unfold Qj;dsimp only;rw [Qw (by omega),ge_s (fg hx)];simp only [w_br,Jl8,Jat,Jir,Ks,w_nt,Jlv,decide_eq_true_eq,Bh,decide_eq_false_iff_not];rw [wr (by omega) (by omega)];by_cases v:0<i
   ·have o:=Aa (l:=l) (i:=i - 1) (by omega);rw [ge_s (fgz (i - 1) (by rw [Zb,wr (by omega) (by omega)];omega) o)];have r:Yk (-1048576) 1048576 l i↔-1048576<=l[i].1/\l[i].1<l[i].2/\l[i].2<=1048576/\(l[i - 1]'(by omega)).2<l[i].1:=by
     constructor
     ·intro h;have:=h _ hx;exact ⟨this.1,this.2.1,this.2.2.1,this.2.2.2 _ v o⟩
     ·rintro ⟨a,b,c,d⟩ x f;rw [hx] at f;injection f with e;subst e;exact ⟨a,b,c,λp _ m=>by rw [o] at m;injection m with e;subst e;exact d⟩
    simp only [r]
    (repeat' split)<;>first|rfl|omega
   ·have r:Yk (-1048576) 1048576 l i↔-1048576<=l[i].1/\l[i].1<l[i].2/\l[i].2<=1048576:=by
     constructor
     ·intro h;have:=h _ hx;exact ⟨this.1,this.2.1,this.2.2.1⟩
     ·rintro ⟨a,b,c⟩ x f;rw [hx] at f;injection f with e;subst e;exact ⟨a,b,c,λp h=>(v h).elim⟩
    simp only [r]
    (repeat' split)<;>first|rfl|omega
  rw [w];exact ⟨λh=>if_pos h,λh=>if_neg h⟩) (λ_=>by unfold Qj;dsimp only;rw [Kq (by omega)])
 refine (lo_s g).trans ?_;by_cases h:RunsOK (-1048576) 1048576 l
 ·rw [if_pos ((Jc4 _ _ _).2 h),decide_eq_true h]
 ·rw [if_neg λq=>h ((Jc4 _ _ _).1 q),decide_eq_false h]
open Classical in
theorem Yj{α:Type}{l:List Run}(hl:l.length<=1000000000)(k:Bool->Option α):@W.call wv α Jr l k=k (decide (RunsOK (-1048576) 1048576 l)):=ca_s (c:=Jr) (Jhd l hl)
def LimR(r:Reg):Prop:=r.length<=1000000000/\∀w∈r,w.2.length<=1000000000
theorem Jzv{lo hi:Int}{l:List Run}(h:RunsOK lo hi l){x0:Run}(d:l[0]?=some x0):∀x∈l,x0.1<=x.1:=by
 cases l with
 | nil=>simp at d
 | cons y l=>
  simp only [List.getElem?_cons_zero,Option.some.injEq] at d;subst d;intro x hx;rcases Ag.1 hx with rfl|a
  ·omega
  ·have:=(Ak.1 h.pw).1 x a;have:=h.bd y (Af ..);omega
theorem J2t{lo hi:Int}{l:List Run}(h:RunsOK lo hi l){x1:Run}(a:l[l.length - 1]?=some x1):∀x∈l,x.2<=x1.2:=by
 intro x hx;have g:=Ae a;obtain ⟨i,hi⟩:=Aw.1 hx;obtain ⟨f,o⟩:=Ab.1 hi;obtain ⟨d,m⟩:=Ab.1 a;have r:=h.bd x1 g;by_cases e:i=l.length - 1
 ·subst e;rw [hi] at a;injection a with a;subst a;omega
 ·have:=Aj.1 h.pw i (l.length - 1) f d (by omega);rw [o,m] at this;omega
def Zi(r:Reg)(i:Nat):Prop:=∀w,r[i]?=some w->-4096<=w.1/\w.1<4096/\w.2≠[]/\RunsOK (-4096) 4096 w.2/\∀p,0<i->r[i - 1]?=some p->p.1<w.1
theorem Ja2(r:Reg):(∀i,i<r.length->Zi r i)↔RegOK r:=by
 constructor
 ·intro h;have key:∀(i:Nat) (w:Row),r[i]?=some w->-4096<=w.1/\w.1<4096/\w.2≠[]/\RunsOK (-4096) 4096 w.2/\∀p,0<i->r[i - 1]?=some p->p.1<w.1:=λi x hx=>h i (Ab.1 hx).1 x hx;have km:∀w∈r,-4096<=w.1/\w.1<4096/\w.2≠[]/\RunsOK (-4096) 4096 w.2:=λw d=>by obtain ⟨i,hi⟩:=Aw.1 d;have:=key i w hi;exact ⟨this.1,this.2.1,this.2.2.1,this.2.2.2.1⟩
  exact ⟨λw d=>⟨(km w d).1,(km w d).2.1⟩,pw_adj (λa b c y v=>by omega) λi a b m l=>(key (i+1) b l).2.2.2.2 a (by omega) (by simpa using m),λw d=>(km w d).2.2.1,λw d=>(km w d).2.2.2⟩
 ·intro h i hi w d;have f:=Ae d;exact ⟨(h.y w f).1,(h.y w f).2,h.ne w f,h.rs w f,λp o g=>Jyj h.pw g (by rwa [Nat.sub_add_cancel o])⟩
theorem Jhc{l:List Run}{x0 x1:Run}(f:l[0]?=some x0)(d:l[l.length - 1]?=some x1):RunsOK (-4096) 4096 l↔RunsOK (-1048576) 1048576 l/\(-4096<=x0.1/\x0.1<4096)/\(-4096<=x1.2 - 1/\x1.2 - 1<4096):=by
 constructor
 ·intro h;have a:=h.bd x0 (Ae f);have b:=h.bd x1 (Ae d);exact ⟨⟨λx hx=>by have:=h.bd x hx;omega,h.pw⟩,by omega,by omega⟩
 ·rintro ⟨h,a,b⟩;exact ⟨λx hx=>by have m:=Jzv h f x hx;have g:=J2t h d x hx;have:=h.bd x hx;omega,h.pw⟩
open Classical in
theorem Jll(r:Reg)(hl:LimR r):@Yw wv r=some (decide (RegOK r)):=by
 have g:=Jbg (b:=@Ku wv) (bad:=.inl ()) (fin:=.inr ()) (λi=>⟨r,(r.length:Int),(i:Int),r,()⟩) r.length (by have:=hl.1;omega) (Zi r) (λi hi _=>by
  have hx:=Aa hi;have hL:=hl.1;have M:@Ku wv ⟨r,(r.length:Int),(i:Int),r,()⟩=if Zi r i then some (.go ⟨r,(r.length:Int),((i+1:Nat):Int),r,()⟩) else some (.out (.inl ())):=by
   generalize N:r[i]=w at hx;have y:=Ae hx;have hLw:=hl.2 w y;unfold Ku;dsimp only;rw [Qw (by omega),ge_s (fg hx)];have tail:letI:W:=wv;∀X:Option (Nx _ (Unit ⊕ Unit)),(br (cm .eql (ln w.2) 0) (some (.out (.inl ()))) (call Jr (w.2:(List (Int×Int))) λ(v3:Bool)=>br (nt v3) (some (.out (.inl ()))) (ge w.2 0 λv4=>call K8 (v4.1:Int) λ(v5:Bool)=>br (nt v5) (some (.out (.inl ())))
     (ge w.2 (ar .sub .i64 (ln w.2) 1) λH=>call K8 ((ar .sub .i64 H.2 1):Int) λ(G:Bool)=>br (nt G) (some (.out (.inl ()))) X))):Option (Nx (HP (List (Int×(List (Int×Int)))) (HP Int (HP Int (HP (List (Int×(List (Int×Int)))) Unit)))) (Unit ⊕ Unit)))=if w.2≠[]/\RunsOK (-4096) 4096 w.2 then X else some (.out (.inl ())):=by
    intro X;cases hr:w.2 with
    | nil=>rfl
    | cons u l=>
     rw [hr] at hLw;have B:(u::l)[0]?=some u:=rfl;have o:(u::l)[(u::l).length - 1]?=some ((u::l)[(u::l).length - 1]'(by simp)):=Aa _;generalize ((u::l)[(u::l).length - 1]'(by simp))=x1 at o;have E:(0:Int)<((u::l).length:Int):=by simp only [Au];omega
     rw [br_f (by simp only [Xr,w_ln,beq_eq_false_iff_ne];omega),Yj hLw];by_cases hV:RunsOK (-1048576) 1048576 (u::l)
     ·have K:=hV.bd x1 (Ae o);rw [br_f (by simp [w_nt,hV]),ge_s (fg0 B),Jal,ge_s (fgz ((u::l).length - 1) (by rw [Zb,w_ln,wr (by omega) (by omega)];omega) o),Jal,Zb,wr (by omega) (by omega)];have L:=Jhc B o;simp only [ne_eq,reduceCtorEq,not_false_iff,true_and,L,w_br,w_nt,Bh,decide_eq_false_iff_not,hV]
      (repeat' split)<;>first|rfl|omega
     ·rw [br_t (by simp [w_nt,hV]),if_neg];rintro ⟨-,h⟩;exact hV ((Jhc B o).1 h).1
   rw [tail];simp only [Jal,w_br,Jat,Jir,w_nt,Ks,decide_eq_true_eq,Bh,decide_eq_false_iff_not];rw [wr (by omega) (by omega)];by_cases F:0<i
   ·have v:=Aa (l:=r) (i:=i - 1) (by omega);generalize r[i - 1]=p at v;rw [ge_s (fgz (i - 1) (by rw [Zb,wr (by omega) (by omega)];omega) v)];have A:Zi r i↔(-4096<=w.1/\w.1<4096)/\(w.2≠[]/\RunsOK (-4096) 4096 w.2)/\p.1<w.1:=by
     constructor
     ·intro h;have:=h _ hx;exact ⟨⟨this.1,this.2.1⟩,⟨this.2.2.1,this.2.2.2.1⟩,this.2.2.2.2 _ F v⟩
     ·rintro ⟨⟨a,b⟩,⟨c,d⟩,e⟩ x f;rw [hx] at f;injection f with q;subst q;exact ⟨a,b,c,d,λJ _ m=>by rw [v] at m;injection m with q;subst q;exact e⟩
    simp only [A];by_cases hT:w.2≠[]/\RunsOK (-4096) 4096 w.2
    ·simp only [hT,and_self,true_and,if_true,ne_eq,not_false_iff]
     (repeat' split)<;>first|rfl|omega
    ·simp only [hT,false_and,and_false,if_false]
     (repeat' split)<;>first|rfl|omega
   ·have A:Zi r i↔(-4096<=w.1/\w.1<4096)/\(w.2≠[]/\RunsOK (-4096) 4096 w.2):=by
     constructor
     ·intro h;have:=h _ hx;exact ⟨⟨this.1,this.2.1⟩,this.2.2.1,this.2.2.2.1⟩
     ·rintro ⟨⟨a,b⟩,c,d⟩ x f;rw [hx] at f;injection f with q;subst q;exact ⟨a,b,c,d,λJ h=>(F h).elim⟩
    simp only [A];by_cases hT:w.2≠[]/\RunsOK (-4096) 4096 w.2
    ·simp only [hT,and_self,and_true,if_true,ne_eq,not_false_iff]
     (repeat' split)<;>first|rfl|omega
    ·simp only [hT,and_false,if_false]
     (repeat' split)<;>first|rfl|omega
  rw [M];exact ⟨λh=>if_pos h,λh=>if_neg h⟩) (λ_=>by unfold Ku;dsimp only;rw [Kq (by omega)])
 unfold Yw;refine (lo_s g).trans ?_;by_cases h:RegOK r
 ·rw [if_pos ((Ja2 _).2 h),decide_eq_true h]
 ·rw [if_neg λq=>h ((Ja2 _).1 q),decide_eq_false h]
open Classical in
theorem jf{α:Type}{r:Reg}(hl:LimR r)(k:Bool->Option α):@W.call wv α Js r k=k (decide (RegOK r)):=ca_s (c:=Js) (Jll r hl)
open Classical in
theorem J06(l:List Run)(hl:l.length<=1000000000):@K9 wv l=some (decide (l≠[]/\RunsOK (-4096) 4096 l)):=by
 have g:=Jbg (b:=@Ka wv) (bad:=.inl ()) (fin:=.inr ⟨l,()⟩) (λi=>⟨l,(i:Int),()⟩) l.length (by omega) (Yk (-4096) 4096 l) (λi hi _=>by
  have hx:=Aa hi;have w:@Ka wv ⟨l,(i:Int),()⟩=if Yk (-4096) 4096 l i then some (.go ⟨l,((i+1:Nat):Int),()⟩) else some (.out (.inl ())):=by
   generalize y:l[i]=u at hx;unfold Ka;dsimp only;simp only [ge_s (fg hx)];rw [w_ln,Qw (by omega)];simp only [w_br,Jl8,Jat,Jir,Jng,Ks,decide_eq_true_eq];rw [wr (by omega) (by omega)];by_cases v:0<i
   ·have o:=Aa (l:=l) (i:=i - 1) (by omega);generalize l[i - 1]=p at o;rw [ge_s (fgz (i - 1) (by rw [Zb,wr (by omega) (by omega)];omega) o)];have r:Yk (-4096) 4096 l i↔-4096<=u.1/\u.1<u.2/\u.2<=4096/\p.2<u.1:=by
     constructor
     ·intro h;have:=h _ hx;exact ⟨this.1,this.2.1,this.2.2.1,this.2.2.2 _ v o⟩
     ·rintro ⟨a,b,c,d⟩ x f;rw [hx] at f;injection f with e;subst e;exact ⟨a,b,c,λp _ m=>by rw [o] at m;injection m with e;subst e;exact d⟩
    simp only [r]
    (repeat' split)<;>first|rfl|omega
   ·have r:Yk (-4096) 4096 l i↔-4096<=u.1/\u.1<u.2/\u.2<=4096:=by
     constructor
     ·intro h;have:=h _ hx;exact ⟨this.1,this.2.1,this.2.2.1⟩
     ·rintro ⟨a,b,c⟩ x f;rw [hx] at f;injection f with e;subst e;exact ⟨a,b,c,λp h=>(v h).elim⟩
    simp only [r]
    (repeat' split)<;>first|rfl|omega
  rw [w];exact ⟨λh=>if_pos h,λh=>if_neg h⟩) (λ_=>by unfold Ka;dsimp only;rw [w_ln,Kq (by omega)])
 unfold K9;refine (lo_s g).trans ?_;by_cases h:RunsOK (-4096) 4096 l
 ·rw [if_pos ((Jc4 _ _ _).2 h)];show some (decide ((l.length:Int) > 0))=_
  congr 1
  rw [decide_eq_decide];cases l<;>simp [h]
 ·rw [if_neg λq=>h ((Jc4 _ _ _).1 q),decide_eq_false λq=>h q.2]
open Classical in
theorem k_fine{α:Type}{l:List Run}(hl:l.length<=1000000000)(k:Bool->Option α):@W.call wv α Kg l k=k (decide (l≠[]/\RunsOK (-4096) 4096 l)):=ca_s (c:=Kg) (J06 l hl)
open Classical in
theorem Jtw(r:Reg)(hl:LimR r):@K3 wv r=some (decide (RegOK r)):=by
 have g:=Jbg (b:=@Jy wv) (bad:=.inl ()) (fin:=.inr ()) (λi=>⟨(i:Int),r,()⟩) r.length (by have:=hl.1;omega) (Zi r) (λi hi _=>by
  have hx:=Aa hi;have hL:=hl.1;have B:@Jy wv ⟨(i:Int),r,()⟩=if Zi r i then some (.go ⟨((i+1:Nat):Int),r,()⟩) else some (.out (.inl ())):=by
   generalize E:r[i]=w at hx;have hLw:=hl.2 w (Ae hx);unfold Jy;dsimp only;simp only [ge_s (fg hx)];rw [w_ln,Qw (by omega)];simp only [w_br,Jl8,Jat,Jir,Jng,Ks,w_nt,k_fine hLw,decide_eq_true_eq,Bh,decide_eq_false_iff_not];rw [wr (by omega) (by omega)];by_cases y:0<i
   ·have o:=Aa (l:=r) (i:=i - 1) (by omega);generalize r[i - 1]=p at o;rw [ge_s (fgz (i - 1) (by rw [Zb,wr (by omega) (by omega)];omega) o)];have v:Zi r i↔(-4096<=w.1/\w.1<4096)/\(w.2≠[]/\RunsOK (-4096) 4096 w.2)/\p.1<w.1:=by
     constructor
     ·intro h;have:=h _ hx;exact ⟨⟨this.1,this.2.1⟩,⟨this.2.2.1,this.2.2.2.1⟩,this.2.2.2.2 _ y o⟩
     ·rintro ⟨⟨a,b⟩,⟨c,d⟩,e⟩ x f;rw [hx] at f;injection f with q;subst q;exact ⟨a,b,c,d,λA _ m=>by rw [o] at m;injection m with q;subst q;exact e⟩
    simp only [v];by_cases hT:w.2≠[]/\RunsOK (-4096) 4096 w.2
    ·simp only [hT,and_self,true_and,if_true,ne_eq,not_false_iff,not_true_eq_false,if_false]
     (repeat' split)<;>first|rfl|omega
    ·simp only [hT,false_and,and_false,if_false,not_false_iff,if_true]
     (repeat' split)<;>first|rfl|omega
   ·have v:Zi r i↔(-4096<=w.1/\w.1<4096)/\(w.2≠[]/\RunsOK (-4096) 4096 w.2):=by
     constructor
     ·intro h;have:=h _ hx;exact ⟨⟨this.1,this.2.1⟩,this.2.2.1,this.2.2.2.1⟩
     ·rintro ⟨⟨a,b⟩,c,d⟩ x f;rw [hx] at f;injection f with q;subst q;exact ⟨a,b,c,d,λA h=>(y h).elim⟩
    simp only [v];by_cases hT:w.2≠[]/\RunsOK (-4096) 4096 w.2
    ·simp only [hT,and_self,and_true,if_true,ne_eq,not_false_iff,not_true_eq_false,if_false]
     (repeat' split)<;>first|rfl|omega
    ·simp only [hT,and_false,if_false,not_false_iff,if_true]
     (repeat' split)<;>first|rfl|omega
  rw [B];exact ⟨λh=>if_pos h,λh=>if_neg h⟩) (λ_=>by unfold Jy;dsimp only;rw [w_ln,Kq (by omega)])
 unfold K3;refine (lo_s g).trans ?_;by_cases h:RegOK r
 ·rw [if_pos ((Ja2 _).2 h),decide_eq_true h]
 ·rw [if_neg λq=>h ((Ja2 _).1 q),decide_eq_false h]
open Classical in
theorem Jvu{α:Type}{r:Reg}(hl:LimR r)(k:Bool->Option α):@W.call wv α Km r k=k (decide (RegOK r)):=ca_s (c:=Km) (Jtw r hl)
def Ji3(r:Reg)(y:Int):List Run:=match r.find? (λw=>w.1==y) with|some w=>w.2|none=>[]
theorem Jr0{r:Reg}(h:RegOK r)(c:Cell):Jh (Ji3 r c.2) c.1↔Qf r c:=by
 unfold Ji3;cases d:r.find? λw=>w.1==c.2 with
 | none=>
  constructor
  ·rintro ⟨u,f,-⟩;cases f
  ·rintro ⟨w,a,e,-⟩;have:=List.find?_eq_none.1 d w a;simp [e] at this
 | some w=>
  have a:=List.mem_of_find?_eq_some d;have e:w.1=c.2:=by have:=List.find?_some d;simpa using this
  have:=h.in_row a c.1;rw [e] at this;exact this.symm
theorem fitB{α:Type}{b:Nat}{n:Int}{x:Option α}(h:n<=1000000001)(d:0<=n)(a:b<=64):@W.gd wv α (@W.ft wv b n) x=x:=by refine gd_ft ⟨?_,by omega⟩;have:n * (b:Int)<=1000000001 * 64:=Int.mul_le_mul h (by omega) (by omega) (by omega);unfold room;omega
theorem Jie{α:Type}{n:Int}{x:Option α}(h:n<=1000000001)(a:0<=n):@W.gd wv α (@W.ft wv 16 n) x=x:=fitB h a (by decide)
theorem fit40{α:Type}{n:Int}{x:Option α}(h:n<=1000000001)(a:0<=n):@W.gd wv α (@W.ft wv 40 n) x=x:=fitB h a (by decide)
theorem fit32{α:Type}{n:Int}{x:Option α}(h:n<=1000000001)(a:0<=n):@W.gd wv α (@W.ft wv 32 n) x=x:=fitB h a (by decide)
theorem Jky(y:Int)(u:Run):(Jf5 y u).length=(u.2 - u.1).toNat:=by simp [Jf5,rng_len]
theorem J4e{w:Row}{k:Nat}{u:Run}(h:w.2[k]?=some u):(w.2.take (k+1)).flatMap (Jf5 w.1)=(w.2.take k).flatMap (Jf5 w.1)++Jf5 w.1 u:=Jlz h
theorem Jsc{α β:Type}(f:α->List β)(l:List α)(k:Nat):((l.take k).flatMap f).length<=(l.flatMap f).length:=by
 conv=>rhs;rw [<-Bl k l,Bp,Ao]
 omega
theorem Jlf{α β:Type}(f:α->List β){l:List α}{x:α}{k:Nat}(h:l[k]?=some x):((l.take k).flatMap f).length+(f x).length<=(l.flatMap f).length:=by have:=Jsc f l (k+1);rw [Jlz h,Ao] at this;exact this
theorem cells_le{r:Reg}{w:Row}{u:Run}{i k:Nat}(a:r[i]?=some w)(d:w.2[k]?=some u):((r.take i).flatMap rowC).length+((w.2.take k).flatMap (Jf5 w.1)).length+(Jf5 w.1 u).length<=(X5 r).length:=by have g:=Jlf rowC a;have f:=Jlf (Jf5 w.1) d;unfold X5;have:(rowC w).length=(w.2.flatMap (Jf5 w.1)).length:=rfl;omega
structure Jeo (l:List Run):Prop where
 bd:∀u∈l,u.1<u.2
 pw:l.Pairwise λa b=>a.2<b.1
theorem Jrk{lo hi:Int}{l:List Run}(h:Jeo l)(d:∀x,Jh l x->lo<=x/\x<hi):RunsOK lo hi l:=by refine ⟨λu a=>?_,h.pw⟩;have m:=h.bd u a;have g:=d u.1 ⟨u,a,by omega,by omega⟩;have f:=d (u.2 - 1) ⟨u,a,by omega,by omega⟩;omega
theorem Jim{l:List Run}{u:Run}:Jeo (l++[u])↔Jeo l/\u.1<u.2/\∀v∈l,v.2<u.1:=by
 constructor
 ·rintro ⟨a,f⟩;obtain ⟨m,A,g⟩:=Bc.1 f;exact ⟨⟨λx hx=>a x (Bo _ hx),m⟩,a u (by simp),λv d=>g v d u (by simp)⟩
 ·rintro ⟨⟨a,f⟩,y,r⟩;refine ⟨λx hx=>?_,Bc.2 ⟨f,Dc _ _,λv d w o=>?_⟩⟩
  ·rcases Ad.1 hx with h|h
   ·exact a x h
   ·rw [Ac.1 h];exact y
  ·rw [Ac.1 o];exact r v d
def bnd(l:List Run)(i:Nat):Int:=match l[i / 2]? with
 | some u=>if i % 2=1 then u.2 else u.1
 | none=>1048577
theorem over_ok(l:List Run)(i:Nat)(hl:l.length<=1000000000):@Y9 wv (l,(i:Int))=some (decide (i=2 * l.length)):=by unfold Y9;dsimp only;rw [Xr,w_mul,w_ln,wr (by omega) (by omega)];refine congrArg some ?_;rw [Dg,beq_iff_eq,decide_eq_true_eq];omega
theorem Jdb{α:Type}{l:List Run}{i:Nat}(hl:l.length<=1000000000)(k:Bool->Option α):@W.call wv α Jn ((l,(i:Int)):List (Int×Int)×Int) k=k (decide (i=2 * l.length)):=ca_s (c:=Jn) (over_ok l i hl)
theorem ins_ok(l:List Run)(i:Nat):@Yb wv (l,(i:Int))=some (decide (i % 2=1)):=by unfold Yb;dsimp only;rw [gd_t (by rfl),w_rem,Xr,Be (by omega)];refine congrArg some ?_;rw [Dg,beq_iff_eq,decide_eq_true_eq];omega
theorem Jvc{α:Type}{l:List Run}{i:Nat}(k:Bool->Option α):@W.call wv α Jm ((l,(i:Int)):List (Int×Int)×Int) k=k (decide (i % 2=1)):=ca_s (c:=Jm) (ins_ok l i)
theorem next_ok(l:List Run)(i:Nat)(hl:l.length<=1000000000)(hi:i<=2 * l.length):@Y6 wv (l,(i:Int))=some (bnd l i):=by
 unfold Y6;dsimp only;rw [Jdb hl];by_cases h:i=2 * l.length
 ·rw [br_t (decide_eq_true h)];have:l[i / 2]?=none:=Ax (by omega);simp only [bnd,this]
 ·rw [br_f (decide_eq_false h),Jvc];have hx:=Aa (l:=l) (i:=i / 2) (by omega);have d:@W.ar wv .quo .i64 (i:Int) 2=((i / 2:Nat):Int):=by rw [w_quo,Int.tdiv_eq_ediv_of_nonneg (by omega),wr (by omega) (by omega)];omega
  simp only [bnd,hx];by_cases a:i % 2=1
  ·rw [br_t (decide_eq_true a),gd_t (by rfl),d,ge_s (fg hx),if_pos a]
  ·rw [br_f (decide_eq_false a),gd_t (by rfl),d,ge_s (fg hx),if_neg a]
theorem Jeh{α:Type}{l:List Run}{i:Nat}(hl:l.length<=1000000000)(hi:i<=2 * l.length)(k:Int->Option α):@W.call wv α Jl ((l,(i:Int)):List (Int×Int)×Int) k=k (bnd l i):=ca_s (c:=Jl) (next_ok l i hl hi)
def At(l:List Run)(p:Int)(i:Nat):Prop:=i<=2 * l.length/\(∀k,k<i->bnd l k<=p)/\∀k,i<=k->p<bnd l k\/2 * l.length<=k
theorem Jk5{l:List Run}{p:Int}{i:Nat}(h:At l p i):Jh l p↔i % 2=1:=by
 obtain ⟨E,r,o⟩:=h;have m:∀q u,l[q]?=some u->bnd l (2 * q)=u.1/\bnd l (2 * q+1)=u.2:=λq u d=>by
  constructor
  ·simp only [bnd,show 2 * q / 2=q by omega,d];rw [if_neg (by omega)]
  ·simp only [bnd,show (2 * q+1) / 2=q by omega,d];rw [if_pos (by omega)]
 constructor
 ·rintro ⟨u,d,a,b⟩;obtain ⟨q,g⟩:=Aw.1 d;have f:=(Ab.1 g).1;obtain ⟨w,v⟩:=m q u g;by_cases A:i<=2 * q
  ·have:=o (2 * q) A;omega
  ·by_cases y:2 * q+1<i
   ·have:=r (2 * q+1) y;omega
   ·omega
 ·intro B;have f:i / 2<l.length:=by omega
  have d:=Aa f;obtain ⟨w,v⟩:=m (i / 2) _ d;have G:=r (2 * (i / 2)) (by omega);have F:=o (2 * (i / 2)+1) (by omega);exact ⟨_,Ae d,by omega,by omega⟩
theorem bnd_mono{lo hi:Int}{l:List Run}(h:RunsOK lo hi l){i:Nat}(g:i+1<2 * l.length):bnd l i<bnd l (i+1):=by
 have a:=Aa (l:=l) (i:=i / 2) (by omega);have d:=Aa (l:=l) (i:=(i+1) / 2) (by omega);simp only [bnd,a,d];by_cases f:i % 2=1
 ·rw [if_pos f,if_neg (by omega)];have e:(i+1) / 2=i / 2+1:=by omega
  have:=Jyj h.pw a (by rw [<-e];exact d);exact this
 ·rw [if_neg f,if_pos (by omega)];have e:(i+1) / 2=i / 2:=by omega
  simp only [e];exact (h.bd _ (Ae a)).2.1
theorem Jef{l:List Run}(h:RunsOK (-1048576) 1048576 l)(i:Nat):-1048576<=bnd l i/\bnd l i<=1048577:=by
 unfold bnd;split
 ·rename_i u a;have:=h.bd u (Ae a);split<;>omega
 ·omega
theorem Jw1{l:List Run}(h:RunsOK (-1048576) 1048576 l):∀ {i k:Nat},i<k->k<2 * l.length->bnd l i<bnd l k
 | i,0,d,_=>by omega
 | i,k+1,d,a=>by
  have:=bnd_mono h a;by_cases e:i=k
  ·subst e;exact this
  ·have:=Jw1 h (i:=i) (k:=k) (by omega) (by omega);omega
theorem Ji1{l:List Run}(h:RunsOK (-1048576) 1048576 l){p m:Int}{i:Nat}(g:At l p i)(E:m<=bnd l i)(w:p<m)(y:m<1048577):At l m (if bnd l i=m then i+1 else i)/\∀x,p<=x->x<m->(Jh l x↔i % 2=1):=by
 have B:=g;obtain ⟨o,f,F⟩:=g;refine ⟨?_,λx v r=>Jk5 ⟨o,λk a=>by have:=f k a;omega,λk a=>?_⟩⟩
 ·by_cases e:bnd l i=m
  ·rw [if_pos e];have A:i<2 * l.length:=by
    by_cases q:i<2 * l.length
    ·exact q
    ·have:l[i / 2]?=none:=Ax (by omega);simp only [bnd,this] at e;omega
   refine ⟨by omega,λk a=>?_,λk a=>?_⟩
   ·by_cases q:k=i
    ·subst q;omega
    ·have:=f k (by omega);omega
   ·by_cases q:2 * l.length<=k
    ·exact .inr q
    ·left;have:=Jw1 h (i:=i) (k:=k) (by omega) (by omega);omega
  ·rw [if_neg e];refine ⟨o,λk a=>by have:=f k a;omega,λk a=>?_⟩;by_cases q:2 * l.length<=k
   ·exact .inr q
   ·left;by_cases d:k=i
    ·subst d;omega
    ·have:=Jw1 h (i:=i) (k:=k) (by omega) (by omega);omega
 ·by_cases q:2 * l.length<=k
  ·exact .inr q
  ·left;by_cases d:k=i
   ·subst d;omega
   ·have:=Jw1 h (i:=i) (k:=k) (by omega) (by omega);omega
def Jro(was:Bool)(a:List Run)(i:Nat)(b:List Run)(j:Nat)(out:List Run):HP Bool (HP (List (Int×Int)) (HP Int (HP (List (Int×Int)) (HP Int (HP (List (Int×Int)) Unit))))):=
 let m:=min (bnd a i) (bnd b j);let f:=if bnd a i=m then i+1 else i;let d:=if bnd b j=m then j+1 else j;let now:=decide (f % 2=1)&&!decide (d % 2=1)
 ⟨now,a,(f:Int),b,(d:Int),if now=true/\was=false then out++[(m,0)] else if now=false/\was=true then Xd out (λu=>(u.1,m)) else out,()⟩
theorem Jgm{l:List Run}(a:l≠[])(m:Int):∃v,l[l.length - 1]?=some v/\l.set (l.length - 1) (v.1,m)=Xd l λu=>(u.1,m):=by
 obtain ⟨r,v,rfl⟩:∃r v,l=r++[v]:=by
  rcases l.eq_nil_or_concat with rfl|⟨r,v,e⟩
  ·exact (a rfl).elim
  ·exact ⟨r,v,by rw [e,Dk]⟩
 have e:(r++[v]).length - 1=r.length:=by simp
 rw [e];exact ⟨v,Jj4 r v,by rw [Jyg,X7]⟩
theorem J4c(x y:Int):@W.mn wv x y=min x y:=by rw [w_mn];omega
theorem sub_step(was:Bool)(a b out:List Run)(i j:Nat)(y:a.length<=1000000000)(w:b.length<=1000000000)(hi:i<=2 * a.length)(K:j<=2 * b.length)(P:out.length<=1000000000)(G:was=true->out≠[])(l:¬(i=2 * a.length/\j=2 * b.length)) :
  @Qv wv ⟨was,a,(i:Int),b,(j:Int),out,()⟩=some (.go (Jro was a i b j out)):=by
 have M:@Xy wv ⟨was,a,(i:Int),b,(j:Int),out,()⟩=some (.inl ⟨was,a,(i:Int),b,(j:Int),out,()⟩):=by
  unfold Xy;dsimp only;rw [Jdb y];by_cases A:i=2 * a.length
  ·rw [br_f (by simp [w_nt,A]),Jdb w,br_t (by simp [w_nt];exact λq=>l ⟨A,q⟩)]
  ·rw [br_t (by simp [w_nt,A])]
 generalize J:min (bnd a i) (bnd b j)=m;have F:@zd wv ⟨was,a,(i:Int),b,(j:Int),out,()⟩ (bnd a i) (bnd b j)=some ⟨was,m,a,((if bnd a i=m then i+1 else i:Nat):Int),b,(j:Int),out,()⟩:=by
  unfold zd;dsimp only;rw [Jeh y hi,J4c,J,Ks,wr (by omega) (by omega)];by_cases c:bnd a i=m
  ·rw [br_t (by rw [Xr];simp [c]),if_pos c];rfl
  ·rw [br_f (by rw [Xr];simp [c]),if_neg c]
 generalize r:(if bnd a i=m then i+1 else i)=d at F;have E:@zf wv ⟨was,m,a,(d:Int),b,(j:Int),out,()⟩=some ⟨was,m,a,(d:Int),b,((if bnd b j=m then j+1 else j:Nat):Int),out,()⟩:=by
  unfold zf;dsimp only;rw [Jeh w K,Ks,wr (by omega) (by omega)];by_cases c:bnd b j=m
  ·rw [br_t (by rw [Xr];simp [c]),if_pos c];rfl
  ·rw [br_f (by rw [Xr];simp [c]),if_neg c]
 generalize o:(if bnd b j=m then j+1 else j)=f at E;have B:@zq wv ⟨was,m,a,(d:Int),b,(f:Int),out,()⟩=some ⟨was,m,decide (d % 2=1)&&!decide (f % 2=1),a,(d:Int),b,(f:Int),out,()⟩:=by
  unfold zq;dsimp only;rw [Jvc,Jvc];by_cases c:d % 2=1
  ·rw [br_t (by simp [c])];simp [c,w_nt]
  ·rw [br_f (by simp [c])];simp [c]
 generalize g:(decide (d % 2=1)&&!decide (f % 2=1))=now at B;have h:∀ {α:Type} (x:Option α),@W.gd wv α (@W.ft wv 16 (@W.pl wv (@W.ln wv (Int×Int) out) 1)) x=x:=λx=>by rw [w_ln,w_pl];exact Jie (by omega) (by omega)
 have L:@zm wv ⟨was,m,now,a,(d:Int),b,(f:Int),out,()⟩=some ⟨now,a,(d:Int),b,(f:Int),if now=true/\was=false then out++[(m,0)] else if now=false/\was=true then Xd out (λu=>(u.1,m)) else out,()⟩:=by
  unfold zm;dsimp only;rw [h];have nt1:@W.nt wv true=false:=rfl;have nt0:@W.nt wv false=true:=rfl;cases now with
  | true=>
   cases was with
   | true=>rw [nt1,br_t rfl,br_f rfl,br_f rfl,if_neg (by simp),if_neg (by simp)]
   | false=>rw [nt0,br_t rfl,br_t rfl,if_pos (by simp),w_ap]
  | false=>
   cases was with
   | false=>rw [nt0,br_f rfl,br_t rfl,br_f rfl,if_neg (by simp),if_neg (by simp)]
   | true=>
    have H:=Bq.2 (G rfl);obtain ⟨v,N,O⟩:=Jgm (G rfl) m;rw [nt0,br_f rfl,br_t rfl,br_t rfl,w_ln,Zb,wr (by omega) (by omega),Jjr ⟨by omega,by omega⟩,ge_s (fgz (out.length - 1) (by omega) N),if_neg (by simp),if_pos (by simp),w_st,show ((out.length:Int) - 1).toNat=out.length - 1 by omega,O]
 unfold Qv;rw [jo_s M];dsimp only;rw [Jeh y hi,Jeh w K,jo_s F,jo_s E,jo_s B,jo_s L];unfold Jro;dsimp only;rw [J,r,o,g]
def SubI(a b:List Run)(p:Int)(was:Bool)(i j:Nat)(out:List Run):Prop:=
 At a p i/\At b p j/\was=(decide (i % 2=1)&&!decide (j % 2=1)) /\
 ((was=false/\Jeo out/\(∀u∈out,u.2<=p)/\∀x,x<p->(Jh out x↔Jh a x/\¬Jh b x)) \/
  ∃(o:List Run) (s z:Int),out=o++[(s,z)]/\was=true/\s<=p/\Jeo o/\(∀u∈o,u.2<s)/\(∀x,x<s->(Jh o x↔Jh a x/\¬Jh b x))/\∀x,s<=x->x<=p->Jh a x/\¬Jh b x)
theorem sub_inv{a b:List Run}(R:RunsOK (-1048576) 1048576 a)(Q:RunsOK (-1048576) 1048576 b){p:Int}{was:Bool}{i j:Nat}{out:List Run}(hI:SubI a b p was i j out)(N:¬(i=2 * a.length/\j=2 * b.length)) :
  ∃m,p<m/\∃(was':Bool) (H G:Nat) (out':List Run),Jro was a i b j out=⟨was',a,(H:Int),b,(G:Int),out',()⟩/\SubI a b m was' H G out'/\i+j<H+G/\out'.length<=out.length+1:=by
 obtain ⟨hA,hB,Z,hO⟩:=hI;have B:min (bnd a i) (bnd b j)<1048577:=by
  have Y:i<2 * a.length->bnd a i<1048577:=λq=>by have d:=Aa (l:=a) (i:=i / 2) (by omega);have:=R.bd _ (Ae d);simp only [bnd,d];split<;>omega
  have F:j<2 * b.length->bnd b j<1048577:=λq=>by have d:=Aa (l:=b) (i:=j / 2) (by omega);have:=Q.bd _ (Ae d);simp only [bnd,d];split<;>omega
  have w:=hA.1;have E:=hB.1;have L:i<2 * a.length\/j<2 * b.length:=by omega
  rcases L with L|L
  ·have:=Y L;omega
  ·have:=F L;omega
 have hp1:p<bnd a i:=by
  rcases hA.2.2 i (Aq _) with h|h
  ·exact h
  ·have e:a[i / 2]?=none:=Ax (by omega);have:p<1048577:=by
    have q:At b p j:=hB;by_cases F:j<2 * b.length
    ·rcases hB.2.2 j (Aq _) with h'|h'
     ·have:=Jef Q j;omega
     ·omega
    ·exact (N ⟨by have:=hA.1;omega,by have:=hB.1;omega⟩).elim
   simp only [bnd,e];exact this
 have hp2:p<bnd b j:=by
  rcases hB.2.2 j (Aq _) with h|h
  ·exact h
  ·have e:b[j / 2]?=none:=Ax (by omega);have:p<1048577:=by have:=Jef R i;omega
   simp only [bnd,e];exact this
 generalize A:min (bnd a i) (bnd b j)=m at B;have y:p<m:=by omega
 obtain ⟨hA',hAx⟩:=Ji1 R hA (m:=m) (by omega) y B;obtain ⟨hB',hBx⟩:=Ji1 Q hB (m:=m) (by omega) y B;refine ⟨m,y,_,_,_,_,by unfold Jro;rw [A],?_,?_,?_⟩
 ·refine ⟨hA',hB',rfl,?_⟩;have hAm:=Jk5 hA';have hBm:=Jk5 hB';generalize (if bnd a i=m then i+1 else i)=H at *
  generalize (if bnd b j=m then j+1 else j)=G at *
  have hD:∀x,p<=x->x<m->(Jh a x/\¬Jh b x↔was=true):=λx w E=>by rw [hAx x w E,hBx x w E,Z];simp
  have hDm:Jh a m/\¬Jh b m↔(decide (H % 2=1)&&!decide (G % 2=1))=true:=by rw [hAm,hBm];simp
  generalize (decide (H % 2=1)&&!decide (G % 2=1))=now at *
  rcases hO with ⟨M,K,g,J⟩|⟨o,s,z,rfl,M,hs,K,g,J,X⟩
  ·subst M;cases now with
   | false=>
    left;rw [if_neg (by simp),if_neg (by simp)];refine ⟨rfl,K,λu d=>by have:=g u d;omega,λx hx=>?_⟩;by_cases q:x<p
    ·exact J x q
    ·rw [hD x (by omega) hx];refine ⟨λ⟨u,d,w,E⟩=>by have:=g u d;omega,λh=>by simp at h⟩
   | true=>
    right;rw [if_pos (by simp)];refine ⟨out,m,0,rfl,rfl,Int.le_refl _,K,λu d=>by have:=g u d;omega,λx hx=>?_,λx w E=>?_⟩
    ·by_cases q:x<p
     ·exact J x q
     ·rw [hD x (by omega) hx];refine ⟨λ⟨u,d,w,E⟩=>by have:=g u d;omega,λh=>by simp at h⟩
    ·have:x=m:=by omega
     subst this;exact hDm.2 rfl
  ·subst M;cases now with
   | true=>
    right;rw [if_neg (by simp),if_neg (by simp)];refine ⟨o,s,z,rfl,rfl,by omega,K,g,J,λx w E=>?_⟩;by_cases q:x<=p
    ·exact X x w q
    ·by_cases F:x=m
     ·subst F;exact hDm.2 rfl
     ·exact (hD x (by omega) (by omega)).2 rfl
   | false=>
    left;rw [if_neg (by simp),if_pos (by simp),X7];refine ⟨rfl,Jim.2 ⟨K,by dsimp only;omega,g⟩,λu d=>?_,λx hx=>?_⟩
    ·rcases Ad.1 d with h|h
     ·have:=g u h;omega
     ·rw [Ac.1 h];exact Int.le_refl _
    ·rw [Jgk];dsimp only;by_cases q:x<s
     ·rw [J x q];exact ⟨λh=>h.resolve_right λh=>by omega,.inl⟩
     ·have P:Jh a x/\¬Jh b x:=by
       by_cases F:x<=p
       ·exact X x (by omega) F
       ·exact (hD x (by omega) hx).2 rfl
      exact ⟨λ_=>P,λ_=>.inr ⟨by omega,hx⟩⟩
 ·by_cases q:bnd a i=m
  ·rw [if_pos q];split<;>omega
  ·have:bnd b j=m:=by omega
   rw [if_pos this];split<;>omega
 ·have O:∀(l:List Run) (f:Run->Run),(Xd l f).length=l.length:=λl f=>by
   rcases l.eq_nil_or_concat with rfl|⟨r,v,rfl⟩
   ·rfl
   ·rw [Dk,X7];simp
  have key:∀nw ws:Bool,(if nw=true/\ws=false then out++[(m,0)] else if nw=false/\ws=true then Xd out (λu=>(u.1,m)) else out).length<=out.length+1:=λnw ws=>by cases nw<;>cases ws<;>simp [O]
  exact key _ _
theorem sub_loop(a b:List Run)(P:a.length<=100000000)(O:b.length<=100000000)(r:RunsOK (-1048576) 1048576 a)(w:RunsOK (-1048576) 1048576 b) :
  ∃e,Yl (@Qv wv) bigN ⟨false,a,0,b,0,[],()⟩=some e/\Jeo e.e/\∀x,Jh e.e x↔Jh a x/\¬Jh b x:=by
 refine Jh7 (b:=@Qv wv) (λs=>∃(p:Int) (was:Bool) (i j:Nat) (out:List Run),s=⟨was,a,(i:Int),b,(j:Int),out,()⟩/\SubI a b p was i j out/\out.length<=i+j)
  (λe=>Jeo e.e/\∀x,Jh e.e x↔Jh a x/\¬Jh b x) (λs=>(2 * (a.length:Int)+2 * (b.length:Int) - s.j.j.e - s.j.j.j.j.e).toNat) ?_ ⟨-1048577,false,0,0,[],rfl,⟨⟨by omega,by omega,λk h=>?_⟩,⟨by omega,by omega,λk h=>?_⟩,rfl,.inl ⟨rfl,⟨by simp,.nil⟩,by simp,λx hx=>?_⟩⟩,by simp⟩ (by dsimp only;omega)
 ·rintro s ⟨p,was,i,j,out,rfl,hI,Y⟩;have B:=hI.1.1;have A:=hI.2.1.1;by_cases d:i=2 * a.length/\j=2 * b.length
  ·right;obtain ⟨rfl,rfl⟩:=d;have H:@Xy wv ⟨was,a,((2 * a.length:Nat):Int),b,((2 * b.length:Nat):Int),out,()⟩=some (.inr ⟨out,()⟩):=by unfold Xy;dsimp only;rw [Jdb (by omega),br_f (by simp [w_nt]),Jdb (by omega),br_f (by simp [w_nt])]
   unfold Qv;rw [jo_s H];refine ⟨_,rfl,?_⟩;obtain ⟨hA,hB,L,hO⟩:=hI;have l:was=false:=by rw [L];simp
   rcases hO with ⟨f,G,F,E⟩|⟨o,s,z,rfl,f,-⟩
   ·refine ⟨G,λx=>?_⟩;by_cases q:x<p
    ·exact E x q
    ·refine ⟨λ⟨u,g,y,Q⟩=>by have:=F u g;omega,λ⟨y,Q⟩=>?_⟩;have:At a x (2 * a.length):=⟨Aq _,λk h=>by have:=hA.2.1 k h;omega,λk h=>.inr h⟩;have:=(Jk5 this).1 y;omega
   ·rw [l] at f;cases f
  ·left;obtain ⟨m,M,was',K,J,out',e,hI',N,v⟩:=sub_inv r w hI d;refine ⟨_,sub_step was a b out i j (by omega) (by omega) B A (by omega) (λq=>?_) d,?_,?_⟩
   ·rcases hI.2.2.2 with ⟨f,-⟩|⟨o,s,z,rfl,-⟩
    ·rw [f] at q;cases q
    ·simp
   ·rw [e];exact ⟨m,was',K,J,out',rfl,hI',by omega⟩
   ·rw [e];have X:=hI'.1.1;have R:=hI'.2.1.1;dsimp only;omega
 ·by_cases q:2 * a.length<=k
  ·exact .inr q
  ·left;have:=Jef r k;omega
 ·by_cases q:2 * b.length<=k
  ·exact .inr q
  ·left;have:=Jef w k;omega
 ·constructor
  ·rintro ⟨u,g,-⟩;cases g
  ·rintro ⟨⟨u,g,B,A⟩,-⟩;have:=r.bd u g;omega
open Classical in
theorem Ju7(a b:List Run)(f:a.length<=100000000)(d:b.length<=100000000)(h:RunsOK (-1048576) 1048576 a)(g:RunsOK (-1048576) 1048576 b) :
  ∃l,@zh wv (a,b)=some l/\Jeo l/\∀x,Jh l x↔Jh a x/\¬Jh b x:=by obtain ⟨e,m,r,o⟩:=sub_loop a b f d h g;refine ⟨e.e,?_,r,o⟩;unfold zh;dsimp only;rw [Yj (by omega),br_f (by simp [w_nt,h]),Yj (by omega),br_f (by simp [w_nt,g])];exact lo_s m
theorem same_ok(t:J0)(d:t.2.2.length<=1000000000):@X9 wv (t,t)=some true:=by
 have a:=Ql (b:=@Q1 wv) (e:=.inr ()) (λi=>⟨(t.2.2.length:Int),(i:Int),t.1,t.2.1,t.2.2,t.1,t.2.1,t.2.2,()⟩) t.2.2.length (by omega) (λi hi=>by
  have hx:=Aa hi;unfold Q1;dsimp only;rw [Qw (by omega),ge_s (fg hx),ge_s (fg hx),br_f (by simp [w_nt,w_an,Xr]),Ks,wr (by omega) (by omega)];rfl) (by unfold Q1;dsimp only;rw [Kq (by omega)])
 unfold X9;dsimp only;rw [br_f (by simp [Jna]),br_f (by simp [w_nt,w_be]),br_f (by simp [Jna,w_ln])];exact lo_s a
theorem k_Same{α:Type}{t:J0}(a:t.2.2.length<=1000000000)(k:Bool->Option α):@W.call wv α Qa (((t.1,(t.2.1,t.2.2)),(t.1,(t.2.1,t.2.2))):(Int×(Bool×List (Int×Int)))×(Int×(Bool×List (Int×Int)))) k=k true:=ca_s (c:=Qa) (same_ok t a)
def grid(c:Cell):Prop:=-4096<=c.1/\c.1<4096/\-4096<=c.2/\c.2<4096
instance (c:Cell):Decidable (grid c):=by unfold grid;exact inferInstance
def nb(a b:Cell):Prop:=(a.1 - b.1) * (a.1 - b.1)+(a.2 - b.2) * (a.2 - b.2)=1
instance (a b:Cell):Decidable (nb a b):=by unfold nb;exact inferInstance
theorem J0p(c:Cell):@Jan wv c=some (decide (grid c)):=by
 simp only [Jan,w_br,Jl8,Jng,decide_eq_true_eq]
 (repeat' split)<;>first|exact congrArg some (decide_eq_decide.2 (by unfold grid;omega))|exact congrArg some (decide_eq_false (by unfold grid;omega)).symm
theorem k_onGrid{α:Type}(c:Cell)(k:Bool->Option α):@W.call wv α Yx ((c.1,c.2):Int×Int) k=k (decide (grid c)):=ca_s (c:=Yx) (J0p c)
theorem sq_bd{d:Int}(g:-100000<=d)(f:d<=100000):0<=d * d/\d * d<=10000000000:=by have e:d * d=((d.natAbs * d.natAbs:Nat):Int):=(Int.natAbs_mul_self (a:=d)).symm;have:d.natAbs * d.natAbs<=100000 * 100000:=Nat.mul_le_mul (by omega) (by omega);omega
theorem Jug(a b:Cell)(g:grid a)(f:grid b):@Zr wv (a,b)=some (decide (nb a b)):=by
 unfold grid at g f;have l:=sq_bd (d:=a.1 - b.1) (by omega) (by omega);have h:=sq_bd (d:=a.2 - b.2) (by omega) (by omega);unfold Zr;dsimp only;simp only [Ks,w_mul,Zb,Xr];rw [wr (n:=a.1 - b.1) (by omega) (by omega),wr (n:=a.2 - b.2) (by omega) (by omega),wr (n:=(a.1 - b.1) * (a.1 - b.1)) (by omega) (by omega),wr (n:=(a.2 - b.2) * (a.2 - b.2)) (by omega) (by omega),wr (by omega) (by omega)]
 congr 1
theorem Jln{α:Type}{a b:Cell}(f:grid a)(d:grid b)(k:Bool->Option α):@W.call wv α Qh (((a.1,a.2),(b.1,b.2)):(Int×Int)×(Int×Int)) k=k (decide (nb a b)):=ca_s (c:=Qh) (Jug a b f d)
def J4v(l:List Cell)(i:Nat):Prop:=∀c,l[i]?=some c->grid c/\∀p,0<i->l[i - 1]?=some p->nb p c
def VT(t:J0):Prop:=(1<=t.1/\t.1<=7)/\(1<=t.2.2.length/\t.2.2.length<=65536)/\(∀i,i<t.2.2.length->J4v t.2.2 i)/\(t.2.1=true->t.2.2.length=1\/∀a b,t.2.2[t.2.2.length - 1]?=some a->t.2.2[0]?=some b->nb a b)
open Classical in
theorem Jnl(t:J0):@Jbf wv t=some (decide (VT t)):=by
 obtain ⟨role,closed,l⟩:=t;unfold Jbf;dsimp only;simp only [w_ln];by_cases H:1<=role/\role<=7
 case neg=>
  rw [decide_eq_false λq:VT _=>H q.1];simp only [w_br,Jng,Jat,decide_eq_true_eq];by_cases A:role<1
  ·rw [if_pos A]
  ·rw [if_neg A,if_pos (by omega)]
 rw [Kq (by omega),br_f (by rw [Jat];exact decide_eq_false (by omega))];by_cases A:1<=l.length/\l.length<=65536
 case neg=>
  rw [decide_eq_false λq:VT _=>A q.2.1];simp only [w_br,Jng,Jat,decide_eq_true_eq];by_cases m:(l.length:Int)<1
  ·rw [if_pos m]
  ·rw [if_neg m,if_pos (by omega)]
 rw [Kq (by omega),br_f (by rw [Jat];exact decide_eq_false (by omega))];have v:=Jbg (b:=@Yp wv) (bad:=.inl ()) (fin:=.inr ⟨(l.length:Int),role,closed,l,()⟩) (λi=>⟨(l.length:Int),l,(l.length:Int),(i:Int),role,closed,l,()⟩) l.length (by omega) (J4v l) (λi hi r=>by
  have hx:=Aa hi;generalize l[i]=c at hx;have O:@Yp wv ⟨(l.length:Int),l,(l.length:Int),(i:Int),role,closed,l,()⟩=if J4v l i then some (.go ⟨(l.length:Int),l,(l.length:Int),((i+1:Nat):Int),role,closed,l,()⟩) else some (.out (.inl ())):=by
   unfold Yp;dsimp only;rw [Qw (by omega),ge_s (fg hx),k_onGrid];by_cases B:grid c
   case neg=>rw [br_t (by simp [w_nt,B]),if_neg λq=>B (q c hx).1]
   rw [br_f (by simp [w_nt,B]),Ks,wr (by omega) (by omega)];by_cases L:0<i
   ·have F:=Aa (l:=l) (i:=i - 1) (by omega);generalize l[i - 1]=p at F;have J:grid p:=(r (i - 1) (by omega) p F).1;rw [br_t (by rw [Jat];exact decide_eq_true (by omega)),ge_s (fgz (i - 1) (by rw [Zb,wr (by omega) (by omega)];omega) F),Jln J B];have o:J4v l i↔nb p c:=by
     constructor
     ·intro q;exact (q c hx).2 p L F
     ·intro q c' g;rw [hx] at g;injection g with e;subst e;exact ⟨B,λM _ E=>by rw [F] at E;injection E with e;subst e;exact q⟩
    by_cases G:nb p c
    ·rw [br_f (by simp [w_nt,G]),if_pos (o.2 G)];rfl
    ·rw [br_t (by simp [w_nt,G]),if_neg λq=>G (o.1 q)]
   ·rw [br_f (by rw [Jat];exact decide_eq_false (by omega)),if_pos]
    ·rfl
    ·intro c' g;rw [hx] at g;injection g with e;subst e;exact ⟨B,λM h=>(L h).elim⟩
  rw [O];exact ⟨λh=>if_pos h,λh=>if_neg h⟩) (λ_=>by unfold Yp;dsimp only;rw [Kq (by omega)])
 refine (lo_s v).trans ?_;by_cases m:∀i,i<l.length->J4v l i
 case neg=>rw [if_neg m,decide_eq_false λq:VT _=>m q.2.2.1]
 rw [if_pos m];dsimp only;cases N:closed with
 | false=>rw [br_t (by rfl),decide_eq_true];exact ⟨H,A,m,λq=>by cases q⟩
 | true=>
  rw [br_f (by rfl)];by_cases K:l.length=1
  ·rw [br_t (by rw [Xr,K];rfl),decide_eq_true];exact ⟨H,A,m,λ_=>.inl K⟩
  ·have d:=Aa (l:=l) (i:=l.length - 1) (by omega);have f:=Aa (l:=l) (i:=0) (by omega);generalize l[l.length - 1]=a at d;generalize l[0]=b at f;rw [br_f (by rw [Xr,beq_eq_false_iff_ne];omega),ge_s (fgz (l.length - 1) (by rw [Zb,wr (by omega) (by omega)];omega) d),ge_s (fg0 f),Jln (m _ (by omega) a d).1 (m _ (by omega) b f).1];refine congrArg some (decide_eq_decide.2 ⟨λq=>⟨H,A,m,λ_=>.inr λa' R y w=>?_⟩,λq=>?_⟩)
   ·dsimp only at y w;rw [d] at y;rw [f] at w;injection y with Q;injection w with P;subst Q;subst P;exact q
   ·rcases q.2.2.2 rfl with e|e
    ·exact (K e).elim
    ·exact e a b d f
open Classical in
theorem Jpf{α:Type}{t:J0}(k:Bool->Option α):@W.call wv α Zq ((t.1,(t.2.1,t.2.2)):Int×(Bool×List (Int×Int))) k=k (decide (VT t)):=ca_s (c:=Zq) (Jnl t)
def rowY(r:Reg)(y:Int):List Run:=((r.find? λw=>w.1==y).map Prod.snd).getD []
theorem Jfm{r:Reg}(h:RegOK r){w:Row}(d:w∈r):rowY r w.1=w.2:=by
 have m:=h.pw;clear h
 induction r with
 | nil=>cases d
 | cons v r l=>
  obtain ⟨g,f⟩:=Ak.1 m;unfold rowY;rcases Ag.1 d with rfl|a
  ·simp
  ·have o:=g w a;rw [List.find?_cons_of_neg (by simp;omega)];exact l a f
theorem Jfr{r:Reg}{y:Int}(h:∀w∈r,w.1≠y):rowY r y=[]:=by unfold rowY;rw [List.find?_eq_none.2 (λw a=>by simp [h w a])];rfl
theorem Jdi{r:Reg}(h:RegOK r){x y:Int}:Qf r (x,y)↔Jh (rowY r y) x:=by
 constructor
 ·rintro ⟨w,a,e,hx⟩;have e:w.1=y:=e;rw [<-e,Jfm h a];exact hx
 ·intro hx;by_cases d:∃w∈r,w.1=y
  ·obtain ⟨w,a,e⟩:=d;rw [<-e,Jfm h a] at hx;exact ⟨w,a,e,hx⟩
  ·rw [Jfr (λw a e=>d ⟨w,a,e⟩)] at hx;obtain ⟨u,f,_⟩:=hx;cases f
theorem Jid{r:Reg}(h:RegOK r)(y:Int):RunsOK (-4096) 4096 (rowY r y):=by
 by_cases d:∃w∈r,w.1=y
 ·obtain ⟨w,a,e⟩:=d;rw [<-e,Jfm h a];exact h.rs w a
 ·rw [Jfr (λw a e=>d ⟨w,a,e⟩)];exact ⟨by simp,.nil⟩
theorem Jo2{r:Reg}(h:RegOK r){i j:Nat}{a b:Row}(m:r[i]?=some a)(l:r[j]?=some b)(d:i<j):a.1<b.1:=by obtain ⟨g,rfl⟩:=Ab.1 m;obtain ⟨f,rfl⟩:=Ab.1 l;exact Aj.1 h.pw i j g f d
theorem Jn5{r:Reg}(h:RegOK r){i j:Nat}{a b:Row}(g:r[i]?=some a)(f:r[j]?=some b)(d:i<=j):a.1<=b.1:=by
 rcases Nat.lt_or_eq_of_le d with l|rfl
 ·have:=Jo2 h g f l;omega
 ·rw [g] at f;injection f with e;subst e;omega
theorem Jxk{r:Reg}(h:RegOK r){i:Nat}{w:Row}(d:r[i]?=some w) :
  rowY r (w.1 - 1)=(if 0<i then (match r[i - 1]? with|some v=>if v.1=w.1 - 1 then v.2 else []|none=>[]) else []):=by
 by_cases hi:0<i
 ·rw [if_pos hi];have l:=(Ab.1 d).1;have g:r[i - 1]?=some r[i - 1]:=Aa (by omega);rw [g];dsimp only;by_cases o:r[i - 1].1=w.1 - 1
  ·rw [if_pos o,<-o,Jfm h (Av _)]
  ·rw [if_neg o];refine Jfr λv a e=>?_;obtain ⟨j,f⟩:=Ah a;have y:=Jo2 h g d (by omega);rcases Nat.lt_or_ge (i - 1) j with l|m
   ·have:=Jn5 h d f (by omega);omega
   ·have:=Jn5 h f g m;omega
 ·rw [if_neg hi];refine Jfr λv a e=>?_;obtain ⟨j,f⟩:=Ah a;have:=Jn5 h d f (by omega);omega
theorem next_row{r:Reg}(h:RegOK r){i:Nat}{w:Row}(f:r[i]?=some w) :
  rowY r (w.1+1)=(match r[i+1]? with|some v=>if v.1=w.1+1 then v.2 else []|none=>[]):=by
 cases d:r[i+1]? with
 | none=>
  dsimp only;refine Jfr λv g e=>?_;obtain ⟨j,a⟩:=Ah g;have A:=(Ab.1 a).1;have B:=Bt.1 d;have:=Jn5 h a f (by omega);omega
 | some v=>
  dsimp only;by_cases m:v.1=w.1+1
  ·rw [if_pos m,<-m,Jfm h (Ae d)]
  ·rw [if_neg m];refine Jfr λu o e=>?_;obtain ⟨j,a⟩:=Ah o;have A:=Jo2 h f d (by omega);rcases Nat.lt_or_ge i j with y|l
   ·have:=Jn5 h d a (by omega);omega
   ·have:=Jn5 h a f l;omega
theorem J25(r:Reg)(h:RegOK r)(hl:r.length<=1000000000){i:Nat}{w:Row}(f:r[i]?=some w) :
  @Zs wv (r,(i:Int))=some (rowY r (w.1 - 1),rowY r (w.1+1)):=by
 have hi:=(Ab.1 f).1;have B:=h.y w (Ae f);have l:@W.ar wv .sub .i64 w.1 1=w.1 - 1:=by rw [Zb,wr (by omega) (by omega)]
 have A:@W.ar wv .add .i64 w.1 1=w.1+1:=by rw [Ks,wr (by omega) (by omega)]
 have y:@W.ar wv .add .i64 (i:Int) 1=((i+1:Nat):Int):=by rw [Ks,wr (by omega) (by omega)];omega
 have tail:∀up:List Run,
   (@W.br wv (List Run×List Run) (@W.cm wv .lss (@W.ar wv .add .i64 (i:Int) 1) (@W.ln wv Row r)) (@W.ge wv (List Run×List Run) Row r (@W.ar wv .add .i64 (i:Int) 1) λv3=>
    @W.br wv (List Run×List Run) (@W.cm wv .eql v3.1 (@W.ar wv .add .i64 w.1 1)) (@W.ge wv (List Run×List Run) Row r (@W.ar wv .add .i64 (i:Int) 1) λv4=>some (up,v4.2)) (some (up,[]))) (some (up,[])))=some (up,rowY r (w.1+1)):=by
  intro up;rw [next_row h f,y,w_ln,A];cases d:r[i+1]? with
  | none=>
   have m:=Bt.1 d;rw [Kq (by omega)]
  | some v=>
   have m:=(Ab.1 d).1;rw [Qw (by omega),ge_s (fg d)];dsimp only;by_cases a:v.1=w.1+1
   ·rw [br_t (by rw [Xr];simpa using a),ge_s (fg d),if_pos a]
   ·rw [br_f (by rw [Xr];simpa using a),if_neg a]
 unfold Zs;dsimp only;rw [ge_s (fg f)];by_cases g:0<i
 ·have d:r[i - 1]?=some r[i - 1]:=Aa (by omega);have o:@W.ar wv .sub .i64 (i:Int) 1=((i - 1:Nat):Int):=by rw [Zb,wr (by omega) (by omega)];omega
  rw [br_t (by rw [Jat];exact decide_eq_true (by omega)),o,ge_s (fg d),Jxk h f,if_pos g,d];dsimp only;by_cases a:r[i - 1].1=w.1 - 1
  ·rw [br_t (by rw [Xr,l];simpa using a),ge_s (fg d),if_pos a];exact tail _
  ·rw [br_f (by rw [Xr,l];simpa using a),if_neg a];exact tail _
 ·rw [br_f (by rw [Jat];exact decide_eq_false (by omega)),Jxk h f,if_neg g];exact tail _
theorem k_around{α:Type}{r:Reg}(h:RegOK r)(hl:r.length<=1000000000){i:Nat}{w:Row}(a:r[i]?=some w)(k:List (Int×Int)×List (Int×Int)->Option α):@W.call wv α Q7 ((r,(i:Int)):List (Int×List (Int×Int))×Int) k=k (rowY r (w.1 - 1),rowY r (w.1+1)):=ca_s (c:=Q7) (J25 r h hl a)
def Xk(h:Int)(p:Cell):Cell:=if h=0 then (p.1+1,p.2) else if h=1 then (p.1,p.2+1) else if h=2 then (p.1 - 1,p.2) else (p.1,p.2 - 1)
def Y2(p:Cell):Prop:=(-1000000000<=p.1/\p.1<=1000000000)/\-1000000000<=p.2/\p.2<=1000000000
theorem from_ok(h:Int)(p:Cell)(a:Y2 p):@Q3 wv (h,p)=some (Xk h p):=by
 obtain ⟨⟨l,g⟩,f,d⟩:=a;unfold Q3 Xk;dsimp only;simp only [Ks,Zb,w_br,Xr,beq_iff_eq];rw [wr (n:=p.1+1) (by omega) (by omega),wr (n:=p.2+1) (by omega) (by omega),wr (n:=p.1 - 1) (by omega) (by omega),wr (n:=p.2 - 1) (by omega) (by omega)];split
 ·rfl
 split
 ·rfl
 split<;>rfl
theorem k_from{α:Type}{h:Int}{p:Cell}(a:Y2 p)(k:Int×Int->Option α):@W.call wv α J8 ((h,p):Int×(Int×Int)) k=k (Xk h p):=ca_s (c:=J8) (from_ok h p a)
theorem left_ok(h:Int)(d:0<=h)(a:h<=3):@Q2 wv h=some ((h+1) % 4):=by unfold Q2;rw [gd_t (by rfl),w_rem,Ks,wr (by omega) (by omega),Be (by omega)]
theorem k_left{α:Type}{h:Int}(d:0<=h)(a:h<=3)(k:Int->Option α):@W.call wv α J6 (h:Int) k=k ((h+1) % 4):=ca_s (c:=J6) (left_ok h d a)
theorem right_ok(h:Int)(d:0<=h)(a:h<=3):@Qr wv h=some ((h+3) % 4):=by unfold Qr;rw [gd_t (by rfl),w_rem,Ks,wr (by omega) (by omega),Be (by omega)]
theorem k_right{α:Type}{h:Int}(d:0<=h)(a:h<=3)(k:Int->Option α):@W.call wv α J3 (h:Int) k=k ((h+3) % 4):=ca_s (c:=J3) (right_ok h d a)
theorem index_ok(l:List Int)(x:Int)(hl:l.length<=1000000000):∃e,@Jo wv (l,x)=some e/\((e=-1/\x∉l)\/∃i:Nat,l[i]?=some x/\e=(i:Int)):=by
 obtain ⟨e,d,f⟩:=loop_any (b:=@Jt wv) l (by omega) (λi=>⟨l,x,(l.length:Int),(i:Int),()⟩) (λy=>x=y) (λi _=>.inl ⟨(i:Int),()⟩) (.inr ()) (λi y hi a=>by
  have r:@W.ar wv .add .i64 (i:Int) 1=((i+1:Nat):Int):=by rw [Ks,wr (by omega) (by omega)];omega
  unfold Jt;dsimp only;rw [Qw (by omega),ge_s (fg a)];refine ⟨λh=>?_,λh=>?_⟩
  ·rw [br_t (by rw [Xr];simpa using h)]
  ·rw [br_f (by rw [Xr];simpa using h),r]) (by unfold Jt;dsimp only;rw [Kq (by omega)])
 unfold Jo;dsimp only;rw [w_ln];rcases f with ⟨rfl,m⟩|⟨i,y,a,g,rfl⟩
 ·exact ⟨-1,lo_s d,.inl ⟨rfl,λo=>m x o rfl⟩⟩
 ·exact ⟨(i:Int),lo_s d,.inr ⟨i,by rw [a,g],rfl⟩⟩
theorem J1y{l:List Int}(x:Int)(hl:l.length<=1000000000):∃e:Int,(∀ {α:Type} (k:Int->Option α),@W.call wv α Jd ((l,x):List Int×Int) k=k e)/\((e=-1/\x∉l)\/∃i:Nat,l[i]?=some x/\e=(i:Int)):=by obtain ⟨e,d,a⟩:=index_ok l x hl;exact ⟨e,λk=>ca_s (c:=Jd) d,a⟩
theorem Ju9(l:List Int)(x:Int)(hl:l.length<=1000000000):@Ju wv (l,x)=some (decide (x∈l)):=by
 obtain ⟨e,f,a⟩:=J1y x hl;unfold Ju;dsimp only;rw [f];refine congrArg some ?_;rw [Jl8];refine decide_eq_decide.2 ?_;rcases a with ⟨rfl,d⟩|⟨i,hi,rfl⟩
 ·exact ⟨λh=>by omega,λh=>(d h).elim⟩
 ·exact ⟨λ_=>Ae hi,λ_=>by omega⟩
theorem Jyv{α:Type}{l:List Int}{x:Int}(hl:l.length<=1000000000)(k:Bool->Option α):@W.call wv α Jb ((l,x):List Int×Int) k=k (decide (x∈l)):=ca_s (c:=Jb) (Ju9 l x hl)
abbrev Cr:=List ((Int×Int)×List Int)
def atC:Cr->Cell->List Int
 | [],_=>[]
 | e::r,p=>if p=e.1 then e.2 else atC r p
def putC:Cr->Cell->List Int->Cr
 | [],p,v=>[(p,v)]
 | e::r,p,v=>if p=e.1 then (p,v)::r else e::putC r p v
def delC:Cr->Cell->Cr
 | [],p=>[]
 | e::r,p=>if p=e.1 then r else e::delC r p
theorem Jm5(p q:Cell):Ty.eqb (.p I I) p q=decide (p=q):=by show ((p.1==q.1)&&(p.2==q.2))=_;rw [Dg,Bool.and_eq_true,beq_iff_eq,beq_iff_eq,decide_eq_true_eq,Prod.ext_iff]
theorem J1o(m:Cr)(p:Cell):@W.mg wv (.p I I) (.ls I) m p []=atC m p:=by
 show (Zl (a:=.p I I) (b:=.ls I) p m).getD []=_
 induction m with
 | nil=>rfl
 | cons e r d=>
  show _=if p=e.1 then e.2 else atC r p;by_cases h:p=e.1
  ·have hd:Ty.eqb (.p I I) p e.1=true:=by rw [Jm5];exact decide_eq_true h
   rw [if_pos h];exact congrArg (λo:Option (List Int)=>o.getD []) (show Zl (a:=.p I I) (b:=.ls I) p (e::r)=some e.2 from if_pos hd)
  ·have hd:¬Ty.eqb (.p I I) p e.1=true:=by rw [Jm5];exact λf=>h (of_decide_eq_true f)
   rw [if_neg h,<-d];exact congrArg (λo:Option (List Int)=>o.getD []) (show Zl (a:=.p I I) (b:=.ls I) p (e::r)=Zl (a:=.p I I) (b:=.ls I) p r from if_neg hd)
theorem ms_put(m:Cr)(p:Cell)(v:List Int):@W.ms wv (.p I I) (.ls I) m p v=putC m p v:=by
 show mSet (a:=.p I I) (b:=.ls I) p v m=_
 induction m with
 | nil=>rfl
 | cons e r d=>
  show (if Ty.eqb (.p I I) p e.1=true then (p,v)::r else e::mSet (a:=.p I I) (b:=.ls I) p v r)=if p=e.1 then (p,v)::r else e::putC r p v;rw [Jm5];by_cases h:p=e.1
  ·rw [if_pos (decide_eq_true h),if_pos h]
  ·rw [if_neg (λf=>h (of_decide_eq_true f)),if_neg h,d]
theorem md_del(m:Cr)(p:Cell):@W.md wv (.p I I) (.ls I) m p=delC m p:=by
 show mDel (a:=.p I I) (b:=.ls I) p m=_
 induction m with
 | nil=>rfl
 | cons e r d=>
  show (if Ty.eqb (.p I I) p e.1=true then r else e::mDel (a:=.p I I) (b:=.ls I) p r)=if p=e.1 then r else e::delC r p;rw [Jm5];by_cases h:p=e.1
  ·rw [if_pos (decide_eq_true h),if_pos h]
  ·rw [if_neg (λf=>h (of_decide_eq_true f)),if_neg h,d]
theorem Jxw(m:Cr)(p q:Cell)(v:List Int):atC (putC m p v) q=if q=p then v else atC m q:=by
 induction m with
 | nil=>rfl
 | cons e r d=>
  unfold putC;by_cases h:p=e.1
  ·rw [if_pos h];show (if q=p then v else atC r q)=if q=p then v else (if q=e.1 then e.2 else atC r q);by_cases a:q=p
   ·rw [if_pos a,if_pos a]
   ·rw [if_neg a,if_neg a,if_neg (by rw [<-h];exact a)]
  ·rw [if_neg h];show (if q=e.1 then e.2 else atC (putC r p v) q)=if q=p then v else (if q=e.1 then e.2 else atC r q);rw [d];by_cases a:q=e.1
   ·rw [if_pos a,if_neg (by rw [a];exact λe=>h e.symm),if_pos a]
   ·rw [if_neg a,if_neg a]
theorem Jwx{m:Cr}{p:Cell}(h:p∉m.map (·.1)):atC m p=[]:=by
 induction m with
 | nil=>rfl
 | cons e r a=>
  simp only [Ap,Ag,not_or] at h;unfold atC;rw [if_neg h.1,a h.2]
theorem keys_put(m:Cr)(p:Cell)(v:List Int):(putC m p v).map (·.1)=if p∈m.map (·.1) then m.map (·.1) else m.map (·.1)++[p]:=by
 induction m with
 | nil=>simp [putC]
 | cons e r d=>
  unfold putC;by_cases h:p=e.1
  ·rw [if_pos h,if_pos (by simp [h])];simp [h]
  ·rw [if_neg h,Ap,d];by_cases a:p∈r.map (·.1)
   ·rw [if_pos a,if_pos (by rw [Ap];exact Ai _ a),Ap]
   ·rw [if_neg a,if_neg (by rw [Ap,Ag];exact λf=>f.elim h a),Ap,List.cons_append]
theorem Jtt{m:Cr}(h:(m.map (·.1)).Nodup)(p:Cell)(v:List Int):((putC m p v).map (·.1)).Nodup:=by
 rw [keys_put];split
 ·exact h
 ·next f=>exact Bu.2 ⟨h,Ay.2 ⟨by simp,.nil⟩,λa g b d e=>by rw [Ac] at d;exact f (by rw [<-d,<-e];exact g)⟩
theorem keys_del(m:Cr)(p:Cell):((delC m p).map (·.1)).Sublist (m.map (·.1)):=by
 induction m with
 | nil=>exact .slnil
 | cons e r a=>
  unfold delC;split
  ·exact .cons _ (List.Sublist.refl _)
  ·rw [Ap,Ap];exact .cons_cons _ a
theorem at_del{m:Cr}(h:(m.map (·.1)).Nodup)(p q:Cell):atC (delC m p) q=if q=p then [] else atC m q:=by
 induction m with
 | nil=>simp [delC,atC]
 | cons e r f=>
  obtain ⟨l,g⟩:=Ay.1 (by rw [Ap] at h;exact h);unfold delC;by_cases d:p=e.1
  ·rw [if_pos d];show atC r q=if q=p then [] else (if q=e.1 then e.2 else atC r q);by_cases a:q=p
   ·rw [if_pos a];exact Jwx (by rw [a,d];exact l)
   ·rw [if_neg a,if_neg (by rw [<-d];exact a)]
  ·rw [if_neg d];show (if q=e.1 then e.2 else atC (delC r p) q)=if q=p then [] else (if q=e.1 then e.2 else atC r q);rw [f g];by_cases a:q=e.1
   ·rw [if_pos a,if_neg (by rw [a];exact λe=>d e.symm),if_pos a]
   ·rw [if_neg a,if_neg a]
theorem J3p{m:Cr}(h:(m.map (·.1)).Nodup)(p:Cell):((delC m p).map (·.1)).Nodup:=h.sublist (keys_del m p)
structure MapOK (m:Cr) (S:Cell->Int->Prop):Prop where
 nd:(m.map (·.1)).Nodup
 mem:∀p h,h∈atC m p↔S p h
 one:∀p,(atC m p).Nodup
 ne:∀e∈m,e.2≠[]
theorem MapOK.nil:MapOK [] λ_ _=>False:=⟨.nil,λp h=>⟨λh=>(Am h).elim,False.elim⟩,λp=>.nil,λe a=>(Am a).elim⟩
theorem MapOK.congr{m:Cr}{S T:Cell->Int->Prop}(h:MapOK m S)(e:∀p x,S p x↔T p x):MapOK m T:=⟨h.nd,λp x=>(h.mem p x).trans (e p x),h.one,h.ne⟩
theorem ne_put{m:Cr}(h:∀e∈m,e.2≠[])(p:Cell){v:List Int}(d:v≠[]):∀e∈putC m p v,e.2≠[]:=by
 induction m with
 | nil=>
  intro e a;rw [putC,Ac] at a;rw [a];exact d
 | cons x r f=>
  intro e a;unfold putC at a;split at a
  ·rcases Ag.1 a with rfl|a
   ·exact d
   ·exact h e (Ai _ a)
  ·rcases Ag.1 a with rfl|a
   ·exact h _ (Af ..)
   ·exact f (λe a=>h e (Ai _ a)) e a
theorem ne_del{m:Cr}(h:∀e∈m,e.2≠[])(p:Cell):∀e∈delC m p,e.2≠[]:=by
 induction m with
 | nil=>exact h
 | cons x r d=>
  intro e a;unfold delC at a;split at a
  ·exact h e (Ai _ a)
  ·rcases Ag.1 a with rfl|a
   ·exact h _ (Af ..)
   ·exact d (λe a=>h e (Ai _ a)) e a
theorem Jzp{m:Cr}(h:(m.map (·.1)).Nodup){e:(Int×Int)×List Int}(a:e∈m):atC m e.1=e.2:=by
 induction m with
 | nil=>exact (Am a).elim
 | cons x r d=>
  obtain ⟨g,f⟩:=Ay.1 (by rw [Ap] at h;exact h);unfold atC;rcases Ag.1 a with rfl|a
  ·rw [if_pos rfl]
  ·rw [if_neg (λl=>g (by rw [<-l];exact List.mem_map_of_mem a)),d f a]
theorem MapOK.key{m:Cr}{S:Cell->Int->Prop}(h:MapOK m S)(p:Cell):p∈m.map (·.1)↔∃x,S p x:=by
 constructor
 ·intro a;obtain ⟨e,g,rfl⟩:=Db.1 a;have d:=h.ne e g;have f:=Jzp h.nd g;cases hl:e.2 with
  | nil=>exact (d hl).elim
  | cons x l=>exact ⟨x,(h.mem e.1 x).1 (by rw [f,hl];exact Af ..)⟩
 ·rintro ⟨x,hx⟩;by_cases a:p∈m.map (·.1)
  ·exact a
  ·have:=(h.mem p x).2 hx;rw [Jwx a] at this;exact (Am this).elim
theorem MapOK.add{m:Cr}{S:Cell->Int->Prop}(h:MapOK m S){p:Cell}{x:Int}(g:¬S p x):MapOK (putC m p (atC m p++[x])) λq y=>S q y\/(q=p/\y=x):=by
 refine ⟨Jtt h.nd _ _,λq y=>?_,λq=>?_,ne_put h.ne _ (by simp)⟩
 ·rw [Jxw];by_cases d:q=p
  ·subst d;rw [if_pos rfl,Ad,Ac,h.mem];exact ⟨λh=>h.imp id λe=>⟨rfl,e⟩,λh=>h.imp id And.right⟩
  ·rw [if_neg d,h.mem];exact ⟨.inl,λh=>h.elim id λe=>(d e.1).elim⟩
 ·rw [Jxw];split
  ·refine Bu.2 ⟨h.one p,Ay.2 ⟨by simp,.nil⟩,λa l b f e=>?_⟩;rw [Ac] at f;exact g ((h.mem p x).1 (by rw [<-f,<-e];exact l))
  ·exact h.one q
theorem mem_cut{l:List Int}(h:l.Nodup){i:Nat}{x y:Int}(hx:l[i]?=some x):y∈l.take i++l.drop (i+1)↔y∈l/\y≠x:=by
 obtain ⟨hi,e⟩:=Ab.1 hx;have hl:l=l.take i++x::l.drop (i+1):=by
  conv=>lhs;rw [<-Bl i l,Bv hi,e]
 have d:=h;rw [hl] at d;obtain ⟨v,o,m⟩:=Bu.1 d;obtain ⟨g,r⟩:=Ay.1 o;constructor
 ·intro a;rcases Ad.1 a with a|a
  ·exact ⟨List.mem_of_mem_take a,λe=>m y a x (Af ..) e⟩
  ·exact ⟨List.mem_of_mem_drop a,λe=>g (by rw [<-e];exact a)⟩
 ·rintro ⟨a,f⟩;rw [hl] at a;rcases Ad.1 a with a|a
  ·exact Ad.2 (.inl a)
  ·rcases Ag.1 a with e|a
   ·exact (f e).elim
   ·exact Ad.2 (.inr a)
theorem MapOK.cut{m:Cr}{S:Cell->Int->Prop}(h:MapOK m S){p:Cell}{x:Int}{i:Nat}(hx:(atC m p)[i]?=some x)(d:(atC m p).length≠1) :
  MapOK (putC m p ((atC m p).take i++(atC m p).drop (i+1))) λq y=>S q y/\¬(q=p/\y=x):=by
 have hi:=(Ab.1 hx).1;refine ⟨Jtt h.nd _ _,λq y=>?_,λq=>?_,ne_put h.ne _ λe=>?_⟩
 ·rw [Jxw];by_cases a:q=p
  ·subst a;rw [if_pos rfl,mem_cut (h.one q) hx,h.mem];exact ⟨λh=>⟨h.1,λe=>h.2 e.2⟩,λh=>⟨h.1,λe=>h.2 ⟨rfl,e⟩⟩⟩
  ·rw [if_neg a,h.mem];exact ⟨λh=>⟨h,λe=>a e.1⟩,And.left⟩
 ·rw [Jxw];split
  ·have:=h.one p;rw [<-Bl i (atC m p),Bv hi] at this;exact this.sublist (.append (List.Sublist.refl _) (.cons _ (List.Sublist.refl _)))
  ·exact h.one q
 ·have:=congrArg List.length e;rw [Ao,Bm,List.length_drop,List.length_nil] at this;omega
theorem MapOK.del{m:Cr}{S:Cell->Int->Prop}(h:MapOK m S){p:Cell}{x:Int}(hx:atC m p=[x]) :
  MapOK (delC m p) λq y=>S q y/\¬(q=p/\y=x):=by
 refine ⟨J3p h.nd _,λq y=>?_,λq=>?_,ne_del h.ne _⟩
 ·rw [at_del h.nd];by_cases a:q=p
  ·subst a;rw [if_pos rfl,<-h.mem,hx,Ac];exact ⟨λh=>(Am h).elim,λh=>(h.2 ⟨rfl,h.1⟩).elim⟩
  ·rw [if_neg a,h.mem];exact ⟨λh=>⟨h,λe=>a e.1⟩,And.left⟩
 ·rw [at_del h.nd];split
  ·exact .nil
  ·exact h.one q
theorem Jwj:∀ {l k:List Int},l.Nodup->(∀x∈l,x∈k)->l.length<=k.length
 | [],k,_,_=>Nat.zero_le _
 | x::l,k,h,hs=>by obtain ⟨f,d⟩:=Ay.1 h;have hx:=hs x (Af ..);have:=Jwj (l:=l) (k:=k.erase x) d λy a=>(Dp (λe=>f (by rw [<-e];exact a))).2 (hs y (Ai _ a));rw [Da hx] at this;have:0<k.length:=Bj hx;rw [Au];omega
def HdOK(S:Cell->Int->Prop):Prop:=∀p h,S p h->h=0\/h=1\/h=2\/h=3
theorem MapOK.le4{m:Cr}{S:Cell->Int->Prop}(h:MapOK m S)(hd:HdOK S)(p:Cell):(atC m p).length<=4:=
 Jwj (k:=[0,1,2,3]) (h.one p) λx hx=>by rcases hd p x ((h.mem p x).1 hx) with rfl|rfl|rfl|rfl<;>simp
theorem Jke{α:Type}{m:Cr}{S:Cell->Int->Prop}(h:MapOK m S)(hd:HdOK S)(p:Cell)(x:Option α):@W.gd wv α (@W.ft wv 8 (@W.pl wv (@W.ln wv Int (@W.mg wv (.p I I) (.ls I) m p [])) 1)) x=x:=by have a:=h.le4 hd p;rw [J1o,w_pl,w_ln];exact fitB (by omega) (by omega) (by decide)
theorem Yz{A B:Type}{x y:A}{r t:B}(h:x=y)(a:r=t):(⟨x,r⟩:HP A B)=⟨y,t⟩:=by rw [h,a]
theorem Jwz(m:Cr)(p:Cell)(x:Int):@W.ms wv (.p I I) (.ls I) m p (@W.ap wv Int (@W.mg wv (.p I I) (.ls I) m p []) [x])=putC m p (atC m p++[x]):=by rw [J1o,ms_put,w_ap]
theorem L2_ok(a:Reg)(s0:List Run)(r:Reg)(o l:Int)(s5:List Run)(s6 g:Int)(s8:Reg)(y:Int)(s10:List Run)(u v:Int)(m:Cr){S:Cell->Int->Prop}
  (h:MapOK m S) (hd:HdOK S) (K:∀x,u<=x->x<v->¬S (x,y) 0) (O:-4096<=u/\u<=v/\v<=4096) :
  ∃f,Yl (@Xa wv a) bigN ⟨s0,u,r,o,l,s5,s6,g,s8,y,s10,u,v,m,()⟩=some ⟨s0,r,o,l,s5,s6,g,s8,y,s10,f,()⟩ /\
   MapOK f (λp x=>S p x\/(p.2=y/\u<=p.1/\p.1<v/\x=0)):=by
 obtain ⟨e,L,f,rfl,E⟩:=jq (b:=@Xa wv a)
  (λi s=>∃f,s=⟨s0,u+(i:Int),r,o,l,s5,s6,g,s8,y,s10,u,v,f,()⟩/\MapOK f (λp x=>S p x\/(p.2=y/\u<=p.1/\p.1<u+i/\x=0)))
  (λe=>∃f,e=⟨s0,r,o,l,s5,s6,g,s8,y,s10,f,()⟩/\MapOK f (λp x=>S p x\/(p.2=y/\u<=p.1/\p.1<v/\x=0)))
  (v - u).toNat (by omega) (s0:=⟨s0,u,r,o,l,s5,s6,g,s8,y,s10,u,v,m,()⟩)
  ⟨m,by simp,h.congr λp x=>⟨.inl,λh=>h.elim id λh=>by omega⟩⟩
  (λi s hi=>by
   rintro ⟨w,rfl,B⟩;have M:@W.ar wv .add .i64 (u+(i:Int)) 1=u+((i+1:Nat):Int):=by rw [Ks,wr (by omega) (by omega)];omega
   have F:HdOK (λp x=>S p x\/(p.2=y/\u<=p.1/\p.1<u+i/\x=0)):=λp x d=>d.elim (hd p x) λd=>.inl d.2.2.2;refine ⟨_,?_,putC w (u+(i:Int),y) (atC w (u+(i:Int),y)++[0]),rfl,?_⟩
   ·unfold Xa;dsimp only;rw [Qw (by omega)];refine (Jke B F (u+(i:Int),y) _).trans ?_;refine congrArg some (congrArg Nx.go ?_);rw [M];refine Yz rfl (Yz rfl (Yz rfl (Yz rfl (Yz rfl (Yz rfl (Yz rfl (Yz rfl (Yz rfl (Yz rfl (Yz rfl (Yz rfl (Yz rfl (Yz ?_ rfl)))))))))))));exact Jwz w (u+(i:Int),y) 0
   ·refine (B.add (p:=(u+(i:Int),y)) (x:=0) λA=>?_).congr λp x=>?_
    ·rcases A with A|A
     ·exact K _ (by omega) (by omega) A
     ·have:=A.2.2.1;dsimp only at this;omega
    ·constructor
     ·rintro ((d|d)|⟨rfl,rfl⟩)
      ·exact .inl d
      ·exact .inr ⟨d.1,d.2.1,by have:=d.2.2.1;omega,d.2.2.2⟩
      ·exact .inr ⟨rfl,by dsimp only;omega,by dsimp only;omega,rfl⟩
     ·rintro (d|⟨G,H,N,rfl⟩)
      ·exact .inl (.inl d)
      ·by_cases J:p.1<u+(i:Int)
       ·exact .inl (.inr ⟨G,H,J,rfl⟩)
       ·exact .inr ⟨Prod.ext (by dsimp only;omega) G,rfl⟩)
  (by
   rintro s ⟨w,rfl,B⟩;refine ⟨_,?_,w,rfl,B.congr λp x=>?_⟩
   ·unfold Xa;dsimp only;rw [Kq (by omega)]
   ·have:u+(((v - u).toNat:Nat):Int)=v:=by omega
    rw [this])
 exact ⟨f,L,E⟩
theorem L4_ok(a:Reg)(w:Reg)(r o:Int)(l:List Run)(s5 s6:Int)(g:Reg)(y:Int)(s9:List Run)(u v:Int)(m:Cr){S:Cell->Int->Prop}
  (h:MapOK m S) (hd:HdOK S) (L:∀x,u<=x->x<v->¬S (x+1,y+1) 2) (R:-4096<=u/\u<=v/\v<=4096) (Q:-4096<=y/\y<4096) :
  ∃f,Yl (@Xc wv a) bigN ⟨u,w,r,o,l,s5,s6,g,y,s9,u,v,m,()⟩=some ⟨w,r,o,l,s5,s6,g,y,s9,f,()⟩ /\
   MapOK f (λp x=>S p x\/(p.2=y+1/\u<p.1/\p.1<=v/\x=2)):=by
 obtain ⟨e,M,f,rfl,F⟩:=jq (b:=@Xc wv a)
  (λi s=>∃f,s=⟨u+(i:Int),w,r,o,l,s5,s6,g,y,s9,u,v,f,()⟩/\MapOK f (λp x=>S p x\/(p.2=y+1/\u<p.1/\p.1<=u+i/\x=2)))
  (λe=>∃f,e=⟨w,r,o,l,s5,s6,g,y,s9,f,()⟩/\MapOK f (λp x=>S p x\/(p.2=y+1/\u<p.1/\p.1<=v/\x=2)))
  (v - u).toNat (by omega) (s0:=⟨u,w,r,o,l,s5,s6,g,y,s9,u,v,m,()⟩)
  ⟨m,by simp,h.congr λp x=>⟨.inl,λh=>h.elim id λh=>by omega⟩⟩
  (λi s hi=>by
   rintro ⟨A,rfl,E⟩;have O:@W.ar wv .add .i64 (u+(i:Int)) 1=u+((i+1:Nat):Int):=by rw [Ks,wr (by omega) (by omega)];omega
   have N:@W.ar wv .add .i64 y 1=y+1:=by rw [Ks,wr (by omega) (by omega)]
   have G:HdOK (λp x=>S p x\/(p.2=y+1/\u<p.1/\p.1<=u+i/\x=2)):=λp x d=>d.elim (hd p x) λd=>.inr (.inr (.inl d.2.2.2));refine ⟨_,?_,putC A (u+((i+1:Nat):Int),y+1) (atC A (u+((i+1:Nat):Int),y+1)++[2]),rfl,?_⟩
   ·unfold Xc;dsimp only;rw [Qw (by omega),O,N];refine (Jke E G (u+((i+1:Nat):Int),y+1) _).trans ?_;refine congrArg some (congrArg Nx.go ?_);refine Yz rfl (Yz rfl (Yz rfl (Yz rfl (Yz rfl (Yz rfl (Yz rfl (Yz rfl (Yz rfl (Yz rfl (Yz rfl (Yz rfl (Yz ?_ rfl))))))))))));exact Jwz A (u+((i+1:Nat):Int),y+1) 2
   ·refine (E.add (p:=(u+((i+1:Nat):Int),y+1)) (x:=2) λB=>?_).congr λp x=>?_
    ·rcases B with B|B
     ·have:=L (u+(i:Int)) (by omega) (by omega);refine this ?_;have e:u+((i+1:Nat):Int)=u+(i:Int)+1:=by omega
      rw [<-e];exact B
     ·have:=B.2.2.1;dsimp only at this;omega
    ·constructor
     ·rintro ((d|d)|⟨rfl,rfl⟩)
      ·exact .inl d
      ·exact .inr ⟨d.1,d.2.1,by have:=d.2.2.1;omega,d.2.2.2⟩
      ·exact .inr ⟨rfl,by dsimp only;omega,by dsimp only;omega,rfl⟩
     ·rintro (d|⟨H,J,P,rfl⟩)
      ·exact .inl (.inl d)
      ·by_cases K:p.1<=u+(i:Int)
       ·exact .inl (.inr ⟨H,J,K,rfl⟩)
       ·exact .inr ⟨Prod.ext (by dsimp only;omega) H,rfl⟩)
  (by
   rintro s ⟨A,rfl,E⟩;refine ⟨_,?_,A,rfl,E.congr λp x=>?_⟩
   ·unfold Xc;dsimp only;rw [Kq (by omega)]
   ·have:u+(((v - u).toNat:Nat):Int)=v:=by omega
    rw [this])
 exact ⟨f,M,F⟩
theorem Jmw{l:List Run}{i:Nat}{w:Run}(h:l[i]?=some w)(x:Int):Jh (l.take (i+1)) x↔Jh (l.take i) x\/(w.1<=x/\x<w.2):=by
 rw [Qc h];unfold Jh;constructor
 ·rintro ⟨u,a,hx⟩;rcases Ad.1 a with a|a
  ·exact .inl ⟨u,a,hx⟩
  ·rw [Ac] at a;subst a;exact .inr hx
 ·rintro (⟨u,a,hx⟩|hx)
  ·exact ⟨u,Ad.2 (.inl a),hx⟩
  ·exact ⟨w,Ad.2 (.inr (Ac.2 rfl)),hx⟩
theorem Jn4{lo hi:Int}{l:List Run}(hl:RunsOK lo hi l){i:Nat}{w:Run}(h:l[i]?=some w){x:Int}(hx:Jh (l.take i) x):x<w.1:=by obtain ⟨u,f,r,o⟩:=hx;obtain ⟨j,g⟩:=Ah f;obtain ⟨a,e⟩:=Ab.1 g;rw [Bm] at a;rw [Bw] at e;obtain ⟨d,m⟩:=Ab.1 h;have:=Aj.1 hl.pw j i (by omega) d (by omega);rw [e,m] at this;omega
theorem L1_ok(a:Reg)(s0:List Run)(v:Reg)(r o:Int)(l:List Run)(g:Reg)(y:Int)(s9:List Run)(m:Cr){S:Cell->Int->Prop}
  (h:MapOK m S) (hd:HdOK S) (hl:RunsOK (-4096) 4096 l) (Z:l.length<=1000000000) (P:∀x,Jh l x->¬S (x,y) 0) :
  ∃f,Yl (@Q9 wv a) bigN ⟨s0,v,r,o,l,(l.length:Int),0,g,y,s9,m,()⟩=some ⟨s0,v,r,o,g,y,s9,f,()⟩ /\
   MapOK f (λp x=>S p x\/(p.2=y/\Jh l p.1/\x=0)):=by
 obtain ⟨e,Q,f,rfl,H⟩:=jq (b:=@Q9 wv a)
  (λi s=>∃f,s=⟨s0,v,r,o,l,(l.length:Int),(i:Int),g,y,s9,f,()⟩/\MapOK f (λp x=>S p x\/(p.2=y/\Jh (l.take i) p.1/\x=0)))
  (λe=>∃f,e=⟨s0,v,r,o,g,y,s9,f,()⟩/\MapOK f (λp x=>S p x\/(p.2=y/\Jh l p.1/\x=0)))
  l.length (by omega) (s0:=⟨s0,v,r,o,l,(l.length:Int),0,g,y,s9,m,()⟩)
  ⟨m,rfl,h.congr λp x=>⟨.inl,λh=>h.elim id λh=>by obtain ⟨_,⟨u,N,_⟩,_⟩:=h;rw [Bg] at N;exact (Am N).elim⟩⟩
  (λi s hi=>by
   rintro ⟨B,rfl,K⟩;have X:@W.ar wv .add .i64 (i:Int) 1=((i+1:Nat):Int):=by rw [Ks,wr (by omega) (by omega)];omega
   have J:HdOK (λp x=>S p x\/(p.2=y/\Jh (l.take i) p.1/\x=0)):=λp x d=>d.elim (hd p x) λd=>.inl d.2.2;have G:l[i]?=some l[i]:=Aa hi;have hb:=hl.bd l[i] (Av _);obtain ⟨O,Y,R⟩:=L2_ok a s0 v r o l (l.length:Int) (i:Int) g y s9 l[i].1 l[i].2 B K J (λx F E w=>by
    rcases w with w|w
    ·exact P x ⟨l[i],Av _,F,E⟩ w
    ·have:=Jn4 hl G w.2.1;dsimp only at this;omega) (by omega)
   refine ⟨_,?_,O,rfl,R.congr λp x=>?_⟩
   ·unfold Q9;dsimp only;rw [Qw (by omega),ge_s (fg G)];refine (lo_s Y).trans ?_;dsimp only;rw [X]
   ·rw [Jmw G];constructor
    ·rintro ((d|d)|d)
     ·exact .inl d
     ·exact .inr ⟨d.1,.inl d.2.1,d.2.2⟩
     ·exact .inr ⟨d.1,.inr ⟨d.2.1,d.2.2.1⟩,d.2.2.2⟩
    ·rintro (d|⟨M,A|A,L⟩)
     ·exact .inl (.inl d)
     ·exact .inl (.inr ⟨M,A,L⟩)
     ·exact .inr ⟨M,A.1,A.2,L⟩)
  (by
   rintro s ⟨B,rfl,K⟩;refine ⟨_,?_,B,rfl,K.congr λp x=>?_⟩
   ·unfold Q9;dsimp only;rw [Kq (by omega)]
   ·rw [Bn])
 exact ⟨f,Q,H⟩
theorem L3_ok(a:Reg)(s0:Reg)(o g:Int)(l:List Run)(s6:Reg)(y:Int)(s8:List Run)(m:Cr){S:Cell->Int->Prop}
  (h:MapOK m S) (hd:HdOK S) (hl:RunsOK (-4096) 4096 l) (Y:l.length<=1000000000) (N:-4096<=y/\y<4096) (O:∀x,Jh l x->¬S (x+1,y+1) 2) :
  ∃f,Yl (@Xe wv a) bigN ⟨s0,o,g,l,(l.length:Int),0,s6,y,s8,m,()⟩=some ⟨s0,o,g,s6,y,s8,f,()⟩ /\
   MapOK f (λp x=>S p x\/(p.2=y+1/\Jh l (p.1 - 1)/\x=2)):=by
 obtain ⟨e,P,f,rfl,E⟩:=jq (b:=@Xe wv a)
  (λi s=>∃f,s=⟨s0,o,g,l,(l.length:Int),(i:Int),s6,y,s8,f,()⟩/\MapOK f (λp x=>S p x\/(p.2=y+1/\Jh (l.take i) (p.1 - 1)/\x=2)))
  (λe=>∃f,e=⟨s0,o,g,s6,y,s8,f,()⟩/\MapOK f (λp x=>S p x\/(p.2=y+1/\Jh l (p.1 - 1)/\x=2)))
  l.length (by omega) (s0:=⟨s0,o,g,l,(l.length:Int),0,s6,y,s8,m,()⟩)
  ⟨m,rfl,h.congr λp x=>⟨.inl,λh=>h.elim id λh=>by obtain ⟨_,⟨u,L,_⟩,_⟩:=h;rw [Bg] at L;exact (Am L).elim⟩⟩
  (λi s hi=>by
   rintro ⟨v,rfl,G⟩;have R:@W.ar wv .add .i64 (i:Int) 1=((i+1:Nat):Int):=by rw [Ks,wr (by omega) (by omega)];omega
   have F:HdOK (λp x=>S p x\/(p.2=y+1/\Jh (l.take i) (p.1 - 1)/\x=2)):=λp x d=>d.elim (hd p x) λd=>.inr (.inr (.inl d.2.2));have B:l[i]?=some l[i]:=Aa hi;have Z:=hl.bd l[i] (Av _);obtain ⟨M,X,Q⟩:=L4_ok a s0 o g l (l.length:Int) (i:Int) s6 y s8 l[i].1 l[i].2 v G F (λx A w r=>by
    rcases r with r|r
    ·exact O x ⟨l[i],Av _,A,w⟩ r
    ·have:=Jn4 hl B r.2.1;dsimp only at this;omega) (by omega) N
   refine ⟨_,?_,M,rfl,Q.congr λp x=>?_⟩
   ·unfold Xe;dsimp only;rw [Qw (by omega),ge_s (fg B)];refine (lo_s X).trans ?_;dsimp only;rw [R]
   ·rw [Jmw B];constructor
    ·rintro ((d|d)|d)
     ·exact .inl d
     ·exact .inr ⟨d.1,.inl d.2.1,d.2.2⟩
     ·exact .inr ⟨d.1,.inr ⟨by omega,by omega⟩,d.2.2.2⟩
    ·rintro (d|⟨K,J|J,H⟩)
     ·exact .inl (.inl d)
     ·exact .inl (.inr ⟨K,J,H⟩)
     ·exact .inr ⟨K,by omega,by omega,H⟩)
  (by
   rintro s ⟨v,rfl,G⟩;refine ⟨_,?_,v,rfl,G.congr λp x=>?_⟩
   ·unfold Xe;dsimp only;rw [Kq (by omega)]
   ·rw [Bn])
 exact ⟨f,P,E⟩
theorem L5_ok(a:Reg)(s0:Reg)(G F:Int)(l:List Run)(s6:Reg)(y:Int)(s8:List Run)(m:Cr){S:Cell->Int->Prop}
  (h:MapOK m S) (hd:HdOK S) (hl:RunsOK (-4096) 4096 l) (hn:l.length<=1000000000) (hy:-4096<=y/\y<4096) (O:∀w∈l,¬S (w.2,y) 1) (N:∀w∈l,¬S (w.1,y+1) 3) :
  ∃o,Yl (@Xj wv a) bigN ⟨s0,G,F,l,(l.length:Int),0,s6,y,s8,m,()⟩=some ⟨s0,G,F,s6,o,()⟩/\MapOK o (λp x=>S p x\/(p.2=y/\(∃w∈l,p.1=w.2)/\x=1)\/(p.2=y+1/\(∃w∈l,p.1=w.1)/\x=3)):=by
 have hS:∀i,HdOK (λp x=>S p x\/(p.2=y/\(∃w∈l.take i,p.1=w.2)/\x=1)\/(p.2=y+1/\(∃w∈l.take i,p.1=w.1)/\x=3)):=λi p x f=>by
  rcases f with f|f|f
  ·exact hd p x f
  ·exact .inr (.inl f.2.2)
  ·exact .inr (.inr (.inr f.2.2))
 obtain ⟨e,X,o,rfl,K⟩:=jq (b:=@Xj wv a)
  (λi s=>∃o,s=⟨s0,G,F,l,(l.length:Int),(i:Int),s6,y,s8,o,()⟩/\MapOK o (λp x=>S p x\/(p.2=y/\(∃w∈(l.take i),p.1=w.2)/\x=1)\/(p.2=y+1/\(∃w∈(l.take i),p.1=w.1)/\x=3)))
  (λe=>∃o,e=⟨s0,G,F,s6,o,()⟩/\MapOK o (λp x=>S p x\/(p.2=y/\(∃w∈l,p.1=w.2)/\x=1)\/(p.2=y+1/\(∃w∈l,p.1=w.1)/\x=3)))
  l.length (by omega) (s0:=⟨s0,G,F,l,(l.length:Int),0,s6,y,s8,m,()⟩)
  ⟨m,rfl,h.congr λp x=>⟨.inl,λh=>by
   rcases h with h|⟨_,⟨w,B,_⟩,_⟩|⟨_,⟨w,B,_⟩,_⟩
   ·exact h
   ·rw [Bg] at B;exact (Am B).elim
   ·rw [Bg] at B;exact (Am B).elim⟩⟩
  (λi s hi=>by
   rintro ⟨H,rfl,E⟩;have e3:@W.ar wv .add .i64 (i:Int) 1=((i+1:Nat):Int):=by rw [Ks,wr (by omega) (by omega)];omega
   have e4:@W.ar wv .add .i64 y 1=y+1:=by rw [Ks,wr (by omega) (by omega)]
   have B:l[i]?=some l[i]:=Aa hi;have L:l[i]∈l:=Av _;have old:∀w∈l.take i,w.2<l[i].1/\w.1<w.2:=λw d=>by obtain ⟨j,R⟩:=Ah d;obtain ⟨M,e⟩:=Ab.1 R;rw [Bm] at M;rw [Bw] at e;have E:=Aj.1 hl.pw j i (by omega) hi (by omega);have J:=hl.bd _ (Av (l:=l) (n:=j) (by omega));rw [e] at E J;omega
   have Y:=hl.bd l[i] L;have J:=E.add (p:=(l[i].2,y)) (x:=1) (λA=>by
    rcases A with A|⟨_,⟨w,d,e⟩,_⟩|⟨_,_,e⟩
    ·exact O _ L A
    ·have:=old w d;dsimp only at e;omega
    ·omega)
   have P:HdOK (λp x=>(S p x\/(p.2=y/\(∃w∈l.take i,p.1=w.2)/\x=1)\/(p.2=y+1/\(∃w∈l.take i,p.1=w.1)/\x=3))\/(p=(l[i].2,y)/\x=1)):=λp x f=>f.elim (hS i p x) λf=>.inr (.inl f.2);have Z:=J.add (p:=(l[i].1,y+1)) (x:=3) (λA=>by
    rcases A with (A|⟨_,_,e⟩|⟨_,⟨w,d,e⟩,_⟩)|A
    ·exact N _ L A
    ·omega
    ·have:=old w d;dsimp only at e;omega
    ·have:=A.2;omega)
   refine ⟨_,?_,_,rfl,Z.congr λp x=>?_⟩
   ·unfold Xj;dsimp only;rw [Qw (by omega),ge_s (fg B),e3,e4];refine (Jke E (hS i) (l[i].2,y) _).trans ?_;have q:=Jwz H (l[i].2,y) 1;have g:=Jke (α:=Nx (HP Reg (HP Int (HP Int (HP (List Run) (HP Int (HP Int (HP Reg (HP Int (HP (List Run) (HP Cr Unit)))))))))) (HP Reg (HP Int (HP Int (HP Reg (HP Cr Unit)))))) J P (l[i].1,y+1);rw [<-q] at g;refine (g _).trans ?_;refine congrArg some (congrArg Nx.go ?_);refine Yz rfl (Yz rfl (Yz rfl (Yz rfl (Yz rfl (Yz rfl (Yz rfl (Yz rfl (Yz rfl (Yz ?_ rfl)))))))));have Q:=Jwz (putC H (l[i].2,y) (atC H (l[i].2,y)++[1])) (l[i].1,y+1) 3;rw [<-q] at Q ⊢;exact Q
   ·rw [Qc B];constructor
    ·rintro (((f|⟨v,⟨w,d,e⟩,r⟩|⟨v,⟨w,d,e⟩,r⟩)|⟨rfl,rfl⟩)|⟨rfl,rfl⟩)
     ·exact .inl f
     ·exact .inr (.inl ⟨v,⟨w,Ad.2 (.inl d),e⟩,r⟩)
     ·exact .inr (.inr ⟨v,⟨w,Ad.2 (.inl d),e⟩,r⟩)
     ·exact .inr (.inl ⟨rfl,⟨l[i],Ad.2 (.inr (Ac.2 rfl)),rfl⟩,rfl⟩)
     ·exact .inr (.inr ⟨rfl,⟨l[i],Ad.2 (.inr (Ac.2 rfl)),rfl⟩,rfl⟩)
    ·rintro (f|⟨v,⟨w,d,e⟩,r⟩|⟨v,⟨w,d,e⟩,r⟩)
     ·exact .inl (.inl (.inl f))
     ·rcases Ad.1 d with d|d
      ·exact .inl (.inl (.inr (.inl ⟨v,⟨w,d,e⟩,r⟩)))
      ·rw [Ac] at d;subst d;exact .inl (.inr ⟨Prod.ext e v,r⟩)
     ·rcases Ad.1 d with d|d
      ·exact .inl (.inl (.inr (.inr ⟨v,⟨w,d,e⟩,r⟩)))
      ·rw [Ac] at d;subst d;exact .inr ⟨Prod.ext e v,r⟩)
  (by
   rintro s ⟨H,rfl,E⟩;refine ⟨_,?_,H,rfl,E.congr λp x=>?_⟩
   ·unfold Xj;dsimp only;rw [Kq (by omega)]
   ·rw [Bn])
 exact ⟨o,X,K⟩
theorem Jg9{hi:Int}:∀ {l:List Run} {lo:Int},lo<=hi->RunsOK lo hi l->(l.length:Int)<=hi - lo
 | [],lo,g,_=>by simp;omega
 | u::l,lo,g,h=>by
  obtain ⟨f,d⟩:=Ak.1 h.pw;have m:=h.bd u (Af ..);have:=Jg9 (l:=l) (lo:=u.2) (hi:=hi) (by omega) ⟨λx hx=>by have a:=h.bd x (Ai _ hx);have o:=f x hx;exact ⟨by omega,a.2.1,a.2.2⟩,d⟩
  rw [Au];omega
theorem Jtx{lo hi lo' a:Int}{l:List Run}(h:RunsOK lo hi l)(f:lo'<=lo)(d:hi<=a):RunsOK lo' a l:=
 ⟨λx hx=>by have:=h.bd x hx;exact ⟨by omega,this.2.1,by omega⟩,h.pw⟩
theorem Jfc{l:List Run}(h:RunsOK (-4096) 4096 l):l.length<=8192:=by have:=Jg9 (by omega) h;omega
theorem Jok{a b:List Run}(d:RunsOK (-4096) 4096 a)(f:RunsOK (-4096) 4096 b) :
  ∃l:List Run,(∀ {α:Type} (k:List (Int×Int)->Option α),@W.call wv α Xi ((a,b):List (Int×Int)×List (Int×Int)) k=k l)/\RunsOK (-4096) 4096 l/\∀x,Jh l x↔Jh a x/\¬Jh b x:=by have la:=Jfc d;have lb:=Jfc f;obtain ⟨l,hl,m,hx⟩:=Ju7 a b (by omega) (by omega) (Jtx d (by omega) (by omega)) (Jtx f (by omega) (by omega));refine ⟨l,λk=>ca_s (c:=Xi) hl,Jrk m λx h=>?_,hx⟩;obtain ⟨u,g,r,o⟩:=((hx x).1 h).1;have:=d.bd u g;omega
def Jpo(r:Reg)(w:Row)(p:Cell)(x:Int):Prop:=
 (p.2=w.1/\(Jh w.2 p.1/\¬Jh (rowY r (w.1 - 1)) p.1)/\x=0)\/(p.2=w.1+1/\(Jh w.2 (p.1 - 1)/\¬Jh (rowY r (w.1+1)) (p.1 - 1))/\x=2) \/
 (p.2=w.1/\(∃u∈w.2,p.1=u.2)/\x=1)\/(p.2=w.1+1/\(∃u∈w.2,p.1=u.1)/\x=3)
theorem L0_step(a r:Reg)(hr:RegOK r)(o:r.length<=1000000000){i:Nat}{w:Row}(A:r[i]?=some w)(m:Cr){S:Cell->Int->Prop}(h:MapOK m S)(hd:HdOK S)(B:∀p x,Jpo r w p x->¬S p x) :
  ∃F,@Qi wv a ⟨r,(r.length:Int),(i:Int),r,m,()⟩=some (.go ⟨r,(r.length:Int),((i+1:Nat):Int),r,F,()⟩) /\
   MapOK F (λp x=>S p x\/Jpo r w p x):=by
 have hi:=(Ab.1 A).1;have J:=Ae A;have G:=hr.y w J;have g:=hr.rs w J;have Y:@W.ar wv .add .i64 (i:Int) 1=((i+1:Nat):Int):=by rw [Ks,wr (by omega) (by omega)];omega
 obtain ⟨up,ku,H,xu⟩:=Jok g (Jid hr (w.1 - 1));obtain ⟨dn,kd,v,xd⟩:=Jok g (Jid hr (w.1+1));obtain ⟨P,M,X⟩:=L1_ok a (rowY r (w.1+1)) r (r.length:Int) (i:Int) up r w.1 w.2 m h hd H (by have:=Jfc H;omega) (λx hx=>B _ _ (.inl ⟨rfl,(xu x).1 hx,rfl⟩));have y:HdOK (λp x=>S p x\/(p.2=w.1/\Jh up p.1/\x=0)):=λp x d=>d.elim (hd p x) λd=>.inl d.2.2;obtain ⟨O,L,R⟩:=L3_ok a r (r.length:Int) (i:Int) dn r w.1 w.2 P X y v (by have:=Jfc v;omega) G (λx hx f=>by
  rcases f with f|f
  ·exact B _ _ (.inr (.inl ⟨rfl,by dsimp only;rw [show x+1 - 1=x by omega];exact (xd x).1 hx,rfl⟩)) f
  ·have:=f.2.2;omega)
 have E:HdOK (λp x=>(S p x\/(p.2=w.1/\Jh up p.1/\x=0))\/(p.2=w.1+1/\Jh dn (p.1 - 1)/\x=2)):=λp x d=>d.elim (y p x) λd=>.inr (.inr (.inl d.2.2));obtain ⟨N,K,Q⟩:=L5_ok a r (r.length:Int) (i:Int) w.2 r w.1 w.2 O R E g (by have:=Jfc g;omega) G (λu l f=>by
  rcases f with (f|f)|f
  ·exact B (u.2,w.1) 1 (.inr (.inr (.inl ⟨rfl,⟨u,l,rfl⟩,rfl⟩))) f
  ·have:=f.2.2;omega
  ·have:=f.2.2;omega) (λu l f=>by
  rcases f with (f|f)|f
  ·exact B (u.1,w.1+1) 3 (.inr (.inr (.inr ⟨rfl,⟨u,l,rfl⟩,rfl⟩))) f
  ·have:=f.2.2;omega
  ·have:=f.2.2;omega)
 refine ⟨N,?_,Q.congr λp x=>?_⟩
 ·unfold Qi;dsimp only;rw [Qw (by omega),ge_s (fg A),k_around hr o A];dsimp only;rw [ku];refine (lo_s M).trans ?_;dsimp only;rw [kd];refine (lo_s L).trans ?_;dsimp only;refine (lo_s K).trans ?_;dsimp only;rw [Y]
 ·unfold Jpo;rw [xu,xd];constructor
  ·rintro (((d|d)|d)|d|d)
   ·exact .inl d
   ·exact .inr (.inl d)
   ·exact .inr (.inr (.inl d))
   ·exact .inr (.inr (.inr (.inl d)))
   ·exact .inr (.inr (.inr (.inr d)))
  ·rintro (d|d|d|d|d)
   ·exact .inl (.inl (.inl d))
   ·exact .inl (.inl (.inr d))
   ·exact .inl (.inr d)
   ·exact .inr (.inl d)
   ·exact .inr (.inr d)
def Qm(p:Cell)(x:Int):Cell:=if x=0 then p else if x=1 then (p.1 - 1,p.2) else if x=2 then (p.1 - 1,p.2 - 1) else (p.1,p.2 - 1)
theorem J05{r:Reg}{w:Row}{p:Cell}{x:Int}(h:Jpo r w p x):w.1=(Qm p x).2:=by
 unfold Qm;rcases h with ⟨a,_,rfl⟩|⟨a,_,rfl⟩|⟨a,_,rfl⟩|⟨a,_,rfl⟩
 ·rw [if_pos rfl];omega
 ·rw [if_neg (by decide),if_neg (by decide),if_pos rfl];dsimp only;omega
 ·rw [if_neg (by decide),if_pos rfl];dsimp only;omega
 ·rw [if_neg (by decide),if_neg (by decide),if_neg (by decide)];dsimp only;omega
theorem rowCr_hd{r:Reg}{w:Row}{p:Cell}{x:Int}(h:Jpo r w p x):x=0\/x=1\/x=2\/x=3:=by rcases h with ⟨_,_,rfl⟩|⟨_,_,rfl⟩|⟨_,_,rfl⟩|⟨_,_,rfl⟩<;>simp
theorem Jzn(a r:Reg)(hr:RegOK r)(h:r.length<=1000000000) :
  ∃m,Yl (@Qi wv a) bigN ⟨r,(r.length:Int),0,r,[],()⟩=some ⟨m,()⟩/\MapOK m (λp x=>∃w∈r,Jpo r w p x):=by
 obtain ⟨e,G,m,rfl,E⟩:=jq (b:=@Qi wv a)
  (λi s=>∃m,s=⟨r,(r.length:Int),(i:Int),r,m,()⟩/\MapOK m (λp x=>∃w∈r.take i,Jpo r w p x))
  (λe=>∃m,e=⟨m,()⟩/\MapOK m (λp x=>∃w∈r,Jpo r w p x))
  r.length (by omega) (s0:=⟨r,(r.length:Int),0,r,[],()⟩)
  ⟨[],rfl,MapOK.nil.congr λp x=>⟨False.elim,λ⟨w,g,_⟩=>by rw [Bg] at g;exact (Am g).elim⟩⟩
  (λi s hi=>by
   rintro ⟨o,rfl,A⟩;have g:r[i]?=some r[i]:=Aa hi;obtain ⟨B,q,J⟩:=L0_step a r hr h g o A (λp x ⟨w,_,f⟩=>rowCr_hd f) (λp x f ⟨w,d,y⟩=>by obtain ⟨j,F⟩:=Ah d;obtain ⟨v,e⟩:=Ab.1 F;rw [Bm] at v;rw [Bw] at e;have H:=Jo2 hr (Aa (l:=r) (i:=j) (by omega)) g (by omega);rw [e,J05 f,J05 y] at H;omega)
   refine ⟨_,q,B,rfl,J.congr λp x=>?_⟩;rw [Qc g];constructor
   ·rintro (⟨w,d,f⟩|f)
    ·exact ⟨w,Ad.2 (.inl d),f⟩
    ·exact ⟨_,Ad.2 (.inr (Ac.2 rfl)),f⟩
   ·rintro ⟨w,d,f⟩;rcases Ad.1 d with d|d
    ·exact .inl ⟨w,d,f⟩
    ·rw [Ac] at d;subst d;exact .inr f)
  (by
   rintro s ⟨o,rfl,A⟩;refine ⟨_,?_,o,rfl,A.congr λp x=>?_⟩
   ·unfold Qi;dsimp only;rw [Kq (by omega)]
   ·rw [Bn])
 exact ⟨m,G,E⟩
def Crk(r:Reg)(p:Cell)(x:Int):Prop:=
 (x=0/\Qf r (p.1,p.2)/\¬Qf r (p.1,p.2 - 1))\/(x=1/\Qf r (p.1 - 1,p.2)/\¬Qf r (p.1,p.2)) \/
 (x=2/\Qf r (p.1 - 1,p.2 - 1)/\¬Qf r (p.1 - 1,p.2))\/(x=3/\Qf r (p.1,p.2 - 1)/\¬Qf r (p.1 - 1,p.2 - 1))
theorem Ju4{lo hi:Int}{l:List Run}(h:RunsOK lo hi l)(x:Int):(∃u∈l,x=u.2)↔Jh l (x - 1)/\¬Jh l x:=by
 constructor
 ·rintro ⟨u,d,rfl⟩;have E:=h.bd u d;refine ⟨⟨u,d,by omega,by omega⟩,?_⟩;rintro ⟨v,r,B,A⟩;obtain ⟨i,hi⟩:=Ah d;obtain ⟨j,y⟩:=Ah r;obtain ⟨o,g⟩:=Ab.1 hi;obtain ⟨m,f⟩:=Ab.1 y;have pw:=Aj.1 h.pw;rcases Ba i j with a|a|a
  ·have:=pw i j o m a;rw [g,f] at this;omega
  ·subst a;rw [g] at f;subst f;omega
  ·have:=pw j i m o a;rw [g,f] at this;omega
 ·rintro ⟨⟨u,d,B,A⟩,w⟩;refine ⟨u,d,?_⟩;by_cases hx:x<u.2
  ·exact (w ⟨u,d,by omega,hx⟩).elim
  ·omega
theorem J3h{lo hi:Int}{l:List Run}(h:RunsOK lo hi l)(x:Int):(∃u∈l,x=u.1)↔Jh l x/\¬Jh l (x - 1):=by
 constructor
 ·rintro ⟨u,d,rfl⟩;have E:=h.bd u d;refine ⟨⟨u,d,by omega,by omega⟩,?_⟩;rintro ⟨v,r,B,A⟩;obtain ⟨i,hi⟩:=Ah d;obtain ⟨j,y⟩:=Ah r;obtain ⟨o,g⟩:=Ab.1 hi;obtain ⟨m,f⟩:=Ab.1 y;have pw:=Aj.1 h.pw;rcases Ba i j with a|a|a
  ·have:=pw i j o m a;rw [g,f] at this;omega
  ·subst a;rw [g] at f;subst f;omega
  ·have:=pw j i m o a;rw [g,f] at this;omega
 ·rintro ⟨⟨u,d,B,A⟩,w⟩;refine ⟨u,d,?_⟩;by_cases hx:u.1<=x - 1
  ·exact (w ⟨u,d,hx,by omega⟩).elim
  ·omega
theorem in_row{r:Reg}(hr:RegOK r){w:Row}(a:w∈r){x y:Int}(e:y=w.1):Qf r (x,y)↔Jh w.2 x:=by rw [Jdi hr,e,Jfm hr a]
theorem crk_iff{r:Reg}(hr:RegOK r)(p:Cell)(x:Int):(∃w∈r,Jpo r w p x)↔Crk r p x:=by
 constructor
 ·rintro ⟨w,d,h⟩;have m:=hr.rs w d;rcases h with ⟨f,g,rfl⟩|⟨f,g,rfl⟩|⟨f,g,rfl⟩|⟨f,g,rfl⟩
  ·exact .inl ⟨rfl,(in_row hr d f).2 g.1,by rw [Jdi hr,f];exact g.2⟩
  ·exact .inr (.inr (.inl ⟨rfl,(in_row hr d (by omega)).2 g.1,by rw [Jdi hr,f];exact g.2⟩))
  ·have:=(Ju4 m p.1).1 g;exact .inr (.inl ⟨rfl,(in_row hr d f).2 this.1,λl=>this.2 ((in_row hr d f).1 l)⟩)
  ·have:=(J3h m p.1).1 g;exact .inr (.inr (.inr ⟨rfl,(in_row hr d (by omega)).2 this.1,λl=>this.2 ((in_row hr d (by omega)).1 l)⟩))
 ·have key:∀ {a b:Int},Qf r (a,b)->∃w∈r,w.1=b:=λ⟨w,d,e,_⟩=>⟨w,d,e⟩;rintro (⟨rfl,f,g⟩|⟨rfl,f,g⟩|⟨rfl,f,g⟩|⟨rfl,f,g⟩)
  ·obtain ⟨w,d,e⟩:=key f;exact ⟨w,d,.inl ⟨e.symm,⟨(in_row hr d e.symm).1 f,λl=>g (by rw [Jdi hr,<-e];exact l)⟩,rfl⟩⟩
  ·obtain ⟨w,d,e⟩:=key f;exact ⟨w,d,.inr (.inr (.inl ⟨e.symm,(Ju4 (hr.rs w d) p.1).2 ⟨(in_row hr d e.symm).1 f,λl=>g ((in_row hr d e.symm).2 l)⟩,rfl⟩))⟩
  ·obtain ⟨w,d,e⟩:=key f;exact ⟨w,d,.inr (.inl ⟨by omega,⟨(in_row hr d e.symm).1 f,λl=>g (by rw [Jdi hr,show p.2=w.1+1 by omega];exact l)⟩,rfl⟩)⟩
  ·obtain ⟨w,d,e⟩:=key f;exact ⟨w,d,.inr (.inr (.inr ⟨by omega,(J3h (hr.rs w d) p.1).2 ⟨(in_row hr d e.symm).1 f,λl=>g ((in_row hr d e.symm).2 l)⟩,rfl⟩))⟩
theorem Crk.e{r:Reg}{p:Cell}{x:Int}(h:Crk r p x):x=0\/x=1\/x=2\/x=3:=by rcases h with ⟨h,_⟩|⟨h,_⟩|⟨h,_⟩|⟨h,_⟩<;>simp [h]
theorem Crk.opp{r:Reg}{p:Cell}{x y:Int}(h:Crk r p x)(h':Crk r p y)(l:x≠y):(x+2) % 4=y:=by
 rcases h with ⟨rfl,g,f⟩|⟨rfl,g,f⟩|⟨rfl,g,f⟩|⟨rfl,g,f⟩ <;>
 rcases h' with ⟨rfl,d,a⟩|⟨rfl,d,a⟩|⟨rfl,d,a⟩|⟨rfl,d,a⟩ <;>
 first|rfl|exact (l rfl).elim|exact (f d).elim|exact (a g).elim
open Classical in
noncomputable def nxtH(r:Reg)(p:Cell)(x:Int):Int:=
 let q:=Xk x p
 if Crk r q ((x+1) % 4) then (x+1) % 4 else if Crk r q x then x else (x+3) % 4
open Classical in
theorem J2o{r:Reg}{p:Cell}{x:Int}(h:Crk r p x):Crk r (Xk x p) (nxtH r p x):=by
 unfold nxtH;dsimp only;split
 ·assumption
 split
 ·assumption
 ·next g f=>
  rcases h with ⟨rfl,d,a⟩|⟨rfl,d,a⟩|⟨rfl,d,a⟩|⟨rfl,d,a⟩<;>simp [Xk,Crk] at *<;>grind
open Classical in
theorem nxt_inj{r:Reg}{p q:Cell}{x y:Int}(o:Crk r p x)(v:Crk r q y)(a:Xk x p=Xk y q)(m:nxtH r p x=nxtH r q y):p=q/\x=y:=by
 by_cases d:x=y
 ·subst d;refine ⟨?_,rfl⟩;unfold Xk at a;rw [Prod.ext_iff] at a ⊢;split at a
  ·dsimp only at a;omega
  split at a
  ·dsimp only at a;omega
  split at a<;>(dsimp only at a;omega)
 ·exfalso;unfold nxtH at m;dsimp only at m;rw [<-a] at m;have w:=o;obtain ⟨F,E⟩:=p;obtain ⟨B,A⟩:=q;rcases o with ⟨rfl,l,h⟩|⟨rfl,l,h⟩|⟨rfl,l,h⟩|⟨rfl,l,h⟩ <;>
  rcases v with ⟨rfl,g,f⟩|⟨rfl,g,f⟩|⟨rfl,g,f⟩|⟨rfl,g,f⟩ <;>
  first
   | exact (d rfl).elim
   | (simp [Xk,Crk] at *<;>grind)
section
variable {α:Type}
def itr(f:α->α):Nat->α->α
 | 0,c=>c
 | k+1,c=>f (itr f k c)
theorem Ja6(f:α->α)(c:α)(j:Nat):∀k,itr f (k+j) c=itr f k (itr f j c)
 | 0=>by rw [Nat.zero_add];rfl
 | k+1=>by rw [Nat.add_right_comm];exact congrArg f (Ja6 f c j k)
theorem zg:∀ {l m:List α},l.Nodup->(∀x∈l,x∈m)->l.length<=m.length
 | [],_,_,_=>Nat.zero_le _
 | x::l,m,h,hs=>by
  classical
  obtain ⟨f,d⟩:=Ay.1 h;have hx:=hs x (Af ..);have:=zg (m:=m.erase x) d λy a=>(Dp (λe=>f (by rw [<-e];exact a))).2 (hs y (Ai _ a));rw [Da hx] at this;have:=Bj hx;rw [Au];omega
structure Ring (f:α->α) (cl:List α):Prop where
 mem:∀c∈cl,f c∈cl
 inj:∀c∈cl,∀d∈cl,f c=f d->c=d
variable {f:α->α} {cl:List α}
theorem Ring.itr_mem(h:Ring f cl){c:α}(a:c∈cl):∀k,itr f k c∈cl
 | 0=>a
 | k+1=>h.mem _ (h.itr_mem a k)
theorem Ring.itr_inj(h:Ring f cl){c d:α}(a:c∈cl)(hd:d∈cl):∀k,itr f k c=itr f k d->c=d
 | 0,e=>e
 | k+1,e=>h.itr_inj a hd k (h.inj _ (h.itr_mem a k) _ (h.itr_mem hd k) e)
structure Rnd (f:α->α) (c:α) (N:Nat):Prop where
 pos:0<N
 back:itr f N c=c
 ne:∀i,0<i->i<N->itr f i c≠c
theorem Ring.rnd(h:Ring f cl){c:α}(w:c∈cl):∃N,Rnd f c N/\N<=cl.length:=by
 classical
 have v:∃n,0<n/\n<=cl.length/\itr f n c=c:=by
  apply Ar;intro l;have o:((Bf (cl.length+1)).map λi=>itr f i c).Nodup:=by
   refine List.pairwise_map.2 ?_;refine List.Pairwise.imp_of_mem (R:=(·<·)) (λ{i j} hi B E e=>?_) Dh;rw [Bb] at hi B;refine l ⟨j - i,by omega,by omega,?_⟩;have G:itr f j c=itr f i (itr f (j - i) c):=by rw [<-Ja6,show i+(j - i)=j by omega]
   exact (h.itr_inj w (h.itr_mem w _) i (by rw [<-G];exact e)).symm
  have:=zg o λx hx=>by obtain ⟨i,_,rfl⟩:=Db.1 hx;exact h.itr_mem w i
  rw [List.length_map,List.length_range] at this;omega
 have r:∃N,(0<N/\N<=cl.length/\itr f N c=c)/\∀i,0<i->i<N->itr f i c≠c:=by
  obtain ⟨n,A⟩:=v
  induction n using Dd with
  | _ n y=>
   by_cases hx:∃m,m<n/\0<m/\itr f m c=c
   ·obtain ⟨m,g,d,a⟩:=hx;exact y m g ⟨d,by omega,a⟩
   ·exact ⟨n,A,λi g d a=>hx ⟨i,d,g,a⟩⟩
 obtain ⟨N,⟨g,d,a⟩,F⟩:=r;exact ⟨N,⟨g,a,F⟩,d⟩
theorem Rnd.per{c:α}{N:Nat}(h:Rnd f c N)(k:Nat):itr f (k+N) c=itr f k c:=by rw [Ja6,h.back]
theorem Rnd.from(hr:Ring f cl){c:α}{N:Nat}(h:Rnd f c N)(a:c∈cl)(j:Nat):Rnd f (itr f j c) N:=by
 have e:∀i,itr f i (itr f j c)=itr f j (itr f i c):=λi=>by rw [<-Ja6,<-Ja6,Nat.add_comm]
 refine ⟨h.pos,by rw [e,h.back],λi l g d=>h.ne i l g ?_⟩;rw [e] at d;exact hr.itr_inj (hr.itr_mem a i) a j d
theorem Rnd.modN{c:α}{N:Nat}(h:Rnd f c N):∀k,∃i,i<N/\itr f k c=itr f i c
 | 0=>⟨0,h.pos,rfl⟩
 | k+1=>by
  obtain ⟨i,g,a⟩:=h.modN k;by_cases d:i+1<N
  ·exact ⟨i+1,d,congrArg f a⟩
  ·refine ⟨0,h.pos,(congrArg f a).trans ?_⟩;have:i+1=N:=by omega
   rw [show f (itr f i c)=itr f (i+1) c from rfl,this,h.back];rfl
theorem Rnd.to(c:α){N:Nat}(h:Rnd f c N)(k:Nat):∃j,itr f j (itr f k c)=c:=by
 refine ⟨N * k - k,?_⟩;have d:k<=N * k:=Nat.le_mul_of_pos_left _ h.pos;rw [<-Ja6,show N * k - k+k=N * k by omega];clear d
 induction k with
 | zero=>rfl
 | succ k a=>rw [Nat.mul_succ,h.per,a]
theorem Ring.dist(h:Ring f cl){c:α}(d:c∈cl){N:Nat}(hN:Rnd f c N){i j:Nat}(hi:i<N)(l:j<N)(e:itr f i c=itr f j c):i=j:=by
 rcases Ba i j with a|a|a
 ·have g:itr f j c=itr f i (itr f (j - i) c):=by rw [<-Ja6,show i+(j - i)=j by omega]
  exact (hN.ne (j - i) (by omega) (by omega) (h.itr_inj d (h.itr_mem d _) i (by rw [<-g];exact e)).symm).elim
 ·exact a
 ·have g:itr f i c=itr f j (itr f (i - j) c):=by rw [<-Ja6,show j+(i - j)=i by omega]
  exact (hN.ne (i - j) (by omega) (by omega) (h.itr_inj d (h.itr_mem d _) j (by rw [<-g];exact e.symm)).symm).elim
end
abbrev Ck:=Cell×Int
open Classical in
noncomputable def Jjj(r:Reg)(c:Cell):List Ck:=
 (if Qf r (c.1,c.2 - 1) then [] else [((c.1,c.2),0)])++(if Qf r (c.1+1,c.2) then [] else [((c.1+1,c.2),1)]) ++
 (if Qf r (c.1,c.2+1) then [] else [((c.1+1,c.2+1),2)])++(if Qf r (c.1 - 1,c.2) then [] else [((c.1,c.2+1),3)])
noncomputable def cks(r:Reg):List Ck:=(X5 r).flatMap (Jjj r)
theorem Jbm{r:Reg}{c:Cell}{k:Ck}:k∈Jjj r c↔(¬Qf r (c.1,c.2 - 1)/\k=((c.1,c.2),0))\/(¬Qf r (c.1+1,c.2)/\k=((c.1+1,c.2),1)) \/
  (¬Qf r (c.1,c.2+1)/\k=((c.1+1,c.2+1),2))\/(¬Qf r (c.1 - 1,c.2)/\k=((c.1,c.2+1),3)):=by
 classical
 have h:∀(p:Prop) (x:Ck),k∈(if p then [] else [x])↔¬p/\k=x:=λp x=>by by_cases a:p<;>simp [a]
 unfold Jjj;simp only [Ad,h,or_assoc]
theorem Jaj{r:Reg}{k:Ck}:k∈cks r↔Crk r k.1 k.2:=by
 unfold cks;rw [Bk];obtain ⟨⟨x,y⟩,h⟩:=k;constructor
 ·rintro ⟨⟨a,b⟩,g,l⟩;rw [Zz] at g;rcases Jbm.1 l with ⟨d,f⟩|⟨d,f⟩|⟨d,f⟩|⟨d,f⟩<;>simp only [Prod.mk.injEq] at f<;>obtain ⟨⟨rfl,rfl⟩,rfl⟩:=f
  ·exact .inl ⟨rfl,g,d⟩
  ·exact .inr (.inl ⟨rfl,by simpa using g,d⟩)
  ·exact .inr (.inr (.inl ⟨rfl,by simpa using g,by simpa using d⟩))
  ·exact .inr (.inr (.inr ⟨rfl,by simpa using g,by simpa using d⟩))
 ·rintro (⟨e,d,f⟩|⟨e,d,f⟩|⟨e,d,f⟩|⟨e,d,f⟩)<;>have e:h=_:=e<;>subst e
  ·exact ⟨_,Zz.2 d,Jbm.2 (.inl ⟨f,rfl⟩)⟩
  ·exact ⟨_,Zz.2 d,Jbm.2 (.inr (.inl ⟨by simpa using f,by simp⟩))⟩
  ·exact ⟨_,Zz.2 d,Jbm.2 (.inr (.inr (.inl ⟨by simpa using f,by simp⟩)))⟩
  ·exact ⟨_,Zz.2 d,Jbm.2 (.inr (.inr (.inr ⟨by simpa using f,by simp⟩)))⟩
noncomputable def nx(r:Reg)(c:Ck):Ck:=(Xk c.2 c.1,nxtH r c.1 c.2)
theorem ring(r:Reg):Ring (nx r) (cks r):=
 ⟨λc a=>Jaj.2 (J2o (Jaj.1 a)),λc a d hd e=>by obtain ⟨l,h⟩:=Prod.mk.injEq ..▸e;obtain ⟨g,f⟩:=nxt_inj (Jaj.1 a) (Jaj.1 hd) l h;exact Prod.ext g f⟩
def Least(r:Reg)(c:Ck):Prop:=Crk r c.1 c.2/\∀k,¬yx (itr (nx r) k c).1 c.1
theorem Jvo(p:Cell){h:Int}(a:h=2\/h=3):yx (Xk h p) p:=by unfold yx Xk;rcases a with rfl|rfl<;>simp<;>omega
theorem J1s(p:Cell){h:Int}(a:h=0\/h=1):yx p (Xk h p):=by unfold yx Xk;rcases a with rfl|rfl<;>simp<;>omega
theorem Least.e{r:Reg}{c:Ck}(h:Least r c):c.2=0\/c.2=1:=by
 rcases h.1.e with e|e|e|e
 ·exact .inl e
 ·exact .inr e
 ·exact (h.2 1 (Jvo c.1 (.inl e))).elim
 ·exact (h.2 1 (Jvo c.1 (.inr e))).elim
theorem Least.mem{r:Reg}{c:Ck}(h:Least r c):c∈cks r:=Jaj.2 h.1
theorem Zw{r:Reg}{c:Ck}(h:Crk r c.1 c.2)(k:Nat):Crk r (itr (nx r) k c).1 (itr (nx r) k c).2:=Jaj.1 ((ring r).itr_mem (Jaj.2 h) k)
theorem Least.prev{r:Reg}{c:Ck}(h:Least r c){k:Nat}(d:itr (nx r) (k+1) c=c):(itr (nx r) k c).2=2\/(itr (nx r) k c).2=3:=by
 have e:nx r (itr (nx r) k c)=c:=d;have a:Xk (itr (nx r) k c).2 (itr (nx r) k c).1=c.1:=congrArg Prod.fst e;rcases (Zw h.1 k).e with e|e|e|e
 ·exact (h.2 k (by have:=J1s (itr (nx r) k c).1 (.inl e);rwa [a] at this)).elim
 ·exact (h.2 k (by have:=J1s (itr (nx r) k c).1 (.inr e);rwa [a] at this)).elim
 ·exact .inl e
 ·exact .inr e
theorem Least.only{r:Reg}{c d:Ck}(h:Least r c)(hd:Crk r d.1 d.2)(e:d.1=c.1)(g:¬yx (nx r d).1 c.1):d=c:=by
 refine Prod.ext e ?_;apply Ar;intro a;have f:=h.1.opp (y:=d.2) (by rw [<-e];exact hd) (λe=>a e.symm);have l:d.2=2\/d.2=3:=by rcases h.e with e|e<;>rw [e] at f<;>omega
 exact g (by rw [<-e];exact Jvo d.1 l)
theorem Least.ne{r:Reg}{c:Ck}(h:Least r c){N:Nat}(hN:Rnd (nx r) c N){k:Nat}(d:0<k)(a:k<N):(itr (nx r) k c).1≠c.1:=λe=>
 hN.ne k d a (h.only (Zw h.1 k) e (h.2 (k+1)))
theorem Least.uniq{r:Reg}{c d:Ck}(h:Least r c)(h':Least r d)(e:d.1=c.1):d=c:=
 h.only h'.1 e (by rw [<-e];exact h'.2 1)
theorem J2q(a b:Cell):yx a b\/a=b\/yx b a:=by
 unfold yx;by_cases h:a=b
 ·exact .inr (.inl h)
 ·have:¬(a.1=b.1/\a.2=b.2):=λe=>h (Prod.ext e.1 e.2);omega
noncomputable def z8(r:Reg)(c:Ck)(k:Nat):Option Cell:=if (itr (nx r) (k+1) c).2=(itr (nx r) k c).2 then none else some (itr (nx r) (k+1) c).1
noncomputable def seg(r:Reg)(c:Ck)(a n:Nat):List Cell:=(Bf n).filterMap λi=>z8 r c (a+i)
noncomputable def poly(r:Reg)(c:Ck)(N:Nat):List Cell:=c.1::seg r c 0 (N - 1)
theorem Jkl(r:Reg)(c:Ck)(a n:Nat):seg r c a (n+1)=seg r c a n++(z8 r c (a+n)).toList:=by unfold seg;rw [Di,Dl];cases h:z8 r c (a+n)<;>simp [h]
theorem Jmr(r:Reg)(c:Ck)(a m:Nat):∀n,seg r c a (m+n)=seg r c a m++seg r c (a+m) n
 | 0=>by simp [seg]
 | n+1=>by rw [<-Dr,Jkl,Jmr r c a m n,Jkl,List.append_assoc,Dr]
theorem J3j(r:Reg)(c:Ck)(a:Nat):seg r c a 1=(z8 r c a).toList:=by rw [show (1:Nat)=0+1 from rfl,Jkl];simp [seg]
theorem Jte(r:Reg)(c:Ck)(j k:Nat):z8 r (itr (nx r) j c) k=z8 r c (k+j):=by unfold z8;rw [<-Ja6,<-Ja6,show k+1+j=k+j+1 by omega]
theorem turn_per{r:Reg}{c:Ck}{N:Nat}(h:Rnd (nx r) c N)(k:Nat):z8 r c (k+N)=z8 r c k:=by unfold z8;rw [show k+N+1=k+1+N by omega,h.per,h.per]
theorem seg_from(r:Reg)(c:Ck)(j a n:Nat):seg r (itr (nx r) j c) a n=seg r c (a+j) n:=by
 unfold seg
 congr 1
 funext i;rw [Jte,show a+i+j=a+j+i by omega]
theorem J27{r:Reg}{c:Ck}{N:Nat}(h:Rnd (nx r) c N)(a n:Nat):seg r c (a+N) n=seg r c a n:=by
 unfold seg
 congr 1
 funext i;rw [show a+N+i=a+i+N by omega,turn_per h]
theorem J08{r:Reg}{c:Ck}{a n:Nat}{x:Cell}(h:x∈seg r c a n):∃i,i<n/\x=(itr (nx r) (a+i+1) c).1:=by
 unfold seg at h;obtain ⟨i,hi,e⟩:=List.mem_filterMap.1 h;refine ⟨i,Bb.1 hi,?_⟩;unfold z8 at e;split at e
 ·cases e
 ·injection e with e;exact e.symm
theorem Least.turn{r:Reg}{s:Ck}(h:Least r s){N:Nat}(hN:Rnd (nx r) s N):z8 r s (N - 1)=some s.1:=by
 have a:=hN.pos;unfold z8;have e:itr (nx r) (N - 1+1) s=s:=by rw [show N - 1+1=N by omega,hN.back]
 rw [e,if_neg];have f:=h.e;have d:=h.prev e;omega
theorem poly_seg{r:Reg}{s:Ck}(h:Least r s){N:Nat}(hN:Rnd (nx r) s N):poly r s N=seg r s (N - 1) N:=by
 have a:=hN.pos;have e:seg r s (N - 1) (1+(N - 1))=seg r s (N - 1) N:=by rw [show 1+(N - 1)=N by omega]
 rw [<-e,Jmr,J3j,h.turn hN,show N - 1+1=0+N by omega,J27 hN];rfl
theorem Least.above{r:Reg}{s:Ck}(h:Least r s){N:Nat}(hN:Rnd (nx r) s N){k:Nat}(d:0<k)(a:k<N):yx s.1 (itr (nx r) k s).1:=by
 rcases J2q s.1 (itr (nx r) k s).1 with e|e|e
 ·exact e
 ·exact (h.ne hN d a e.symm).elim
 ·exact (h.2 k e).elim
theorem turned{r:Reg}{c:Ck}(d:Crk r c.1 c.2){N j:Nat}(hN:Rnd (nx r) c N)(g:j<N)(h:Least r (itr (nx r) j c)) :
  ∃A B,seg r c (N - 1) N=A++(itr (nx r) j c).1::B/\poly r (itr (nx r) j c) N=(itr (nx r) j c).1::B++A/\∀x∈A++B,yx (itr (nx r) j c).1 x:=by
 have hs:Rnd (nx r) (itr (nx r) j c) N:=hN.from (ring r) (Jaj.2 d) j
 have f:=hN.pos;have a:=h.turn hs;rw [Jte] at a;have eB:seg r c (N - 1+j) (N - j)=(itr (nx r) j c).1::seg r c (N+j) (N - j - 1):=by
  conv=>lhs;rw [show N - j=1+(N - j - 1) by omega]
  rw [Jmr,J3j,a,show N - 1+j+1=N+j by omega];rfl
 refine ⟨seg r c (N - 1) j,seg r c (N+j) (N - j - 1),?_,?_,?_⟩
 ·rw [<-eB,<-Jmr,show j+(N - j)=N by omega]
 ·rw [poly_seg h hs,seg_from,<-eB];have e:seg r c (N - 1+j) ((N - j)+j)=seg r c (N - 1+j) N:=by rw [show N - j+j=N by omega]
  rw [<-e,Jmr,show N - 1+j+(N - j)=N - 1+N by omega,J27 hN]
 ·intro x hx;rcases Ad.1 hx with hx|hx
  ·obtain ⟨i,hi,rfl⟩:=J08 hx;have:=h.above hs (k:=i+N - j) (by omega) (by omega);rwa [<-Ja6,show i+N - j+j=N - 1+i+1 by omega] at this
  ·obtain ⟨i,hi,rfl⟩:=J08 hx;have:=h.above hs (k:=i+1) (by omega) (by omega);rwa [<-Ja6,<-hN.per (i+1+j),show i+1+j+N=N+j+i+1 by omega] at this
theorem Rnd.uniq{α:Type}{f:α->α}{c:α}{N M:Nat}(h:Rnd f c N)(h':Rnd f c M):N=M:=by
 rcases Ba N M with e|e|e
 ·exact (h'.ne N h.pos e h.back).elim
 ·exact e
 ·exact (h.ne M h'.pos e h'.back).elim
open Classical in
noncomputable def perN(r:Reg)(c:Ck):Nat:=if h:∃N,Rnd (nx r) c N then h.choose else 0
theorem Jfx{r:Reg}{c:Ck}(h:Crk r c.1 c.2):Rnd (nx r) c (perN r c):=by have hx:∃N,Rnd (nx r) c N:=(ring r).rnd (Jaj.2 h) |>.imp λN h=>h.1;unfold perN;rw [dif_pos hx];exact hx.choose_spec
theorem Jqg{r:Reg}{c:Ck}{N:Nat}(h:Crk r c.1 c.2)(hN:Rnd (nx r) c N):perN r c=N:=(Jfx h).uniq hN
theorem Jvg{r:Reg}{c:Ck}(h:Crk r c.1 c.2):perN r c<=(cks r).length:=by obtain ⟨N,d,a⟩:=(ring r).rnd (Jaj.2 h);rw [Jqg h d];exact a
noncomputable def pol(r:Reg)(c:Ck):List Cell:=poly r c (perN r c)
structure Starts (r:Reg) (l:List Ck):Prop where
 pw:l.Pairwise λa b=>yx a.1 b.1
 mem:∀c,c∈l↔Least r c
theorem Starts.uniq{r:Reg}{l m:List Ck}(h:Starts r l)(h':Starts r m):l=m:=
 Jdz (λa b h=>Jq3 h) h.pw h'.pw λx=>(h.mem x).trans (h'.mem x).symm
def Closed(r:Reg)(S:Ck->Prop):Prop:=(∀c,S c->Crk r c.1 c.2)/\∀c,S c->S (nx r c)
theorem Closed.itr{r:Reg}{S:Ck->Prop}(h:Closed r S){c:Ck}(a:S c):∀k,S (itr (nx r) k c)
 | 0=>a
 | k+1=>h.2 _ (h.itr a k)
theorem Closed.sub{r:Reg}{S:Ck->Prop}(h:Closed r S){c:Ck}(a:Crk r c.1 c.2):Closed r λd=>S d/\¬ ∃k,d=Go.Proofs.YtmfagdfkpjgeiaaGreat.itr (nx r) k c:=by
 refine ⟨λd hd=>h.1 d hd.1,λd hd=>⟨h.2 d hd.1,?_⟩⟩;rintro ⟨k,f⟩;refine hd.2 ?_;have hN:=Jfx a;have e:nx r d=nx r (Go.Proofs.YtmfagdfkpjgeiaaGreat.itr (nx r) (k+perN r c - 1) c):=by have g:=hN.pos;rw [f,show nx r (Go.Proofs.YtmfagdfkpjgeiaaGreat.itr (nx r) (k+perN r c - 1) c)=Go.Proofs.YtmfagdfkpjgeiaaGreat.itr (nx r) (k+perN r c - 1+1) c from rfl,show k+perN r c - 1+1=k+perN r c by omega,hN.per]
 exact ⟨_,(ring r).inj _ (Jaj.2 (h.1 d hd.1)) _ (Jaj.2 (Zw a _)) e⟩
def dirH(h:Int):Cell:=if h=0 then (1,0) else if h=1 then (0,1) else if h=2 then (-1,0) else (0,-1)
def addC(p d:Cell):Cell:=(p.1+d.1,p.2+d.2)
def fwd(p:Cell)(h:Int)(n:Nat):Cell:=(p.1+(n:Int) * (dirH h).1,p.2+(n:Int) * (dirH h).2)
theorem Jlg(h:Int)(p:Cell):Xk h p=addC p (dirH h):=by
 unfold Xk addC dirH;split
 ·simp
 split
 ·simp
 split
 ·simp [Int.sub_eq_add_neg]
 ·simp [Int.sub_eq_add_neg]
theorem Jx2(p:Cell)(h:Int):fwd p h 0=p:=by unfold fwd;simp
theorem Jpi(p:Cell)(h:Int)(n:Nat):fwd p h (n+1)=Xk h (fwd p h n):=by rw [Jlg];unfold fwd addC;dsimp only;rw [show ((n+1:Nat):Int)=(n:Int)+1 by omega,Int.add_mul,Int.add_mul,Int.one_mul,Int.one_mul,Int.add_assoc,Int.add_assoc]
section
variable (r:Reg) (s:Ck)
noncomputable def hdK(k:Nat):Int:=(itr (nx r) k s).2
noncomputable def ptK(k:Nat):Cell:=(itr (nx r) k s).1
theorem Jki(k:Nat):ptK r s (k+1)=Xk (hdK r s k) (ptK r s k):=rfl
noncomputable def tps(N:Nat):List Nat:=(Bf N).filter λk=>decide (k=0\/hdK r s k≠hdK r s (k - 1))
theorem Jv8{N k:Nat}:k∈tps r s N↔k<N/\(k=0\/hdK r s k≠hdK r s (k - 1)):=by unfold tps;rw [List.mem_filter,Bb,decide_eq_true_eq]
theorem tps_pw(N:Nat):(tps r s N).Pairwise (·<·):=List.Pairwise.filter _ Dh
theorem Jqm{N:Nat}(h:0<N):tps r s N=0::((Bf (N - 1)).filter λk=>decide (hdK r s (k+1)≠hdK r s k)).map (·+1):=by
 unfold tps;obtain ⟨M,rfl⟩:∃M,N=M+1:=⟨N - 1,by omega⟩;rw [Df,List.filter_cons_of_pos (by simp),List.filter_map,Nat.add_sub_cancel]
 congr 2
 refine List.filter_congr λk _=>?_;simp
theorem Jpn{N:Nat}(h:0<N):poly r s N=(tps r s N).map (ptK r s):=by
 rw [Jqm r s h,Ap,poly]
 congr 1
 unfold seg;generalize N - 1=M;clear h
 induction M with
 | zero=>rfl
 | succ M f=>
  rw [Di,Dl,List.filter_append,De,De,f]
  congr 1
  have d:(0:Nat)+M=M:=Nat.zero_add M;by_cases a:hdK r s (M+1)=hdK r s M
  ·have:z8 r s M=none:=if_pos a;simp [a,this,d]
  ·have:z8 r s M=some (ptK r s (M+1)):=if_neg a;simp [a,this,d]
noncomputable def tpN(N i:Nat):Nat:=(tps r s N)[i]?.getD N
theorem Jj7{N:Nat}(h:0<N):tpN r s N 0=0:=by unfold tpN;rw [Jqm r s h];rfl
theorem Jme{N i:Nat}(h:(tps r s N).length<=i):tpN r s N i=N:=by unfold tpN;rw [Ax h];rfl
theorem Jij{N i:Nat}(h:i<(tps r s N).length):(tps r s N)[i]?=some (tpN r s N i):=by unfold tpN;rw [Aa h];rfl
theorem Jn6{N i:Nat}(h:i<(tps r s N).length):tpN r s N i<tpN r s N (i+1):=by
 have a:=Jij r s h;by_cases d:i+1<(tps r s N).length
 ·exact Jyj (tps_pw r s N) a (Jij r s d)
 ·rw [Jme r s (i:=i+1) (by omega)];exact (Jv8 r s).1 (Ae a) |>.1
theorem Jxz{N i:Nat}:tpN r s N i<=N:=by
 by_cases h:i<(tps r s N).length
 ·exact Nat.le_of_lt ((Jv8 r s).1 (Ae (Jij r s h)) |>.1)
 ·rw [Jme r s (by omega)];exact Aq _
theorem between{N i:Nat}(h:i<(tps r s N).length){k:Nat}(J:tpN r s N i<k)(F:k<tpN r s N (i+1)):hdK r s k=hdK r s (k - 1):=by
 apply Ar;intro f;have A:k∈tps r s N:=(Jv8 r s).2 ⟨Nat.lt_of_lt_of_le F (Jxz r s),.inr f⟩;obtain ⟨j,v⟩:=Ah A;have g:=(Ab.1 v).1;have e:tpN r s N j=k:=by unfold tpN;rw [v];rfl
 have mono:∀ {a b:Nat},a<b->b<(tps r s N).length->tpN r s N a<tpN r s N b:=λ{a b} o B=>by have E:=Jij r s (N:=N) (i:=a) (by omega);have m:=Jij r s B;obtain ⟨y,H⟩:=Ab.1 E;obtain ⟨w,G⟩:=Ab.1 m;rw [<-H,<-G];exact Aj.1 (tps_pw r s N) a b y w o
 rcases Ba j i with d|d|d
 ·have:=mono d h;omega
 ·subst d;omega
 ·by_cases l:j=i+1
  ·subst l;omega
  ·have:=mono (a:=i+1) (b:=j) (by omega) g;omega
theorem Jnb{N i:Nat}(h:i<(tps r s N).length):∀j,tpN r s N i+j<tpN r s N (i+1)->hdK r s (tpN r s N i+j)=hdK r s (tpN r s N i)
 | 0,_=>rfl
 | j+1,a=>by rw [between r s h (k:=tpN r s N i+(j+1)) (by omega) a,show tpN r s N i+(j+1) - 1=tpN r s N i+j by omega];exact Jnb h j (by omega)
theorem edge{N i:Nat}(h:i<(tps r s N).length):∀j,tpN r s N i+j<=tpN r s N (i+1)->ptK r s (tpN r s N i+j)=fwd (ptK r s (tpN r s N i)) (hdK r s (tpN r s N i)) j
 | 0,_=>(Jx2 _ _).symm
 | j+1,a=>by rw [<-Dr,Jki,Jnb r s h j (by omega),edge h j (by omega),Jpi]
def rgt(h h':Int):Prop:=h'=(h+3) % 4
instance (h h':Int):Decidable (rgt h h'):=inferInstanceAs (Decidable (_=_))
noncomputable def rawK(k:Nat):List Cell:=Qm (ptK r s k) (hdK r s k)::if rgt (hdK r s k) (hdK r s (k+1)) then [addC (Qm (ptK r s k) (hdK r s k)) (dirH (hdK r s k))] else []
noncomputable def raw(n:Nat):List Cell:=(Bf n).flatMap (rawK r s)
theorem Jdx(n:Nat):raw r s (n+1)=raw r s n++rawK r s n:=by unfold raw;rw [Di,Bp];simp
end
def nbC(a b:Cell):Prop:=((a.1 - b.1=1\/a.1 - b.1=-1)/\a.2=b.2)\/(a.1=b.1/\(a.2 - b.2=1\/a.2 - b.2=-1))
def near(a b:Cell):Prop:=a=b\/nbC a b
def Adj(R:Cell->Cell->Prop)(l:List Cell):Prop:=∀i a b,l[i]?=some a->l[i+1]?=some b->R a b
theorem Adj.nil(R:Cell->Cell->Prop):Adj R []:=λi a b h=>by simp at h
theorem Adj.snoc{R:Cell->Cell->Prop}{l:List Cell}{c:Cell}(h:Adj R l)(hl:∀a,l.getLast?=some a->R a c):Adj R (l++[c]):=by
 intro i a b f d;have hi:i+1<(l++[c]).length:=(Ab.1 d).1;rw [Ao,Dm] at hi;by_cases g:i+1<l.length
 ·rw [As (by omega)] at f d;exact h i a b f d
 ·have e:i+1=l.length:=by omega
  rw [As (by omega)] at f;rw [Bd (by omega),show i+1 - l.length=0 by omega] at d;simp at d;subst d;exact hl a (by rw [By,show l.length - 1=i by omega];exact f)
theorem Adj.left{R:Cell->Cell->Prop}{l m:List Cell}(h:Adj R (l++m)):Adj R l:=λi a b f d=>by have g:=(Ab.1 d).1;exact h i a b (by rw [As (by omega)];exact f) (by rw [As (by omega)];exact d)
theorem Adj.last{R:Cell->Cell->Prop}{l:List Cell}{c a:Cell}(h:Adj R (l++[c]))(f:l.getLast?=some a):R a c:=by
 have d:l≠[]:=λe=>by subst e;simp at f
 have g:=Bq.2 d;rw [By] at f;exact h (l.length - 1) a c (by rw [As (by omega)];exact f) (by rw [show l.length - 1+1=l.length by omega,Bd (by omega)];simp)
def ddS(out:List Cell)(c:Cell):List Cell:=if out.getLast?=some c then out else out++[c]
def dd(l:List Cell):List Cell:=l.foldl ddS []
theorem Jix(l:List Cell)(c:Cell):dd (l++[c])=ddS (dd l) c:=by unfold dd;rw [List.foldl_append];rfl
theorem dd_add(l m:List Cell):dd (l++m)=m.foldl ddS (dd l):=by unfold dd;rw [List.foldl_append]
theorem Jh4{P:List Cell->Prop}(f:P [])(d:∀l c,P l->P (l++[c]))(l:List Cell):P l:=by
 have key:∀m:List Cell,P m.reverse:=λm=>by
  induction m with
  | nil=>exact f
  | cons c m a=>rw [List.reverse_cons];exact d _ _ a
 have:=key l.reverse;rwa [List.reverse_reverse] at this
theorem J3n(l:List Cell):(dd l).getLast?=l.getLast?:=by
 refine Jh4 (P:=λl=>(dd l).getLast?=l.getLast?) rfl (λl c a=>?_) l;rw [Jix,Az];unfold ddS;split
 ·assumption
 ·exact Az ..
theorem dd_head(l:List Cell):(dd l).head?=l.head?:=by
 refine Jh4 (P:=λl=>(dd l).head?=l.head?) rfl (λl c d=>?_) l;rw [Jix];have a:∀m:List Cell,(m++[c]).head?=m.head?.or (some c):=λm=>by cases m<;>rfl
 rw [a l,<-d];unfold ddS;split
 ·rename_i h;cases hd:dd l with
  | nil=>rw [hd] at h;simp at h
  | cons x m=>rfl
 ·rw [a]
theorem dd_mem(l:List Cell)(x:Cell):x∈dd l↔x∈l:=by
 refine Jh4 (P:=λl=>x∈dd l↔x∈l) Iff.rfl (λl c a=>?_) l;rw [Jix,Ad,Ac,<-a];unfold ddS;split
 ·rename_i h;refine ⟨.inl,λhx=>hx.elim id λe=>?_⟩;subst e;exact List.mem_of_getLast? h
 ·rw [Ad,Ac]
theorem J3q(l:List Cell):(dd l).length<=l.length:=by
 refine Jh4 (P:=λl=>(dd l).length<=l.length) (Aq _) (λl c a=>?_) l;rw [Jix,Ao];unfold ddS;split
 ·omega
 ·rw [Ao];simp only [Dm];omega
theorem dd_adj{l:List Cell}(h:Adj near l):Adj nbC (dd l):=by
 revert h;refine Jh4 (P:=λl=>Adj near l->Adj nbC (dd l)) (λ_=>Adj.nil _) (λl c f h=>?_) l;rw [Jix];unfold ddS;split
 ·exact f h.left
 ·rename_i d;refine (f h.left).snoc λa g=>?_;rcases h.last (by rw [<-J3n];exact g) with e|m
  ·exact (d (by rw [g,e])).elim
  ·exact m
def trim(l:List Cell):List Cell:=if 1<l.length/\l.head?=l.getLast? then l.dropLast else l
def Jju(l:List Cell):List Cell:=trim (dd l)
structure Closd (l:List Cell):Prop where
 ne:l≠[]
 adj:Adj nbC l
 cl:l.length=1\/∀a b,l.getLast?=some a->l.head?=some b->nbC a b
theorem Ju8{l:List Cell}(m:l≠[])(h:Adj near l)(A:∀a b,l.getLast?=some a->l.head?=some b->near a b):Closd (Jju l):=by
 have hD:=dd_adj h;have r:=J3n l;have B:=dd_head l;have hneD:dd l≠[]:=λe=>by rw [e] at r;exact m (Bz.1 r.symm)
 unfold Jju trim;generalize dd l=D at *
 split
 ·rename_i hx;obtain ⟨o,g⟩:=hx;obtain ⟨M,x,rfl⟩:∃M x,D=M++[x]:=⟨D.dropLast,D.getLast hneD,(Br hneD).symm⟩;rw [Dq];rw [Az] at g;have hM:M≠[]:=λe=>by subst e;simp at o
  have w:M.head?=some x:=by
   cases M with
   | nil=>exact (hM rfl).elim
   | cons y M=>simpa using g
  refine ⟨hM,hD.left,.inr λa b f d=>?_⟩;rw [w] at d;injection d with d;subst d;exact hD.last f
 ·rename_i hx;refine ⟨hneD,hD,?_⟩;by_cases o:D.length=1
  ·exact .inl o
  ·refine .inr λa b f d=>?_;have g:1<D.length:=by have:=Bq.2 hneD;omega
   rcases A a b (by rw [<-r];exact f) (by rw [<-B];exact d) with e|v
   ·exact (hx ⟨g,by rw [f,d,e]⟩).elim
   ·exact v
theorem once_mem{l:List Cell}(x:Cell):x∈Jju l↔x∈l:=by
 rw [<-dd_mem l];unfold Jju trim;generalize dd l=D;split
 ·rename_i hx;obtain ⟨g,f⟩:=hx;refine ⟨λh=>(List.dropLast_sublist _).subset h,λa=>?_⟩;have d:D≠[]:=λe=>by subst e;simp at g
  obtain ⟨M,y,rfl⟩:∃M y,D=M++[y]:=⟨D.dropLast,D.getLast d,(Br d).symm⟩;rw [Dq];rw [Az] at f;rcases Ad.1 a with a|a
  ·exact a
  ·rw [Ac] at a;subst a;cases M with
   | nil=>simp at g
   | cons y M=>
    have:y=x:=by simpa using f
    subst this;exact Af ..
 ·exact Iff.rfl
theorem once_len(l:List Cell):(Jju l).length<=l.length:=by
 have:=J3q l;unfold Jju trim;split
 ·rw [List.length_dropLast];omega
 ·exact this
theorem Adj.app{R:Cell->Cell->Prop}{l:List Cell}(h:Adj R l):∀ {m:List Cell},Adj R m->(∀a b,l.getLast?=some a->m.head?=some b->R a b)->Adj R (l++m):=by
 intro m
 induction m generalizing l with
 | nil=>intro _ _;rw [List.append_nil];exact h
 | cons c m o=>
  intro g hl;have e:l++c::m=(l++[c])++m:=by simp
  rw [e];refine o (h.snoc λa d=>hl a c d rfl) (λi a b d f=>g (i+1) a b (by simpa using d) (by simpa using f)) λa b d f=>?_;rw [Az] at d;injection d with d;subst d;exact g 0 c b rfl (by rw [<-f];cases m<;>rfl)
theorem nxt_or(r:Reg)(p:Cell)(x:Int):nxtH r p x=(x+1) % 4\/nxtH r p x=x\/nxtH r p x=(x+3) % 4:=by
 unfold nxtH;dsimp only;split
 ·exact .inl rfl
 split
 ·exact .inr (.inl rfl)
 ·exact .inr (.inr rfl)
theorem Jr9{r:Reg}{s:Ck}(hs:Crk r s.1 s.2)(k:Nat):∀a,(rawK r s k).getLast?=some a->near a (Qm (ptK r s (k+1)) (hdK r s (k+1))):=by
 have h:=Zw hs k;intro a d;have f:=nxt_or r (ptK r s k) (hdK r s k);rw [show nxtH r (ptK r s k) (hdK r s k)=hdK r s (k+1) from rfl] at f;have hx:hdK r s k=0\/hdK r s k=1\/hdK r s k=2\/hdK r s k=3:=h.e;rw [Jki];unfold rawK at d;generalize hdK r s k=x at *
 generalize hdK r s (k+1)=y at *
 generalize ptK r s k=p at *
 rcases hx with rfl|rfl|rfl|rfl<;>rcases f with rfl|rfl|rfl<;>simp [rgt,List.getLast?] at d<;>subst d<;>simp [near,nbC,Qm,Xk,addC,dirH]<;>omega
theorem J0x(r:Reg)(s:Ck)(hs:Crk r s.1 s.2)(k:Nat):Adj near (rawK r s k):=by
 have hx:hdK r s k=0\/hdK r s k=1\/hdK r s k=2\/hdK r s k=3:=(Zw hs k).e;unfold rawK;split
 ·intro i a b f d;cases i with
  | zero=>
   simp at f d;subst f;subst d;refine .inr ?_;generalize hdK r s k=x at *
   rcases hx with rfl|rfl|rfl|rfl<;>simp [nbC,addC,dirH]<;>omega
  | succ i=>simp at d
 ·intro i a b f d;simp at d
theorem J4d(r:Reg)(s:Ck)(k:Nat):(rawK r s k).head?=some (Qm (ptK r s k) (hdK r s k)):=rfl
theorem rawK_ne(r:Reg)(s:Ck)(k:Nat):rawK r s k≠[]:=λe=>by cases e
theorem Jwp(r:Reg)(s:Ck){n:Nat}:(raw r s (n+1)).getLast?=(rawK r s n).getLast?:=by
 rw [Jdx,List.getLast?_append];cases h:(rawK r s n).getLast? with
 | none=>exact (rawK_ne r s n (Bz.1 h)).elim
 | some a=>rfl
theorem J0s{r:Reg}{s:Ck}(hs:Crk r s.1 s.2):∀n,Adj near (raw r s n)
 | 0=>Adj.nil _
 | n+1=>by
  rw [Jdx];refine (J0s hs n).app (J0x r s hs n) λa b f d=>?_;cases n with
  | zero=>simp [raw] at f
  | succ n=>
   rw [Jwp] at f;rw [J4d] at d;injection d with d;subst d;exact Jr9 hs n a f
theorem Jq4(r:Reg)(s:Ck):∀ {n:Nat},0<n->(raw r s n).head?=some (Qm s.1 s.2)
 | 1,_=>by rw [Jdx];rfl
 | n+2,_=>by
  rw [Jdx];have:=Jq4 r s (n:=n+1) (by omega);cases h:raw r s (n+1) with
  | nil=>rw [h] at this;cases this
  | cons x l=>rw [h] at this;exact this
theorem raw_ne(r:Reg)(s:Ck){n:Nat}(h:0<n):raw r s n≠[]:=λe=>by have:=Jq4 r s h;rw [e] at this;cases this
theorem Jv7{r:Reg}{s:Ck}(hs:Crk r s.1 s.2){N:Nat}(hN:Rnd (nx r) s N):Closd (Jju (raw r s N)):=by have f:=hN.pos;obtain ⟨M,rfl⟩:∃M,N=M+1:=⟨N - 1,by omega⟩;refine Ju8 (raw_ne r s f) (J0s hs _) λa b g d=>?_;rw [Jwp] at g;rw [Jq4 r s f] at d;injection d with d;subst d;have:=Jr9 hs M a g;have e:itr (nx r) (M+1) s=s:=hN.back;have l:ptK r s (M+1)=s.1:=congrArg Prod.fst e;have h:hdK r s (M+1)=s.2:=congrArg Prod.snd e;rwa [l,h] at this
theorem J4f{r:Reg}{p:Cell}{x:Int}(h:Crk r p x):Qf r (Qm p x):=by rcases h with ⟨rfl,a,d⟩|⟨rfl,a,d⟩|⟨rfl,a,d⟩|⟨rfl,a,d⟩<;>simpa [Qm] using a
theorem J38{r:Reg}{p:Cell}{x:Int}(h:Crk r p x)(a:nxtH r p x=(x+3) % 4):Qf r (addC (Qm p x) (dirH x)):=by
 unfold nxtH at a;dsimp only at a;split at a
 ·rcases h.e with rfl|rfl|rfl|rfl<;>simp at a
 split at a
 ·rcases h.e with rfl|rfl|rfl|rfl<;>simp at a
 ·next o m=>
  obtain ⟨l,g⟩:=p;rcases h with ⟨rfl,f,d⟩|⟨rfl,f,d⟩|⟨rfl,f,d⟩|⟨rfl,f,d⟩<;>simp [Xk,Crk,Qm,addC,dirH] at *<;>grind
theorem raw_mem{r:Reg}{s:Ck}{n:Nat}{x:Cell}(h:x∈raw r s n):∃k,k<n/\x∈rawK r s k:=by obtain ⟨k,a,hx⟩:=Bk.1 h;exact ⟨k,Bb.1 a,hx⟩
theorem raw_in{r:Reg}{s:Ck}(hs:Crk r s.1 s.2){n:Nat}{x:Cell}(h:x∈raw r s n):Qf r x:=by
 obtain ⟨k,d,hx⟩:=raw_mem h;have a:=Zw hs k;unfold rawK at hx;rcases Ag.1 hx with rfl|hx
 ·exact J4f a
 ·split at hx
  ·rename_i hr;rw [Ac] at hx;subst hx;exact J38 a hr
  ·exact (Am hx).elim
theorem rawK_len(r:Reg)(s:Ck)(k:Nat):(rawK r s k).length<=2:=by unfold rawK;split<;>simp
theorem Jph(r:Reg)(s:Ck):∀n,(raw r s n).length<=2 * n
 | 0=>Aq _
 | n+1=>by rw [Jdx,Ao];have:=Jph r s n;have:=rawK_len r s n;omega
theorem Jzr(r:Reg)(c:Cell):(Jjj r c).length<=4:=by unfold Jjj;split<;>split<;>split<;>split<;>simp
theorem Ju2(r:Reg):(cks r).length<=4 * (X5 r).length:=by
 unfold cks;generalize X5 r=l
 induction l with
 | nil=>exact Aq _
 | cons c l a=>
  rw [Bs,Ao,Au];have:=Jzr r c;omega
theorem tps_len(r:Reg)(s:Ck)(N:Nat):(tps r s N).length<=N:=by have:=List.length_filter_le (λk=>decide (k=0\/hdK r s k≠hdK r s (k - 1))) (Bf N);rw [List.length_range] at this;exact this
theorem tps_two{r:Reg}{s:Ck}(h:Least r s){N:Nat}(hN:Rnd (nx r) s N):2<=(tps r s N).length:=by
 have l:=hN.pos;rw [Jqm r s l,Au,List.length_map];have o:hdK r s 0=0\/hdK r s 0=1:=h.e;have m:hdK r s (N - 1)=2\/hdK r s (N - 1)=3:=h.prev (k:=N - 1) (by rw [show N - 1+1=N by omega,hN.back])
 suffices hs:∃k,k<N - 1/\hdK r s (k+1)≠hdK r s k by obtain ⟨k,f,a⟩:=hs;have:k∈(Bf (N - 1)).filter λk=>decide (hdK r s (k+1)≠hdK r s k):=List.mem_filter.2 ⟨Bb.2 f,decide_eq_true a⟩;have:=Bj this;omega
 apply Ar;intro d;have key:∀k,k<=N - 1->hdK r s k=hdK r s 0:=by
  intro k
  induction k with
  | zero=>intro _;rfl
  | succ k g=>
   intro f;rw [<-g (by omega)];apply Ar;intro a;exact d ⟨k,by omega,a⟩
 have:=key (N - 1) (Aq _);omega
end Go.Proofs.YtmfagdfkpjgeiaaGreat
