/- Plain tools: what the words of the printed texts mean, loops. Conditions: none. -/
import Derived.Test.YtmfagdfkpjgeiaaGreatFD
import Derived.Test.YtmfagdfkpjgeiaaGreatXC
import Derived.Test.YtmfagdfkpjgeiaaGreatFC
import Derived.Test.YtmfagdfkpjgeiaaGreatTT
set_option linter.unusedVariables false
set_option linter.unusedSimpArgs false
set_option maxRecDepth 100000
open Int renaming mul_le_mul_of_nonneg_right → Aa, le_ediv_iff_mul_le → Ac, ediv_lt_of_lt_mul → Ae, emod_emod_of_dvd → Ag
open List renaming getElem?_eq_getElem → Ab
open Nat renaming le_refl → Ad
open Classical renaming not_forall → Af
namespace Go.Dn
open Go Go.Vv Go.Dn.W
section words
variable {α β:Type}
theorem w_br(c:Bool)(x y:Option α):@W.br wv α c x y=if c=true then x else y:=rfl
theorem w_gd(c:Bool)(x:Option α):@W.gd wv α c x=if c=true then x else none:=rfl
theorem w_ge(l:List β)(i:Int)(k:β->Option α):@W.ge wv α β l i k=Jam (fget l i) k:=rfl
theorem w_call(c:Ctr)(a:c.aT.T)(k:c.rT.T->Option α):@W.call wv α c a k=Jam (c.fn a) k:=rfl
theorem w_loop{A B:Type}(b:A->Option (Nx A B))(a:A)(k:B->Option α):@W.loop wv A B α b a k=Jam (Xu b bigN a) k:=rfl
theorem w_join{B:Type}(x:Option B)(k:B->Option α):@W.join wv B α x k=Jam x k:=rfl
theorem jo_s{B:Type}{x:Option B}{k:B->Option α}{e:B}(h:x=some e):@W.join wv B α x k=k e:=by rw [w_join,h];rfl
theorem w_ln(l:List α):@W.ln wv α l=(l.length:Int):=rfl
theorem w_pl(a b:Int):@W.pl wv a b=a+b:=rfl
theorem w_ib(i n:Int):@W.ib wv i n=decide (0<=i/\i<n):=rfl
theorem w_le(a b:Int):@W.le wv a b=decide (a<=b):=rfl
theorem w_ft(b:Nat)(n:Int):@W.ft wv b n=decide (n * b<=room/\n<=9223372036854775807):=rfl
theorem w_ap(l m:List α):@W.ap wv α l m=l++m:=rfl
theorem w_ct(l:List α)(a n:Int):@W.ct wv α l a n=(l.drop a.toNat).take n.toNat:=rfl
theorem w_st(l:List α)(i:Int)(x:α):@W.st wv α l i x=l.set i.toNat x:=rfl
theorem w_ml(l:List α)(f:α->α):@W.ml wv α l f=K8 l f:=rfl
theorem w_mx(a b:Int):@W.mx wv a b=if b > a then b else a:=rfl
theorem w_mn(a b:Int):@W.mn wv a b=if b<a then b else a:=rfl
theorem w_nt(a:Bool):@W.nt wv a=!a:=rfl
theorem w_an(a b:Bool):@W.an wv a b=(a&&b):=rfl
theorem w_be(a b:Bool):@W.be wv a b=(a==b):=rfl
theorem w_nq(n:Int)(k:Bool->Option α):@W.nq wv α n k=nlv n k:=rfl
theorem Kz(a b:Int):@W.ar wv .add .i64 a b=IntKind.wrap .i64 (a+b):=rfl
theorem Zo(a b:Int):@W.ar wv .sub .i64 a b=IntKind.wrap .i64 (a - b):=rfl
theorem Jwe(a b:Int):@W.ar wv .mul .i64 a b=IntKind.wrap .i64 (a * b):=rfl
theorem w_quo(a b:Int):@W.ar wv .quo .i64 a b=IntKind.wrap .i64 (a.tdiv b):=rfl
theorem w_rem(a b:Int):@W.ar wv .rem .i64 a b=a.tmod b:=rfl
theorem Yf(a b:Int):@W.cm wv .eql a b=(a==b):=rfl
theorem Jnh(a b:Int):@W.cm wv .neq a b=(a != b):=rfl
theorem Jg6(a b:Int):@W.cm wv .lss a b=decide (a<b):=rfl
theorem Jgn(a b:Int):@W.cm wv .leq a b=decide (a<=b):=rfl
theorem Jar(a b:Int):@W.cm wv .gtr a b=decide (a > b):=rfl
theorem Je1(a b:Int):@W.cm wv .geq a b=decide (a>=b):=rfl
theorem wr{n:Int}(h:-9223372036854775808<=n)(a:n<=9223372036854775807):IntKind.wrap .i64 n=n:=by rw [IntKind.wrap_i64,Int.emod_eq_of_lt]<;>omega
theorem fg{l:List α}{i:Nat}{x:α}(h:l[i]?=some x):fget l (i:Int)=some x:=by unfold fget;rw [if_pos (by omega),Int.toNat_natCast,h]
theorem fgz{l:List α}{i:Int}(j:Nat){x:α}(e:i=j)(h:l[j]?=some x):fget l i=some x:=by subst e;exact fg h
theorem fg0{l:List α}{x:α}(h:l[0]?=some x):fget l 0=some x:=fg h
theorem ge_s{l:List β}{i:Int}{k:β->Option α}{x:β}(h:fget l i=some x):@W.ge wv α β l i k=k x:=by rw [w_ge,h];rfl
theorem ca_s{c:Ctr}{a:c.aT.T}{k:c.rT.T->Option α}{r:c.rT.T}(h:c.fn a=some r):@W.call wv α c a k=k r:=by rw [w_call,h];rfl
theorem lo_s{A B:Type}{b:A->Option (Nx A B)}{a:A}{k:B->Option α}{e:B}(h:Xu b bigN a=some e):@W.loop wv A B α b a k=k e:=by rw [w_loop,h];rfl
theorem br_t{c:Bool}{x y:Option α}(h:c=true):@W.br wv α c x y=x:=by rw [w_br,if_pos h]
theorem br_f{c:Bool}{x y:Option α}(h:c=false):@W.br wv α c x y=y:=by rw [w_br,h];rfl
theorem gd_t{c:Bool}{x:Option α}(h:c=true):@W.gd wv α c x=x:=by rw [w_gd,if_pos h]
theorem Qz{a b:Int}{x y:Option α}(h:a<b):@W.br wv α (@W.cm wv .lss a b) x y=x:=br_t (by rw [Jg6];exact decide_eq_true h)
theorem Kb{a b:Int}{x y:Option α}(h:¬a<b):@W.br wv α (@W.cm wv .lss a b) x y=y:=br_f (by rw [Jg6];exact decide_eq_false h)
theorem gd_ft{b:Nat}{n:Int}{x:Option α}(h:n * b<=room/\n<=9223372036854775807):@W.gd wv α (@W.ft wv b n) x=x:=gd_t (by rw [w_ft];exact decide_eq_true h)
theorem Jcs{i n:Int}{x:Option α}(h:0<=i/\i<n):@W.gd wv α (@W.ib wv i n) x=x:=gd_t (by rw [w_ib];exact decide_eq_true h)
end words
section loops
variable {A B:Type} {b:A->Option (Nx A B)}
theorem Jr3{n:Nat}{s s':A}(h:b s=some (.go s')):Xu b (n+1) s=Xu b n s':=by simp only [Xu,h]
theorem Jdx{n:Nat}{s:A}{e:B}(h:b s=some (.out e)):Xu b (n+1) s=some e:=by simp only [Xu,h]
theorem Jt4(st:Nat->A){e:B}:∀(k i N M:Nat),N=i+k->k<M->(∀j,i<=j->j<N->b (st j)=some (.go (st (j+1))))->b (st N)=some (.out e)->Xu b M (st i)=some e
 | 0,i,N,M+1,hN,hM,d,a=>by subst hN;exact Jdx a
 | k+1,i,N,M+1,hN,hM,d,a=>by rw [Jr3 (d i (Ad _) (by omega))];exact Jt4 st k (i+1) N M (by omega) (by omega) (λj f=>d j (by omega)) a
theorem Kt(st:Nat->A)(N:Nat){e:B}(hN:N<1000000000000)(f:∀i,i<N->b (st i)=some (.go (st (i+1))))(d:b (st N)=some (.out e)):Xu b bigN (st 0)=some e:=
 Jt4 st N 0 N bigN (by omega) (by unfold bigN;omega) (λj _ a=>f j a) d
open Classical in
theorem Je8(st:Nat->A)(N:Nat)(hN:N<1000000000000)(good:Nat->Prop){bad fin:B}
  (m:∀i,i<N->(∀j,j<i->good j)->(good i->b (st i)=some (.go (st (i+1))))/\(¬good i->b (st i)=some (.out bad))) (r:(∀i,i<N->good i)->b (st N)=some (.out fin)) :
  Xu b bigN (st 0)=some (if ∀i,i<N->good i then fin else bad):=by
 by_cases d:∀i,i<N->good i
 ·rw [if_pos d];exact Kt st N hN (λi e=>(m i e λj f=>d j (by omega)).1 (d i e)) (r d)
 ·rw [if_neg d];have:∃i,i<N/\¬good i/\∀j,j<i->good j:=by
   simp only [Af] at d;obtain ⟨i,e,l⟩:=d
   induction i using Nat.strongRecOn with
   | _ i o=>
    by_cases h:∀j,j<i->good j
    ·exact ⟨i,e,l,h⟩
    ·simp only [Af] at h;obtain ⟨j,f,g⟩:=h;exact o j f (by omega) g
  obtain ⟨i,e,l,a⟩:=this;exact Kt st i (by omega) (λj f=>(m j (by omega) λk v=>a k (by omega)).1 (a j f)) ((m i e a).2 l)
theorem Jm2(I:Nat->A->Prop)(Q:B->Prop)(N:Nat)(hN:N<1000000000000){s0:A}(r:I 0 s0)(o:∀i s,i<N->I i s->∃s',b s=some (.go s')/\I (i+1) s')(m:∀s,I N s->∃e,b s=some (.out e)/\Q e) :
  ∃e,Xu b bigN s0=some e/\Q e:=by
 have key:∀(k i M:Nat) (s:A),i+k=N->k<M->I i s->∃e,Xu b M s=some e/\Q e:=by
  intro k
  induction k with
  | zero=>
   intro i M s l hM hs;have:i=N:=by omega
   subst this;obtain ⟨e,g,d⟩:=m s hs;cases M with
   | zero=>omega
   | succ M=>exact ⟨e,Jdx g,d⟩
  | succ k h=>
   intro i M s l hM hs;obtain ⟨s',a,f⟩:=o i s (by omega) hs;cases M with
   | zero=>omega
   | succ M=>
    obtain ⟨e,g,d⟩:=h (i+1) M s' (by omega) (by omega) f;exact ⟨e,(Jr3 a).trans g,d⟩
 exact key N 0 bigN s0 (by omega) (by unfold bigN;omega) r
theorem loop_any{α:Type}(l:List α)(hl:l.length<1000000000000)(st:Nat->A)(p:α->Prop)(out:Nat->α->B)(nf:B)
  (r:∀i x,i<l.length->l[i]?=some x->(p x->b (st i)=some (.out (out i x)))/\(¬p x->b (st i)=some (.go (st (i+1))))) (E:b (st l.length)=some (.out nf)) :
  ∃e,Xu b bigN (st 0)=some e/\((e=nf/\∀x∈l,¬p x)\/∃i x,l[i]?=some x/\p x/\e=out i x):=by
 by_cases w:∃i,i<l.length/\∃x,l[i]?=some x/\p x
 ·have:∃i,i<l.length/\(∃x,l[i]?=some x/\p x)/\∀j,j<i->∀x,l[j]?=some x->¬p x:=by
   obtain ⟨i,f,hx⟩:=w
   induction i using Nat.strongRecOn with
   | _ i y=>
    by_cases h:∃j,j<i/\∃x,l[j]?=some x/\p x
    ·obtain ⟨j,a,m⟩:=h;exact y j a (by omega) m
    ·exact ⟨i,f,hx,λj a x g d=>h ⟨j,a,x,g,d⟩⟩
  obtain ⟨i,f,⟨x,hx,d⟩,o⟩:=this;exact ⟨_,Kt st i (by omega) (λj a=>(r j l[j] (by omega) (Ab _)).2 (o j a _ (Ab _))) ((r i x f hx).1 d),.inr ⟨i,x,hx,d,rfl⟩⟩
 ·have v:∀i x,l[i]?=some x->¬p x:=λi x hx d=>w ⟨i,(List.getElem?_eq_some_iff.1 hx).1,x,hx,d⟩;exact ⟨nf,Kt st l.length hl (λj a=>(r j l[j] a (Ab _)).2 (v j _ (Ab _))) E,.inl ⟨rfl,λx hx=>by obtain ⟨i,f⟩:=List.mem_iff_getElem?.1 hx;exact v i x f⟩⟩
theorem Jqf(I:A->Prop)(Q:B->Prop)(m:A->Nat)(h:∀s,I s->(∃s',b s=some (.go s')/\I s'/\m s'<m s)\/∃e,b s=some (.out e)/\Q e){s0:A}(v:I s0)(w:m s0<1000000000000):∃e,Xu b bigN s0=some e/\Q e:=by
 have key:∀(n M:Nat) (s:A),m s<=n->n<M->I s->∃e,Xu b M s=some e/\Q e:=by
  intro n
  induction n with
  | zero=>
   intro M s hs hM f;cases M with
   | zero=>omega
   | succ M=>
    rcases h s f with ⟨s',_,_,r⟩|⟨e,d,a⟩
    ·omega
    ·exact ⟨e,Jdx d,a⟩
  | succ n g=>
   intro M s hs hM f;cases M with
   | zero=>omega
   | succ M=>
    rcases h s f with ⟨s',d,a,r⟩|⟨e,d,a⟩
    ·obtain ⟨e,o,l⟩:=g M s' (by omega) (by omega) a;exact ⟨e,(Jr3 d).trans o,l⟩
    ·exact ⟨e,Jdx d,a⟩
 exact key (m s0) bigN s0 (Ad _) (by unfold bigN;omega) v
end loops
section lists
variable {α β:Type}
theorem Q6{l:List α}{i:Nat}{x:α}(h:l[i]?=some x):l.take (i+1)=l.take i++[x]:=by rw [List.take_add_one,h];rfl
theorem ze{f:α->List β}{l:List α}{i:Nat}{x:α}(h:l[i]?=some x):(l.take (i+1)).flatMap f=(l.take i).flatMap f++f x:=by rw [Q6 h,List.flatMap_append,List.flatMap_cons,List.flatMap_nil,List.append_nil]
theorem js{f:α->β}{l:List α}{i:Nat}{x:α}(h:l[i]?=some x):(l.take (i+1)).map f=(l.take i).map f++[f x]:=by rw [Q6 h,List.map_append];rfl
def rng(a:Int)(n:Nat):List Int:=(List.range n).map λi:Nat=>a+(i:Int)
theorem rng_succ(a:Int)(n:Nat):rng a (n+1)=rng a n++[a+(n:Int)]:=by simp [rng,List.range_succ]
theorem Jnx(a:Int)(n:Nat):(rng a n).length=n:=by simp [rng]
theorem Jy2{a x:Int}{n:Nat}:x∈rng a n↔a<=x/\x<a+n:=by
 simp only [rng,List.mem_map,List.mem_range];constructor
 ·rintro ⟨i,d,rfl⟩;omega
 ·intro h;exact ⟨(x - a).toNat,by omega,by omega⟩
theorem rng_cons(a:Int)(n:Nat):rng a (n+1)=a::rng (a+1) n:=by
 simp only [rng,List.range_succ_eq_map,List.map_cons,List.map_map]
 congr 1
 ·simp
 ·apply List.map_congr_left;intro i _;simp only [Function.comp];omega
theorem rng_pw(a:Int)(n:Nat):(rng a n).Pairwise (·<·):=by
 induction n generalizing a with
 | zero=>exact .nil
 | succ n d=>
  rw [rng_cons];refine List.pairwise_cons.2 ⟨λx hx=>?_,d _⟩;have:=Jy2.1 hx;omega
theorem Jih{f:α->List β}{l:List α}{n:Nat}(h:∀x∈l,(f x).length<=n):(l.flatMap f).length<=l.length * n:=by
 induction l with
 | nil=>simp
 | cons x l a=>
  have:=h x (List.mem_cons_self ..);have:=a λy d=>h y (List.mem_cons_of_mem _ d);simp only [List.flatMap_cons,List.length_append,List.length_cons,Nat.add_mul];omega
theorem Q9(f:α->α)(x:α):∀l:List α,K8 (l++[x]) f=l++[f x]
 | []=>rfl
 | [y]=>rfl
 | y::z::l=>by show y::K8 (z::(l++[x])) f=_;rw [show z::(l++[x])=(z::l)++[x] from rfl,Q9 f x (z::l)];rfl
theorem Jdw(l:List α)(x y:α):(l++[x]).set l.length y=l++[y]:=by rw [List.set_append_right _ _ (Ad _),Nat.sub_self];rfl
theorem Jdk(l:List α)(x:α):(l++[x])[l.length]?=some x:=by rw [List.getElem?_append_right (Ad _),Nat.sub_self];rfl
end lists
end Go.Dn
namespace Go.Proofs.YtmfagdfkpjgeiaaGreat
open Go Go.Vv Go.Dn Go.Dn.W
theorem Jlp(n:Int){b:Int}(d:0<b):(n.tmod b=n % b\/n.tmod b=n % b - b)/\0<=n % b/\n % b<b/\-b<n.tmod b/\n.tmod b<b:=by
 have l:=Int.lt_tmod_of_pos n d;have h:=Int.tmod_lt_of_pos n d;have g:=Int.emod_nonneg n (show b≠0 by omega);have f:=Int.emod_lt_of_pos n d;have e:=Int.tmod_eq_emod (a:=n) (b:=b);refine ⟨?_,g,f,l,h⟩;split at e
 ·left;omega
 ·right;rw [e];omega
theorem rest_ok(n b:Int)(g:1<=b)(f:b<=1000000):@Ja2 wv (n,b)=some (n % b):=by
 obtain ⟨d,l,h,a3,a4⟩:=Jlp n (b:=b) (by omega);unfold Ja2;dsimp only;have a:@W.cm wv .neq b 0=true:=by rw [Jnh];simp;omega
 rw [gd_t a,gd_t a,w_rem,w_rem,Kz,wr (by omega) (by omega),Int.tmod_eq_emod_of_nonneg (by omega),Int.add_emod_right]
 congr 1
 rcases d with e|e
 ·rw [e,Ag _ (Int.dvd_refl b)]
 ·rw [e,<-Int.add_emod_right,Int.sub_add_cancel,Ag _ (Int.dvd_refl b)]
theorem Jtf{α:Type}{n b:Int}(d:1<=b)(a:b<=1000000)(k:Int->Option α):@W.call wv α Jq ((n,b):Int×Int) k=k (n % b):=ca_s (c:=Jq) (rest_ok n b d a)
theorem down_ok(n b:Int)(a:1<=b)(g:b<=1000000)(o:-10000000<=n/\n<=10000000):@Jba wv (n,b)=some (n / b):=by
 have e:=Int.emod_add_mul_ediv n b;have m:=Int.emod_nonneg n (show b≠0 by omega);have l:=Int.emod_lt_of_pos n (show 0<b by omega);have f:(n - n % b).tdiv b=n / b:=by rw [show n - n % b=b * (n / b) by omega];exact Int.mul_tdiv_cancel_left _ (by omega)
 have h:-20000000<=n / b/\n / b<=20000000:=by
  constructor
  ·exact (Ac (by omega)).2 (by have:b * 20000000>=1 * 20000000:=Aa a (by decide);omega)
  ·have:n / b<20000001:=Ae (by omega) (by have:b * 20000001>=1 * 20000001:=Aa a (by decide);omega)
   omega
 have d:@W.cm wv .neq b 0=true:=by rw [Jnh];simp;omega
 unfold Jba;dsimp only;rw [Jtf a g,gd_t d,Zo,wr (by omega) (by omega),w_quo,f,wr (by omega) (by omega)]
theorem k_down{α:Type}{n b:Int}(e:1<=b)(d:b<=1000000)(a:-10000000<=n/\n<=10000000)(k:Int->Option α):@W.call wv α Yj ((n,b):Int×Int) k=k (n / b):=ca_s (c:=Yj) (down_ok n b e d a)
def cmpS(n:Int)(x y:Int×Int):Int:=if (x.1+x.2) / n≠(y.1+y.2) / n then (x.1+x.2) / n - (y.1+y.2) / n else if x.1≠y.1 then x.1 - y.1 else y.2 - x.2
def okS(x:Int×Int):Bool:=decide ((-1000000<x.1/\x.1<1000000)/\-1000000<x.2/\x.2<1000000)
def okN(n:Int):Bool:=decide (1<=n/\n<=1000000)
theorem Jrs{n:Int}{x y:Int×Int}:cmpS n x y<0↔(x.1+x.2) / n<(y.1+y.2) / n\/((x.1+x.2) / n=(y.1+y.2) / n/\(x.1<y.1\/(x.1=y.1/\y.2<x.2))):=by
 unfold cmpS;generalize (x.1+x.2) / n=j;generalize (y.1+y.2) / n=k;split
 ·omega
 ·split<;>omega
theorem swoS(n:Int):Go.Sort.SWO (Go.Proofs.ltOf λx y:{x:Int×Int // okS x=true}=>cmpS n x.1 y.1):=by
 refine ⟨λx=>?_,λx y z d a=>?_,λx y z d a=>?_⟩
 ·simp only [Go.Proofs.ltOf,decide_eq_false_iff_not,Jrs];omega
 ·simp only [Go.Proofs.ltOf,decide_eq_true_eq,Jrs] at *;omega
 ·simp only [Go.Proofs.ltOf,decide_eq_false_iff_not,Jrs] at *;omega
theorem quo_bd{n b:Int}(a:1<=b)(d:-10000000<=n/\n<=10000000):-20000000<=n / b/\n / b<=20000000:=by
 constructor
 ·exact (Ac (by omega)).2 (by have:b * 20000000>=1 * 20000000:=Aa a (by decide);omega)
 ·have:n / b<20000001:=Ae (by omega) (by have:b * 20000001>=1 * 20000001:=Aa a (by decide);omega)
  omega
theorem cmpS_ok(n:Int)(x y:Int×Int)(a:okN n=true)(hx:okS x=true)(d:okS y=true):@Ks wv (x,y,n)=some (cmpS n x y):=by
 simp only [okN,okS,decide_eq_true_eq] at a hx d;obtain ⟨h,g⟩:=quo_bd (n:=x.1+x.2) a.1 (by omega);obtain ⟨f,e⟩:=quo_bd (n:=y.1+y.2) a.1 (by omega);unfold Ks cmpS;dsimp only;rw [Kz,Kz,wr (n:=x.1+x.2) (by omega) (by omega),wr (n:=y.1+y.2) (by omega) (by omega),k_down a.1 a.2 (by omega),k_down a.1 a.2 (by omega)];generalize (x.1+x.2) / n=j at *
 generalize (y.1+y.2) / n=k at *
 simp only [w_br,Jnh,Zo,bne_iff_ne];rw [wr (n:=j - k) (by omega) (by omega),wr (n:=x.1 - y.1) (by omega) (by omega),wr (n:=y.2 - x.2) (by omega) (by omega)];split
 ·rfl
 ·split<;>rfl
def zS:{x:Int×Int // okS x=true}:=⟨(0,0),by decide⟩
noncomputable def Jux:List (Int×Int)×Int->Option (List (Int×Int)):=Jsq cmpS okN okS zS
noncomputable def Jmo:Ctr:=srtC 97 98 Jux
noncomputable def Jex:Bi:=srtB 97 98 Jux
theorem Jql:Jln PG 97 Jex:=
 srt_good (P:=PG) (ρ:=Tryz.sortL97_ren) Tryz.sortL97 (λw=>by kernel_rfl) (λw=>by kernel_rfl) (g:=98) (fn:=@Ks wv) Jbu cmpS okN okS zS cmpS_ok (λn _=>swoS n) (by decide) (Jk (by kernel_rfl))
noncomputable def K6:Ctr:=⟨20,[(.fr,.ls (.p I (.p .bool (.ls (.p I I)))))],[(true,.ls (.p I (.ls (.p I I))))],@Q5 wv⟩
theorem seqF:((PG.funcs[20]?).bind λfn=>fn.body.map (isSeq 3))=some true:=by kernel_rfl
theorem cutF(w:W)(a):fnCut (dW w) (V1 [(35,Ql),(64,Ku)]) 8 3 20 K6.as K6.rs a=@Q5 w a:=by kernel_rfl
theorem Jk9:Go.Dn.Good PG K6:=
 have hΓ:Ji8 PG (gam [(35,Ql),(64,Ku)]):=Jb Jfy (Jb Jca Jl)
 ⟨Jbz.fn,rfl,rfl,Jbz.run,λ_=>fresh_of (cx:=cxO (gam [(35,Ql),(64,Ku)]) [] [] [] [] [] []) rfl hΓ mixed (Jyr J2) J3 (Jro _ _ _ _ _ _ _) rfl rfl (c:=K6) (n:=8) (m:=3) rfl rfl (λfn body d a=>by have h:=seqF;rw [show PG.funcs[20]?=some fn from d] at h;rw [Option.bind_some,a,Option.map_some] at h;injection h) λx r h=>(cutF wv x).trans h⟩
abbrev U2:=List (Int×Int)
abbrev U3:=List (Int×(Bool×U2))
abbrev U4:=List (Int×U2)
abbrev Ua:=HP Int (HP Int (HP U4 Unit))
abbrev Ue:=HP Int (HP U4 (HP Int (HP Int (HP U4 (HP U4 Unit)))))
abbrev Uk:=HP U3 (HP U3 Unit)
abbrev U7:=HP Int (HP Int (HP Int Uk))
abbrev Ul:=HP Int (HP U3 Ua)
abbrev Um:=HP U2 Unit
abbrev U5:=HP Int (HP U2 (HP U3 Um))
abbrev U6:=HP Int (HP Int Um)
abbrev U8:=HP U4 (HP Int (HP Int (HP U2 (HP Int (HP Int U5)))))
abbrev U9:=HP Int (HP U4 (HP Int (HP Int (HP U2 (HP U2 U5)))))
abbrev Ub:=HP Int (HP Int (HP U4 (HP Int (HP Int (HP U2 (HP Int (HP Int (HP Int (HP Int (HP Int (HP U2 (HP U3 (HP U2 Um)))))))))))))
abbrev Uc:=HP Int (HP Int (HP Int (HP U4 (HP Int (HP Int (HP Int (HP Int (HP U2 (HP Int (HP U2 (HP U3 (HP U2 Um))))))))))))
abbrev Ud:=HP U4 (HP Int (HP Int (HP U3 Um)))
abbrev Uf:=HP Int (HP Int (HP U4 (HP Int (HP Int (HP U2 U6)))))
abbrev Ug:=HP Int (HP Int (HP U2 U5))
abbrev Uh:=HP Int (HP Int (HP U4 U6))
abbrev Ui:=HP U2 (HP Int (HP Int (HP U4 (HP Int U6))))
abbrev Uj:=HP Int (HP Int (HP U4 (HP Int U5)))
abbrev Un:=HP Int (HP U3 (HP Int Ua))
noncomputable def Km[W](s:Ui):Option (Nx Ui (HP U4 (HP Int U6))):=br (cm .lss s.j.j.e s.j.e) (ge s.e s.j.j.e λv1=>call Jq (((ar .add .i64 v1.1 v1.2),s.j.j.j.j.j.j.e):(Int×Int)) λ(v2:Int)=>br (cm .lss v2 2) (gd (ft 16 (pl (ln s.j.j.j.j.j.j.j.e) 1))<|some (.go ⟨s.e,s.j.e,(ar .add .i64 s.j.j.e 1),s.j.j.j.e,s.j.j.j.j.e,s.j.j.j.j.j.e,s.j.j.j.j.j.j.e,(ap s.j.j.j.j.j.j.j.e ((v1.1,v1.2)::[])),()⟩)) (some (.go ⟨s.e,s.j.e,(ar .add .i64 s.j.j.e 1),s.j.j.j⟩))) (some (.out s.j.j.j))
noncomputable def Kn[W](s:Uj):Option (Nx Uj (HP U3 Um)):=br (cm .lss s.j.e s.e) (gd (ib s.j.e (ln s.j.j.j.j.j.e))<|ge s.j.j.j.j.j.e s.j.e λv5=>br (cm .eql s.j.e 0) (gd (ft 40 (pl (ln s.j.j.j.j.j.j.e) 1))<|gd (ib (ar .sub .i64 (ln (ap (ml s.j.j.j.j.j.j.e λy=>(y.1,(y.2.1,s.j.j.j.j.j.j.j.e))) ((4,(false,[]))::[]))) 1) (ln (ap (ml s.j.j.j.j.j.j.e λy=>(y.1,(y.2.1,s.j.j.j.j.j.j.j.e))) ((4,(false,[]))::[]))))<|ge (ap (ml s.j.j.j.j.j.j.e λy=>(y.1,(y.2.1,s.j.j.j.j.j.j.j.e))) ((4,(false,[]))::[])) (ar .sub .i64 (ln (ap (ml s.j.j.j.j.j.j.e λy=>(y.1,(y.2.1,s.j.j.j.j.j.j.j.e))) ((4,(false,[]))::[]))) 1) λe=>gd (cm .eql (pl (ar .sub .i64 (ln (ap (ml s.j.j.j.j.j.j.e λy=>(y.1,(y.2.1,s.j.j.j.j.j.j.j.e))) ((4,(false,[]))::[]))) 1) 1) (ln (ap (ml s.j.j.j.j.j.j.e λy=>(y.1,(y.2.1,s.j.j.j.j.j.j.j.e))) ((4,(false,[]))::[]))))<|gd (ft 16 1)<|ge (ap (ml s.j.j.j.j.j.j.e λy=>(y.1,(y.2.1,s.j.j.j.j.j.j.j.e))) ((4,(false,[]))::[])) (ar .sub .i64 (ln (ap (ml s.j.j.j.j.j.j.e λy=>(y.1,(y.2.1,s.j.j.j.j.j.j.j.e))) ((4,(false,[]))::[]))) 1) λa=>gd (cm .eql (pl (ar .sub .i64 (ln (ap (ml s.j.j.j.j.j.j.e λy=>(y.1,(y.2.1,s.j.j.j.j.j.j.j.e))) ((4,(false,[]))::[]))) 1) 1) (ln (ap (ml s.j.j.j.j.j.j.e λy=>(y.1,(y.2.1,s.j.j.j.j.j.j.j.e))) ((4,(false,[]))::[]))))<|some (.go ⟨s.e,(ar .add .i64 s.j.e 1),s.j.j.e,s.j.j.j.e,s.j.j.j.j.e,s.j.j.j.j.j.e,(st (ap (ml s.j.j.j.j.j.j.e λy=>(y.1,(y.2.1,s.j.j.j.j.j.j.j.e))) ((4,(false,[]))::[])) (ar .sub .i64 (ln (ap (ml s.j.j.j.j.j.j.e λy=>(y.1,(y.2.1,s.j.j.j.j.j.j.j.e))) ((4,(false,[]))::[]))) 1) (a.1,(a.2.1,a.2.2))),((v5.1,v5.2)::[]),()⟩)) (gd (ib (ar .sub .i64 s.j.e 1) (ln s.j.j.j.j.j.e))<|ge s.j.j.j.j.j.e (ar .sub .i64 s.j.e 1) λd=>call Kx (((s.j.j.e,(s.j.j.j.e,s.j.j.j.j.e)),(d.1,d.2)):((U4×(Int×Int))×(Int×Int))) λ(v9:(Int×Int))=>br (nt (an (cm .eql v9.1 v5.1) (cm .eql v9.2 v5.2))) (gd (ft 40 (pl (ln s.j.j.j.j.j.j.e) 1))<|gd (ib (ar .sub .i64 (ln (ap (ml s.j.j.j.j.j.j.e λy=>(y.1,(y.2.1,s.j.j.j.j.j.j.j.e))) ((4,(false,[]))::[]))) 1) (ln (ap (ml s.j.j.j.j.j.j.e λy=>(y.1,(y.2.1,s.j.j.j.j.j.j.j.e))) ((4,(false,[]))::[]))))<|ge (ap (ml s.j.j.j.j.j.j.e λy=>(y.1,(y.2.1,s.j.j.j.j.j.j.j.e))) ((4,(false,[]))::[])) (ar .sub .i64 (ln (ap (ml s.j.j.j.j.j.j.e λy=>(y.1,(y.2.1,s.j.j.j.j.j.j.j.e))) ((4,(false,[]))::[]))) 1) λv10=>gd (cm .eql (pl (ar .sub .i64 (ln (ap (ml s.j.j.j.j.j.j.e λy=>(y.1,(y.2.1,s.j.j.j.j.j.j.j.e))) ((4,(false,[]))::[]))) 1) 1) (ln (ap (ml s.j.j.j.j.j.j.e λy=>(y.1,(y.2.1,s.j.j.j.j.j.j.j.e))) ((4,(false,[]))::[]))))<|gd (ft 16 1)<|ge (ap (ml s.j.j.j.j.j.j.e λy=>(y.1,(y.2.1,s.j.j.j.j.j.j.j.e))) ((4,(false,[]))::[])) (ar .sub .i64 (ln (ap (ml s.j.j.j.j.j.j.e λy=>(y.1,(y.2.1,s.j.j.j.j.j.j.j.e))) ((4,(false,[]))::[]))) 1) λv11=>gd (cm .eql (pl (ar .sub .i64 (ln (ap (ml s.j.j.j.j.j.j.e λy=>(y.1,(y.2.1,s.j.j.j.j.j.j.j.e))) ((4,(false,[]))::[]))) 1) 1) (ln (ap (ml s.j.j.j.j.j.j.e λy=>(y.1,(y.2.1,s.j.j.j.j.j.j.j.e))) ((4,(false,[]))::[]))))<|some (.go ⟨s.e,(ar .add .i64 s.j.e 1),s.j.j.e,s.j.j.j.e,s.j.j.j.j.e,s.j.j.j.j.j.e,(st (ap (ml s.j.j.j.j.j.j.e λy=>(y.1,(y.2.1,s.j.j.j.j.j.j.j.e))) ((4,(false,[]))::[])) (ar .sub .i64 (ln (ap (ml s.j.j.j.j.j.j.e λy=>(y.1,(y.2.1,s.j.j.j.j.j.j.j.e))) ((4,(false,[]))::[]))) 1) (v11.1,(v11.2.1,v11.2.2))),((v5.1,v5.2)::[]),()⟩)) (gd (ib (ar .sub .i64 (ln s.j.j.j.j.j.j.e) 1) (ln s.j.j.j.j.j.j.e))<|ge s.j.j.j.j.j.j.e (ar .sub .i64 (ln s.j.j.j.j.j.j.e) 1) λv12=>gd (cm .eql (pl (ar .sub .i64 (ln s.j.j.j.j.j.j.e) 1) 1) (ln s.j.j.j.j.j.j.e))<|gd (ft 16 (pl (ln s.j.j.j.j.j.j.j.e) 1))<|ge s.j.j.j.j.j.j.e (ar .sub .i64 (ln s.j.j.j.j.j.j.e) 1) λv13=>gd (cm .eql (pl (ar .sub .i64 (ln s.j.j.j.j.j.j.e) 1) 1) (ln s.j.j.j.j.j.j.e))<|some (.go ⟨s.e,(ar .add .i64 s.j.e 1),s.j.j.e,s.j.j.j.e,s.j.j.j.j.e,s.j.j.j.j.j.e,(st s.j.j.j.j.j.j.e (ar .sub .i64 (ln s.j.j.j.j.j.j.e) 1) (v13.1,(v13.2.1,v13.2.2))),(ap s.j.j.j.j.j.j.j.e ((v5.1,v5.2)::[])),()⟩)))) (some (.out s.j.j.j.j.j.j))
noncomputable def Kl[W](a:(U4×(Int×Int))):Option U3:=call Kg (a.1:U4) λ(v0:U2)=>loop Km ⟨v0,(ln v0),0,a.1,a.2.1,a.2.2,(ar .mul .i64 2 a.2.1),[],()⟩ λv3=>call Jmo ((v3.j.j.j.j.e,v3.j.j.j.e):(U2×Int)) λ(v4:U2)=>loop Kn ⟨(ln v4),0,v3.e,v3.j.e,v3.j.j.e,v4,[],[],()⟩ λv14=>some (ml v14.e λy=>(y.1,(y.2.1,v14.j.e)))
noncomputable def Yi:Ctr:=⟨48,[(.ag,(.p (.ls (.p I (.ls (.p I I)))) (.p I I)))],[(false,(.ls (.p I (.p .bool (.ls (.p I I))))))],@Kl wv⟩
noncomputable def Yk:OCt:=⟨48,[(.ag,(.p (.ls (.p I (.ls (.p I I)))) (.p I I)))],39,(.p I (.p .bool (.ls (.p I I)))),@Kl wv⟩
theorem Jci(w:W)(a):fnO (dW w) (cxO (gam [(96,Jq),(100,Kx),(95,Kg)]) [11,12,13,14,15,16,17,18] [] [] [] [(97,Jex)] []) 8 48 [(.ag,(.p (.ls (.p I (.ls (.p I I)))) (.p I I)))] (.p I (.p .bool (.ls (.p I I)))) 39 a=@Kl w a:=by kernel_rfl
theorem Jcj:Jsg PG Yk:=own (gam [(96,Jq),(100,Kx),(95,Kg)]) [11,12,13,14,15,16,17,18] [] [] [] [(97,Jex)] [] 8 (Jb Zm (Jb Jef (Jb Jbi Jl))) J2 (Ji3 Jql J3) (Jk (by kernel_rfl)) rfl (by decide) rfl (Jci wv)
noncomputable def Xp[W](s:Ub):Option (Nx Ub (HP U4 (HP Int (HP Int (HP U2 Ug))))):=br (cm .lss s.j.e s.j.j.j.j.j.j.j.j.j.e) (gd (ft 16 (pl (ln s.j.j.j.j.j.j.j.j.j.j.j.j.j.j.e) 1))<|some (.go ⟨s.e,(ar .add .i64 s.j.e 1),s.j.j.e,s.j.j.j.e,s.j.j.j.j.e,s.j.j.j.j.j.e,s.j.j.j.j.j.j.e,s.j.j.j.j.j.j.j.e,s.j.j.j.j.j.j.j.j.e,s.j.j.j.j.j.j.j.j.j.e,s.j.j.j.j.j.j.j.j.j.j.e,s.j.j.j.j.j.j.j.j.j.j.j.e,s.j.j.j.j.j.j.j.j.j.j.j.j.e,s.j.j.j.j.j.j.j.j.j.j.j.j.j.e,(ap s.j.j.j.j.j.j.j.j.j.j.j.j.j.j.e ((s.j.e,s.e)::[])),()⟩)) (some (.out ⟨s.j.j.e,s.j.j.j.e,s.j.j.j.j.e,s.j.j.j.j.j.e,s.j.j.j.j.j.j.e,s.j.j.j.j.j.j.j.e,s.j.j.j.j.j.j.j.j.j.j.j.j.j.j.e,s.j.j.j.j.j.j.j.j.j.j.e,s.j.j.j.j.j.j.j.j.j.j.j.e,s.j.j.j.j.j.j.j.j.j.j.j.j.e,s.j.j.j.j.j.j.j.j.j.j.j.j.j.e,()⟩))
noncomputable def jj[W](s:U8):Option U8:=ge s.j.j.j.e s.j.j.j.j.j.e λv3=>loop Xp ⟨s.j.j.j.j.j.j.e,v3.1,s.e,s.j.e,s.j.j.e,s.j.j.j.e,s.j.j.j.j.e,s.j.j.j.j.j.e,v3.1,v3.2,s.j.j.j.j.j.j.e,s.j.j.j.j.j.j.j.e,s.j.j.j.j.j.j.j.j.e,s.j.j.j.j.j.j.j.j.j.e,[],()⟩ λv4=>br (cm .geq (ar .sub .i64 (ln v4.j.j.j.j.j.j.j.j.j.e) 1) 0) (gd (ib (ar .sub .i64 (ln v4.j.j.j.j.j.j.j.j.j.e) 1) (ln v4.j.j.j.j.j.j.j.j.j.e))<|ge v4.j.j.j.j.j.j.j.j.j.e (ar .sub .i64 (ln v4.j.j.j.j.j.j.j.j.j.e) 1) λv5=>gd (cm .eql (pl (ar .sub .i64 (ln v4.j.j.j.j.j.j.j.j.j.e) 1) 1) (ln v4.j.j.j.j.j.j.j.j.j.e))<|ge v4.j.j.j.j.j.j.j.j.j.e (ar .sub .i64 (ln v4.j.j.j.j.j.j.j.j.j.e) 1) λe=>gd (cm .eql (pl (ar .sub .i64 (ln v4.j.j.j.j.j.j.j.j.j.e) 1) 1) (ln v4.j.j.j.j.j.j.j.j.j.e))<|gd (ib (ar .sub .i64 (ln v4.j.j.j.j.j.j.j.j.j.j.e) 1) (ln v4.j.j.j.j.j.j.j.j.j.j.e))<|ge v4.j.j.j.j.j.j.j.j.j.j.e (ar .sub .i64 (ln v4.j.j.j.j.j.j.j.j.j.j.e) 1) λd=>gd (ib 0 (ln v4.j.j.j.j.j.j.e))<|ge v4.j.j.j.j.j.j.e 0 λa=>call Qo (((d.1,d.2),(a.1,a.2)):((Int×Int)×(Int×Int))) λ(v9:Bool)=>br v9 (ge v4.j.j.j.j.j.j.j.j.j.e (ar .sub .i64 (ln v4.j.j.j.j.j.j.j.j.j.e) 1) λv10=>gd (cm .eql (pl (ar .sub .i64 (ln v4.j.j.j.j.j.j.j.j.j.e) 1) 1) (ln v4.j.j.j.j.j.j.j.j.j.e))<|br (cm .leq (ar .add .i64 (ln v4.j.j.j.j.j.j.j.j.j.j.e) (ln v4.j.j.j.j.j.j.e)) 65536) (ge v4.j.j.j.j.j.j.j.j.j.e (ar .sub .i64 (ln v4.j.j.j.j.j.j.j.j.j.e) 1) λv11=>gd (cm .eql (pl (ar .sub .i64 (ln v4.j.j.j.j.j.j.j.j.j.e) 1) 1) (ln v4.j.j.j.j.j.j.j.j.j.e))<|gd (ft 16 (pl (ln v4.j.j.j.j.j.j.j.j.j.j.e) (ln v4.j.j.j.j.j.j.e)))<|ge v4.j.j.j.j.j.j.j.j.j.e (ar .sub .i64 (ln v4.j.j.j.j.j.j.j.j.j.e) 1) λv12=>gd (cm .eql (pl (ar .sub .i64 (ln v4.j.j.j.j.j.j.j.j.j.e) 1) 1) (ln v4.j.j.j.j.j.j.j.j.j.e))<|some (⟨v4.e,v4.j.e,v4.j.j.e,v4.j.j.j.e,v4.j.j.j.j.e,v4.j.j.j.j.j.e,v4.j.j.j.j.j.j.j.e,v4.j.j.j.j.j.j.j.j.e,(st v4.j.j.j.j.j.j.j.j.j.e (ar .sub .i64 (ln v4.j.j.j.j.j.j.j.j.j.e) 1) (v12.1,(v12.2.1,v12.2.2))),(ap v4.j.j.j.j.j.j.j.j.j.j.e v4.j.j.j.j.j.j.e),()⟩)) (gd (ft 40 (pl (ln v4.j.j.j.j.j.j.j.j.j.e) 1))<|some (⟨v4.e,v4.j.e,v4.j.j.e,v4.j.j.j.e,v4.j.j.j.j.e,v4.j.j.j.j.j.e,v4.j.j.j.j.j.j.j.e,v4.j.j.j.j.j.j.j.j.e,(ap (ml v4.j.j.j.j.j.j.j.j.j.e λy=>(y.1,(y.2.1,v4.j.j.j.j.j.j.j.j.j.j.e))) ((3,(false,[]))::[])),v4.j.j.j.j.j.j.e,()⟩))) (gd (ft 40 (pl (ln v4.j.j.j.j.j.j.j.j.j.e) 1))<|some (⟨v4.e,v4.j.e,v4.j.j.e,v4.j.j.j.e,v4.j.j.j.j.e,v4.j.j.j.j.j.e,v4.j.j.j.j.j.j.j.e,v4.j.j.j.j.j.j.j.j.e,(ap (ml v4.j.j.j.j.j.j.j.j.j.e λy=>(y.1,(y.2.1,v4.j.j.j.j.j.j.j.j.j.j.e))) ((3,(false,[]))::[])),v4.j.j.j.j.j.j.e,()⟩))) (gd (ft 40 (pl (ln v4.j.j.j.j.j.j.j.j.j.e) 1))<|some (⟨v4.e,v4.j.e,v4.j.j.e,v4.j.j.j.e,v4.j.j.j.j.e,v4.j.j.j.j.j.e,v4.j.j.j.j.j.j.j.e,v4.j.j.j.j.j.j.j.j.e,(ap (ml v4.j.j.j.j.j.j.j.j.j.e λy=>(y.1,(y.2.1,v4.j.j.j.j.j.j.j.j.j.j.e))) ((3,(false,[]))::[])),v4.j.j.j.j.j.j.e,()⟩))
noncomputable def Xs[W](s:U8):Option (Nx U8 Ud):=br (cm .lss s.j.j.j.j.j.e s.j.j.j.j.e) (join (jj s) λv13=>some (.go ⟨v13.e,v13.j.e,v13.j.j.e,v13.j.j.j.e,v13.j.j.j.j.e,(ar .add .i64 v13.j.j.j.j.j.e 1),v13.j.j.j.j.j.j⟩)) (some (.out ⟨s.e,s.j.e,s.j.j.e,s.j.j.j.j.j.j.j.j⟩))
noncomputable def Xm[W](s:Uc):Option (Nx Uc U9):=br (cm .lss s.j.e s.j.j.j.j.j.j.j.e) (gd (ft 16 (pl (ln s.j.j.j.j.j.j.j.j.j.j.j.j.j.e) 1))<|some (.go ⟨s.e,(ar .add .i64 s.j.e 1),s.j.j.e,s.j.j.j.e,s.j.j.j.j.e,s.j.j.j.j.j.e,s.j.j.j.j.j.j.e,s.j.j.j.j.j.j.j.e,s.j.j.j.j.j.j.j.j.e,s.j.j.j.j.j.j.j.j.j.e,s.j.j.j.j.j.j.j.j.j.j.e,s.j.j.j.j.j.j.j.j.j.j.j.e,s.j.j.j.j.j.j.j.j.j.j.j.j.e,(ap s.j.j.j.j.j.j.j.j.j.j.j.j.j.e ((s.j.e,s.e)::[])),()⟩)) (some (.out ⟨s.j.j.e,s.j.j.j.e,s.j.j.j.j.e,s.j.j.j.j.j.e,s.j.j.j.j.j.j.j.j.j.j.j.j.j.e,s.j.j.j.j.j.j.j.j.e,s.j.j.j.j.j.j.j.j.j.e,s.j.j.j.j.j.j.j.j.j.j.e,s.j.j.j.j.j.j.j.j.j.j.j.e,s.j.j.j.j.j.j.j.j.j.j.j.j.e,()⟩))
noncomputable def Xn[W](s:(HP Int (HP Int U9))):Option (Nx (HP Int (HP Int U9)) U9):=br (cm .lss s.e s.j.e) (gd (ib s.j.e (ln s.j.j.j.j.j.j.e))<|ge s.j.j.j.j.j.j.e s.j.e λv17=>gd (ib s.e (ln s.j.j.j.j.j.j.e))<|ge s.j.j.j.j.j.j.e s.e λv18=>gd (ib s.e (ln s.j.j.j.j.j.j.e))<|ge s.j.j.j.j.j.j.e s.e λv19=>gd (ib s.j.e (ln (st s.j.j.j.j.j.j.e s.e (v17.1,v17.2))))<|ge (st s.j.j.j.j.j.j.e s.e (v17.1,v17.2)) s.j.e λv20=>some (.go ⟨(ar .add .i64 s.e 1),(ar .sub .i64 s.j.e 1),s.j.j.e,s.j.j.j.e,s.j.j.j.j.e,s.j.j.j.j.j.e,(st (st s.j.j.j.j.j.j.e s.e (v17.1,v17.2)) s.j.e (v18.1,v18.2)),s.j.j.j.j.j.j.j⟩)) (some (.out s.j.j))
noncomputable def Xj[W](s:(HP Int (HP U4 Ug))):Option (Nx (HP Int (HP U4 Ug)) (HP U4 (HP Int (HP Int U5)))):=br (cm .geq s.e 0) (ge s.j.j.j.j.e s.e λv15=>loop Xm ⟨s.j.j.j.j.j.e,v15.1,s.e,s.j.e,s.j.j.e,s.j.j.j.e,v15.1,v15.2,s.j.j.j.j.e,s.j.j.j.j.j.e,s.j.j.j.j.j.j.e,s.j.j.j.j.j.j.j.e,s.j.j.j.j.j.j.j.j.e,[],()⟩ λv16=>loop Xn ⟨0,(ar .sub .i64 (ln v16.j.j.j.j.e) 1),v16⟩ λv21=>br (cm .geq (ar .sub .i64 (ln v21.j.j.j.j.j.j.j.j.e) 1) 0) (gd (ib (ar .sub .i64 (ln v21.j.j.j.j.j.j.j.j.e) 1) (ln v21.j.j.j.j.j.j.j.j.e))<|ge v21.j.j.j.j.j.j.j.j.e (ar .sub .i64 (ln v21.j.j.j.j.j.j.j.j.e) 1) λv22=>gd (cm .eql (pl (ar .sub .i64 (ln v21.j.j.j.j.j.j.j.j.e) 1) 1) (ln v21.j.j.j.j.j.j.j.j.e))<|ge v21.j.j.j.j.j.j.j.j.e (ar .sub .i64 (ln v21.j.j.j.j.j.j.j.j.e) 1) λv23=>gd (cm .eql (pl (ar .sub .i64 (ln v21.j.j.j.j.j.j.j.j.e) 1) 1) (ln v21.j.j.j.j.j.j.j.j.e))<|gd (ib (ar .sub .i64 (ln v21.j.j.j.j.j.j.j.j.j.e) 1) (ln v21.j.j.j.j.j.j.j.j.j.e))<|ge v21.j.j.j.j.j.j.j.j.j.e (ar .sub .i64 (ln v21.j.j.j.j.j.j.j.j.j.e) 1) λv24=>gd (ib 0 (ln v21.j.j.j.j.e))<|ge v21.j.j.j.j.e 0 λv25=>call Qo (((v24.1,v24.2),(v25.1,v25.2)):((Int×Int)×(Int×Int))) λ(v26:Bool)=>br v26 (ge v21.j.j.j.j.j.j.j.j.e (ar .sub .i64 (ln v21.j.j.j.j.j.j.j.j.e) 1) λv27=>gd (cm .eql (pl (ar .sub .i64 (ln v21.j.j.j.j.j.j.j.j.e) 1) 1) (ln v21.j.j.j.j.j.j.j.j.e))<|br (cm .leq (ar .add .i64 (ln v21.j.j.j.j.j.j.j.j.j.e) (ln v21.j.j.j.j.e)) 65536) (ge v21.j.j.j.j.j.j.j.j.e (ar .sub .i64 (ln v21.j.j.j.j.j.j.j.j.e) 1) λv28=>gd (cm .eql (pl (ar .sub .i64 (ln v21.j.j.j.j.j.j.j.j.e) 1) 1) (ln v21.j.j.j.j.j.j.j.j.e))<|gd (ft 16 (pl (ln v21.j.j.j.j.j.j.j.j.j.e) (ln v21.j.j.j.j.e)))<|ge v21.j.j.j.j.j.j.j.j.e (ar .sub .i64 (ln v21.j.j.j.j.j.j.j.j.e) 1) λv29=>gd (cm .eql (pl (ar .sub .i64 (ln v21.j.j.j.j.j.j.j.j.e) 1) 1) (ln v21.j.j.j.j.j.j.j.j.e))<|some (.go ⟨(ar .sub .i64 v21.e 1),v21.j.e,v21.j.j.e,v21.j.j.j.e,v21.j.j.j.j.j.e,v21.j.j.j.j.j.j.e,v21.j.j.j.j.j.j.j.e,(st v21.j.j.j.j.j.j.j.j.e (ar .sub .i64 (ln v21.j.j.j.j.j.j.j.j.e) 1) (v29.1,(v29.2.1,v29.2.2))),(ap v21.j.j.j.j.j.j.j.j.j.e v21.j.j.j.j.e),()⟩)) (gd (ft 40 (pl (ln v21.j.j.j.j.j.j.j.j.e) 1))<|some (.go ⟨(ar .sub .i64 v21.e 1),v21.j.e,v21.j.j.e,v21.j.j.j.e,v21.j.j.j.j.j.e,v21.j.j.j.j.j.j.e,v21.j.j.j.j.j.j.j.e,(ap (ml v21.j.j.j.j.j.j.j.j.e λy=>(y.1,(y.2.1,v21.j.j.j.j.j.j.j.j.j.e))) ((3,(false,[]))::[])),v21.j.j.j.j.e,()⟩))) (gd (ft 40 (pl (ln v21.j.j.j.j.j.j.j.j.e) 1))<|some (.go ⟨(ar .sub .i64 v21.e 1),v21.j.e,v21.j.j.e,v21.j.j.j.e,v21.j.j.j.j.j.e,v21.j.j.j.j.j.j.e,v21.j.j.j.j.j.j.j.e,(ap (ml v21.j.j.j.j.j.j.j.j.e λy=>(y.1,(y.2.1,v21.j.j.j.j.j.j.j.j.j.e))) ((3,(false,[]))::[])),v21.j.j.j.j.e,()⟩))) (gd (ft 40 (pl (ln v21.j.j.j.j.j.j.j.j.e) 1))<|some (.go ⟨(ar .sub .i64 v21.e 1),v21.j.e,v21.j.j.e,v21.j.j.j.e,v21.j.j.j.j.j.e,v21.j.j.j.j.j.j.e,v21.j.j.j.j.j.j.j.e,(ap (ml v21.j.j.j.j.j.j.j.j.e λy=>(y.1,(y.2.1,v21.j.j.j.j.j.j.j.j.j.e))) ((3,(false,[]))::[])),v21.j.j.j.j.e,()⟩))) (some (.out ⟨s.j.e,s.j.j.e,s.j.j.j.e,s.j.j.j.j.j⟩))
noncomputable def Yu[W](s:Ud):Option (Nx Ud (HP U3 Um)):=br (cm .lss s.j.j.e s.j.e) (ge s.e s.j.j.e λv1=>call Jq ((v1.1,2):(Int×Int)) λ(v2:Int)=>br (cm .eql v2 0) (loop Xs ⟨s.e,s.j.e,s.j.j.e,v1.2,(ln v1.2),0,v1.1,v1.2,s.j.j.j⟩ λv14=>some (.go ⟨v14.e,v14.j.e,(ar .add .i64 v14.j.j.e 1),v14.j.j.j⟩)) (loop Xj ⟨(ar .sub .i64 (ln v1.2) 1),s.e,s.j.e,s.j.j.e,v1.2,v1.1,v1.2,s.j.j.j⟩ λv30=>some (.go ⟨v30.e,v30.j.e,(ar .add .i64 v30.j.j.e 1),v30.j.j.j.j.j⟩))) (some (.out s.j.j.j))
noncomputable def X6[W](a:U4):Option U3:=call Jg (a:U4) λ(v0:Bool)=>br (nt v0) (some []) (loop Yu ⟨a,(ln a),0,[],[],()⟩ λv31=>some (ml v31.e λy=>(y.1,(y.2.1,v31.j.e))))
noncomputable def K7:Ctr:=⟨51,[(.ag,(.ls (.p I (.ls (.p I I)))))],[(false,(.ls (.p I (.p .bool (.ls (.p I I))))))],@X6 wv⟩
noncomputable def Jbh:OCt:=⟨51,[(.ag,(.ls (.p I (.ls (.p I I)))))],39,(.p I (.p .bool (.ls (.p I I)))),@X6 wv⟩
theorem Jh9(w:W)(a):fnO (dW w) (cxO (gam [(157,Qo),(96,Jq),(23,Jg)]) [0,1,2,3,4,5,6,7,8,9,10,11,12,13,14,15,16,17,18] [] [] [12] [] []) 8 51 [(.ag,(.ls (.p I (.ls (.p I I)))))] (.p I (.p .bool (.ls (.p I I)))) 39 a=@X6 w a:=by kernel_rfl
theorem Jjh:Jsg PG Jbh:=own (gam [(157,Qo),(96,Jq),(23,Jg)]) [0,1,2,3,4,5,6,7,8,9,10,11,12,13,14,15,16,17,18] [] [] [12] [] [] 8 (Jb Jhl (Jb Zm (Jb Kp Jl))) J2 J3 (Jk (by kernel_rfl)) rfl (by decide) rfl (Jh9 wv)
theorem Jkw(w:W)(a):fnD (dW w) (cxO (gam [(157,Qo),(96,Jq),(23,Jg)]) [0,1,2,3,4,5,6,7,8,9,10,11,12,13,14,15,16,17,18] [] [] [12] [] []) 8 51 K7.as K7.rs a=@X6 w a:=by kernel_rfl
theorem Jkt:V3 K7:=good (gam [(157,Qo),(96,Jq),(23,Jg)]) [0,1,2,3,4,5,6,7,8,9,10,11,12,13,14,15,16,17,18] [] [] [12] [] [] 8 (Jb Jhl (Jb Zm (Jb Kp Jl))) J2 J3 (Jk (by kernel_rfl)) rfl rfl rfl (Jkw wv)
noncomputable def j7[W](s:(HP U2 U6)):Option (Nx (HP U2 U6) ((HP Int Unit)⊕Um)):=br (cm .lss s.j.j.e s.j.e) (ge s.e s.j.j.e λv0=>br (cm .leq v0.2 v0.1) (some (.go ⟨s.e,s.j.e,(ar .add .i64 s.j.j.e 1),s.j.j.j⟩)) (call Xv ((v0.1,v0.2):(Int×Int)) λ(v1:Bool)=>br (nt v1) (some (.out (.inl ⟨8,()⟩))) (gd (ft 16 (pl (ln s.j.j.j.e) 1))<|some (.go ⟨s.e,s.j.e,(ar .add .i64 s.j.j.e 1),(ap s.j.j.j.e ((v0.1,v0.2)::[])),()⟩)))) (some (.out (.inr s.j.j.j)))
noncomputable def Jao[W](a:U2):Option (U2×Int):=loop j7 ⟨a,(ln a),0,[],()⟩ λv2=>match v2 with|.inl v3=>(some ([],v3.e))|.inr v4=>(call Jg2 (v4.e:U2) λ(v5:U2)=>call jm (v5:U2) λ(d:U2)=>some (d,0))
noncomputable def jt:Ctr:=⟨156,[(.one,(.ls (.p I I)))],[(false,(.ls (.p I I))),(false,I)],@Jao wv⟩
theorem Jsp(w:W)(a):fnD (dW w) (cxO (gam [(129,Xv),(210,jm)]) [] [] [Jh7] [] [] []) 8 156 jt.as jt.rs a=@Jao w a:=by kernel_rfl
theorem Jr7:V3 jt:=good (gam [(129,Xv),(210,jm)]) [] [] [Jh7] [] [] [] 8 (Jb Jin (Jb Jr9 Jl)) (Jym Jvd J2) J3 (Jk (by kernel_rfl)) rfl rfl rfl (Jsp wv)
noncomputable def Yt[W](s:Uf):Option (Nx Uf Uh):=br (cm .lss s.j.j.j.j.j.j.j.e s.j.j.j.j.j.j.e) (ge s.j.j.j.j.j.e s.j.j.j.j.j.j.j.e λv1=>gd (ft 16 (pl (ln s.j.j.j.j.j.j.j.j.e) 1))<|some (.go ⟨s.e,s.j.e,s.j.j.e,s.j.j.j.e,s.j.j.j.j.e,s.j.j.j.j.j.e,s.j.j.j.j.j.j.e,(ar .add .i64 s.j.j.j.j.j.j.j.e 1),(ap s.j.j.j.j.j.j.j.j.e (((mx (ar .sub .i64 v1.1 s.j.e) (-4096)),(mn (ar .add .i64 v1.2 s.j.e) 4096))::[])),()⟩)) (some (.out ⟨s.e,s.j.e,s.j.j.e,s.j.j.j.e,s.j.j.j.j.e,s.j.j.j.j.j.j.j.j⟩))
noncomputable def Yp[W](s:Uh):Option (Nx Uh Um):=br (cm .lss s.j.j.j.j.e s.j.j.j.e) (ge s.j.j.e s.j.j.j.j.e λv0=>br (cm .lss v0.1 (ar .sub .i64 s.e s.j.e)) (some (.go ⟨s.e,s.j.e,s.j.j.e,s.j.j.j.e,(ar .add .i64 s.j.j.j.j.e 1),s.j.j.j.j.j⟩)) (br (cm .gtr v0.1 (ar .add .i64 s.e s.j.e)) (some (.go ⟨s.e,s.j.e,s.j.j.e,s.j.j.j.e,(ar .add .i64 s.j.j.j.j.e 1),s.j.j.j.j.j⟩)) (loop Yt ⟨s.e,s.j.e,s.j.j.e,s.j.j.j.e,s.j.j.j.j.e,v0.2,(ln v0.2),0,s.j.j.j.j.j⟩ λv2=>some (.go ⟨v2.e,v2.j.e,v2.j.j.e,v2.j.j.j.e,(ar .add .i64 v2.j.j.j.j.e 1),v2.j.j.j.j.j⟩)))) (some (.out s.j.j.j.j.j))
noncomputable def Za[W](a:(U4×(Int×Int))):Option U2:=loop Yp ⟨a.2.1,a.2.2,a.1,(ln a.1),0,[],()⟩ λv3=>call jt (v3.e:U2) λ(v4:(U2×Int))=>some v4.1
noncomputable def X8:Ctr:=⟨101,[(.ag,(.ls (.p I (.ls (.p I I))))),(.one,I),(.one,I)],[(false,(.ls (.p I I)))],@Za wv⟩
theorem Jlb(w:W)(a):fnD (dW w) (V1 [(156,jt)]) 8 101 X8.as X8.rs a=@Za w a:=by kernel_rfl
theorem Jku:V3 X8:=V2 (Jb Jr7 Jl) (Jk (by kernel_rfl)) rfl rfl rfl (Jlb wv)
noncomputable def Xr[W](s:Ue):Option (Nx Ue (HP U4 Unit)):=br (cm .lss s.j.j.j.e s.j.j.e) (ge s.j.e s.j.j.j.e λv0=>call X8 ((s.j.j.j.j.e,(v0.1,s.e)):(U4×(Int×Int))) λ(v1:U2)=>call Xk ((v0.2,v1):(U2×U2)) λ(v2:U2)=>br (cm .gtr (ln v2) 0) (gd (ft 32 (pl (ln s.j.j.j.j.j.e) 1))<|some (.go ⟨s.e,s.j.e,s.j.j.e,(ar .add .i64 s.j.j.j.e 1),s.j.j.j.j.e,(ap s.j.j.j.j.j.e ((v0.1,v2)::[])),()⟩)) (some (.go ⟨s.e,s.j.e,s.j.j.e,(ar .add .i64 s.j.j.j.e 1),s.j.j.j.j⟩))) (some (.out s.j.j.j.j.j))
noncomputable def Y5[W](a:(U4×(U4×Int))):Option U4:=loop Xr ⟨a.2.2,a.1,(ln a.1),0,a.2.1,[],()⟩ λv3=>some v3.e
noncomputable def Qp:Ctr:=⟨49,[(.ag,(.ls (.p I (.ls (.p I I))))),(.ag,(.ls (.p I (.ls (.p I I))))),(.one,I)],[(true,(.ls (.p I (.ls (.p I I)))))],@Y5 wv⟩
theorem Jk5(w:W)(a):fnD (dW w) (V1 [(101,X8),(91,Xk)]) 8 49 Qp.as Qp.rs a=@Y5 w a:=by kernel_rfl
theorem Jkv:V3 Qp:=V2 (Jb Jku (Jb Jkd Jl)) (Jk (by kernel_rfl)) rfl rfl rfl (Jk5 wv)
noncomputable def Jfx[W](s:U7):Option (Nx U7 Uk):=br (cm .lss s.j.j.e s.j.e) (gd (ib s.j.j.e (ln s.j.j.j.e))<|ge s.j.j.j.e s.j.j.e λa=>some (.go ⟨s.e,s.j.e,(ar .add .i64 s.j.j.e 1),(st s.j.j.j.e s.j.j.e (s.e,(a.2.1,a.2.2))),s.j.j.j.j⟩)) (some (.out s.j.j.j))
noncomputable def Jf6[W](s:U7):Option (Nx U7 Uk):=br (cm .lss s.j.j.e s.j.e) (gd (ib s.j.j.e (ln s.j.j.j.e))<|ge s.j.j.j.e s.j.j.e λv12=>some (.go ⟨s.e,s.j.e,(ar .add .i64 s.j.j.e 1),(st s.j.j.j.e s.j.j.e (s.e,(v12.2.1,v12.2.2))),s.j.j.j.j⟩)) (some (.out s.j.j.j))
noncomputable def Q7[W](s:U7):Option (Nx U7 Uk):=br (cm .lss s.j.j.e s.j.e) (gd (ib s.j.j.e (ln s.j.j.j.e))<|ge s.j.j.j.e s.j.j.e λv18=>some (.go ⟨s.e,s.j.e,(ar .add .i64 s.j.j.e 1),(st s.j.j.j.e s.j.j.e (s.e,(v18.2.1,v18.2.2))),s.j.j.j.j⟩)) (some (.out s.j.j.j))
noncomputable def Qu[W](a:(U4×(Int×(Int×Int)))):Option U3:=call Jg (a.1:U4) λ(v0:Bool)=>br (nt v0) (some []) (call Jr (a.2.2.1:Int) λ(v1:Bool)=>br (nt v1) (some []) (br (cm .eql a.2.1 0) (gd (cm .neq 2 0)<|br (cm .eql (ar .rem .i64 a.2.2.2 2) 0) (call zi ((a.1,(a.2.2.1,0)):(U4×(Int×Int))) λ(v2:U3)=>call K6 (v2:U3) λ(v3:U4)=>call Qp ((a.1,(v3,a.2.2.1)):(U4×(U4×Int))) λ(v4:U4)=>call K7 (v4:U4) λ(v5:U3)=>loop Jfx ⟨4,(ln v5),0,v5,v2,()⟩ λd=>gd (ft 40 (pl (ln d.j.e) (ln d.e)))<|some (ap d.j.e d.e)) (call Ym ((a.1,(a.2.2.1,0)):(U4×(Int×Int))) λ(e:U3)=>call K6 (e:U3) λ(v9:U4)=>call Qp ((a.1,(v9,a.2.2.1)):(U4×(U4×Int))) λ(v10:U4)=>call K7 (v10:U4) λ(v11:U3)=>loop Jf6 ⟨4,(ln v11),0,v11,e,()⟩ λv13=>gd (ft 40 (pl (ln v13.j.e) (ln v13.e)))<|some (ap v13.j.e v13.e))) (br (cm .eql a.2.1 1) (none) (br (cm .eql a.2.1 2) (none) (br (cm .eql a.2.1 3) (call Yi ((a.1,(a.2.2.1,a.2.2.2)):(U4×(Int×Int))) λ(v14:U3)=>call K6 (v14:U3) λ(v15:U4)=>call Qp ((a.1,(v15,a.2.2.1)):(U4×(U4×Int))) λ(v16:U4)=>call K7 (v16:U4) λ(v17:U3)=>loop Q7 ⟨4,(ln v17),0,v17,v14,()⟩ λv19=>gd (ft 40 (pl (ln v19.j.e) (ln v19.e)))<|some (ap v19.j.e v19.e)) (some []))))))
noncomputable def Kh:Ctr:=⟨14,[(.ag,(.ls (.p I (.ls (.p I I))))),(.one,I),(.one,I),(.one,I)],[(false,(.ls (.p I (.p .bool (.ls (.p I I))))))],@Qu wv⟩
theorem Jj5(w:W)(a):fnD (dW w) (cxO (gam [(23,Jg),(44,Jr),(20,K6),(49,Qp)]) [] [46,47] [] [] [(59,Jcn.bi),(51,Jbh.bi),(60,Jav.bi),(48,Yk.bi)] []) 8 14 Kh.as Kh.rs a=@Qu w a:=by kernel_rfl
theorem Jc1:V3 Kh:=good (gam [(23,Jg),(44,Jr),(20,K6),(49,Qp)]) [] [46,47] [] [] [(59,Jcn.bi),(51,Jbh.bi),(60,Jav.bi),(48,Yk.bi)] [] 8 (Jb Kp (Jb Y6 (Jb Jk9 (Jb Jkv Jl)))) J2 (Ji3 (Jug Jow) (Ji3 (Jug Jjh) (Ji3 (Jug Jhn) (Ji3 (Jug Jcj) J3)))) (Jk (by kernel_rfl)) rfl rfl rfl (Jj5 wv)
noncomputable def Yl[W](a:Unit):Option Bool:=call K7 (((0,((0,2)::[]))::((1,((0,2)::[]))::[])):U4) λ(v0:U3)=>br (cm .eql (ln v0) 1) (ge v0 0 λv1=>br (cm .eql (ln v1.2.2) 4) (ge v0 0 λv2=>ge v2.2.2 2 λv3=>br (an (cm .eql v3.1 1) (cm .eql v3.2 1)) (ge v0 0 λv4=>br (cm .eql v4.1 3) (call zi ((((0,((0,2)::[]))::((1,((0,2)::[]))::[])),(1,0)):(U4×(Int×Int))) λ(v5:U3)=>br (cm .eql (ln v5) 2) (call Ym ((((0,((0,2)::[]))::((1,((0,2)::[]))::[])),(2,1)):(U4×(Int×Int))) λ(e:U3)=>br (cm .eql (ln e) 1) (call Kh ((((0,((0,2)::[]))::((1,((0,2)::[]))::[])),(0,(2,0))):(U4×(Int×(Int×Int)))) λ(d:U3)=>some (cm .eql (ln d) 1)) (some false)) (some false)) (some false)) (some false)) (some false)) (some false)
noncomputable def Jp:Ctr:=⟨16,[],[(false,.bool)],@Yl wv⟩
theorem Jc0(w:W)(a):fnD (dW w) (V1 [(51,K7),(59,zi),(60,Ym),(14,Kh)]) 8 16 Jp.as Jp.rs a=@Yl w a:=by kernel_rfl
theorem Jc2:V3 Jp:=V2 (Jb Jkt (Jb Jp7 (Jb Jj6 (Jb Jc1 Jl)))) (Jk (by kernel_rfl)) rfl rfl rfl (Jc0 wv)
noncomputable def Qa[W](a:(U4×(Int×(Int×(Int×Int)))))(v0:U4)(v1:U3):Option (HP Int (HP U3 (HP Bool (HP U4 Unit)))):=br (cm .geq a.2.2.2.1 (-4096)) (br (cm .lss a.2.2.2.1 4096) (br (cm .geq a.2.2.2.2 (-4096)) (br (cm .lss a.2.2.2.2 4096) (call K4 ((v0,(a.2.2.2.1,a.2.2.2.2)):(U4×(Int×Int))) λ(d:Bool)=>br d (call Jn (((a.2.2.2.1,a.2.2.2.2),(ar .mul .i64 2 a.2.1)):((Int×Int)×Int)) λ(v9:Int)=>br (cm .lss v9 2) (call Yv (v1:U3) λ(v10:U4)=>call K4 ((v10,(a.2.2.2.1,a.2.2.2.2)):(U4×(Int×Int))) λ(v11:Bool)=>some (⟨a.2.1,v1,(nt v11),v0,()⟩)) (some (⟨a.2.1,v1,false,v0,()⟩))) (some (⟨a.2.1,v1,false,v0,()⟩))) (some (⟨a.2.1,v1,false,v0,()⟩))) (some (⟨a.2.1,v1,false,v0,()⟩))) (some (⟨a.2.1,v1,false,v0,()⟩))) (some (⟨a.2.1,v1,false,v0,()⟩))
noncomputable def J6[W](s:Un):Option (Nx Un (Unit⊕Ul)):=ge s.j.e s.j.j.j.e λv17=>br (cm .lss s.j.j.j.j.e (ln v17.2.2)) (ge s.j.e s.j.j.j.e λv18=>ge v18.2.2 (ar .sub .i64 s.j.j.j.j.e 1) λv19=>ge s.j.e s.j.j.j.e λv20=>ge v20.2.2 s.j.j.j.j.e λv21=>call Jn (((v19.1,v19.2),(ar .mul .i64 2 s.e)):((Int×Int)×Int)) λ(v22:Int)=>br (cm .eql v22 0) (br (nt (an (cm .eql v21.1 (ar .add .i64 v19.1 1)) (cm .eql v21.2 v19.2))) (some (.out (.inl ()))) (call Jn (((v19.1,v19.2),(ar .mul .i64 2 s.e)):((Int×Int)×Int)) λ(v23:Int)=>br (cm .eql v23 1) (br (nt (an (cm .eql v21.1 v19.1) (cm .eql v21.2 (ar .sub .i64 v19.2 1)))) (some (.out (.inl ()))) (some (.go ⟨s.e,s.j.e,s.j.j.e,s.j.j.j.e,(ar .add .i64 s.j.j.j.j.e 1),s.j.j.j.j.j⟩))) (some (.go ⟨s.e,s.j.e,s.j.j.e,s.j.j.j.e,(ar .add .i64 s.j.j.j.j.e 1),s.j.j.j.j.j⟩)))) (call Jn (((v19.1,v19.2),(ar .mul .i64 2 s.e)):((Int×Int)×Int)) λ(v24:Int)=>br (cm .eql v24 1) (br (nt (an (cm .eql v21.1 v19.1) (cm .eql v21.2 (ar .sub .i64 v19.2 1)))) (some (.out (.inl ()))) (some (.go ⟨s.e,s.j.e,s.j.j.e,s.j.j.j.e,(ar .add .i64 s.j.j.j.j.e 1),s.j.j.j.j.j⟩))) (some (.go ⟨s.e,s.j.e,s.j.j.e,s.j.j.j.e,(ar .add .i64 s.j.j.j.j.e 1),s.j.j.j.j.j⟩)))) (some (.out (.inr ⟨s.e,s.j.e,s.j.j.e,s.j.j.j.e,s.j.j.j.j.j⟩)))
noncomputable def J5[W](s:Ul):Option (Nx Ul (Unit⊕Ua)):=br (cm .lss s.j.j.j.e (ln s.j.e)) (ge s.j.e s.j.j.j.e λv13=>br (cm .gtr (ln v13.2.2) 0) (ge s.j.e s.j.j.j.e λv14=>ge v14.2.2 0 λv15=>call Jn (((v15.1,v15.2),(ar .mul .i64 2 s.e)):((Int×Int)×Int)) λ(v16:Int)=>br (cm .lss v16 2) (loop J6 ⟨s.e,s.j.e,s.j.j.e,s.j.j.j.e,1,s.j.j.j.j⟩ λv25=>match v25 with|.inl v26=>(some (.out (.inl ())))|.inr v27=>(ge v27.j.e v27.j.j.j.e λv28=>some (.go ⟨v27.e,v27.j.e,(ar .add .i64 v27.j.j.e (ln v28.2.2)),(ar .add .i64 v27.j.j.j.e 1),v27.j.j.j.j⟩))) (some (.out (.inr ⟨s.e,s.j.j.e,s.j.j.j.j⟩)))) (some (.out (.inr ⟨s.e,s.j.j.e,s.j.j.j.j⟩)))) (some (.out (.inr ⟨s.e,s.j.j.e,s.j.j.j.j⟩)))
noncomputable def J1[W](a:(U4×(Int×(Int×(Int×Int))))):Option Bool:=call K5 (a.1:U4) λ(v0:U4)=>call Kh ((v0,(3,(a.2.1,a.2.2.1))):(U4×(Int×(Int×Int)))) λ(v1:U3)=>call Ko (v0:U4) λ(v2:Bool)=>br (nt v2) (br (cm .eql (ln v1) 0) (call Jp (():Unit) λ(v3:Bool)=>some v3) (some false)) (br (cm .lss a.2.1 1) (br (cm .eql (ln v1) 0) (call Jp (():Unit) λ(v4:Bool)=>some v4) (some false)) (br (cm .gtr a.2.1 64) (br (cm .eql (ln v1) 0) (call Jp (():Unit) λ(v5:Bool)=>some v5) (some false)) (call Kh ((v0,(3,(a.2.1,0))):(U4×(Int×(Int×Int)))) λ(e:U3)=>call J9 ((v1,e):(U3×U3)) λ(d:Bool)=>br (nt d) (some false) (join (Qa a v0 v1) λv12=>br v12.j.j.e (some false) (loop J5 ⟨v12.e,v12.j.e,0,0,v12.j.j.j⟩ λv29=>match v29 with|.inl v30=>(some false)|.inr v31=>(call X7 (v31.j.j.e:U4) λ(v32:Int)=>br (cm .leq v31.j.e v32) (br (cm .gtr v31.e 1) (call Jp (():Unit) λ(v33:Bool)=>some v33) (br (cm .eql v31.j.e v32) (call Jp (():Unit) λ(v34:Bool)=>some v34) (some false))) (some false)))))))
noncomputable def Jad:Ctr:=⟨4,[(.ag,(.ls (.p I (.ls (.p I I))))),(.one,I),(.one,I),(.ag,(.p I I))],[(false,.bool)],@J1 wv⟩
theorem Jae(w:W)(a):fnD (dW w) (cxO (gam [(18,K4),(19,Jn),(20,Yv),(12,K5),(14,Kh),(17,Ko),(16,Jp),(13,J9),(21,X7)]) [] [] [] [8] [] []) 8 4 Jad.as Jad.rs a=@J1 w a:=by kernel_rfl
theorem Jaa:V3 Jad:=good (gam [(18,K4),(19,Jn),(20,Yv),(12,K5),(14,Kh),(17,Ko),(16,Jp),(13,J9),(21,X7)]) [] [] [] [8] [] [] 8 (Jb Jgu (Jb Jd7 (Jb Jbz (Jb Jeq (Jb Jc1 (Jb Jc4 (Jb Jc2 (Jb Jbw (Jb Jky Jl))))))))) J2 J3 (Jk (by kernel_rfl)) rfl rfl rfl (Jae wv)
end Go.Proofs.YtmfagdfkpjgeiaaGreat
