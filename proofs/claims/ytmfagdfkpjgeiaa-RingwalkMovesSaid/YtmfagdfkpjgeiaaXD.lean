/- Plain tools: what the words of the printed texts mean, loops. Conditions: none. -/
import Derived.Test.YtmfagdfkpjgeiaaFD
import Derived.Test.YtmfagdfkpjgeiaaXC
open List renaming getElem?_eq_some_iff → Aa, getElem?_eq_getElem → Ab, mem_of_getElem? → Ac, mem_singleton → Ad, mem_append → Ae, mem_cons_self → Af, mem_cons → Ag, getElem?_of_mem → Ah, mem_cons_of_mem → Ai, pairwise_iff_getElem → Aj, pairwise_cons → Ak, length_append → Am, not_mem_nil → Ao, map_cons → Ap, length_cons → Ar, getElem?_append_left → As, getElem_mem → Au, mem_iff_getElem? → Av, getElem?_eq_none → Aw, nodup_cons → Ax, take_length → Ay, mem_range → Ba, take_zero → Bb, pairwise_append → Bc, getElem?_append_right → Bd, range → Bf, mem_of_find?_eq_some → Bg, length_pos_of_mem → Bj, mem_flatMap → Bk, take_append_drop → Bl, length_take → Bm, mem_append_left → Bn, append_nil → Bo, map_append → Bp, range_succ → Bq, flatMap_append → Br, find?_eq_none → Bs, flatMap_cons → Bt, append_assoc → Bu, getElem?_eq_none_iff → Bv, nodup_append → Bw, drop_eq_getElem_cons → By, getElem_take → Bz, getLast?_eq_getElem? → Da, length_erase_of_mem → Db, mem_map → Dc, pairwise_singleton → Dd, find?_cons_of_neg → Df, range_succ_eq_map → Dg, length_map → Dh, pairwise_lt_range → Dj, pairwise_flatMap → Dk, concat_eq_append → Dl, filterMap_append → Dm, length_singleton → Do, mem_erase_of_ne → Dp, getLast?_concat → Dq, length_pos_iff → Dr
open Nat renaming le_refl → Aq, lt_trichotomy → Az, strongRecOn → De, add_assoc → Ds
open Int renaming tmod_eq_emod_of_nonneg → Be
open Bool renaming not_eq_true' → Bh, eq_iff_iff → Di
namespace Go.Dn
open Go Go.Vv Go.Dn.W
set_option linter.unusedVariables false
set_option linter.unusedSimpArgs false
section words
variable {α β:Type}
theorem w_br (c:Bool) (x y:Option α):@W.br wv α c x y=if c=true then x else y:=rfl
theorem w_gd (c:Bool) (x:Option α):@W.gd wv α c x=if c=true then x else none:=rfl
theorem w_ge (l:List β) (i:Int) (k:β→Option α):@W.ge wv α β l i k=Jas (fget l i) k:=rfl
theorem w_call (c:Ctr) (a:c.aT.T) (k:c.rT.T→Option α):@W.call wv α c a k=Jas (c.fn a) k:=rfl
theorem w_loop {A B:Type} (b:A→Option (Nx A B)) (a:A) (k:B→Option α):@W.loop wv A B α b a k=Jas (K3 b bigN a) k:=rfl
theorem w_join {B:Type} (x:Option B) (k:B→Option α):@W.join wv B α x k=Jas x k:=rfl
theorem jo_s {B:Type} {x:Option B} {k:B→Option α} {e:B} (h:x=some e):@W.join wv B α x k=k e:=by rw [w_join,h];rfl
theorem w_ln (l:List α):@W.ln wv α l=(l.length:Int):=rfl
theorem w_pl (a b:Int):@W.pl wv a b=a+b:=rfl
theorem w_mi (a b:Int):@W.mi wv a b=a - b:=rfl
theorem w_ib (i n:Int):@W.ib wv i n=decide (0≤i∧i<n):=rfl
theorem w_le (a b:Int):@W.le wv a b=decide (a≤b):=rfl
theorem w_ft (b:Nat) (n:Int):@W.ft wv b n=decide (n * b≤room∧n≤9223372036854775807):=rfl
theorem w_ap (l m:List α):@W.ap wv α l m=l++m:=rfl
theorem w_ct (l:List α) (a n:Int):@W.ct wv α l a n=(l.drop a.toNat).take n.toNat:=rfl
theorem w_st (l:List α) (i:Int) (x:α):@W.st wv α l i x=l.set i.toNat x:=rfl
theorem w_rp (x:α) (n:Int):@W.rp wv α x n=List.replicate n.toNat x:=rfl
theorem w_mx (a b:Int):@W.mx wv a b=if b > a then b else a:=rfl
theorem w_mn (a b:Int):@W.mn wv a b=if b<a then b else a:=rfl
theorem w_nt (a:Bool):@W.nt wv a=!a:=rfl
theorem w_an (a b:Bool):@W.an wv a b=(a&&b):=rfl
theorem Jx (a b:Int):@W.ar wv .add .i64 a b=IntKind.wrap .i64 (a+b):=rfl
theorem Qj (a b:Int):@W.ar wv .sub .i64 a b=IntKind.wrap .i64 (a - b):=rfl
theorem w_mul (a b:Int):@W.ar wv .mul .i64 a b=IntKind.wrap .i64 (a * b):=rfl
theorem w_quo (a b:Int):@W.ar wv .quo .i64 a b=IntKind.wrap .i64 (a.tdiv b):=rfl
theorem Jta (a b:Int):@W.ar wv .rem .i64 a b=a.tmod b:=rfl
theorem Q4 (a b:Int):@W.cm wv .eql a b=(a==b):=rfl
theorem zw (a b:Int):@W.cm wv .neq a b=(a != b):=rfl
theorem Jlw (a b:Int):@W.cm wv .lss a b=decide (a<b):=rfl
theorem Jf4 (a b:Int):@W.cm wv .leq a b=decide (a≤b):=rfl
theorem Jau (a b:Int):@W.cm wv .gtr a b=decide (a > b):=rfl
theorem Jjy (a b:Int):@W.cm wv .geq a b=decide (a≥b):=rfl
theorem wr {n:Int} (h:-9223372036854775808≤n) (h2:n≤9223372036854775807):IntKind.wrap .i64 n=n:=by
 rw [IntKind.wrap_i64,Int.emod_eq_of_lt]<;>omega
theorem fg {l:List α} {i:Nat} {x:α} (h:l[i]?=some x):fget l (i:Int)=some x:=by
 unfold fget
 rw [if_pos (by omega),Int.toNat_natCast,h]
theorem fgz {l:List α} {i:Int} (j:Nat) {x:α} (e:i=j) (h:l[j]?=some x):fget l i=some x:=by subst e;exact fg h
theorem fg0 {l:List α} {x:α} (h:l[0]?=some x):fget l 0=some x:=fg h
theorem ge_s {l:List β} {i:Int} {k:β→Option α} {x:β} (h:fget l i=some x):@W.ge wv α β l i k=k x:=by rw [w_ge,h];rfl
theorem ca_s {c:Ctr} {a:c.aT.T} {k:c.rT.T→Option α} {r:c.rT.T} (h:c.fn a=some r):@W.call wv α c a k=k r:=by rw [w_call,h];rfl
theorem lo_s {A B:Type} {b:A→Option (Nx A B)} {a:A} {k:B→Option α} {e:B} (h:K3 b bigN a=some e):@W.loop wv A B α b a k=k e:=by rw [w_loop,h];rfl
theorem br_t {c:Bool} {x y:Option α} (h:c=true):@W.br wv α c x y=x:=by rw [w_br,if_pos h]
theorem br_f {c:Bool} {x y:Option α} (h:c=false):@W.br wv α c x y=y:=by rw [w_br,h];rfl
theorem gd_t {c:Bool} {x:Option α} (h:c=true):@W.gd wv α c x=x:=by rw [w_gd,if_pos h]
theorem Kj {a b:Int} {x y:Option α} (h:a<b):@W.br wv α (@W.cm wv .lss a b) x y=x:=br_t (by rw [Jlw];exact decide_eq_true h)
theorem Jy {a b:Int} {x y:Option α} (h:¬a<b):@W.br wv α (@W.cm wv .lss a b) x y=y:=br_f (by rw [Jlw];exact decide_eq_false h)
theorem gd_ft {b:Nat} {n:Int} {x:Option α} (h:n * b≤room∧n≤9223372036854775807):@W.gd wv α (@W.ft wv b n) x=x:=gd_t (by rw [w_ft];exact decide_eq_true h)
theorem Jcg {i n:Int} {x:Option α} (h:0≤i∧i<n):@W.gd wv α (@W.ib wv i n) x=x:=gd_t (by rw [w_ib];exact decide_eq_true h)
end words
section loops
variable {A B:Type} {b:A→Option (Nx A B)}
theorem Jju {n:Nat} {s s':A} (h:b s=some (.go s')):K3 b (n+1) s=K3 b n s':=by simp only [K3,h]
theorem X0 {n:Nat} {s:A} {e:B} (h:b s=some (.out e)):K3 b (n+1) s=some e:=by simp only [K3,h]
theorem Jql (st:Nat→A) {e:B}:∀(k i N M:Nat),N=i+k→k<M→(∀j,i≤j→j<N→b (st j)=some (.go (st (j+1))))→b (st N)=some (.out e)→K3 b M (st i)=some e
 | 0,i,N,M+1,hN,hM,h1,h2=>by
  subst hN
  exact X0 h2
 | k+1,i,N,M+1,hN,hM,h1,h2=>by
  rw [Jju (h1 i (Aq _) (by omega))]
  exact Jql st k (i+1) N M (by omega) (by omega) (fun j hj=>h1 j (by omega)) h2
theorem Ka (st:Nat→A) (N:Nat) {e:B} (hN:N<1000000000000) (h1:∀i,i<N→b (st i)=some (.go (st (i+1)))) (h2:b (st N)=some (.out e)):K3 b bigN (st 0)=some e :=
 Jql st N 0 N bigN (by omega) (by unfold bigN;omega) (fun j _ hj=>h1 j hj) h2
open Classical in
theorem Jdj (st:Nat→A) (N:Nat) (hN:N<1000000000000) (good:Nat→Prop) {bad fin:B}
  (h1:∀i,i<N→(∀j,j<i→good j)→(good i→b (st i)=some (.go (st (i+1))))∧(¬good i→b (st i)=some (.out bad))) (h2:(∀i,i<N→good i)→b (st N)=some (.out fin)) :
  K3 b bigN (st 0)=some (if ∀i,i<N→good i then fin else bad):=by
 by_cases hg:∀i,i<N→good i
 ·rw [if_pos hg]
  exact Ka st N hN (fun i hi=>(h1 i hi fun j hj=>hg j (by omega)).1 (hg i hi)) (h2 hg)
 ·rw [if_neg hg]
  have:∃i,i<N∧¬good i∧∀j,j<i→good j:=by
   simp only [Classical.not_forall] at hg
   obtain ⟨i,hi,hn⟩:=hg
   induction i using De with
   | _ i ih =>
    by_cases h:∀j,j<i→good j
    ·exact ⟨i,hi,hn,h⟩
    ·simp only [Classical.not_forall] at h
     obtain ⟨j,hj,hnj⟩:=h
     exact ih j hj (by omega) hnj
  obtain ⟨i,hi,hn,hlt⟩:=this
  exact Ka st i (by omega) (fun j hj=>(h1 j (by omega) fun k hk=>hlt k (by omega)).1 (hlt j hj)) ((h1 i hi hlt).2 hn)
theorem Jkb {α:Type} (l:List α) (hl:l.length<1000000000000) (st:Nat→A) (p:α→Bool) (out:α→B) (nf:B)
  (h1:∀i x,i<l.length→l[i]?=some x→b (st i)=if p x=true then some (.out (out x)) else some (.go (st (i+1)))) (h2:b (st l.length)=some (.out nf)) :
  K3 b bigN (st 0)=some (match l.find? p with|some x=>out x|none=>nf):=by
 have key:∀(m:List α) (i M:Nat),i+m.length=l.length→m.length<M→(∀j,m[j]?=l[i+j]?)→K3 b M (st i)=some (match m.find? p with|some x=>out x|none=>nf):=by
  intro m
  induction m with
  | nil =>
   intro i M hi hM hm
   have:i=l.length:=by simpa using hi
   subst this
   cases M with
   | zero=>simp at hM
   | succ M=>exact X0 h2
  | cons x m ih =>
   intro i M hi hM hm
   simp only [Ar] at hi hM
   have hx:l[i]?=some x:=by have:=hm 0;simpa using this.symm
   have:=h1 i x (by omega) hx
   cases M with
   | zero=>omega
   | succ M =>
    cases hp:p x with
    | true =>
     rw [hp,if_pos rfl] at this
     rw [X0 this,List.find?_cons_of_pos (by exact hp)]
    | false =>
     rw [hp,if_neg (by simp)] at this
     rw [Jju this,Df (by simp [hp])]
     exact ih (i+1) M (by omega) (by omega) fun j=>by have:=hm (j+1);rw [List.getElem?_cons_succ] at this;rw [this];congr 1;omega
 exact key l 0 bigN (by simp) (by unfold bigN;omega) fun j=>by simp
theorem Qh (I:Nat→A→Prop) (Q:B→Prop) (N:Nat) (hN:N<1000000000000) {s0:A} (h0:I 0 s0) (h1:∀i s,i<N→I i s→∃s',b s=some (.go s')∧I (i+1) s') (h2:∀s,I N s→∃e,b s=some (.out e)∧Q e) :
  ∃e,K3 b bigN s0=some e∧Q e:=by
 have key:∀(k i M:Nat) (s:A),i+k=N→k<M→I i s→∃e,K3 b M s=some e∧Q e:=by
  intro k
  induction k with
  | zero =>
   intro i M s hi hM hs
   have:i=N:=by omega
   subst this
   obtain ⟨e,he,hq⟩:=h2 s hs
   cases M with
   | zero=>omega
   | succ M=>exact ⟨e,X0 he,hq⟩
  | succ k ih =>
   intro i M s hi hM hs
   obtain ⟨s',hs',hi'⟩:=h1 i s (by omega) hs
   cases M with
   | zero=>omega
   | succ M =>
    obtain ⟨e,he,hq⟩:=ih (i+1) M s' (by omega) (by omega) hi'
    exact ⟨e,(Jju hs').trans he,hq⟩
 exact key N 0 bigN s0 (by omega) (by unfold bigN;omega) h0
theorem Jo1 {α:Type} (l:List α) (hl:l.length<1000000000000) (st:Nat→A) (p:α→Prop) (out:Nat→α→B) (nf:B)
  (h1:∀i x,i<l.length→l[i]?=some x→(p x→b (st i)=some (.out (out i x)))∧(¬p x→b (st i)=some (.go (st (i+1))))) (h2:b (st l.length)=some (.out nf)) :
  ∃e,K3 b bigN (st 0)=some e∧((e=nf∧∀x∈l,¬p x)∨∃i x,l[i]?=some x∧p x∧e=out i x):=by
 by_cases hg:∃i,i<l.length∧∃x,l[i]?=some x∧p x
 ·have:∃i,i<l.length∧(∃x,l[i]?=some x∧p x)∧∀j,j<i→∀x,l[j]?=some x→¬p x:=by
   obtain ⟨i,hi,hx⟩:=hg
   induction i using De with
   | _ i ih =>
    by_cases h:∃j,j<i∧∃x,l[j]?=some x∧p x
    ·obtain ⟨j,hj,hx'⟩:=h
     exact ih j hj (by omega) hx'
    ·exact ⟨i,hi,hx,fun j hj x hxj hp=>h ⟨j,hj,x,hxj,hp⟩⟩
  obtain ⟨i,hi,⟨x,hx,hp⟩,hlt⟩:=this
  exact ⟨_,Ka st i (by omega) (fun j hj=>(h1 j l[j] (by omega) (Ab _)).2 (hlt j hj _ (Ab _))) ((h1 i x hi hx).1 hp),.inr ⟨i,x,hx,hp,rfl⟩⟩
 ·have hn:∀i x,l[i]?=some x→¬p x:=fun i x hx hp=>hg ⟨i,(Aa.1 hx).1,x,hx,hp⟩
  exact ⟨nf,Ka st l.length hl (fun j hj=>(h1 j l[j] hj (Ab _)).2 (hn j _ (Ab _))) h2,.inl ⟨rfl,fun x hx=>by
   obtain ⟨i,hi⟩:=Av.1 hx
   exact hn i x hi⟩⟩
theorem Jkl (I:A→Prop) (Q:B→Prop) (m:A→Nat) (h:∀s,I s→(∃s',b s=some (.go s')∧I s'∧m s'<m s)∨∃e,b s=some (.out e)∧Q e) {s0:A} (h0:I s0) (hm:m s0<1000000000000):∃e,K3 b bigN s0=some e∧Q e:=by
 have key:∀(n M:Nat) (s:A),m s≤n→n<M→I s→∃e,K3 b M s=some e∧Q e:=by
  intro n
  induction n with
  | zero =>
   intro M s hs hM hi
   cases M with
   | zero=>omega
   | succ M =>
    rcases h s hi with ⟨s',_,_,h3⟩|⟨e,h1,h2⟩
    ·omega
    ·exact ⟨e,X0 h1,h2⟩
  | succ n ih =>
   intro M s hs hM hi
   cases M with
   | zero=>omega
   | succ M =>
    rcases h s hi with ⟨s',h1,h2,h3⟩|⟨e,h1,h2⟩
    ·obtain ⟨e,he,hq⟩:=ih M s' (by omega) (by omega) h2
     exact ⟨e,(Jju h1).trans he,hq⟩
    ·exact ⟨e,X0 h1,h2⟩
 exact key (m s0) bigN s0 (Aq _) (by unfold bigN;omega) h0
end loops
section lists
variable {α β:Type}
theorem Qt {l:List α} {i:Nat} {x:α} (h:l[i]?=some x):l.take (i+1)=l.take i++[x]:=by
 rw [List.take_add_one,h];rfl
theorem jp {f:α→List β} {l:List α} {i:Nat} {x:α} (h:l[i]?=some x):(l.take (i+1)).flatMap f=(l.take i).flatMap f++f x:=by
 rw [Qt h,Br,Bt,List.flatMap_nil,Bo]
theorem Zr {f:α→β} {l:List α} {i:Nat} {x:α} (h:l[i]?=some x):(l.take (i+1)).map f=(l.take i).map f++[f x]:=by
 rw [Qt h,Bp];rfl
def rng (a:Int) (n:Nat):List Int:=(Bf n).map fun i:Nat=>a+(i:Int)
theorem rng_succ (a:Int) (n:Nat):rng a (n+1)=rng a n++[a+(n:Int)]:=by simp [rng,Bq]
theorem Juf (a:Int) (n:Nat):(rng a n).length=n:=by simp [rng]
theorem Jv4 {a x:Int} {n:Nat}:x∈rng a n↔a≤x∧x<a+n:=by
 simp only [rng,Dc,Ba]
 constructor
 ·rintro ⟨i,hi,rfl⟩;omega
 ·intro h;exact ⟨(x - a).toNat,by omega,by omega⟩
theorem rng_cons (a:Int) (n:Nat):rng a (n+1)=a::rng (a+1) n:=by
 simp only [rng,Dg,Ap,List.map_map]
 congr 1
 ·simp
 ·apply List.map_congr_left
  intro i _
  simp only [Function.comp]
  omega
theorem rng_pw (a:Int) (n:Nat):(rng a n).Pairwise (·<·):=by
 induction n generalizing a with
 | zero=>exact .nil
 | succ n ih =>
  rw [rng_cons]
  refine Ak.2 ⟨fun x hx=>?_,ih _⟩
  have:=Jv4.1 hx
  omega
theorem Jnx {f:α→List β} {l:List α} {n:Nat} (h:∀x∈l,(f x).length≤n):(l.flatMap f).length≤l.length * n:=by
 induction l with
 | nil=>simp
 | cons x l ih =>
  have:=h x (Af ..)
  have:=ih fun y hy=>h y (Ai _ hy)
  simp only [Bt,Am,Ar,Nat.add_mul]
  omega
theorem Zc (f:α→α) (x:α):∀l:List α,Qy (l++[x]) f=l++[f x]
 | []=>rfl
 | [y]=>rfl
 | y::z::l=>by
  show y::Qy (z::(l++[x])) f=_
  rw [show z::(l++[x])=(z::l)++[x] from rfl,Zc f x (z::l)]
  rfl
theorem set_last (l:List α) (x y:α):(l++[x]).set l.length y=l++[y]:=by
 rw [List.set_append_right _ _ (Aq _),Nat.sub_self];rfl
theorem get_last (l:List α) (x:α):(l++[x])[l.length]?=some x:=by
 rw [Bd (Aq _),Nat.sub_self];rfl
end lists
end Go.Dn
namespace Go.Dn
set_option linter.unusedVariables false
set_option linter.unusedSimpArgs false
abbrev Run:=Int×Int
abbrev Row:=Int×List Run
abbrev Reg:=List Row
abbrev Cell:=Int×Int
abbrev Jcb:=Int×(Bool×List Cell)
structure RunsOK (lo hi:Int) (l:List Run):Prop where
 bd:∀x∈l,lo≤x.1∧x.1<x.2∧x.2≤hi
 pw:l.Pairwise fun a b=>a.2<b.1
structure RegOK (r:Reg):Prop where
 y:∀w∈r,-4096≤w.1∧w.1<4096
 pw:r.Pairwise fun a b=>a.1<b.1
 ne:∀w∈r,w.2≠[]
 rs:∀w∈r,RunsOK (-4096) 4096 w.2
def Jk (l:List Run) (x:Int):Prop:=∃u∈l,u.1≤x∧x<u.2
def Kz (r:Reg) (c:Cell):Prop:=∃w∈r,w.1=c.2∧Jk w.2 c.1
def Y6 (y:Int) (u:Run):List Cell:=(rng u.1 (u.2 - u.1).toNat).map fun x=>(x,y)
def rowC (w:Row):List Cell:=w.2.flatMap (Y6 w.1)
def J7 (r:Reg):List Cell:=r.flatMap rowC
def yx (a b:Cell):Prop:=a.2<b.2∨(a.2=b.2∧a.1<b.1)
theorem Jjo {y:Int} {u:Run} {c:Cell}:c∈Y6 y u↔c.2=y∧u.1≤c.1∧c.1<u.2:=by
 simp only [Y6,Dc,Jv4]
 constructor
 ·rintro ⟨x,hx,rfl⟩;exact ⟨rfl,by omega,by omega⟩
 ·rintro ⟨rfl,h1,h2⟩;exact ⟨c.1,by omega,rfl⟩
theorem Jmo {w:Row} {c:Cell}:c∈rowC w↔c.2=w.1∧Jk w.2 c.1:=by
 simp only [rowC,Bk,Jjo,Jk]
 constructor
 ·rintro ⟨u,hu,h1,h2⟩;exact ⟨h1,u,hu,h2⟩
 ·rintro ⟨h1,u,hu,h2⟩;exact ⟨u,hu,h1,h2⟩
theorem Qx {r:Reg} {c:Cell}:c∈J7 r↔Kz r c:=by
 simp only [J7,Bk,Jmo,Kz]
 constructor
 ·rintro ⟨w,hw,h1,h2⟩;exact ⟨w,hw,h1.symm,h2⟩
 ·rintro ⟨w,hw,h1,h2⟩;exact ⟨w,hw,h1.symm,h2⟩
theorem RegOK.bd {r:Reg} (h:RegOK r) {c:Cell} (hc:Kz r c):-4096≤c.1∧c.1<4096∧-4096≤c.2∧c.2<4096:=by
 obtain ⟨w,hw,e,u,hu,h1,h2⟩:=hc
 have:=(h.rs w hw).bd u hu
 have:=h.y w hw
 omega
theorem line_pw (y:Int) (u:Run):(Y6 y u).Pairwise yx:=by
 refine List.pairwise_map.2 ((rng_pw _ _).imp fun h=>.inr ⟨rfl,h⟩)
theorem row_pw {lo hi:Int} {w:Row} (h:RunsOK lo hi w.2):(rowC w).Pairwise yx:=by
 refine Dk.2 ⟨fun u _=>line_pw _ _,h.pw.imp fun {a b} hab c hc d hd=>?_⟩
 have hc:=Jjo.1 hc
 have hd:=Jjo.1 hd
 exact .inr ⟨by omega,by omega⟩
theorem RegOK.cells_pw {r:Reg} (h:RegOK r):(J7 r).Pairwise yx:=by
 refine Dk.2 ⟨fun w hw=>row_pw (h.rs w hw),h.pw.imp fun {a b} hab c hc d hd=>?_⟩
 have hc:=Jmo.1 hc
 have hd:=Jmo.1 hd
 exact .inl (by omega)
theorem Yi (a:Cell):¬yx a a:=by unfold yx;omega
theorem Jjs {a b:Cell} (h:yx a b):¬yx b a:=by unfold yx at *;omega
theorem Jfk {α:Type} {R:α→α→Prop} (asy:∀a b,R a b→¬R b a):∀ {l m:List α},l.Pairwise R→m.Pairwise R→(∀x,x∈l↔x∈m)→l=m
 | [],[],_,_,_=>rfl
 | [],y::m,_,_,h=>by have:=(h y).2 (Af ..);cases this
 | x::l,[],_,_,h=>by have:=(h x).1 (Af ..);cases this
 | x::l,y::m,h1,h2,h=>by
  obtain ⟨p1,p2⟩:=Ak.1 h1
  obtain ⟨q1,q2⟩:=Ak.1 h2
  have e:x=y:=by
   rcases Ag.1 ((h x).1 (Af ..)) with e|hx
   ·exact e
   ·rcases Ag.1 ((h y).2 (Af ..)) with e|hy
    ·exact e.symm
    ·exact (asy _ _ (p1 y hy) (q1 x hx)).elim
  subst e
  have irr:∀z,¬R z z:=fun z hz=>asy z z hz hz
  rw [Jfk asy p2 q2 fun z=>?_]
  constructor
  ·intro hz
   rcases Ag.1 ((h z).1 (Ai _ hz)) with e|hz'
   ·subst e;exact (irr _ (p1 _ hz)).elim
   ·exact hz'
  ·intro hz
   rcases Ag.1 ((h z).2 (Ai _ hz)) with e|hz'
   ·subst e;exact (irr _ (q1 _ hz)).elim
   ·exact hz'
theorem pw_adj {α:Type} {R:α→α→Prop} (tr:∀a b c,R a b→R b c→R a c) {l:List α} (h:∀i a b,l[i]?=some a→l[i+1]?=some b→R a b):l.Pairwise R:=by
 induction l with
 | nil=>exact .nil
 | cons x l ih =>
  have ih':=ih fun i a b ha hb=>h (i+1) a b (by simpa using ha) (by simpa using hb)
  refine Ak.2 ⟨fun y hy=>?_,ih'⟩
  cases l with
  | nil=>cases hy
  | cons z l =>
   have hz:R x z:=h 0 x z rfl rfl
   rcases Ag.1 hy with rfl|hy
   ·exact hz
   ·exact tr _ _ _ hz ((Ak.1 ih').1 y hy)
theorem Jpw {α:Type} {R:α→α→Prop} {l:List α} (h:l.Pairwise R) {i:Nat} {a b:α} (ha:l[i]?=some a) (hb:l[i+1]?=some b):R a b:=by
 have h1:=(Aa.1 ha)
 have h2:=(Aa.1 hb)
 obtain ⟨p1,e1⟩:=h1
 obtain ⟨p2,e2⟩:=h2
 have:=Aj.1 h i (i+1) p1 p2 (by omega)
 rwa [e1,e2] at this
theorem Joy {l:List Run} (hp:l.Pairwise fun a b=>a.2<b.1) {u v:Run} (hu:u∈l) (hv:v∈l):u=v∨u.2<v.1∨v.2<u.1:=by
 induction l with
 | nil=>cases hu
 | cons x l ih =>
  obtain ⟨p1,p2⟩:=Ak.1 hp
  rcases Ag.1 hu with rfl|hu'<;>rcases Ag.1 hv with rfl|hv'
  ·exact .inl rfl
  ·exact .inr (.inl (p1 _ hv'))
  ·exact .inr (.inr (p1 _ hu'))
  ·exact ih p2 hu' hv'
theorem RunsOK.left {lo hi:Int} {l:List Run} (h:RunsOK lo hi l) {u:Run} (hu:u∈l):¬Jk l (u.1 - 1):=by
 rintro ⟨v,hv,h1,h2⟩
 have hub:=h.bd u hu
 have hvb:=h.bd v hv
 have hpw:=h.pw
 rcases Joy hpw hu hv with e|e|e
 ·subst e;omega
 ·omega
 ·omega
theorem RunsOK.right {lo hi:Int} {l:List Run} (h:RunsOK lo hi l) {u:Run} (hu:u∈l):¬Jk l u.2:=by
 rintro ⟨v,hv,h1,h2⟩
 have hub:=h.bd u hu
 have hvb:=h.bd v hv
 rcases Joy h.pw hu hv with e|e|e
 ·subst e;omega
 ·omega
 ·omega
theorem RegOK.row_uniq {r:Reg} (h:RegOK r) {w v:Row} (hw:w∈r) (hv:v∈r) (e:w.1=v.1):w=v:=by
 have hp:=h.pw
 clear h
 induction r with
 | nil=>cases hw
 | cons x l ih =>
  obtain ⟨p1,p2⟩:=Ak.1 hp
  rcases Ag.1 hw with rfl|hw'<;>rcases Ag.1 hv with rfl|hv'
  ·rfl
  ·have:=p1 _ hv';omega
  ·have:=p1 _ hw';omega
  ·exact ih hw' hv' p2
theorem RegOK.in_row {r:Reg} (h:RegOK r) {w:Row} (hw:w∈r) (x:Int):Kz r (x,w.1)↔Jk w.2 x:=by
 constructor
 ·rintro ⟨v,hv,e,hx⟩
  rw [h.row_uniq hw hv e.symm]
  exact hx
 ·exact fun hx=>⟨w,hw,rfl,hx⟩
theorem runsOK_snoc {lo hi:Int} {l:List Run} {u:Run}:RunsOK lo hi (l++[u])↔RunsOK lo hi l∧(lo≤u.1∧u.1<u.2∧u.2≤hi)∧∀v∈l,v.2<u.1:=by
 constructor
 ·rintro ⟨h1,h2⟩
  obtain ⟨p1,p2,p3⟩:=Bc.1 h2
  exact ⟨⟨fun x hx=>h1 x (Bn _ hx),p1⟩,h1 u (by simp),fun v hv=>p3 v hv u (by simp)⟩
 ·rintro ⟨⟨h1,h2⟩,h3,h4⟩
  refine ⟨fun x hx=>?_,Bc.2 ⟨h2,Dd _ _,fun v hv w hw=>?_⟩⟩
  ·rcases Ae.1 hx with h|h
   ·exact h1 x h
   ·rw [Ad.1 h];exact h3
  ·rw [Ad.1 hw];exact h4 v hv
theorem Jng {l:List Run} {u:Run} {x:Int}:Jk (l++[u]) x↔Jk l x∨(u.1≤x∧x<u.2):=by
 unfold Jk
 constructor
 ·rintro ⟨v,hv,h⟩
  rcases Ae.1 hv with q|q
  ·exact .inl ⟨v,q,h⟩
  ·rw [Ad.1 q] at h;exact .inr h
 ·rintro (⟨v,hv,h⟩|h)
  ·exact ⟨v,Bn _ hv,h⟩
  ·exact ⟨u,by simp,h⟩
end Go.Dn
namespace Go.Proofs.Ytmfagdfkpjgeiaa
open Go Go.Vv Go.Dn Go.Dn.W
set_option linter.unusedVariables false
set_option linter.unusedSimpArgs false
set_option maxRecDepth 100000
theorem Jll (x:Int):@t_region_ok wv x=some (decide (-4096≤x∧x<4096)):=by
 simp only [t_region_ok,w_br,Jjy,Jlw,decide_eq_true_eq]
 split<;>simp<;>omega
theorem Qq {α:Type} (x:Int) (k:Bool→Option α):@W.call wv α c_region_ok x k=k (decide (-4096≤x∧x<4096)):=ca_s (c:=c_region_ok) (Jll x)
theorem Jjv (x:Int×Int):@t_runs_fits wv x=some (decide (-1048576≤x.1∧x.1≤1048576∧-1048576≤x.2∧x.2≤1048576)):=by
 simp only [t_runs_fits,w_br,Jjy,Jf4,decide_eq_true_eq]
 (repeat' split)<;>first|exact congrArg some (decide_eq_decide.2 (by omega))|exact congrArg some (decide_eq_false (by omega)).symm
theorem Jni {α:Type} (x:Int×Int) (k:Bool→Option α):@W.call wv α c_runs_fits x k=k (decide (-1048576≤x.1∧x.1≤1048576∧-1048576≤x.2∧x.2≤1048576)):=ca_s (c:=c_runs_fits) (Jjv x)
def Zn (lo hi:Int) (l:List Run) (i:Nat):Prop:=∀x,l[i]?=some x→lo≤x.1∧x.1<x.2∧x.2≤hi∧∀p,0<i→l[i - 1]?=some p→p.2<x.1
theorem zq (lo hi:Int) (l:List Run):(∀i,i<l.length→Zn lo hi l i)↔RunsOK lo hi l:=by
 constructor
 ·intro h
  have key:∀(i:Nat) (x:Run),l[i]?=some x→lo≤x.1∧x.1<x.2∧x.2≤hi∧∀p,0<i→l[i - 1]?=some p→p.2<x.1:=fun i x hx=>h i (Aa.1 hx).1 x hx
  refine ⟨fun x hx=>?_,?_⟩
  ·obtain ⟨i,hi⟩:=Av.1 hx
   have:=key i x hi
   omega
  ·have hp:(l.Pairwise fun a b=>(a.1<a.2∧b.1<b.2∧a.2<b.1)):=pw_adj (fun a b c h1 h2=>by omega) fun i a b ha hb=>by
    have h1:=key i a ha
    have h2:=key (i+1) b hb
    have h3:=h2.2.2.2 a (by omega) (by simpa using ha)
    omega
   exact hp.imp fun h=>h.2.2
 ·rintro ⟨h1,h2⟩ i hi x hx
  have hb:=h1 x (Ac hx)
  refine ⟨hb.1,hb.2.1,hb.2.2,fun p h0 hp=>?_⟩
  exact Jpw h2 hp (by rwa [Nat.sub_add_cancel h0])
open Classical in
theorem Jjq (l:List Run) (hl:l.length≤1000000000):@t_runs_Valid wv l=some (decide (RunsOK (-1048576) 1048576 l)):=by
 have hloop:=Jdj (b:=@t_runs_Valid_L0 wv) (bad:=.inl ()) (fin:=.inr ()) (fun i=>⟨l,⟨l,⟨(l.length:Int),⟨(i:Int),()⟩⟩⟩⟩) l.length (by omega) (Zn (-1048576) 1048576 l) (fun i hi _=>by
  have hx:=Ab hi
  have hb:@t_runs_Valid_L0 wv ⟨l,⟨l,⟨(l.length:Int),⟨(i:Int),()⟩⟩⟩⟩=if Zn (-1048576) 1048576 l i then some (.go ⟨l,⟨l,⟨(l.length:Int),⟨((i+1:Nat):Int),()⟩⟩⟩⟩) else some (.out (.inl ())):=by
   unfold t_runs_Valid_L0
   dsimp only
   rw [Kj (by omega),ge_s (fg hx)]
   simp only [w_br,Jjy,Jau,Jf4,Jx,w_nt,Jni,decide_eq_true_eq,Bh,decide_eq_false_iff_not]
   rw [wr (by omega) (by omega)]
   by_cases h0:0<i
   ·have hp:=Ab (l:=l) (i:=i - 1) (by omega)
    rw [ge_s (fgz (i - 1) (by rw [Qj,wr (by omega) (by omega)];omega) hp)]
    have hg:Zn (-1048576) 1048576 l i↔-1048576≤l[i].1∧l[i].1<l[i].2∧l[i].2≤1048576∧(l[i - 1]'(by omega)).2<l[i].1:=by
     constructor
     ·intro h;have:=h _ hx;exact ⟨this.1,this.2.1,this.2.2.1,this.2.2.2 _ h0 hp⟩
     ·rintro ⟨a,b,c,d⟩ x hx'
      rw [hx] at hx';injection hx' with e;subst e
      exact ⟨a,b,c,fun p _ hp'=>by rw [hp] at hp';injection hp' with e;subst e;exact d⟩
    simp only [hg]
    (repeat' split)<;>first|rfl|omega
   ·have hg:Zn (-1048576) 1048576 l i↔-1048576≤l[i].1∧l[i].1<l[i].2∧l[i].2≤1048576:=by
     constructor
     ·intro h;have:=h _ hx;exact ⟨this.1,this.2.1,this.2.2.1⟩
     ·rintro ⟨a,b,c⟩ x hx'
      rw [hx] at hx';injection hx' with e;subst e
      exact ⟨a,b,c,fun p h=>(h0 h).elim⟩
    simp only [hg]
    (repeat' split)<;>first|rfl|omega
  rw [hb]
  exact ⟨fun h=>if_pos h,fun h=>if_neg h⟩) (fun _=>by unfold t_runs_Valid_L0;dsimp only;rw [Jy (by omega)])
 refine (lo_s hloop).trans ?_
 by_cases h:RunsOK (-1048576) 1048576 l
 ·rw [if_pos ((zq _ _ _).2 h),decide_eq_true h]
 ·rw [if_neg fun q=>h ((zq _ _ _).1 q),decide_eq_false h]
open Classical in
theorem Ys {α:Type} {l:List Run} (hl:l.length≤1000000000) (k:Bool→Option α):@W.call wv α c_runs_Valid l k=k (decide (RunsOK (-1048576) 1048576 l)):=ca_s (c:=c_runs_Valid) (Jjq l hl)
def LimR (r:Reg):Prop:=r.length≤1000000000∧∀w∈r,w.2.length≤1000000000
theorem Jru {lo hi:Int} {l:List Run} (h:RunsOK lo hi l) {x0:Run} (h0:l[0]?=some x0):∀x∈l,x0.1≤x.1:=by
 cases l with
 | nil=>simp at h0
 | cons y l =>
  simp only [List.getElem?_cons_zero,Option.some.injEq] at h0
  subst h0
  intro x hx
  rcases Ag.1 hx with rfl|hx'
  ·omega
  ·have:=(Ak.1 h.pw).1 x hx'
   have:=h.bd y (Af ..)
   omega
theorem Juq {lo hi:Int} {l:List Run} (h:RunsOK lo hi l) {x1:Run} (h1:l[l.length - 1]?=some x1):∀x∈l,x.2≤x1.2:=by
 intro x hx
 have hm:=Ac h1
 obtain ⟨i,hi⟩:=Av.1 hx
 obtain ⟨p1,e1⟩:=Aa.1 hi
 obtain ⟨p2,e2⟩:=Aa.1 h1
 have hb:=h.bd x1 hm
 by_cases e:i=l.length - 1
 ·subst e
  rw [hi] at h1
  injection h1 with h1
  subst h1
  omega
 ·have:=Aj.1 h.pw i (l.length - 1) p1 p2 (by omega)
  rw [e1,e2] at this
  omega
def Zp (r:Reg) (i:Nat):Prop:=∀w,r[i]?=some w→-4096≤w.1∧w.1<4096∧w.2≠[]∧RunsOK (-4096) 4096 w.2∧∀p,0<i→r[i - 1]?=some p→p.1<w.1
theorem Jbg (r:Reg):(∀i,i<r.length→Zp r i)↔RegOK r:=by
 constructor
 ·intro h
  have key:∀(i:Nat) (w:Row),r[i]?=some w→-4096≤w.1∧w.1<4096∧w.2≠[]∧RunsOK (-4096) 4096 w.2∧∀p,0<i→r[i - 1]?=some p→p.1<w.1:=fun i x hx=>h i (Aa.1 hx).1 x hx
  have km:∀w∈r,-4096≤w.1∧w.1<4096∧w.2≠[]∧RunsOK (-4096) 4096 w.2:=fun w hw=>by
   obtain ⟨i,hi⟩:=Av.1 hw
   have:=key i w hi
   exact ⟨this.1,this.2.1,this.2.2.1,this.2.2.2.1⟩
  exact ⟨fun w hw=>⟨(km w hw).1,(km w hw).2.1⟩,pw_adj (fun a b c h1 h2=>by omega) fun i a b ha hb=>(key (i+1) b hb).2.2.2.2 a (by omega) (by simpa using ha),fun w hw=>(km w hw).2.2.1,fun w hw=>(km w hw).2.2.2⟩
 ·intro h i hi w hw
  have hm:=Ac hw
  exact ⟨(h.y w hm).1,(h.y w hm).2,h.ne w hm,h.rs w hm,fun p h0 hp=>Jpw h.pw hp (by rwa [Nat.sub_add_cancel h0])⟩
theorem Jj2 {l:List Run} {x0 x1:Run} (h0:l[0]?=some x0) (h1:l[l.length - 1]?=some x1):RunsOK (-4096) 4096 l↔RunsOK (-1048576) 1048576 l∧(-4096≤x0.1∧x0.1<4096)∧(-4096≤x1.2 - 1∧x1.2 - 1<4096):=by
 constructor
 ·intro h
  have a:=h.bd x0 (Ac h0)
  have b:=h.bd x1 (Ac h1)
  exact ⟨⟨fun x hx=>by have:=h.bd x hx;omega,h.pw⟩,by omega,by omega⟩
 ·rintro ⟨h,a,b⟩
  exact ⟨fun x hx=>by
   have q1:=Jru h h0 x hx
   have q2:=Juq h h1 x hx
   have:=h.bd x hx
   omega,h.pw⟩
open Classical in
theorem Jfn (r:Reg) (hl:LimR r):@t_region_Valid wv r=some (decide (RegOK r)):=by
 have hloop:=Jdj (b:=@t_region_Valid_L0 wv) (bad:=.inl ()) (fin:=.inr ()) (fun i=>⟨r,⟨(r.length:Int),⟨(i:Int),⟨r,()⟩⟩⟩⟩) r.length (by have:=hl.1;omega) (Zp r) (fun i hi _=>by
  have hx:=Ab hi
  have hL:=hl.1
  have hb:@t_region_Valid_L0 wv ⟨r,⟨(r.length:Int),⟨(i:Int),⟨r,()⟩⟩⟩⟩=if Zp r i then some (.go ⟨r,⟨(r.length:Int),⟨((i+1:Nat):Int),⟨r,()⟩⟩⟩⟩) else some (.out (.inl ())):=by
   generalize hw:r[i]=w at hx
   have hwm:=Ac hx
   have hLw:=hl.2 w hwm
   unfold t_region_Valid_L0
   dsimp only
   rw [Kj (by omega),ge_s (fg hx)]
   have tail:letI:W:=wv;∀X:Option (Nx _ (Unit ⊕ Unit)),(br (cm .eql (ln w.2) 0) (some (.out (.inl ()))) (call c_runs_Valid (w.2:(List (Int×Int))) fun (v3:Bool)=>br (nt v3) (some (.out (.inl ()))) (ge w.2 0 fun v4=>call c_region_ok (v4.1:Int) fun (v5:Bool)=>br (nt v5) (some (.out (.inl ())))
     (ge w.2 (ar .sub .i64 (ln w.2) 1) fun v6=>call c_region_ok ((ar .sub .i64 v6.2 1):Int) fun (v7:Bool)=>br (nt v7) (some (.out (.inl ()))) X))):Option (Nx (HP (List (Int×(List (Int×Int)))) (HP Int (HP Int (HP (List (Int×(List (Int×Int)))) Unit)))) (Unit ⊕ Unit)))=if w.2≠[]∧RunsOK (-4096) 4096 w.2 then X else some (.out (.inl ())):=by
    intro X
    cases hr:w.2 with
    | nil=>rfl
    | cons u l =>
     rw [hr] at hLw
     have e0:(u::l)[0]?=some u:=rfl
     have e1:(u::l)[(u::l).length - 1]?=some ((u::l)[(u::l).length - 1]'(by simp)):=Ab _
     generalize ((u::l)[(u::l).length - 1]'(by simp))=x1 at e1
     have hlen:(0:Int)<((u::l).length:Int):=by simp only [Ar];omega
     rw [br_f (by simp only [Q4,w_ln,beq_eq_false_iff_ne];omega),Ys hLw]
     by_cases hV:RunsOK (-1048576) 1048576 (u::l)
     ·have hx1:=hV.bd x1 (Ac e1)
      rw [br_f (by simp [w_nt,hV]),ge_s (fg0 e0),Qq,ge_s (fgz ((u::l).length - 1) (by rw [Qj,w_ln,wr (by omega) (by omega)];omega) e1),Qq,Qj,wr (by omega) (by omega)]
      have he:=Jj2 e0 e1
      simp only [ne_eq,reduceCtorEq,not_false_iff,true_and,he,w_br,w_nt,Bh,decide_eq_false_iff_not,hV]
      (repeat' split)<;>first|rfl|omega
     ·rw [br_t (by simp [w_nt,hV]),if_neg]
      rintro ⟨-,h⟩
      exact hV ((Jj2 e0 e1).1 h).1
   rw [tail]
   simp only [Qq,w_br,Jau,Jf4,w_nt,Jx,decide_eq_true_eq,Bh,decide_eq_false_iff_not]
   rw [wr (by omega) (by omega)]
   by_cases h0:0<i
   ·have hp:=Ab (l:=r) (i:=i - 1) (by omega)
    generalize r[i - 1]=p at hp
    rw [ge_s (fgz (i - 1) (by rw [Qj,wr (by omega) (by omega)];omega) hp)]
    have hg:Zp r i↔(-4096≤w.1∧w.1<4096)∧(w.2≠[]∧RunsOK (-4096) 4096 w.2)∧p.1<w.1:=by
     constructor
     ·intro h;have:=h _ hx;exact ⟨⟨this.1,this.2.1⟩,⟨this.2.2.1,this.2.2.2.1⟩,this.2.2.2.2 _ h0 hp⟩
     ·rintro ⟨⟨a,b⟩,⟨c,d⟩,e⟩ x hx'
      rw [hx] at hx';injection hx' with q;subst q
      exact ⟨a,b,c,d,fun p' _ hp'=>by rw [hp] at hp';injection hp' with q;subst q;exact e⟩
    simp only [hg]
    by_cases hT:w.2≠[]∧RunsOK (-4096) 4096 w.2
    ·simp only [hT,and_self,true_and,if_true,ne_eq,not_false_iff]
     (repeat' split)<;>first|rfl|omega
    ·simp only [hT,false_and,and_false,if_false]
     (repeat' split)<;>first|rfl|omega
   ·have hg:Zp r i↔(-4096≤w.1∧w.1<4096)∧(w.2≠[]∧RunsOK (-4096) 4096 w.2):=by
     constructor
     ·intro h;have:=h _ hx;exact ⟨⟨this.1,this.2.1⟩,⟨this.2.2.1,this.2.2.2.1⟩⟩
     ·rintro ⟨⟨a,b⟩,⟨c,d⟩⟩ x hx'
      rw [hx] at hx';injection hx' with q;subst q
      exact ⟨a,b,c,d,fun p' h=>(h0 h).elim⟩
    simp only [hg]
    by_cases hT:w.2≠[]∧RunsOK (-4096) 4096 w.2
    ·simp only [hT,and_self,and_true,if_true,ne_eq,not_false_iff]
     (repeat' split)<;>first|rfl|omega
    ·simp only [hT,and_false,if_false]
     (repeat' split)<;>first|rfl|omega
  rw [hb]
  exact ⟨fun h=>if_pos h,fun h=>if_neg h⟩) (fun _=>by unfold t_region_Valid_L0;dsimp only;rw [Jy (by omega)])
 unfold t_region_Valid
 refine (lo_s hloop).trans ?_
 by_cases h:RegOK r
 ·rw [if_pos ((Jbg _).2 h),decide_eq_true h]
 ·rw [if_neg fun q=>h ((Jbg _).1 q),decide_eq_false h]
open Classical in
theorem K7 {α:Type} {r:Reg} (hl:LimR r) (k:Bool→Option α):@W.call wv α c_region_Valid r k=k (decide (RegOK r)):=ca_s (c:=c_region_Valid) (Jfn r hl)
end Go.Proofs.Ytmfagdfkpjgeiaa
namespace Go.Proofs.Ytmfagdfkpjgeiaa
open Go Go.Vv Go.Dn Go.Dn.W
set_option linter.unusedVariables false
set_option linter.unusedSimpArgs false
set_option maxRecDepth 100000
open Classical in
theorem fine_ok (l:List Run) (hl:l.length≤1000000000):@t_additiveref18_fine wv l=some (decide (l≠[]∧RunsOK (-4096) 4096 l)):=by
 have hloop:=Jdj (b:=@t_additiveref18_fine_L0 wv) (bad:=.inl ()) (fin:=.inr ⟨l,()⟩) (fun i=>⟨l,⟨(i:Int),()⟩⟩) l.length (by omega) (Zn (-4096) 4096 l) (fun i hi _=>by
  have hx:=Ab hi
  have hb:@t_additiveref18_fine_L0 wv ⟨l,⟨(i:Int),()⟩⟩=if Zn (-4096) 4096 l i then some (.go ⟨l,⟨((i+1:Nat):Int),()⟩⟩) else some (.out (.inl ())):=by
   generalize hu:l[i]=u at hx
   unfold t_additiveref18_fine_L0
   dsimp only
   simp only [ge_s (fg hx)]
   rw [w_ln,Kj (by omega)]
   simp only [w_br,Jjy,Jau,Jf4,Jlw,Jx,decide_eq_true_eq]
   rw [wr (by omega) (by omega)]
   by_cases h0:0<i
   ·have hp:=Ab (l:=l) (i:=i - 1) (by omega)
    generalize l[i - 1]=p at hp
    rw [ge_s (fgz (i - 1) (by rw [Qj,wr (by omega) (by omega)];omega) hp)]
    have hg:Zn (-4096) 4096 l i↔-4096≤u.1∧u.1<u.2∧u.2≤4096∧p.2<u.1:=by
     constructor
     ·intro h;have:=h _ hx;exact ⟨this.1,this.2.1,this.2.2.1,this.2.2.2 _ h0 hp⟩
     ·rintro ⟨a,b,c,d⟩ x hx'
      rw [hx] at hx';injection hx' with e;subst e
      exact ⟨a,b,c,fun p _ hp'=>by rw [hp] at hp';injection hp' with e;subst e;exact d⟩
    simp only [hg]
    (repeat' split)<;>first|rfl|omega
   ·have hg:Zn (-4096) 4096 l i↔-4096≤u.1∧u.1<u.2∧u.2≤4096:=by
     constructor
     ·intro h;have:=h _ hx;exact ⟨this.1,this.2.1,this.2.2.1⟩
     ·rintro ⟨a,b,c⟩ x hx'
      rw [hx] at hx';injection hx' with e;subst e
      exact ⟨a,b,c,fun p h=>(h0 h).elim⟩
    simp only [hg]
    (repeat' split)<;>first|rfl|omega
  rw [hb]
  exact ⟨fun h=>if_pos h,fun h=>if_neg h⟩) (fun _=>by unfold t_additiveref18_fine_L0;dsimp only;rw [w_ln,Jy (by omega)])
 unfold t_additiveref18_fine
 refine (lo_s hloop).trans ?_
 by_cases h:RunsOK (-4096) 4096 l
 ·rw [if_pos ((zq _ _ _).2 h)]
  show some (decide ((l.length:Int) > 0))=_
  congr 1
  rw [decide_eq_decide]
  cases l<;>simp [h]
 ·rw [if_neg fun q=>h ((zq _ _ _).1 q),decide_eq_false fun q=>h q.2]
open Classical in
theorem k_fine {α:Type} {l:List Run} (hl:l.length≤1000000000) (k:Bool→Option α):@W.call wv α c_additiveref18_fine l k=k (decide (l≠[]∧RunsOK (-4096) 4096 l)):=ca_s (c:=c_additiveref18_fine) (fine_ok l hl)
open Classical in
theorem Jko (r:Reg) (hl:LimR r):@t_additiveref18_Valid wv r=some (decide (RegOK r)):=by
 have hloop:=Jdj (b:=@t_additiveref18_Valid_L0 wv) (bad:=.inl ()) (fin:=.inr ()) (fun i=>⟨(i:Int),⟨r,()⟩⟩) r.length (by have:=hl.1;omega) (Zp r) (fun i hi _=>by
  have hx:=Ab hi
  have hL:=hl.1
  have hb:@t_additiveref18_Valid_L0 wv ⟨(i:Int),⟨r,()⟩⟩=if Zp r i then some (.go ⟨((i+1:Nat):Int),⟨r,()⟩⟩) else some (.out (.inl ())):=by
   generalize hw:r[i]=w at hx
   have hLw:=hl.2 w (Ac hx)
   unfold t_additiveref18_Valid_L0
   dsimp only
   simp only [ge_s (fg hx)]
   rw [w_ln,Kj (by omega)]
   simp only [w_br,Jjy,Jau,Jf4,Jlw,Jx,w_nt,k_fine hLw,decide_eq_true_eq,Bh,decide_eq_false_iff_not]
   rw [wr (by omega) (by omega)]
   by_cases h0:0<i
   ·have hp:=Ab (l:=r) (i:=i - 1) (by omega)
    generalize r[i - 1]=p at hp
    rw [ge_s (fgz (i - 1) (by rw [Qj,wr (by omega) (by omega)];omega) hp)]
    have hg:Zp r i↔(-4096≤w.1∧w.1<4096)∧(w.2≠[]∧RunsOK (-4096) 4096 w.2)∧p.1<w.1:=by
     constructor
     ·intro h;have:=h _ hx;exact ⟨⟨this.1,this.2.1⟩,⟨this.2.2.1,this.2.2.2.1⟩,this.2.2.2.2 _ h0 hp⟩
     ·rintro ⟨⟨a,b⟩,⟨c,d⟩,e⟩ x hx'
      rw [hx] at hx';injection hx' with q;subst q
      exact ⟨a,b,c,d,fun p' _ hp'=>by rw [hp] at hp';injection hp' with q;subst q;exact e⟩
    simp only [hg]
    by_cases hT:w.2≠[]∧RunsOK (-4096) 4096 w.2
    ·simp only [hT,and_self,true_and,if_true,ne_eq,not_false_iff,not_true_eq_false,if_false]
     (repeat' split)<;>first|rfl|omega
    ·simp only [hT,false_and,and_false,if_false,not_false_iff,if_true]
     (repeat' split)<;>first|rfl|omega
   ·have hg:Zp r i↔(-4096≤w.1∧w.1<4096)∧(w.2≠[]∧RunsOK (-4096) 4096 w.2):=by
     constructor
     ·intro h;have:=h _ hx;exact ⟨⟨this.1,this.2.1⟩,⟨this.2.2.1,this.2.2.2.1⟩⟩
     ·rintro ⟨⟨a,b⟩,⟨c,d⟩⟩ x hx'
      rw [hx] at hx';injection hx' with q;subst q
      exact ⟨a,b,c,d,fun p' h=>(h0 h).elim⟩
    simp only [hg]
    by_cases hT:w.2≠[]∧RunsOK (-4096) 4096 w.2
    ·simp only [hT,and_self,and_true,if_true,ne_eq,not_false_iff,not_true_eq_false,if_false]
     (repeat' split)<;>first|rfl|omega
    ·simp only [hT,and_false,if_false,not_false_iff,if_true]
     (repeat' split)<;>first|rfl|omega
  rw [hb]
  exact ⟨fun h=>if_pos h,fun h=>if_neg h⟩) (fun _=>by unfold t_additiveref18_Valid_L0;dsimp only;rw [w_ln,Jy (by omega)])
 unfold t_additiveref18_Valid
 refine (lo_s hloop).trans ?_
 by_cases h:RegOK r
 ·rw [if_pos ((Jbg _).2 h),decide_eq_true h]
 ·rw [if_neg fun q=>h ((Jbg _).1 q),decide_eq_false h]
open Classical in
theorem Zl {α:Type} {r:Reg} (hl:LimR r) (k:Bool→Option α):@W.call wv α c_additiveref18_Valid r k=k (decide (RegOK r)):=ca_s (c:=c_additiveref18_Valid) (Jko r hl)
def Jmp (r:Reg) (y:Int):List Run:=match r.find? (fun w=>w.1==y) with|some w=>w.2|none=>[]
theorem Jrh (r:Reg) (y:Int) (hl:LimR r):@t_additiveref18_Row wv (r,y)=some (Jmp r y):=by
 have hloop:=Jkb (b:=@t_additiveref18_Row_L0 wv) r (by have:=hl.1;omega) (fun i=>⟨y,⟨(i:Int),⟨r,()⟩⟩⟩) (fun w=>w.1==y) (fun w=>.inl ⟨w.2,()⟩) (.inr ()) (fun i w hi hw=>by
  have hL:=hl.1
  unfold t_additiveref18_Row_L0
  dsimp only
  simp only [ge_s (fg hw)]
  rw [w_ln,Kj (by omega),Jx,wr (by omega) (by omega),w_br]
  rfl) (by unfold t_additiveref18_Row_L0;dsimp only;rw [w_ln,Jy (by omega)])
 unfold t_additiveref18_Row
 refine (lo_s hloop).trans ?_
 unfold Jmp
 cases r.find? fun w=>w.1==y<;>rfl
theorem Jvc {α:Type} {r:Reg} {y:Int} (hl:LimR r) (k:List Run→Option α):@W.call wv α c_additiveref18_Row ((r,y):List (Int×List (Int×Int))×Int) k=k (Jmp r y):=ca_s (c:=c_additiveref18_Row) (Jrh r y hl)
theorem Ju8 {r:Reg} (hl:LimR r) (y:Int):(Jmp r y).length≤1000000000:=by
 unfold Jmp
 cases h:r.find? fun w=>w.1==y with
 | none=>simp
 | some w=>exact hl.2 w (Bg h)
theorem Jwf {r:Reg} (h:RegOK r) (c:Cell):Jk (Jmp r c.2) c.1↔Kz r c:=by
 unfold Jmp
 cases hf:r.find? fun w=>w.1==c.2 with
 | none =>
  constructor
  ·rintro ⟨u,hu,-⟩;cases hu
  ·rintro ⟨w,hw,e,-⟩
   have:=Bs.1 hf w hw
   simp [e] at this
 | some w =>
  have hw:=Bg hf
  have e:w.1=c.2:=by have:=List.find?_some hf;simpa using this
  have:=h.in_row hw c.1
  rw [e] at this
  exact this.symm
open Classical in
theorem Jsv (l:List Run) (x:Int) (hl:l.length≤1000000000):@t_additiveref18_inside wv (l,x)=some (decide (Jk l x)):=by
 have hloop:=Jkb (b:=@t_additiveref18_inside_L0 wv) l (by omega) (fun i=>⟨l,⟨x,⟨(i:Int),()⟩⟩⟩) (fun u=>decide (u.1≤x)&&decide (x<u.2)) (fun w=>.inl ()) (.inr ()) (fun i w hi hw=>by
  unfold t_additiveref18_inside_L0
  dsimp only
  simp only [ge_s (fg hw)]
  rw [w_ln,Kj (by omega),Jx,wr (by omega) (by omega)]
  simp only [w_br,Jf4,Jlw,decide_eq_true_eq,Bool.and_eq_true]
  (repeat' split)<;>first|rfl|omega) (by unfold t_additiveref18_inside_L0;dsimp only;rw [w_ln,Jy (by omega)])
 unfold t_additiveref18_inside
 refine (lo_s hloop).trans ?_
 cases hf:l.find? fun u=>decide (u.1≤x)&&decide (x<u.2) with
 | none =>
  show some false=_
  rw [decide_eq_false]
  rintro ⟨u,hu,h⟩
  have:=Bs.1 hf u hu
  simp at this
  omega
 | some w =>
  show some true=_
  rw [decide_eq_true]
  have:=List.find?_some hf
  simp at this
  exact ⟨w,Bg hf,by omega⟩
open Classical in
theorem k_inside {α:Type} {l:List Run} {x:Int} (hl:l.length≤1000000000) (k:Bool→Option α):@W.call wv α c_additiveref18_inside ((l,x):List (Int×Int)×Int) k=k (decide (Jk l x)):=ca_s (c:=c_additiveref18_inside) (Jsv l x hl)
open Classical in
theorem Jdu (r:Reg) (c:Cell) (hl:LimR r):@t_additiveref18_Contains wv (r,c)=some (decide (RegOK r∧Kz r c)):=by
 unfold t_additiveref18_Contains
 dsimp only
 rw [Zl hl]
 by_cases h:RegOK r
 ·rw [br_t (by simp [h]),Jvc hl,k_inside (Ju8 hl _)]
  simp only [h,Jwf h,true_and]
 ·rw [br_f (by simp [h]),decide_eq_false fun q=>h q.1]
open Classical in
theorem Jf6 {α:Type} {r:Reg} {c:Cell} (hl:LimR r) (k:Bool→Option α):@W.call wv α c_additiveref18_Contains ((r,c):List (Int×List (Int×Int))×(Int×Int)) k=k (decide (RegOK r∧Kz r c)):=ca_s (c:=c_additiveref18_Contains) (Jdu r c hl)
end Go.Proofs.Ytmfagdfkpjgeiaa
namespace Go.Proofs.Ytmfagdfkpjgeiaa
open Go Go.Vv Go.Dn Go.Dn.W
set_option linter.unusedVariables false
set_option linter.unusedSimpArgs false
set_option maxRecDepth 100000
theorem fitB {α:Type} {b:Nat} {n:Int} {x:Option α} (h:n≤1000000001) (h0:0≤n) (hb:b≤64):@W.gd wv α (@W.ft wv b n) x=x:=by
 refine gd_ft ⟨?_,by omega⟩
 have:n * (b:Int)≤1000000001 * 64:=Int.mul_le_mul h (by omega) (by omega) (by omega)
 unfold room
 omega
theorem Jat {α:Type} {n:Int} {x:Option α} (h:n≤1000000001) (h0:0≤n):@W.gd wv α (@W.ft wv 16 n) x=x:=fitB h h0 (by decide)
theorem fit40 {α:Type} {n:Int} {x:Option α} (h:n≤1000000001) (h0:0≤n):@W.gd wv α (@W.ft wv 40 n) x=x:=fitB h h0 (by decide)
theorem fit32 {α:Type} {n:Int} {x:Option α} (h:n≤1000000001) (h0:0≤n):@W.gd wv α (@W.ft wv 32 n) x=x:=fitB h h0 (by decide)
theorem jg (y:Int) (u:Run):(Y6 y u).length=(u.2 - u.1).toNat:=by simp [Y6,Juf]
theorem Jq7 (y a:Int) (n:Nat):((rng a (n+1)).map fun x=>((x,y):Cell))=((rng a n).map fun x=>((x,y):Cell))++[(a+(n:Int),y)]:=by rw [rng_succ,Bp];rfl
theorem Jlv {w:Row} {k:Nat} {u:Run} (h:w.2[k]?=some u):(w.2.take (k+1)).flatMap (Y6 w.1)=(w.2.take k).flatMap (Y6 w.1)++Y6 w.1 u:=jp h
theorem Jj8 {α β:Type} (f:α→List β) (l:List α) (k:Nat):((l.take k).flatMap f).length≤(l.flatMap f).length:=by
 conv=>rhs;rw [←Bl k l,Br,Am]
 omega
theorem Jfx {α β:Type} (f:α→List β) {l:List α} {x:α} {k:Nat} (h:l[k]?=some x):((l.take k).flatMap f).length+(f x).length≤(l.flatMap f).length:=by
 have:=Jj8 f l (k+1)
 rw [jp h,Am] at this
 exact this
theorem Jo7 {r:Reg} {w:Row} {u:Run} {i k:Nat} (hw:r[i]?=some w) (hu:w.2[k]?=some u):((r.take i).flatMap rowC).length+((w.2.take k).flatMap (Y6 w.1)).length+(Y6 w.1 u).length≤(J7 r).length:=by
 have h1:=Jfx rowC hw
 have h2:=Jfx (Y6 w.1) hu
 unfold J7
 have:(rowC w).length=(w.2.flatMap (Y6 w.1)).length:=rfl
 omega
open Classical in
theorem Jlk (r:Reg) (hl:LimR r) (hc:RegOK r→(J7 r).length≤1000000000):@t_additiveref18_Cells wv r=some (if RegOK r then J7 r else []):=by
 unfold t_additiveref18_Cells
 rw [Zl hl]
 by_cases h:RegOK r
 case neg=>rw [br_t (by simp [w_nt,h]),if_neg h]
 rw [br_f (by simp [w_nt,h]),if_pos h]
 have hL:=hl.1
 have hc:=hc h
 have hloop:=Ka (b:=@t_additiveref18_Cells_L0 wv) (e:=⟨J7 r,()⟩) (fun i=>⟨(i:Int),⟨r,⟨(r.take i).flatMap rowC,()⟩⟩⟩) r.length (by omega) (fun i hi=>by
  have hw:=Ab hi
  generalize r[i]=w at hw
  have hLw:=hl.2 w (Ac hw)
  have hinner:=Ka (b:=@t_additiveref18_Cells_L1 wv) (e:=⟨(i:Int),⟨r,⟨(r.take i).flatMap rowC++rowC w,()⟩⟩⟩) (fun k=>⟨(i:Int),⟨(k:Int),⟨r,⟨(r.take i).flatMap rowC++(w.2.take k).flatMap (Y6 w.1),()⟩⟩⟩⟩) w.2.length (by omega) (fun k hk=>by
   have hu:=Ab hk
   generalize w.2[k]=u at hu
   have hb:=(h.rs w (Ac hw)).bd u (Ac hu)
   have hle:=Jo7 hw hu
   rw [jg] at hle
   have hin:=Ka (b:=@t_additiveref18_Cells_L2 wv) (e:=⟨(i:Int),⟨(k:Int),⟨r,⟨(r.take i).flatMap rowC++(w.2.take k).flatMap (Y6 w.1)++Y6 w.1 u,()⟩⟩⟩⟩)
    (fun j=>⟨(i:Int),⟨(k:Int),⟨u.1+(j:Int),⟨r,⟨(r.take i).flatMap rowC++(w.2.take k).flatMap (Y6 w.1)++(rng u.1 j).map fun x=>(x,w.1),()⟩⟩⟩⟩⟩) (u.2 - u.1).toNat (by omega) (fun j hj=>by
    unfold t_additiveref18_Cells_L2
    dsimp only
    simp only [ge_s (fg hw),ge_s (fg hu)]
    rw [Kj (by omega),w_ln,w_pl,Jat (by simp only [Am,Dh,Juf];omega) (by omega),Jx,wr (by omega) (by omega),w_ap,Jq7,show u.1+(j:Int)+1=u.1+((j+1:Nat):Int) by omega,Bu _ _ [_]]) (by
    unfold t_additiveref18_Cells_L2
    dsimp only
    simp only [ge_s (fg hw),ge_s (fg hu)]
    rw [Jy (by omega)]
    rfl)
   have e0:u.1+((0:Nat):Int)=u.1:=by omega
   simp only [e0,rng,List.range_zero,List.map_nil,Bo] at hin
   unfold t_additiveref18_Cells_L1
   dsimp only
   simp only [ge_s (fg hw),ge_s (fg hu)]
   rw [w_ln,Kj (by omega),lo_s hin]
   dsimp only
   rw [Jx,wr (by omega) (by omega),Jlv hu,Bu]
   rfl) (by
   unfold t_additiveref18_Cells_L1
   dsimp only
   simp only [ge_s (fg hw)]
   rw [w_ln,Jy (by omega),Ay]
   rfl)
  simp only [Bb,List.flatMap_nil,Bo] at hinner
  unfold t_additiveref18_Cells_L0
  dsimp only
  rw [w_ln,Kj (by omega)]
  refine (lo_s hinner).trans ?_
  dsimp only
  rw [Jx,wr (by omega) (by omega),jp hw]
  rfl) (by unfold t_additiveref18_Cells_L0;dsimp only;rw [w_ln,Jy (by omega),Ay];rfl)
 exact lo_s hloop
open Classical in
theorem Jm5 {α:Type} {r:Reg} (hl:LimR r) (hc:RegOK r→(J7 r).length≤1000000000) (k:List (Int×Int)→Option α):@W.call wv α c_additiveref18_Cells r k=k (if RegOK r then J7 r else []):=ca_s (c:=c_additiveref18_Cells) (Jlk r hl hc)
end Go.Proofs.Ytmfagdfkpjgeiaa
namespace Go.Proofs.Ytmfagdfkpjgeiaa
open Go Go.Vv Go.Dn Go.Dn.W
set_option linter.unusedVariables false
set_option linter.unusedSimpArgs false
set_option maxRecDepth 100000
structure Jly (l:List Run):Prop where
 bd:∀u∈l,u.1<u.2
 pw:l.Pairwise fun a b=>a.2<b.1
theorem normL_ok {lo hi:Int} {l:List Run} (h:Jly l) (hb:∀x,Jk l x→lo≤x∧x<hi):RunsOK lo hi l:=by
 refine ⟨fun u hu=>?_,h.pw⟩
 have h1:=h.bd u hu
 have h2:=hb u.1 ⟨u,hu,by omega,by omega⟩
 have h3:=hb (u.2 - 1) ⟨u,hu,by omega,by omega⟩
 omega
theorem Jrd {l:List Run} {u:Run}:Jly (l++[u])↔Jly l∧u.1<u.2∧∀v∈l,v.2<u.1:=by
 constructor
 ·rintro ⟨h1,h2⟩
  obtain ⟨p1,p2,p3⟩:=Bc.1 h2
  exact ⟨⟨fun x hx=>h1 x (Bn _ hx),p1⟩,h1 u (by simp),fun v hv=>p3 v hv u (by simp)⟩
 ·rintro ⟨⟨h1,h2⟩,h3,h4⟩
  refine ⟨fun x hx=>?_,Bc.2 ⟨h2,Dd _ _,fun v hv w hw=>?_⟩⟩
  ·rcases Ae.1 hx with h|h
   ·exact h1 x h
   ·rw [Ad.1 h];exact h3
  ·rw [Ad.1 hw];exact h4 v hv
def bnd (l:List Run) (i:Nat):Int:=match l[i / 2]? with
 | some u=>if i % 2=1 then u.2 else u.1
 | none=>1048577
theorem over_ok (l:List Run) (i:Nat) (hl:l.length≤1000000000):@t_runs_bounds_over wv (l,(i:Int))=some (decide (i=2 * l.length)):=by
 unfold t_runs_bounds_over
 dsimp only
 rw [Q4,w_mul,w_ln,wr (by omega) (by omega)]
 refine congrArg some ?_
 rw [Di,beq_iff_eq,decide_eq_true_eq]
 omega
theorem Jlz {α:Type} {l:List Run} {i:Nat} (hl:l.length≤1000000000) (k:Bool→Option α):@W.call wv α c_runs_bounds_over ((l,(i:Int)):List (Int×Int)×Int) k=k (decide (i=2 * l.length)):=ca_s (c:=c_runs_bounds_over) (over_ok l i hl)
theorem ins_ok (l:List Run) (i:Nat):@t_runs_bounds_inside wv (l,(i:Int))=some (decide (i % 2=1)):=by
 unfold t_runs_bounds_inside
 dsimp only
 rw [gd_t (by rfl),Jta,Q4,Be (by omega)]
 refine congrArg some ?_
 rw [Di,beq_iff_eq,decide_eq_true_eq]
 omega
theorem k_ins {α:Type} {l:List Run} {i:Nat} (k:Bool→Option α):@W.call wv α c_runs_bounds_inside ((l,(i:Int)):List (Int×Int)×Int) k=k (decide (i % 2=1)):=ca_s (c:=c_runs_bounds_inside) (ins_ok l i)
theorem next_ok (l:List Run) (i:Nat) (hl:l.length≤1000000000) (hi:i≤2 * l.length):@t_runs_bounds_next wv (l,(i:Int))=some (bnd l i):=by
 unfold t_runs_bounds_next
 dsimp only
 rw [Jlz hl]
 by_cases h:i=2 * l.length
 ·rw [br_t (decide_eq_true h)]
  have:l[i / 2]?=none:=Aw (by omega)
  simp only [bnd,this]
 ·rw [br_f (decide_eq_false h),k_ins]
  have hx:=Ab (l:=l) (i:=i / 2) (by omega)
  have hq:@W.ar wv .quo .i64 (i:Int) 2=((i / 2:Nat):Int):=by
   rw [w_quo,Int.tdiv_eq_ediv_of_nonneg (by omega),wr (by omega) (by omega)];omega
  simp only [bnd,hx]
  by_cases hp:i % 2=1
  ·rw [br_t (decide_eq_true hp),gd_t (by rfl),hq,ge_s (fg hx),if_pos hp]
  ·rw [br_f (decide_eq_false hp),gd_t (by rfl),hq,ge_s (fg hx),if_neg hp]
theorem Jo4 {α:Type} {l:List Run} {i:Nat} (hl:l.length≤1000000000) (hi:i≤2 * l.length) (k:Int→Option α):@W.call wv α c_runs_bounds_next ((l,(i:Int)):List (Int×Int)×Int) k=k (bnd l i):=ca_s (c:=c_runs_bounds_next) (next_ok l i hl hi)
def At (l:List Run) (p:Int) (i:Nat):Prop:=i≤2 * l.length∧(∀k,k<i→bnd l k≤p)∧∀k,i≤k→p<bnd l k∨2 * l.length≤k
theorem at_in {l:List Run} {p:Int} {i:Nat} (h:At l p i):Jk l p↔i % 2=1:=by
 obtain ⟨h0,h1,h2⟩:=h
 have hb:∀q u,l[q]?=some u→bnd l (2 * q)=u.1∧bnd l (2 * q+1)=u.2:=fun q u hu=>by
  constructor
  ·simp only [bnd,show 2 * q / 2=q by omega,hu];rw [if_neg (by omega)]
  ·simp only [bnd,show (2 * q+1) / 2=q by omega,hu];rw [if_pos (by omega)]
 constructor
 ·rintro ⟨u,hu,a,b⟩
  obtain ⟨q,hq⟩:=Av.1 hu
  have hlt:=(Aa.1 hq).1
  obtain ⟨e1,e2⟩:=hb q u hq
  by_cases c1:i≤2 * q
  ·have:=h2 (2 * q) c1;omega
  ·by_cases c2:2 * q+1<i
   ·have:=h1 (2 * q+1) c2;omega
   ·omega
 ·intro hp
  have hlt:i / 2<l.length:=by omega
  have hu:=Ab hlt
  obtain ⟨e1,e2⟩:=hb (i / 2) _ hu
  have a1:=h1 (2 * (i / 2)) (by omega)
  have a2:=h2 (2 * (i / 2)+1) (by omega)
  exact ⟨_,Ac hu,by omega,by omega⟩
theorem bnd_mono {lo hi:Int} {l:List Run} (h:RunsOK lo hi l) {i:Nat} (hi':i+1<2 * l.length):bnd l i<bnd l (i+1):=by
 have hu:=Ab (l:=l) (i:=i / 2) (by omega)
 have hv:=Ab (l:=l) (i:=(i+1) / 2) (by omega)
 simp only [bnd,hu,hv]
 by_cases hp:i % 2=1
 ·rw [if_pos hp,if_neg (by omega)]
  have e:(i+1) / 2=i / 2+1:=by omega
  have:=Jpw h.pw hu (by rw [←e];exact hv)
  exact this
 ·rw [if_neg hp,if_pos (by omega)]
  have e:(i+1) / 2=i / 2:=by omega
  simp only [e]
  exact (h.bd _ (Ac hu)).2.1
theorem Joz {l:List Run} (h:RunsOK (-1048576) 1048576 l) (i:Nat):-1048576≤bnd l i∧bnd l i≤1048577:=by
 unfold bnd
 split
 ·rename_i u hu
  have:=h.bd u (Ac hu)
  split<;>omega
 ·omega
theorem Jpr {l:List Run} (h:RunsOK (-1048576) 1048576 l):∀ {i k:Nat},i<k→k<2 * l.length→bnd l i<bnd l k
 | i,0,h1,_=>by omega
 | i,k+1,h1,h2=>by
  have:=bnd_mono h h2
  by_cases e:i=k
  ·subst e;exact this
  ·have:=Jpr h (i:=i) (k:=k) (by omega) (by omega);omega
theorem Jvr {l:List Run} (h:RunsOK (-1048576) 1048576 l) {p m:Int} {i:Nat} (ha:At l p i) (hm:m≤bnd l i) (hpm:p<m) (hm2:m<1048577):At l m (if bnd l i=m then i+1 else i)∧∀x,p≤x→x<m→(Jk l x↔i % 2=1):=by
 have ha':=ha
 obtain ⟨h0,h1,h2⟩:=ha
 refine ⟨?_,fun x hx1 hx2=>at_in ⟨h0,fun k hk=>by have:=h1 k hk;omega,fun k hk=>?_⟩⟩
 ·by_cases e:bnd l i=m
  ·rw [if_pos e]
   have hlt:i<2 * l.length:=by
    by_cases q:i<2 * l.length
    ·exact q
    ·have:l[i / 2]?=none:=Aw (by omega)
     simp only [bnd,this] at e
     omega
   refine ⟨by omega,fun k hk=>?_,fun k hk=>?_⟩
   ·by_cases q:k=i
    ·subst q;omega
    ·have:=h1 k (by omega);omega
   ·by_cases q:2 * l.length≤k
    ·exact .inr q
    ·left
     have:=Jpr h (i:=i) (k:=k) (by omega) (by omega)
     omega
  ·rw [if_neg e]
   refine ⟨h0,fun k hk=>by have:=h1 k hk;omega,fun k hk=>?_⟩
   by_cases q:2 * l.length≤k
   ·exact .inr q
   ·left
    by_cases q2:k=i
    ·subst q2;omega
    ·have:=Jpr h (i:=i) (k:=k) (by omega) (by omega);omega
 ·by_cases q:2 * l.length≤k
  ·exact .inr q
  ·left
   by_cases q2:k=i
   ·subst q2;omega
   ·have:=Jpr h (i:=i) (k:=k) (by omega) (by omega);omega
def Jid (was:Bool) (a:List Run) (i:Nat) (b:List Run) (j:Nat) (out:List Run):HP Bool (HP (List (Int×Int)) (HP Int (HP (List (Int×Int)) (HP Int (HP (List (Int×Int)) Unit))))) :=
 let m:=min (bnd a i) (bnd b j)
 let i':=if bnd a i=m then i+1 else i
 let j':=if bnd b j=m then j+1 else j
 let now:=decide (i' % 2=1)&&!decide (j' % 2=1)
 ⟨now,⟨a,⟨(i':Int),⟨b,⟨(j':Int),⟨if now=true∧was=false then out++[(m,0)] else if now=false∧was=true then Qy out (fun u=>(u.1,m)) else out,()⟩⟩⟩⟩⟩⟩
theorem Jnm {l:List Run} (hne:l≠[]) (m:Int):∃v,l[l.length - 1]?=some v∧l.set (l.length - 1) (v.1,m)=Qy l fun u=>(u.1,m):=by
 obtain ⟨r,v,rfl⟩:∃r v,l=r++[v]:=by
  rcases l.eq_nil_or_concat with rfl|⟨r,v,e⟩
  ·exact (hne rfl).elim
  ·exact ⟨r,v,by rw [e,Dl]⟩
 have e:(r++[v]).length - 1=r.length:=by simp
 rw [e]
 exact ⟨v,get_last r v,by rw [set_last,Zc]⟩
theorem mn_min (x y:Int):@W.mn wv x y=min x y:=by rw [w_mn];omega
theorem sub_step (was:Bool) (a b out:List Run) (i j:Nat) (ha:a.length≤1000000000) (hb:b.length≤1000000000) (hi:i≤2 * a.length) (hj:j≤2 * b.length) (ho:out.length≤1000000000) (hw:was=true→out≠[]) (hne:¬(i=2 * a.length∧j=2 * b.length)) :
  @t_runs_Subtract_L0 wv ⟨was,⟨a,⟨(i:Int),⟨b,⟨(j:Int),⟨out,()⟩⟩⟩⟩⟩⟩=some (.go (Jid was a i b j out)):=by
 have j1:@t_runs_Subtract_J1 wv ⟨was,⟨a,⟨(i:Int),⟨b,⟨(j:Int),⟨out,()⟩⟩⟩⟩⟩⟩=some (.inl ⟨was,⟨a,⟨(i:Int),⟨b,⟨(j:Int),⟨out,()⟩⟩⟩⟩⟩⟩):=by
  unfold t_runs_Subtract_J1
  dsimp only
  rw [Jlz ha]
  by_cases c1:i=2 * a.length
  ·rw [br_f (by simp [w_nt,c1]),Jlz hb,br_t (by simp [w_nt];exact fun q=>hne ⟨c1,q⟩)]
  ·rw [br_t (by simp [w_nt,c1])]
 generalize hm:min (bnd a i) (bnd b j)=m
 have j2:@t_runs_Subtract_J2 wv ⟨was,⟨a,⟨(i:Int),⟨b,⟨(j:Int),⟨out,()⟩⟩⟩⟩⟩⟩ (bnd a i) (bnd b j)=some ⟨was,⟨m,⟨a,⟨((if bnd a i=m then i+1 else i:Nat):Int),⟨b,⟨(j:Int),⟨out,()⟩⟩⟩⟩⟩⟩⟩:=by
  unfold t_runs_Subtract_J2
  dsimp only
  rw [Jo4 ha hi,mn_min,hm,Jx,wr (by omega) (by omega)]
  by_cases c:bnd a i=m
  ·rw [br_t (by rw [Q4];simp [c]),if_pos c];rfl
  ·rw [br_f (by rw [Q4];simp [c]),if_neg c]
 generalize hi':(if bnd a i=m then i+1 else i)=i' at j2
 have j3:@t_runs_Subtract_J3 wv ⟨was,⟨m,⟨a,⟨(i':Int),⟨b,⟨(j:Int),⟨out,()⟩⟩⟩⟩⟩⟩⟩=some ⟨was,⟨m,⟨a,⟨(i':Int),⟨b,⟨((if bnd b j=m then j+1 else j:Nat):Int),⟨out,()⟩⟩⟩⟩⟩⟩⟩:=by
  unfold t_runs_Subtract_J3
  dsimp only
  rw [Jo4 hb hj,Jx,wr (by omega) (by omega)]
  by_cases c:bnd b j=m
  ·rw [br_t (by rw [Q4];simp [c]),if_pos c];rfl
  ·rw [br_f (by rw [Q4];simp [c]),if_neg c]
 generalize hj':(if bnd b j=m then j+1 else j)=j' at j3
 have j4:@t_runs_Subtract_J4 wv ⟨was,⟨m,⟨a,⟨(i':Int),⟨b,⟨(j':Int),⟨out,()⟩⟩⟩⟩⟩⟩⟩=some ⟨was,⟨m,⟨decide (i' % 2=1)&&!decide (j' % 2=1),⟨a,⟨(i':Int),⟨b,⟨(j':Int),⟨out,()⟩⟩⟩⟩⟩⟩⟩⟩:=by
  unfold t_runs_Subtract_J4
  dsimp only
  rw [k_ins,k_ins]
  by_cases c:i' % 2=1
  ·rw [br_t (by simp [c])];simp [c,w_nt]
  ·rw [br_f (by simp [c])];simp [c]
 generalize hnow:(decide (i' % 2=1)&&!decide (j' % 2=1))=now at j4
 have hfit:∀ {α:Type} (x:Option α),@W.gd wv α (@W.ft wv 16 (@W.pl wv (@W.ln wv (Int×Int) out) 1)) x=x:=fun x=>by rw [w_ln,w_pl];exact Jat (by omega) (by omega)
 have j5:@t_runs_Subtract_J5 wv ⟨was,⟨m,⟨now,⟨a,⟨(i':Int),⟨b,⟨(j':Int),⟨out,()⟩⟩⟩⟩⟩⟩⟩⟩=some ⟨now,⟨a,⟨(i':Int),⟨b,⟨(j':Int),⟨if now=true∧was=false then out++[(m,0)] else if now=false∧was=true then Qy out (fun u=>(u.1,m)) else out,()⟩⟩⟩⟩⟩⟩:=by
  unfold t_runs_Subtract_J5
  dsimp only
  rw [hfit]
  have nt1:@W.nt wv true=false:=rfl
  have nt0:@W.nt wv false=true:=rfl
  cases now with
  | true =>
   cases was with
   | true=>rw [nt1,br_t rfl,br_f rfl,br_f rfl,if_neg (by simp),if_neg (by simp)]
   | false=>rw [nt0,br_t rfl,br_t rfl,if_pos (by simp),w_ap]
  | false =>
   cases was with
   | false=>rw [nt0,br_f rfl,br_t rfl,br_f rfl,if_neg (by simp),if_neg (by simp)]
   | true =>
    have hpos:=Dr.2 (hw rfl)
    obtain ⟨v,hv,h2⟩:=Jnm (hw rfl) m
    rw [nt0,br_f rfl,br_t rfl,br_t rfl,w_ln,Qj,wr (by omega) (by omega),Jcg ⟨by omega,by omega⟩,ge_s (fgz (out.length - 1) (by omega) hv),if_neg (by simp),if_pos (by simp),w_st,show ((out.length:Int) - 1).toNat=out.length - 1 by omega,h2]
 unfold t_runs_Subtract_L0
 rw [jo_s j1]
 dsimp only
 rw [Jo4 ha hi,Jo4 hb hj,jo_s j2,jo_s j3,jo_s j4,jo_s j5]
 unfold Jid
 dsimp only
 rw [hm,hi',hj',hnow]
def SubI (a b:List Run) (p:Int) (was:Bool) (i j:Nat) (out:List Run):Prop :=
 At a p i∧At b p j∧was=(decide (i % 2=1)&&!decide (j % 2=1)) ∧
 ((was=false∧Jly out∧(∀u∈out,u.2≤p)∧∀x,x<p→(Jk out x↔Jk a x∧¬Jk b x)) ∨
  ∃(o:List Run) (s z:Int),out=o++[(s,z)]∧was=true∧s≤p∧Jly o∧(∀u∈o,u.2<s)∧(∀x,x<s→(Jk o x↔Jk a x∧¬Jk b x))∧∀x,s≤x→x≤p→Jk a x∧¬Jk b x)
theorem sub_inv {a b:List Run} (ha:RunsOK (-1048576) 1048576 a) (hb:RunsOK (-1048576) 1048576 b) {p:Int} {was:Bool} {i j:Nat} {out:List Run} (hI:SubI a b p was i j out) (hne:¬(i=2 * a.length∧j=2 * b.length)) :
  ∃m,p<m∧∃(was':Bool) (i' j':Nat) (out':List Run),Jid was a i b j out=⟨was',⟨a,⟨(i':Int),⟨b,⟨(j':Int),⟨out',()⟩⟩⟩⟩⟩⟩∧SubI a b m was' i' j' out'∧i+j<i'+j'∧out'.length≤out.length+1:=by
 obtain ⟨hA,hB,hw,hO⟩:=hI
 have hm2:min (bnd a i) (bnd b j)<1048577:=by
  have q1:i<2 * a.length→bnd a i<1048577:=fun q=>by
   have hu:=Ab (l:=a) (i:=i / 2) (by omega)
   have:=ha.bd _ (Ac hu)
   simp only [bnd,hu];split<;>omega
  have q2:j<2 * b.length→bnd b j<1048577:=fun q=>by
   have hu:=Ab (l:=b) (i:=j / 2) (by omega)
   have:=hb.bd _ (Ac hu)
   simp only [bnd,hu];split<;>omega
  have h1:=hA.1
  have h2:=hB.1
  have h3:i<2 * a.length∨j<2 * b.length:=by omega
  rcases h3 with h3|h3
  ·have:=q1 h3;omega
  ·have:=q2 h3;omega
 have hp1:p<bnd a i:=by
  rcases hA.2.2 i (Aq _) with h|h
  ·exact h
  ·have e:a[i / 2]?=none:=Aw (by omega)
   have:p<1048577:=by
    have q:At b p j:=hB
    by_cases q2:j<2 * b.length
    ·rcases hB.2.2 j (Aq _) with h'|h'
     ·have:=Joz hb j;omega
     ·omega
    ·exact (hne ⟨by have:=hA.1;omega,by have:=hB.1;omega⟩).elim
   simp only [bnd,e];exact this
 have hp2:p<bnd b j:=by
  rcases hB.2.2 j (Aq _) with h|h
  ·exact h
  ·have e:b[j / 2]?=none:=Aw (by omega)
   have:p<1048577:=by have:=Joz ha i;omega
   simp only [bnd,e];exact this
 generalize hmdef:min (bnd a i) (bnd b j)=m at hm2
 have hpm:p<m:=by omega
 obtain ⟨hA',hAx⟩:=Jvr ha hA (m:=m) (by omega) hpm hm2
 obtain ⟨hB',hBx⟩:=Jvr hb hB (m:=m) (by omega) hpm hm2
 refine ⟨m,hpm,_,_,_,_,by unfold Jid;rw [hmdef],?_,?_,?_⟩
 ·refine ⟨hA',hB',rfl,?_⟩
  have hAm:=at_in hA'
  have hBm:=at_in hB'
  generalize (if bnd a i=m then i+1 else i)=i' at *
  generalize (if bnd b j=m then j+1 else j)=j' at *
  have hD:∀x,p≤x→x<m→(Jk a x∧¬Jk b x↔was=true):=fun x h1 h2=>by
   rw [hAx x h1 h2,hBx x h1 h2,hw];simp
  have hDm:Jk a m∧¬Jk b m↔(decide (i' % 2=1)&&!decide (j' % 2=1))=true:=by
   rw [hAm,hBm];simp
  generalize (decide (i' % 2=1)&&!decide (j' % 2=1))=now at *
  rcases hO with ⟨w0,n1,n2,n3⟩|⟨o,s,z,rfl,w0,hs,n1,n2,n3,n4⟩
  ·subst w0
   cases now with
   | false =>
    left
    rw [if_neg (by simp),if_neg (by simp)]
    refine ⟨rfl,n1,fun u hu=>by have:=n2 u hu;omega,fun x hx=>?_⟩
    by_cases q:x<p
    ·exact n3 x q
    ·rw [hD x (by omega) hx]
     refine ⟨fun ⟨u,hu,h1,h2⟩=>by have:=n2 u hu;omega,fun h=>by simp at h⟩
   | true =>
    right
    rw [if_pos (by simp)]
    refine ⟨out,m,0,rfl,rfl,Int.le_refl _,n1,fun u hu=>by have:=n2 u hu;omega,fun x hx=>?_,fun x h1 h2=>?_⟩
    ·by_cases q:x<p
     ·exact n3 x q
     ·rw [hD x (by omega) hx]
      refine ⟨fun ⟨u,hu,h1,h2⟩=>by have:=n2 u hu;omega,fun h=>by simp at h⟩
    ·have:x=m:=by omega
     subst this
     exact hDm.2 rfl
  ·subst w0
   cases now with
   | true =>
    right
    rw [if_neg (by simp),if_neg (by simp)]
    refine ⟨o,s,z,rfl,rfl,by omega,n1,n2,n3,fun x h1 h2=>?_⟩
    by_cases q:x≤p
    ·exact n4 x h1 q
    ·by_cases q2:x=m
     ·subst q2;exact hDm.2 rfl
     ·exact (hD x (by omega) (by omega)).2 rfl
   | false =>
    left
    rw [if_neg (by simp),if_pos (by simp),Zc]
    refine ⟨rfl,Jrd.2 ⟨n1,by dsimp only;omega,n2⟩,fun u hu=>?_,fun x hx=>?_⟩
    ·rcases Ae.1 hu with h|h
     ·have:=n2 u h;omega
     ·rw [Ad.1 h];exact Int.le_refl _
    ·rw [Jng]
     dsimp only
     by_cases q:x<s
     ·rw [n3 x q]
      exact ⟨fun h=>h.resolve_right fun h=>by omega,.inl⟩
     ·have hin:Jk a x∧¬Jk b x:=by
       by_cases q2:x≤p
       ·exact n4 x (by omega) q2
       ·exact (hD x (by omega) hx).2 rfl
      exact ⟨fun _=>hin,fun _=>.inr ⟨by omega,hx⟩⟩
 ·by_cases q:bnd a i=m
  ·rw [if_pos q];split<;>omega
  ·have:bnd b j=m:=by omega
   rw [if_pos this];split<;>omega
 ·have hml:∀(l:List Run) (f:Run→Run),(Qy l f).length=l.length:=fun l f=>by
   rcases l.eq_nil_or_concat with rfl|⟨r,v,rfl⟩
   ·rfl
   ·rw [Dl,Zc];simp
  have key:∀nw ws:Bool,(if nw=true∧ws=false then out++[(m,0)] else if nw=false∧ws=true then Qy out (fun u=>(u.1,m)) else out).length≤out.length+1:=fun nw ws=>by
   cases nw<;>cases ws<;>simp [hml]
  exact key _ _
theorem sub_loop (a b:List Run) (hla:a.length≤100000000) (hlb:b.length≤100000000) (ha:RunsOK (-1048576) 1048576 a) (hb:RunsOK (-1048576) 1048576 b) :
  ∃e,K3 (@t_runs_Subtract_L0 wv) bigN ⟨false,⟨a,⟨0,⟨b,⟨0,⟨[],()⟩⟩⟩⟩⟩⟩=some e∧Jly e.hd∧∀x,Jk e.hd x↔Jk a x∧¬Jk b x:=by
 refine Jkl (b:=@t_runs_Subtract_L0 wv) (fun s=>∃(p:Int) (was:Bool) (i j:Nat) (out:List Run),s=⟨was,⟨a,⟨(i:Int),⟨b,⟨(j:Int),⟨out,()⟩⟩⟩⟩⟩⟩∧SubI a b p was i j out∧out.length≤i+j)
  (fun e=>Jly e.hd∧∀x,Jk e.hd x↔Jk a x∧¬Jk b x) (fun s=>(2 * (a.length:Int)+2 * (b.length:Int) - s.tl.tl.hd - s.tl.tl.tl.tl.hd).toNat) ?_ ⟨-1048577,false,0,0,[],rfl,⟨⟨by omega,by omega,fun k hk=>?_⟩,⟨by omega,by omega,fun k hk=>?_⟩,rfl,.inl ⟨rfl,⟨by simp,.nil⟩,by simp,fun x hx=>?_⟩⟩,by simp⟩ (by dsimp only;omega)
 ·rintro s ⟨p,was,i,j,out,rfl,hI,ho⟩
  have h1:=hI.1.1
  have h2:=hI.2.1.1
  by_cases hne:i=2 * a.length∧j=2 * b.length
  ·right
   obtain ⟨rfl,rfl⟩:=hne
   have j1:@t_runs_Subtract_J1 wv ⟨was,⟨a,⟨((2 * a.length:Nat):Int),⟨b,⟨((2 * b.length:Nat):Int),⟨out,()⟩⟩⟩⟩⟩⟩=some (.inr ⟨out,()⟩):=by
    unfold t_runs_Subtract_J1
    dsimp only
    rw [Jlz (by omega),br_f (by simp [w_nt]),Jlz (by omega),br_f (by simp [w_nt])]
   unfold t_runs_Subtract_L0
   rw [jo_s j1]
   refine ⟨_,rfl,?_⟩
   obtain ⟨hA,hB,hw,hO⟩:=hI
   have hwf:was=false:=by rw [hw];simp
   rcases hO with ⟨w0,n1,n2,n3⟩|⟨o,s,z,rfl,w0,-⟩
   ·refine ⟨n1,fun x=>?_⟩
    by_cases q:x<p
    ·exact n3 x q
    ·refine ⟨fun ⟨u,hu,h3,h4⟩=>by have:=n2 u hu;omega,fun ⟨h3,h4⟩=>?_⟩
     have:At a x (2 * a.length):=⟨Aq _,fun k hk=>by have:=hA.2.1 k hk;omega,fun k hk=>.inr hk⟩
     have:=(at_in this).1 h3
     omega
   ·rw [hwf] at w0;cases w0
  ·left
   obtain ⟨m,hpm,was',i',j',out',e,hI',hlt,hlen⟩:=sub_inv ha hb hI hne
   refine ⟨_,sub_step was a b out i j (by omega) (by omega) h1 h2 (by omega) (fun q=>?_) hne,?_,?_⟩
   ·rcases hI.2.2.2 with ⟨w0,-⟩|⟨o,s,z,rfl,-⟩
    ·rw [w0] at q;cases q
    ·simp
   ·rw [e]
    exact ⟨m,was',i',j',out',rfl,hI',by omega⟩
   ·rw [e]
    have h1':=hI'.1.1
    have h2':=hI'.2.1.1
    dsimp only
    omega
 ·by_cases q:2 * a.length≤k
  ·exact .inr q
  ·left;have:=Joz ha k;omega
 ·by_cases q:2 * b.length≤k
  ·exact .inr q
  ·left;have:=Joz hb k;omega
 ·constructor
  ·rintro ⟨u,hu,-⟩;cases hu
  ·rintro ⟨⟨u,hu,h1,h2⟩,-⟩
   have:=ha.bd u hu;omega
open Classical in
theorem Jml (a b:List Run) (hla:a.length≤100000000) (hlb:b.length≤100000000) (ha:RunsOK (-1048576) 1048576 a) (hb:RunsOK (-1048576) 1048576 b) :
  ∃l,@t_runs_Subtract wv (a,b)=some l∧Jly l∧∀x,Jk l x↔Jk a x∧¬Jk b x:=by
 obtain ⟨e,he,h1,h2⟩:=sub_loop a b hla hlb ha hb
 refine ⟨e.hd,?_,h1,h2⟩
 unfold t_runs_Subtract
 dsimp only
 rw [Ys (by omega),br_f (by simp [w_nt,ha]),Ys (by omega),br_f (by simp [w_nt,hb])]
 exact lo_s he
end Go.Proofs.Ytmfagdfkpjgeiaa
namespace Go.Proofs.Ytmfagdfkpjgeiaa
open Go Go.Vv Go.Dn Go.Dn.W
set_option linter.unusedVariables false
set_option linter.unusedSimpArgs false
set_option maxRecDepth 100000
end Go.Proofs.Ytmfagdfkpjgeiaa
namespace Go.Proofs.Ytmfagdfkpjgeiaa
open Go Go.Vv Go.Dn Go.Dn.W
set_option linter.unusedVariables false
set_option linter.unusedSimpArgs false
set_option maxRecDepth 100000
def rowY (r:Reg) (y:Int):List Run:=((r.find? fun w=>w.1==y).map Prod.snd).getD []
theorem zd {r:Reg} (h:RegOK r) {w:Row} (hw:w∈r):rowY r w.1=w.2:=by
 have hp:=h.pw
 clear h
 induction r with
 | nil=>cases hw
 | cons v r ih =>
  obtain ⟨p1,p2⟩:=Ak.1 hp
  unfold rowY
  rcases Ag.1 hw with rfl|hw'
  ·simp
  ·have hlt:=p1 w hw'
   rw [Df (by simp;omega)]
   exact ih hw' p2
theorem zb {r:Reg} {y:Int} (h:∀w∈r,w.1≠y):rowY r y=[]:=by
 unfold rowY
 rw [Bs.2 (fun w hw=>by simp [h w hw])]
 rfl
theorem Ja9 {r:Reg} (h:RegOK r) {x y:Int}:Kz r (x,y)↔Jk (rowY r y) x:=by
 constructor
 ·rintro ⟨w,hw,e,hx⟩
  have e:w.1=y:=e
  rw [←e,zd h hw];exact hx
 ·intro hx
  by_cases hy:∃w∈r,w.1=y
  ·obtain ⟨w,hw,e⟩:=hy
   rw [←e,zd h hw] at hx
   exact ⟨w,hw,e,hx⟩
  ·rw [zb (fun w hw e=>hy ⟨w,hw,e⟩)] at hx
   obtain ⟨u,hu,_⟩:=hx
   cases hu
theorem Jt2 {r:Reg} (h:RegOK r) (y:Int):RunsOK (-4096) 4096 (rowY r y):=by
 by_cases hy:∃w∈r,w.1=y
 ·obtain ⟨w,hw,e⟩:=hy
  rw [←e,zd h hw];exact h.rs w hw
 ·rw [zb (fun w hw e=>hy ⟨w,hw,e⟩)]
  exact ⟨by simp,.nil⟩
theorem Jpx {r:Reg} (h:RegOK r) {i j:Nat} {a b:Row} (ha:r[i]?=some a) (hb:r[j]?=some b) (hij:i<j):a.1<b.1:=by
 obtain ⟨p1,rfl⟩:=Aa.1 ha
 obtain ⟨p2,rfl⟩:=Aa.1 hb
 exact Aj.1 h.pw i j p1 p2 hij
theorem Jcy {r:Reg} (h:RegOK r) {i j:Nat} {a b:Row} (ha:r[i]?=some a) (hb:r[j]?=some b) (hij:i≤j):a.1≤b.1:=by
 rcases Nat.lt_or_eq_of_le hij with h1|rfl
 ·have:=Jpx h ha hb h1;omega
 ·rw [ha] at hb;injection hb with e;subst e;omega
theorem Jpo {r:Reg} (h:RegOK r) {i:Nat} {w:Row} (hw:r[i]?=some w) :
  rowY r (w.1 - 1)=(if 0<i then (match r[i - 1]? with|some v=>if v.1=w.1 - 1 then v.2 else []|none=>[]) else []):=by
 by_cases hi:0<i
 ·rw [if_pos hi]
  have hlt:=(Aa.1 hw).1
  have hv:r[i - 1]?=some r[i - 1]:=Ab (by omega)
  rw [hv]
  dsimp only
  by_cases he:r[i - 1].1=w.1 - 1
  ·rw [if_pos he,←he,zd h (Au _)]
  ·rw [if_neg he]
   refine zb fun v hv' e=>?_
   obtain ⟨j,hj⟩:=Ah hv'
   have h1:=Jpx h hv hw (by omega)
   rcases Nat.lt_or_ge (i - 1) j with hlt|hge
   ·have:=Jcy h hw hj (by omega);omega
   ·have:=Jcy h hj hv hge;omega
 ·rw [if_neg hi]
  refine zb fun v hv' e=>?_
  obtain ⟨j,hj⟩:=Ah hv'
  have:=Jcy h hw hj (by omega);omega
theorem next_row {r:Reg} (h:RegOK r) {i:Nat} {w:Row} (hw:r[i]?=some w) :
  rowY r (w.1+1)=(match r[i+1]? with|some v=>if v.1=w.1+1 then v.2 else []|none=>[]):=by
 cases hv:r[i+1]? with
 | none =>
  dsimp only
  refine zb fun v hv' e=>?_
  obtain ⟨j,hj⟩:=Ah hv'
  have h1:=(Aa.1 hj).1
  have h2:=Bv.1 hv
  have:=Jcy h hj hw (by omega);omega
 | some v =>
  dsimp only
  by_cases he:v.1=w.1+1
  ·rw [if_pos he,←he,zd h (Ac hv)]
  ·rw [if_neg he]
   refine zb fun u hu e=>?_
   obtain ⟨j,hj⟩:=Ah hu
   have h1:=Jpx h hw hv (by omega)
   rcases Nat.lt_or_ge i j with hlt|hge
   ·have:=Jcy h hv hj (by omega);omega
   ·have:=Jcy h hj hw hge;omega
theorem Jtk (r:Reg) (h:RegOK r) (hl:r.length≤1000000000) {i:Nat} {w:Row} (hw:r[i]?=some w) :
  @t_boundary_around wv (r,(i:Int))=some (rowY r (w.1 - 1),rowY r (w.1+1)):=by
 have hi:=(Aa.1 hw).1
 have hy:=h.y w (Ac hw)
 have e1:@W.ar wv .sub .i64 w.1 1=w.1 - 1:=by rw [Qj,wr (by omega) (by omega)]
 have e2:@W.ar wv .add .i64 w.1 1=w.1+1:=by rw [Jx,wr (by omega) (by omega)]
 have e3:@W.ar wv .add .i64 (i:Int) 1=((i+1:Nat):Int):=by rw [Jx,wr (by omega) (by omega)];omega
 have tail:∀up:List Run,
   (@W.br wv (List Run×List Run) (@W.cm wv .lss (@W.ar wv .add .i64 (i:Int) 1) (@W.ln wv Row r)) (@W.ge wv (List Run×List Run) Row r (@W.ar wv .add .i64 (i:Int) 1) fun v3 =>
    @W.br wv (List Run×List Run) (@W.cm wv .eql v3.1 (@W.ar wv .add .i64 w.1 1)) (@W.ge wv (List Run×List Run) Row r (@W.ar wv .add .i64 (i:Int) 1) fun v4=>some (up,v4.2)) (some (up,[]))) (some (up,[])))=some (up,rowY r (w.1+1)):=by
  intro up
  rw [next_row h hw,e3,w_ln,e2]
  cases hv:r[i+1]? with
  | none =>
   have h2:=Bv.1 hv
   rw [Jy (by omega)]
  | some v =>
   have h2:=(Aa.1 hv).1
   rw [Kj (by omega),ge_s (fg hv)]
   dsimp only
   by_cases he:v.1=w.1+1
   ·rw [br_t (by rw [Q4];simpa using he),ge_s (fg hv),if_pos he]
   ·rw [br_f (by rw [Q4];simpa using he),if_neg he]
 unfold t_boundary_around
 dsimp only
 rw [ge_s (fg hw)]
 by_cases h0:0<i
 ·have hv:r[i - 1]?=some r[i - 1]:=Ab (by omega)
  have e4:@W.ar wv .sub .i64 (i:Int) 1=((i - 1:Nat):Int):=by rw [Qj,wr (by omega) (by omega)];omega
  rw [br_t (by rw [Jau];exact decide_eq_true (by omega)),e4,ge_s (fg hv),Jpo h hw,if_pos h0,hv]
  dsimp only
  by_cases he:r[i - 1].1=w.1 - 1
  ·rw [br_t (by rw [Q4,e1];simpa using he),ge_s (fg hv),if_pos he]
   exact tail _
  ·rw [br_f (by rw [Q4,e1];simpa using he),if_neg he]
   exact tail _
 ·rw [br_f (by rw [Jau];exact decide_eq_false (by omega)),Jpo h hw,if_neg h0]
  exact tail _
theorem k_around {α:Type} {r:Reg} (h:RegOK r) (hl:r.length≤1000000000) {i:Nat} {w:Row} (hw:r[i]?=some w) (k:List (Int×Int)×List (Int×Int)→Option α):@W.call wv α c_boundary_around ((r,(i:Int)):List (Int×List (Int×Int))×Int) k=k (rowY r (w.1 - 1),rowY r (w.1+1)):=ca_s (c:=c_boundary_around) (Jtk r h hl hw)
end Go.Proofs.Ytmfagdfkpjgeiaa
namespace Go.Proofs.Ytmfagdfkpjgeiaa
open Go Go.Vv Go.Dn Go.Dn.W
set_option linter.unusedVariables false
set_option linter.unusedSimpArgs false
set_option maxRecDepth 100000
def Kh (h:Int) (p:Cell):Cell:=if h=0 then (p.1+1,p.2) else if h=1 then (p.1,p.2+1) else if h=2 then (p.1 - 1,p.2) else (p.1,p.2 - 1)
def J9 (p:Cell):Prop:=(-1000000000≤p.1∧p.1≤1000000000)∧-1000000000≤p.2∧p.2≤1000000000
theorem from_ok (h:Int) (p:Cell) (hp:J9 p):@t_boundary_heading_from wv (h,p)=some (Kh h p):=by
 obtain ⟨⟨h1,h2⟩,h3,h4⟩:=hp
 unfold t_boundary_heading_from Kh
 dsimp only
 simp only [Jx,Qj,w_br,Q4,beq_iff_eq]
 rw [wr (n:=p.1+1) (by omega) (by omega),wr (n:=p.2+1) (by omega) (by omega),wr (n:=p.1 - 1) (by omega) (by omega),wr (n:=p.2 - 1) (by omega) (by omega)]
 split
 ·rfl
 split
 ·rfl
 split<;>rfl
theorem k_from {α:Type} {h:Int} {p:Cell} (hp:J9 p) (k:Int×Int→Option α):@W.call wv α c_boundary_heading_from ((h,p):Int×(Int×Int)) k=k (Kh h p):=ca_s (c:=c_boundary_heading_from) (from_ok h p hp)
theorem left_ok (h:Int) (h1:0≤h) (h2:h≤3):@t_boundary_heading_left wv h=some ((h+1) % 4):=by
 unfold t_boundary_heading_left
 rw [gd_t (by rfl),Jta,Jx,wr (by omega) (by omega),Be (by omega)]
theorem k_left {α:Type} {h:Int} (h1:0≤h) (h2:h≤3) (k:Int→Option α):@W.call wv α c_boundary_heading_left (h:Int) k=k ((h+1) % 4):=ca_s (c:=c_boundary_heading_left) (left_ok h h1 h2)
theorem right_ok (h:Int) (h1:0≤h) (h2:h≤3):@t_boundary_heading_right wv h=some ((h+3) % 4):=by
 unfold t_boundary_heading_right
 rw [gd_t (by rfl),Jta,Jx,wr (by omega) (by omega),Be (by omega)]
theorem k_right {α:Type} {h:Int} (h1:0≤h) (h2:h≤3) (k:Int→Option α):@W.call wv α c_boundary_heading_right (h:Int) k=k ((h+3) % 4):=ca_s (c:=c_boundary_heading_right) (right_ok h h1 h2)
theorem index_ok (l:List Int) (x:Int) (hl:l.length≤1000000000):∃e,@t_slices_Indexboundary_heading_boundary_heading_ wv (l,x)=some e∧((e=-1∧x∉l)∨∃i:Nat,l[i]?=some x∧e=(i:Int)):=by
 obtain ⟨e,he,hq⟩:=Jo1 (b:=@t_slices_Indexboundary_heading_boundary_heading__L0 wv) l (by omega) (fun i=>⟨l,⟨x,⟨(l.length:Int),⟨(i:Int),()⟩⟩⟩⟩) (fun y=>x=y) (fun i _=>.inl ⟨(i:Int),()⟩) (.inr ()) (fun i y hi hy=>by
  have e3:@W.ar wv .add .i64 (i:Int) 1=((i+1:Nat):Int):=by rw [Jx,wr (by omega) (by omega)];omega
  unfold t_slices_Indexboundary_heading_boundary_heading__L0
  dsimp only
  rw [Kj (by omega),ge_s (fg hy)]
  refine ⟨fun h=>?_,fun h=>?_⟩
  ·rw [br_t (by rw [Q4];simpa using h)]
  ·rw [br_f (by rw [Q4];simpa using h),e3]) (by
  unfold t_slices_Indexboundary_heading_boundary_heading__L0
  dsimp only
  rw [Jy (by omega)])
 unfold t_slices_Indexboundary_heading_boundary_heading_
 dsimp only
 rw [w_ln]
 rcases hq with ⟨rfl,hn⟩|⟨i,y,hy,hp,rfl⟩
 ·exact ⟨-1,lo_s he,.inl ⟨rfl,fun hm=>hn x hm rfl⟩⟩
 ·exact ⟨(i:Int),lo_s he,.inr ⟨i,by rw [hy,hp],rfl⟩⟩
theorem Jue {l:List Int} (x:Int) (hl:l.length≤1000000000):∃e:Int,(∀ {α:Type} (k:Int→Option α),@W.call wv α c_slices_Indexboundary_heading_boundary_heading_ ((l,x):List Int×Int) k=k e)∧((e=-1∧x∉l)∨∃i:Nat,l[i]?=some x∧e=(i:Int)):=by
 obtain ⟨e,he,hq⟩:=index_ok l x hl
 exact ⟨e,fun k=>ca_s (c:=c_slices_Indexboundary_heading_boundary_heading_) he,hq⟩
theorem Jnj (l:List Int) (x:Int) (hl:l.length≤1000000000):@t_slices_Containsboundary_heading_boundary_heading_ wv (l,x)=some (decide (x∈l)):=by
 obtain ⟨e,he,hq⟩:=Jue x hl
 unfold t_slices_Containsboundary_heading_boundary_heading_
 dsimp only
 rw [he]
 refine congrArg some ?_
 rw [Jjy]
 refine decide_eq_decide.2 ?_
 rcases hq with ⟨rfl,hn⟩|⟨i,hi,rfl⟩
 ·exact ⟨fun h=>by omega,fun h=>(hn h).elim⟩
 ·exact ⟨fun _=>Ac hi,fun _=>by omega⟩
theorem Jre {α:Type} {l:List Int} {x:Int} (hl:l.length≤1000000000) (k:Bool→Option α):@W.call wv α c_slices_Containsboundary_heading_boundary_heading_ ((l,x):List Int×Int) k=k (decide (x∈l)):=ca_s (c:=c_slices_Containsboundary_heading_boundary_heading_) (Jnj l x hl)
end Go.Proofs.Ytmfagdfkpjgeiaa
namespace Go.Proofs.Ytmfagdfkpjgeiaa
open Go Go.Vv Go.Dn Go.Dn.W
set_option linter.unusedVariables false
set_option linter.unusedSimpArgs false
set_option maxRecDepth 100000
abbrev Cr:=List ((Int×Int)×List Int)
def atC:Cr→Cell→List Int
 | [],_=>[]
 | e::r,p=>if p=e.1 then e.2 else atC r p
def putC:Cr→Cell→List Int→Cr
 | [],p,v=>[(p,v)]
 | e::r,p,v=>if p=e.1 then (p,v)::r else e::putC r p v
def delC:Cr→Cell→Cr
 | [],p=>[]
 | e::r,p=>if p=e.1 then r else e::delC r p
theorem Jp2 (p q:Cell):Ty.eqb (.p I I) p q=decide (p=q):=by
 show ((p.1==q.1)&&(p.2==q.2))=_
 rw [Di,Bool.and_eq_true,beq_iff_eq,beq_iff_eq,decide_eq_true_eq,Prod.ext_iff]
theorem Jss (m:Cr) (p:Cell):@W.mg wv (.p I I) (.ls I) m p []=atC m p:=by
 show (Xm (a:=.p I I) (b:=.ls I) p m).getD []=_
 induction m with
 | nil=>rfl
 | cons e r ih =>
  show _=if p=e.1 then e.2 else atC r p
  by_cases h:p=e.1
  ·have hd:Ty.eqb (.p I I) p e.1=true:=by rw [Jp2];exact decide_eq_true h
   rw [if_pos h]
   exact congrArg (fun o:Option (List Int)=>o.getD []) (show Xm (a:=.p I I) (b:=.ls I) p (e::r)=some e.2 from if_pos hd)
  ·have hd:¬Ty.eqb (.p I I) p e.1=true:=by rw [Jp2];exact fun hc=>h (of_decide_eq_true hc)
   rw [if_neg h,←ih]
   exact congrArg (fun o:Option (List Int)=>o.getD []) (show Xm (a:=.p I I) (b:=.ls I) p (e::r)=Xm (a:=.p I I) (b:=.ls I) p r from if_neg hd)
theorem ms_put (m:Cr) (p:Cell) (v:List Int):@W.ms wv (.p I I) (.ls I) m p v=putC m p v:=by
 show mSet (a:=.p I I) (b:=.ls I) p v m=_
 induction m with
 | nil=>rfl
 | cons e r ih =>
  show (if Ty.eqb (.p I I) p e.1=true then (p,v)::r else e::mSet (a:=.p I I) (b:=.ls I) p v r)=if p=e.1 then (p,v)::r else e::putC r p v
  rw [Jp2]
  by_cases h:p=e.1
  ·rw [if_pos (decide_eq_true h),if_pos h]
  ·rw [if_neg (fun hc=>h (of_decide_eq_true hc)),if_neg h,ih]
theorem md_del (m:Cr) (p:Cell):@W.md wv (.p I I) (.ls I) m p=delC m p:=by
 show mDel (a:=.p I I) (b:=.ls I) p m=_
 induction m with
 | nil=>rfl
 | cons e r ih =>
  show (if Ty.eqb (.p I I) p e.1=true then r else e::mDel (a:=.p I I) (b:=.ls I) p r)=if p=e.1 then r else e::delC r p
  rw [Jp2]
  by_cases h:p=e.1
  ·rw [if_pos (decide_eq_true h),if_pos h]
  ·rw [if_neg (fun hc=>h (of_decide_eq_true hc)),if_neg h,ih]
theorem Jpt (m:Cr) (p q:Cell) (v:List Int):atC (putC m p v) q=if q=p then v else atC m q:=by
 induction m with
 | nil=>rfl
 | cons e r ih =>
  unfold putC
  by_cases h:p=e.1
  ·rw [if_pos h]
   show (if q=p then v else atC r q)=if q=p then v else (if q=e.1 then e.2 else atC r q)
   by_cases hq:q=p
   ·rw [if_pos hq,if_pos hq]
   ·rw [if_neg hq,if_neg hq,if_neg (by rw [←h];exact hq)]
  ·rw [if_neg h]
   show (if q=e.1 then e.2 else atC (putC r p v) q)=if q=p then v else (if q=e.1 then e.2 else atC r q)
   rw [ih]
   by_cases hq:q=e.1
   ·rw [if_pos hq,if_neg (by rw [hq];exact fun e=>h e.symm),if_pos hq]
   ·rw [if_neg hq,if_neg hq]
theorem Jqc {m:Cr} {p:Cell} (h:p∉m.map (·.1)):atC m p=[]:=by
 induction m with
 | nil=>rfl
 | cons e r ih =>
  simp only [Ap,Ag,not_or] at h
  unfold atC
  rw [if_neg h.1,ih h.2]
theorem keys_put (m:Cr) (p:Cell) (v:List Int):(putC m p v).map (·.1)=if p∈m.map (·.1) then m.map (·.1) else m.map (·.1)++[p]:=by
 induction m with
 | nil=>simp [putC]
 | cons e r ih =>
  unfold putC
  by_cases h:p=e.1
  ·rw [if_pos h,if_pos (by simp [h])];simp [h]
  ·rw [if_neg h,Ap,ih]
   by_cases hm:p∈r.map (·.1)
   ·rw [if_pos hm,if_pos (by rw [Ap];exact Ai _ hm),Ap]
   ·rw [if_neg hm,if_neg (by rw [Ap,Ag];exact fun hc=>hc.elim h hm),Ap,List.cons_append]
theorem Jjx {m:Cr} (h:(m.map (·.1)).Nodup) (p:Cell) (v:List Int):((putC m p v).map (·.1)).Nodup:=by
 rw [keys_put]
 split
 ·exact h
 ·next hp=>exact Bw.2 ⟨h,Ax.2 ⟨by simp,.nil⟩,fun a ha b hb e=>by
   rw [Ad] at hb
   exact hp (by rw [←hb,←e];exact ha)⟩
theorem keys_del (m:Cr) (p:Cell):((delC m p).map (·.1)).Sublist (m.map (·.1)):=by
 induction m with
 | nil=>exact .slnil
 | cons e r ih =>
  unfold delC
  split
  ·exact .cons _ (List.Sublist.refl _)
  ·rw [Ap,Ap];exact .cons_cons _ ih
theorem at_del {m:Cr} (h:(m.map (·.1)).Nodup) (p q:Cell):atC (delC m p) q=if q=p then [] else atC m q:=by
 induction m with
 | nil=>simp [delC,atC]
 | cons e r ih =>
  obtain ⟨h1,h2⟩:=Ax.1 (by rw [Ap] at h;exact h)
  unfold delC
  by_cases hp:p=e.1
  ·rw [if_pos hp]
   show atC r q=if q=p then [] else (if q=e.1 then e.2 else atC r q)
   by_cases hq:q=p
   ·rw [if_pos hq];exact Jqc (by rw [hq,hp];exact h1)
   ·rw [if_neg hq,if_neg (by rw [←hp];exact hq)]
  ·rw [if_neg hp]
   show (if q=e.1 then e.2 else atC (delC r p) q)=if q=p then [] else (if q=e.1 then e.2 else atC r q)
   rw [ih h2]
   by_cases hq:q=e.1
   ·rw [if_pos hq,if_neg (by rw [hq];exact fun e=>hp e.symm),if_pos hq]
   ·rw [if_neg hq,if_neg hq]
theorem Js2 {m:Cr} (h:(m.map (·.1)).Nodup) (p:Cell):((delC m p).map (·.1)).Nodup:=h.sublist (keys_del m p)
end Go.Proofs.Ytmfagdfkpjgeiaa
namespace Go.Proofs.Ytmfagdfkpjgeiaa
open Go Go.Vv Go.Dn Go.Dn.W
set_option linter.unusedVariables false
set_option linter.unusedSimpArgs false
set_option maxRecDepth 100000
structure MapOK (m:Cr) (S:Cell→Int→Prop):Prop where
 nd:(m.map (·.1)).Nodup
 mem:∀p h,h∈atC m p↔S p h
 one:∀p,(atC m p).Nodup
 ne:∀e∈m,e.2≠[]
theorem MapOK.nil:MapOK [] fun _ _=>False:=⟨.nil,fun p h=>⟨fun h=>(Ao h).elim,False.elim⟩,fun p=>.nil,fun e he=>(Ao he).elim⟩
theorem MapOK.congr {m:Cr} {S T:Cell→Int→Prop} (h:MapOK m S) (e:∀p x,S p x↔T p x):MapOK m T:=⟨h.nd,fun p x=>(h.mem p x).trans (e p x),h.one,h.ne⟩
theorem ne_put {m:Cr} (h:∀e∈m,e.2≠[]) (p:Cell) {v:List Int} (hv:v≠[]):∀e∈putC m p v,e.2≠[]:=by
 induction m with
 | nil =>
  intro e he
  rw [putC,Ad] at he
  rw [he];exact hv
 | cons x r ih =>
  intro e he
  unfold putC at he
  split at he
  ·rcases Ag.1 he with rfl|he
   ·exact hv
   ·exact h e (Ai _ he)
  ·rcases Ag.1 he with rfl|he
   ·exact h _ (Af ..)
   ·exact ih (fun e he=>h e (Ai _ he)) e he
theorem ne_del {m:Cr} (h:∀e∈m,e.2≠[]) (p:Cell):∀e∈delC m p,e.2≠[]:=by
 induction m with
 | nil=>exact h
 | cons x r ih =>
  intro e he
  unfold delC at he
  split at he
  ·exact h e (Ai _ he)
  ·rcases Ag.1 he with rfl|he
   ·exact h _ (Af ..)
   ·exact ih (fun e he=>h e (Ai _ he)) e he
theorem Jrn {m:Cr} (h:(m.map (·.1)).Nodup) {e:(Int×Int)×List Int} (he:e∈m):atC m e.1=e.2:=by
 induction m with
 | nil=>exact (Ao he).elim
 | cons x r ih =>
  obtain ⟨h1,h2⟩:=Ax.1 (by rw [Ap] at h;exact h)
  unfold atC
  rcases Ag.1 he with rfl|he
  ·rw [if_pos rfl]
  ·rw [if_neg (fun e'=>h1 (by rw [←e'];exact List.mem_map_of_mem he)),ih h2 he]
theorem MapOK.key {m:Cr} {S:Cell→Int→Prop} (h:MapOK m S) (p:Cell):p∈m.map (·.1)↔∃x,S p x:=by
 constructor
 ·intro hp
  obtain ⟨e,he,rfl⟩:=Dc.1 hp
  have hne:=h.ne e he
  have hat:=Jrn h.nd he
  cases hl:e.2 with
  | nil=>exact (hne hl).elim
  | cons x l=>exact ⟨x,(h.mem e.1 x).1 (by rw [hat,hl];exact Af ..)⟩
 ·rintro ⟨x,hx⟩
  by_cases hp:p∈m.map (·.1)
  ·exact hp
  ·have:=(h.mem p x).2 hx
   rw [Jqc hp] at this
   exact (Ao this).elim
theorem MapOK.add {m:Cr} {S:Cell→Int→Prop} (h:MapOK m S) {p:Cell} {x:Int} (hn:¬S p x):MapOK (putC m p (atC m p++[x])) fun q y=>S q y∨(q=p∧y=x):=by
 refine ⟨Jjx h.nd _ _,fun q y=>?_,fun q=>?_,ne_put h.ne _ (by simp)⟩
 ·rw [Jpt]
  by_cases hq:q=p
  ·subst hq
   rw [if_pos rfl,Ae,Ad,h.mem]
   exact ⟨fun h=>h.imp id fun e=>⟨rfl,e⟩,fun h=>h.imp id And.right⟩
  ·rw [if_neg hq,h.mem]
   exact ⟨.inl,fun h=>h.elim id fun e=>(hq e.1).elim⟩
 ·rw [Jpt]
  split
  ·refine Bw.2 ⟨h.one p,Ax.2 ⟨by simp,.nil⟩,fun a ha b hb e=>?_⟩
   rw [Ad] at hb
   exact hn ((h.mem p x).1 (by rw [←hb,←e];exact ha))
  ·exact h.one q
theorem mem_cut {l:List Int} (h:l.Nodup) {i:Nat} {x y:Int} (hx:l[i]?=some x):y∈l.take i++l.drop (i+1)↔y∈l∧y≠x:=by
 obtain ⟨hi,e⟩:=Aa.1 hx
 have hl:l=l.take i++x::l.drop (i+1):=by
  conv=>lhs;rw [←Bl i l,By hi,e]
 have hnd:=h
 rw [hl] at hnd
 obtain ⟨n1,n2,n3⟩:=Bw.1 hnd
 obtain ⟨n4,n5⟩:=Ax.1 n2
 constructor
 ·intro hy
  rcases Ae.1 hy with hy|hy
  ·exact ⟨List.mem_of_mem_take hy,fun e=>n3 y hy x (Af ..) e⟩
  ·exact ⟨List.mem_of_mem_drop hy,fun e=>n4 (by rw [←e];exact hy)⟩
 ·rintro ⟨hy,hne⟩
  rw [hl] at hy
  rcases Ae.1 hy with hy|hy
  ·exact Ae.2 (.inl hy)
  ·rcases Ag.1 hy with e|hy
   ·exact (hne e).elim
   ·exact Ae.2 (.inr hy)
theorem MapOK.cut {m:Cr} {S:Cell→Int→Prop} (h:MapOK m S) {p:Cell} {x:Int} {i:Nat} (hx:(atC m p)[i]?=some x) (h1:(atC m p).length≠1) :
  MapOK (putC m p ((atC m p).take i++(atC m p).drop (i+1))) fun q y=>S q y∧¬(q=p∧y=x):=by
 have hi:=(Aa.1 hx).1
 refine ⟨Jjx h.nd _ _,fun q y=>?_,fun q=>?_,ne_put h.ne _ fun e=>?_⟩
 ·rw [Jpt]
  by_cases hq:q=p
  ·subst hq
   rw [if_pos rfl,mem_cut (h.one q) hx,h.mem]
   exact ⟨fun h=>⟨h.1,fun e=>h.2 e.2⟩,fun h=>⟨h.1,fun e=>h.2 ⟨rfl,e⟩⟩⟩
  ·rw [if_neg hq,h.mem]
   exact ⟨fun h=>⟨h,fun e=>hq e.1⟩,And.left⟩
 ·rw [Jpt]
  split
  ·have:=h.one p
   rw [←Bl i (atC m p),By hi] at this
   exact this.sublist (.append (List.Sublist.refl _) (.cons _ (List.Sublist.refl _)))
  ·exact h.one q
 ·have:=congrArg List.length e
  rw [Am,Bm,List.length_drop,List.length_nil] at this
  omega
theorem MapOK.del {m:Cr} {S:Cell→Int→Prop} (h:MapOK m S) {p:Cell} {x:Int} (hx:atC m p=[x]) :
  MapOK (delC m p) fun q y=>S q y∧¬(q=p∧y=x):=by
 refine ⟨Js2 h.nd _,fun q y=>?_,fun q=>?_,ne_del h.ne _⟩
 ·rw [at_del h.nd]
  by_cases hq:q=p
  ·subst hq
   rw [if_pos rfl,←h.mem,hx,Ad]
   exact ⟨fun h=>(Ao h).elim,fun h=>(h.2 ⟨rfl,h.1⟩).elim⟩
  ·rw [if_neg hq,h.mem]
   exact ⟨fun h=>⟨h,fun e=>hq e.1⟩,And.left⟩
 ·rw [at_del h.nd]
  split
  ·exact .nil
  ·exact h.one q
end Go.Proofs.Ytmfagdfkpjgeiaa
namespace Go.Proofs.Ytmfagdfkpjgeiaa
open Go Go.Vv Go.Dn Go.Dn.W
set_option linter.unusedVariables false
set_option linter.unusedSimpArgs false
set_option maxRecDepth 100000
theorem Jpn:∀ {l k:List Int},l.Nodup→(∀x∈l,x∈k)→l.length≤k.length
 | [],k,_,_=>Nat.zero_le _
 | x::l,k,h,hs=>by
  obtain ⟨h1,h2⟩:=Ax.1 h
  have hx:=hs x (Af ..)
  have:=Jpn (l:=l) (k:=k.erase x) h2 fun y hy=>(Dp (fun e=>h1 (by rw [←e];exact hy))).2 (hs y (Ai _ hy))
  rw [Db hx] at this
  have:0<k.length:=Bj hx
  rw [Ar]
  omega
def HdOK (S:Cell→Int→Prop):Prop:=∀p h,S p h→h=0∨h=1∨h=2∨h=3
theorem MapOK.le4 {m:Cr} {S:Cell→Int→Prop} (h:MapOK m S) (hd:HdOK S) (p:Cell):(atC m p).length≤4 :=
 Jpn (k:=[0,1,2,3]) (h.one p) fun x hx=>by
  rcases hd p x ((h.mem p x).1 hx) with rfl|rfl|rfl|rfl<;>simp
theorem Jdq {α:Type} {m:Cr} {S:Cell→Int→Prop} (h:MapOK m S) (hd:HdOK S) (p:Cell) (x:Option α):@W.gd wv α (@W.ft wv 8 (@W.pl wv (@W.ln wv Int (@W.mg wv (.p I I) (.ls I) m p [])) 1)) x=x:=by
 have h4:=h.le4 hd p
 rw [Jss,w_pl,w_ln]
 exact fitB (by omega) (by omega) (by decide)
theorem K8 {A B:Type} {x y:A} {r t:B} (h:x=y) (h2:r=t):(⟨x,r⟩:HP A B)=⟨y,t⟩:=by rw [h,h2]
theorem Jom (m:Cr) (p:Cell) (x:Int):@W.ms wv (.p I I) (.ls I) m p (@W.ap wv Int (@W.mg wv (.p I I) (.ls I) m p []) [x])=putC m p (atC m p++[x]):=by
 rw [Jss,ms_put,w_ap]
theorem L2_ok (a:Reg) (s0:List Run) (s2:Reg) (s3 s4:Int) (s5:List Run) (s6 s7:Int) (s8:Reg) (y:Int) (s10:List Run) (u v:Int) (m:Cr) {S:Cell→Int→Prop}
  (h:MapOK m S) (hd:HdOK S) (hf:∀x,u≤x→x<v→¬S (x,y) 0) (hb:-4096≤u∧u≤v∧v≤4096) :
  ∃m',K3 (@t_boundary_Trace_L2 wv a) bigN ⟨s0,⟨u,⟨s2,⟨s3,⟨s4,⟨s5,⟨s6,⟨s7,⟨s8,⟨y,⟨s10,⟨u,⟨v,⟨m,()⟩⟩⟩⟩⟩⟩⟩⟩⟩⟩⟩⟩⟩⟩=some ⟨s0,⟨s2,⟨s3,⟨s4,⟨s5,⟨s6,⟨s7,⟨s8,⟨y,⟨s10,⟨m',()⟩⟩⟩⟩⟩⟩⟩⟩⟩⟩⟩ ∧
   MapOK m' (fun p x=>S p x∨(p.2=y∧u≤p.1∧p.1<v∧x=0)):=by
 obtain ⟨e,he,m',rfl,hm'⟩:=Qh (b:=@t_boundary_Trace_L2 wv a)
  (fun i s=>∃m',s=⟨s0,⟨u+(i:Int),⟨s2,⟨s3,⟨s4,⟨s5,⟨s6,⟨s7,⟨s8,⟨y,⟨s10,⟨u,⟨v,⟨m',()⟩⟩⟩⟩⟩⟩⟩⟩⟩⟩⟩⟩⟩⟩∧MapOK m' (fun p x=>S p x∨(p.2=y∧u≤p.1∧p.1<u+i∧x=0)))
  (fun e=>∃m',e=⟨s0,⟨s2,⟨s3,⟨s4,⟨s5,⟨s6,⟨s7,⟨s8,⟨y,⟨s10,⟨m',()⟩⟩⟩⟩⟩⟩⟩⟩⟩⟩⟩∧MapOK m' (fun p x=>S p x∨(p.2=y∧u≤p.1∧p.1<v∧x=0)))
  (v - u).toNat (by omega) (s0:=⟨s0,⟨u,⟨s2,⟨s3,⟨s4,⟨s5,⟨s6,⟨s7,⟨s8,⟨y,⟨s10,⟨u,⟨v,⟨m,()⟩⟩⟩⟩⟩⟩⟩⟩⟩⟩⟩⟩⟩⟩)
  ⟨m,by simp,h.congr fun p x=>⟨.inl,fun h=>h.elim id fun h=>by omega⟩⟩
  (fun i s hi=>by
   rintro ⟨m1,rfl,h1⟩
   have e3:@W.ar wv .add .i64 (u+(i:Int)) 1=u+((i+1:Nat):Int):=by rw [Jx,wr (by omega) (by omega)];omega
   have hd1:HdOK (fun p x=>S p x∨(p.2=y∧u≤p.1∧p.1<u+i∧x=0)):=fun p x hp=>hp.elim (hd p x) fun hp=>.inl hp.2.2.2
   refine ⟨_,?_,putC m1 (u+(i:Int),y) (atC m1 (u+(i:Int),y)++[0]),rfl,?_⟩
   ·unfold t_boundary_Trace_L2
    dsimp only
    rw [Kj (by omega)]
    refine (Jdq h1 hd1 (u+(i:Int),y) _).trans ?_
    refine congrArg some (congrArg Nx.go ?_)
    rw [e3]
    refine K8 rfl (K8 rfl (K8 rfl (K8 rfl (K8 rfl (K8 rfl (K8 rfl (K8 rfl (K8 rfl (K8 rfl (K8 rfl (K8 rfl (K8 rfl (K8 ?_ rfl)))))))))))))
    exact Jom m1 (u+(i:Int),y) 0
   ·refine (h1.add (p:=(u+(i:Int),y)) (x:=0) fun hc=>?_).congr fun p x=>?_
    ·rcases hc with hc|hc
     ·exact hf _ (by omega) (by omega) hc
     ·have:=hc.2.2.1;dsimp only at this;omega
    ·constructor
     ·rintro ((hp|hp)|⟨rfl,rfl⟩)
      ·exact .inl hp
      ·exact .inr ⟨hp.1,hp.2.1,by have:=hp.2.2.1;omega,hp.2.2.2⟩
      ·exact .inr ⟨rfl,by dsimp only;omega,by dsimp only;omega,rfl⟩
     ·rintro (hp|⟨p1,p2,p3,rfl⟩)
      ·exact .inl (.inl hp)
      ·by_cases hq:p.1<u+(i:Int)
       ·exact .inl (.inr ⟨p1,p2,hq,rfl⟩)
       ·exact .inr ⟨Prod.ext (by dsimp only;omega) p1,rfl⟩)
  (by
   rintro s ⟨m1,rfl,h1⟩
   refine ⟨_,?_,m1,rfl,h1.congr fun p x=>?_⟩
   ·unfold t_boundary_Trace_L2
    dsimp only
    rw [Jy (by omega)]
   ·have:u+(((v - u).toNat:Nat):Int)=v:=by omega
    rw [this])
 exact ⟨m',he,hm'⟩
theorem L4_ok (a:Reg) (s1:Reg) (s2 s3:Int) (s4:List Run) (s5 s6:Int) (s7:Reg) (y:Int) (s9:List Run) (u v:Int) (m:Cr) {S:Cell→Int→Prop}
  (h:MapOK m S) (hd:HdOK S) (hf:∀x,u≤x→x<v→¬S (x+1,y+1) 2) (hb:-4096≤u∧u≤v∧v≤4096) (hy:-4096≤y∧y<4096) :
  ∃m',K3 (@t_boundary_Trace_L4 wv a) bigN ⟨u,⟨s1,⟨s2,⟨s3,⟨s4,⟨s5,⟨s6,⟨s7,⟨y,⟨s9,⟨u,⟨v,⟨m,()⟩⟩⟩⟩⟩⟩⟩⟩⟩⟩⟩⟩⟩=some ⟨s1,⟨s2,⟨s3,⟨s4,⟨s5,⟨s6,⟨s7,⟨y,⟨s9,⟨m',()⟩⟩⟩⟩⟩⟩⟩⟩⟩⟩ ∧
   MapOK m' (fun p x=>S p x∨(p.2=y+1∧u<p.1∧p.1≤v∧x=2)):=by
 obtain ⟨e,he,m',rfl,hm'⟩:=Qh (b:=@t_boundary_Trace_L4 wv a)
  (fun i s=>∃m',s=⟨u+(i:Int),⟨s1,⟨s2,⟨s3,⟨s4,⟨s5,⟨s6,⟨s7,⟨y,⟨s9,⟨u,⟨v,⟨m',()⟩⟩⟩⟩⟩⟩⟩⟩⟩⟩⟩⟩⟩∧MapOK m' (fun p x=>S p x∨(p.2=y+1∧u<p.1∧p.1≤u+i∧x=2)))
  (fun e=>∃m',e=⟨s1,⟨s2,⟨s3,⟨s4,⟨s5,⟨s6,⟨s7,⟨y,⟨s9,⟨m',()⟩⟩⟩⟩⟩⟩⟩⟩⟩⟩∧MapOK m' (fun p x=>S p x∨(p.2=y+1∧u<p.1∧p.1≤v∧x=2)))
  (v - u).toNat (by omega) (s0:=⟨u,⟨s1,⟨s2,⟨s3,⟨s4,⟨s5,⟨s6,⟨s7,⟨y,⟨s9,⟨u,⟨v,⟨m,()⟩⟩⟩⟩⟩⟩⟩⟩⟩⟩⟩⟩⟩)
  ⟨m,by simp,h.congr fun p x=>⟨.inl,fun h=>h.elim id fun h=>by omega⟩⟩
  (fun i s hi=>by
   rintro ⟨m1,rfl,h1⟩
   have e3:@W.ar wv .add .i64 (u+(i:Int)) 1=u+((i+1:Nat):Int):=by rw [Jx,wr (by omega) (by omega)];omega
   have e4:@W.ar wv .add .i64 y 1=y+1:=by rw [Jx,wr (by omega) (by omega)]
   have hd1:HdOK (fun p x=>S p x∨(p.2=y+1∧u<p.1∧p.1≤u+i∧x=2)):=fun p x hp=>hp.elim (hd p x) fun hp=>.inr (.inr (.inl hp.2.2.2))
   refine ⟨_,?_,putC m1 (u+((i+1:Nat):Int),y+1) (atC m1 (u+((i+1:Nat):Int),y+1)++[2]),rfl,?_⟩
   ·unfold t_boundary_Trace_L4
    dsimp only
    rw [Kj (by omega),e3,e4]
    refine (Jdq h1 hd1 (u+((i+1:Nat):Int),y+1) _).trans ?_
    refine congrArg some (congrArg Nx.go ?_)
    refine K8 rfl (K8 rfl (K8 rfl (K8 rfl (K8 rfl (K8 rfl (K8 rfl (K8 rfl (K8 rfl (K8 rfl (K8 rfl (K8 rfl (K8 ?_ rfl))))))))))))
    exact Jom m1 (u+((i+1:Nat):Int),y+1) 2
   ·refine (h1.add (p:=(u+((i+1:Nat):Int),y+1)) (x:=2) fun hc=>?_).congr fun p x=>?_
    ·rcases hc with hc|hc
     ·have:=hf (u+(i:Int)) (by omega) (by omega)
      refine this ?_
      have e:u+((i+1:Nat):Int)=u+(i:Int)+1:=by omega
      rw [←e];exact hc
     ·have:=hc.2.2.1;dsimp only at this;omega
    ·constructor
     ·rintro ((hp|hp)|⟨rfl,rfl⟩)
      ·exact .inl hp
      ·exact .inr ⟨hp.1,hp.2.1,by have:=hp.2.2.1;omega,hp.2.2.2⟩
      ·exact .inr ⟨rfl,by dsimp only;omega,by dsimp only;omega,rfl⟩
     ·rintro (hp|⟨p1,p2,p3,rfl⟩)
      ·exact .inl (.inl hp)
      ·by_cases hq:p.1≤u+(i:Int)
       ·exact .inl (.inr ⟨p1,p2,hq,rfl⟩)
       ·exact .inr ⟨Prod.ext (by dsimp only;omega) p1,rfl⟩)
  (by
   rintro s ⟨m1,rfl,h1⟩
   refine ⟨_,?_,m1,rfl,h1.congr fun p x=>?_⟩
   ·unfold t_boundary_Trace_L4
    dsimp only
    rw [Jy (by omega)]
   ·have:u+(((v - u).toNat:Nat):Int)=v:=by omega
    rw [this])
 exact ⟨m',he,hm'⟩
theorem Jed {l:List Run} {i:Nat} {w:Run} (h:l[i]?=some w) (x:Int):Jk (l.take (i+1)) x↔Jk (l.take i) x∨(w.1≤x∧x<w.2):=by
 rw [Qt h]
 unfold Jk
 constructor
 ·rintro ⟨u,hu,hx⟩
  rcases Ae.1 hu with hu|hu
  ·exact .inl ⟨u,hu,hx⟩
  ·rw [Ad] at hu;subst hu;exact .inr hx
 ·rintro (⟨u,hu,hx⟩|hx)
  ·exact ⟨u,Ae.2 (.inl hu),hx⟩
  ·exact ⟨w,Ae.2 (.inr (Ad.2 rfl)),hx⟩
theorem Jhi {lo hi:Int} {l:List Run} (hl:RunsOK lo hi l) {i:Nat} {w:Run} (h:l[i]?=some w) {x:Int} (hx:Jk (l.take i) x):x<w.1:=by
 obtain ⟨u,hu,h1,h2⟩:=hx
 obtain ⟨j,hj⟩:=Ah hu
 obtain ⟨hlt,e⟩:=Aa.1 hj
 rw [Bm] at hlt
 rw [Bz] at e
 obtain ⟨hi',e'⟩:=Aa.1 h
 have:=Aj.1 hl.pw j i (by omega) hi' (by omega)
 rw [e,e'] at this
 omega
theorem L1_ok (a:Reg) (s0:List Run) (s1:Reg) (s2 s3:Int) (l:List Run) (s7:Reg) (y:Int) (s9:List Run) (m:Cr) {S:Cell→Int→Prop}
  (h:MapOK m S) (hd:HdOK S) (hl:RunsOK (-4096) 4096 l) (hn:l.length≤1000000000) (hf:∀x,Jk l x→¬S (x,y) 0) :
  ∃m',K3 (@t_boundary_Trace_L1 wv a) bigN ⟨s0,⟨s1,⟨s2,⟨s3,⟨l,⟨(l.length:Int),⟨0,⟨s7,⟨y,⟨s9,⟨m,()⟩⟩⟩⟩⟩⟩⟩⟩⟩⟩⟩=some ⟨s0,⟨s1,⟨s2,⟨s3,⟨s7,⟨y,⟨s9,⟨m',()⟩⟩⟩⟩⟩⟩⟩⟩ ∧
   MapOK m' (fun p x=>S p x∨(p.2=y∧Jk l p.1∧x=0)):=by
 obtain ⟨e,he,m',rfl,hm'⟩:=Qh (b:=@t_boundary_Trace_L1 wv a)
  (fun i s=>∃m',s=⟨s0,⟨s1,⟨s2,⟨s3,⟨l,⟨(l.length:Int),⟨(i:Int),⟨s7,⟨y,⟨s9,⟨m',()⟩⟩⟩⟩⟩⟩⟩⟩⟩⟩⟩∧MapOK m' (fun p x=>S p x∨(p.2=y∧Jk (l.take i) p.1∧x=0)))
  (fun e=>∃m',e=⟨s0,⟨s1,⟨s2,⟨s3,⟨s7,⟨y,⟨s9,⟨m',()⟩⟩⟩⟩⟩⟩⟩⟩∧MapOK m' (fun p x=>S p x∨(p.2=y∧Jk l p.1∧x=0)))
  l.length (by omega) (s0:=⟨s0,⟨s1,⟨s2,⟨s3,⟨l,⟨(l.length:Int),⟨0,⟨s7,⟨y,⟨s9,⟨m,()⟩⟩⟩⟩⟩⟩⟩⟩⟩⟩⟩)
  ⟨m,rfl,h.congr fun p x=>⟨.inl,fun h=>h.elim id fun h=>by obtain ⟨_,⟨u,hu,_⟩,_⟩:=h;rw [Bb] at hu;exact (Ao hu).elim⟩⟩
  (fun i s hi=>by
   rintro ⟨m1,rfl,h1⟩
   have e3:@W.ar wv .add .i64 (i:Int) 1=((i+1:Nat):Int):=by rw [Jx,wr (by omega) (by omega)];omega
   have hd1:HdOK (fun p x=>S p x∨(p.2=y∧Jk (l.take i) p.1∧x=0)):=fun p x hp=>hp.elim (hd p x) fun hp=>.inl hp.2.2
   have hw:l[i]?=some l[i]:=Ab hi
   have hb:=hl.bd l[i] (Au _)
   obtain ⟨m2,e2,h2⟩:=L2_ok a s0 s1 s2 s3 l (l.length:Int) (i:Int) s7 y s9 l[i].1 l[i].2 m1 h1 hd1 (fun x hx1 hx2 hc=>by
    rcases hc with hc|hc
    ·exact hf x ⟨l[i],Au _,hx1,hx2⟩ hc
    ·have:=Jhi hl hw hc.2.1;dsimp only at this;omega) (by omega)
   refine ⟨_,?_,m2,rfl,h2.congr fun p x=>?_⟩
   ·unfold t_boundary_Trace_L1
    dsimp only
    rw [Kj (by omega),ge_s (fg hw)]
    refine (lo_s e2).trans ?_
    dsimp only
    rw [e3]
   ·rw [Jed hw]
    constructor
    ·rintro ((hp|hp)|hp)
     ·exact .inl hp
     ·exact .inr ⟨hp.1,.inl hp.2.1,hp.2.2⟩
     ·exact .inr ⟨hp.1,.inr ⟨hp.2.1,hp.2.2.1⟩,hp.2.2.2⟩
    ·rintro (hp|⟨p1,p2|p2,p3⟩)
     ·exact .inl (.inl hp)
     ·exact .inl (.inr ⟨p1,p2,p3⟩)
     ·exact .inr ⟨p1,p2.1,p2.2,p3⟩)
  (by
   rintro s ⟨m1,rfl,h1⟩
   refine ⟨_,?_,m1,rfl,h1.congr fun p x=>?_⟩
   ·unfold t_boundary_Trace_L1
    dsimp only
    rw [Jy (by omega)]
   ·rw [Ay])
 exact ⟨m',he,hm'⟩
theorem L3_ok (a:Reg) (s0:Reg) (s1 s2:Int) (l:List Run) (s6:Reg) (y:Int) (s8:List Run) (m:Cr) {S:Cell→Int→Prop}
  (h:MapOK m S) (hd:HdOK S) (hl:RunsOK (-4096) 4096 l) (hn:l.length≤1000000000) (hy:-4096≤y∧y<4096) (hf:∀x,Jk l x→¬S (x+1,y+1) 2) :
  ∃m',K3 (@t_boundary_Trace_L3 wv a) bigN ⟨s0,⟨s1,⟨s2,⟨l,⟨(l.length:Int),⟨0,⟨s6,⟨y,⟨s8,⟨m,()⟩⟩⟩⟩⟩⟩⟩⟩⟩⟩=some ⟨s0,⟨s1,⟨s2,⟨s6,⟨y,⟨s8,⟨m',()⟩⟩⟩⟩⟩⟩⟩ ∧
   MapOK m' (fun p x=>S p x∨(p.2=y+1∧Jk l (p.1 - 1)∧x=2)):=by
 obtain ⟨e,he,m',rfl,hm'⟩:=Qh (b:=@t_boundary_Trace_L3 wv a)
  (fun i s=>∃m',s=⟨s0,⟨s1,⟨s2,⟨l,⟨(l.length:Int),⟨(i:Int),⟨s6,⟨y,⟨s8,⟨m',()⟩⟩⟩⟩⟩⟩⟩⟩⟩⟩∧MapOK m' (fun p x=>S p x∨(p.2=y+1∧Jk (l.take i) (p.1 - 1)∧x=2)))
  (fun e=>∃m',e=⟨s0,⟨s1,⟨s2,⟨s6,⟨y,⟨s8,⟨m',()⟩⟩⟩⟩⟩⟩⟩∧MapOK m' (fun p x=>S p x∨(p.2=y+1∧Jk l (p.1 - 1)∧x=2)))
  l.length (by omega) (s0:=⟨s0,⟨s1,⟨s2,⟨l,⟨(l.length:Int),⟨0,⟨s6,⟨y,⟨s8,⟨m,()⟩⟩⟩⟩⟩⟩⟩⟩⟩⟩)
  ⟨m,rfl,h.congr fun p x=>⟨.inl,fun h=>h.elim id fun h=>by obtain ⟨_,⟨u,hu,_⟩,_⟩:=h;rw [Bb] at hu;exact (Ao hu).elim⟩⟩
  (fun i s hi=>by
   rintro ⟨m1,rfl,h1⟩
   have e3:@W.ar wv .add .i64 (i:Int) 1=((i+1:Nat):Int):=by rw [Jx,wr (by omega) (by omega)];omega
   have hd1:HdOK (fun p x=>S p x∨(p.2=y+1∧Jk (l.take i) (p.1 - 1)∧x=2)):=fun p x hp=>hp.elim (hd p x) fun hp=>.inr (.inr (.inl hp.2.2))
   have hw:l[i]?=some l[i]:=Ab hi
   have hb:=hl.bd l[i] (Au _)
   obtain ⟨m2,e2,h2⟩:=L4_ok a s0 s1 s2 l (l.length:Int) (i:Int) s6 y s8 l[i].1 l[i].2 m1 h1 hd1 (fun x hx1 hx2 hc=>by
    rcases hc with hc|hc
    ·exact hf x ⟨l[i],Au _,hx1,hx2⟩ hc
    ·have:=Jhi hl hw hc.2.1;dsimp only at this;omega) (by omega) hy
   refine ⟨_,?_,m2,rfl,h2.congr fun p x=>?_⟩
   ·unfold t_boundary_Trace_L3
    dsimp only
    rw [Kj (by omega),ge_s (fg hw)]
    refine (lo_s e2).trans ?_
    dsimp only
    rw [e3]
   ·rw [Jed hw]
    constructor
    ·rintro ((hp|hp)|hp)
     ·exact .inl hp
     ·exact .inr ⟨hp.1,.inl hp.2.1,hp.2.2⟩
     ·exact .inr ⟨hp.1,.inr ⟨by omega,by omega⟩,hp.2.2.2⟩
    ·rintro (hp|⟨p1,p2|p2,p3⟩)
     ·exact .inl (.inl hp)
     ·exact .inl (.inr ⟨p1,p2,p3⟩)
     ·exact .inr ⟨p1,by omega,by omega,p3⟩)
  (by
   rintro s ⟨m1,rfl,h1⟩
   refine ⟨_,?_,m1,rfl,h1.congr fun p x=>?_⟩
   ·unfold t_boundary_Trace_L3
    dsimp only
    rw [Jy (by omega)]
   ·rw [Ay])
 exact ⟨m',he,hm'⟩
end Go.Proofs.Ytmfagdfkpjgeiaa
namespace Go.Proofs.Ytmfagdfkpjgeiaa
open Go Go.Vv Go.Dn Go.Dn.W
set_option linter.unusedVariables false
set_option linter.unusedSimpArgs false
set_option maxRecDepth 100000
theorem L5_ok (a:Reg) (s0:Reg) (s1 s2:Int) (l:List Run) (s6:Reg) (y:Int) (s8:List Run) (m:Cr) {S:Cell→Int→Prop}
  (h:MapOK m S) (hd:HdOK S) (hl:RunsOK (-4096) 4096 l) (hn:l.length≤1000000000) (hy:-4096≤y∧y<4096) (hf1:∀w∈l,¬S (w.2,y) 1) (hf3:∀w∈l,¬S (w.1,y+1) 3) :
  ∃m',K3 (@t_boundary_Trace_L5 wv a) bigN ⟨s0,⟨s1,⟨s2,⟨l,⟨(l.length:Int),⟨0,⟨s6,⟨y,⟨s8,⟨m,()⟩⟩⟩⟩⟩⟩⟩⟩⟩⟩=some ⟨s0,⟨s1,⟨s2,⟨s6,⟨m',()⟩⟩⟩⟩⟩∧MapOK m' (fun p x=>S p x∨(p.2=y∧(∃w∈l,p.1=w.2)∧x=1)∨(p.2=y+1∧(∃w∈l,p.1=w.1)∧x=3)):=by
 have hS:∀i,HdOK (fun p x=>S p x∨(p.2=y∧(∃w∈l.take i,p.1=w.2)∧x=1)∨(p.2=y+1∧(∃w∈l.take i,p.1=w.1)∧x=3)):=fun i p x hp=>by
  rcases hp with hp|hp|hp
  ·exact hd p x hp
  ·exact .inr (.inl hp.2.2)
  ·exact .inr (.inr (.inr hp.2.2))
 obtain ⟨e,he,m',rfl,hm'⟩:=Qh (b:=@t_boundary_Trace_L5 wv a)
  (fun i s=>∃m',s=⟨s0,⟨s1,⟨s2,⟨l,⟨(l.length:Int),⟨(i:Int),⟨s6,⟨y,⟨s8,⟨m',()⟩⟩⟩⟩⟩⟩⟩⟩⟩⟩∧MapOK m' (fun p x=>S p x∨(p.2=y∧(∃w∈(l.take i),p.1=w.2)∧x=1)∨(p.2=y+1∧(∃w∈(l.take i),p.1=w.1)∧x=3)))
  (fun e=>∃m',e=⟨s0,⟨s1,⟨s2,⟨s6,⟨m',()⟩⟩⟩⟩⟩∧MapOK m' (fun p x=>S p x∨(p.2=y∧(∃w∈l,p.1=w.2)∧x=1)∨(p.2=y+1∧(∃w∈l,p.1=w.1)∧x=3)))
  l.length (by omega) (s0:=⟨s0,⟨s1,⟨s2,⟨l,⟨(l.length:Int),⟨0,⟨s6,⟨y,⟨s8,⟨m,()⟩⟩⟩⟩⟩⟩⟩⟩⟩⟩)
  ⟨m,rfl,h.congr fun p x=>⟨.inl,fun h=>by
   rcases h with h|⟨_,⟨w,hw,_⟩,_⟩|⟨_,⟨w,hw,_⟩,_⟩
   ·exact h
   ·rw [Bb] at hw;exact (Ao hw).elim
   ·rw [Bb] at hw;exact (Ao hw).elim⟩⟩
  (fun i s hi=>by
   rintro ⟨m1,rfl,h1⟩
   have e3:@W.ar wv .add .i64 (i:Int) 1=((i+1:Nat):Int):=by rw [Jx,wr (by omega) (by omega)];omega
   have e4:@W.ar wv .add .i64 y 1=y+1:=by rw [Jx,wr (by omega) (by omega)]
   have hw:l[i]?=some l[i]:=Ab hi
   have hm:l[i]∈l:=Au _
   have old:∀w∈l.take i,w.2<l[i].1∧w.1<w.2:=fun w hw'=>by
    obtain ⟨j,hj⟩:=Ah hw'
    obtain ⟨hlt,e⟩:=Aa.1 hj
    rw [Bm] at hlt
    rw [Bz] at e
    have h1:=Aj.1 hl.pw j i (by omega) hi (by omega)
    have h2:=hl.bd _ (Au (l:=l) (n:=j) (by omega))
    rw [e] at h1 h2
    omega
   have hbd:=hl.bd l[i] hm
   have h2:=h1.add (p:=(l[i].2,y)) (x:=1) (fun hc=>by
    rcases hc with hc|⟨_,⟨w,hw',e⟩,_⟩|⟨_,_,e⟩
    ·exact hf1 _ hm hc
    ·have:=old w hw';dsimp only at e;omega
    ·omega)
   have hd2:HdOK (fun p x=>(S p x∨(p.2=y∧(∃w∈l.take i,p.1=w.2)∧x=1)∨(p.2=y+1∧(∃w∈l.take i,p.1=w.1)∧x=3))∨(p=(l[i].2,y)∧x=1)):=fun p x hp=>hp.elim (hS i p x) fun hp=>.inr (.inl hp.2)
   have h3:=h2.add (p:=(l[i].1,y+1)) (x:=3) (fun hc=>by
    rcases hc with (hc|⟨_,_,e⟩|⟨_,⟨w,hw',e⟩,_⟩)|hc
    ·exact hf3 _ hm hc
    ·omega
    ·have:=old w hw';dsimp only at e;omega
    ·have:=hc.2;omega)
   refine ⟨_,?_,_,rfl,h3.congr fun p x=>?_⟩
   ·unfold t_boundary_Trace_L5
    dsimp only
    rw [Kj (by omega),ge_s (fg hw),e3,e4]
    refine (Jdq h1 (hS i) (l[i].2,y) _).trans ?_
    have q:=Jom m1 (l[i].2,y) 1
    have g:=Jdq (α:=Nx (HP Reg (HP Int (HP Int (HP (List Run) (HP Int (HP Int (HP Reg (HP Int (HP (List Run) (HP Cr Unit)))))))))) (HP Reg (HP Int (HP Int (HP Reg (HP Cr Unit)))))) h2 hd2 (l[i].1,y+1)
    rw [←q] at g
    refine (g _).trans ?_
    refine congrArg some (congrArg Nx.go ?_)
    refine K8 rfl (K8 rfl (K8 rfl (K8 rfl (K8 rfl (K8 rfl (K8 rfl (K8 rfl (K8 rfl (K8 ?_ rfl)))))))))
    have q2:=Jom (putC m1 (l[i].2,y) (atC m1 (l[i].2,y)++[1])) (l[i].1,y+1) 3
    rw [←q] at q2 ⊢
    exact q2
   ·rw [Qt hw]
    constructor
    ·rintro (((hp|⟨p1,⟨w,hw',e⟩,p3⟩|⟨p1,⟨w,hw',e⟩,p3⟩)|⟨rfl,rfl⟩)|⟨rfl,rfl⟩)
     ·exact .inl hp
     ·exact .inr (.inl ⟨p1,⟨w,Ae.2 (.inl hw'),e⟩,p3⟩)
     ·exact .inr (.inr ⟨p1,⟨w,Ae.2 (.inl hw'),e⟩,p3⟩)
     ·exact .inr (.inl ⟨rfl,⟨l[i],Ae.2 (.inr (Ad.2 rfl)),rfl⟩,rfl⟩)
     ·exact .inr (.inr ⟨rfl,⟨l[i],Ae.2 (.inr (Ad.2 rfl)),rfl⟩,rfl⟩)
    ·rintro (hp|⟨p1,⟨w,hw',e⟩,p3⟩|⟨p1,⟨w,hw',e⟩,p3⟩)
     ·exact .inl (.inl (.inl hp))
     ·rcases Ae.1 hw' with hw'|hw'
      ·exact .inl (.inl (.inr (.inl ⟨p1,⟨w,hw',e⟩,p3⟩)))
      ·rw [Ad] at hw';subst hw'
       exact .inl (.inr ⟨Prod.ext e p1,p3⟩)
     ·rcases Ae.1 hw' with hw'|hw'
      ·exact .inl (.inl (.inr (.inr ⟨p1,⟨w,hw',e⟩,p3⟩)))
      ·rw [Ad] at hw';subst hw'
       exact .inr ⟨Prod.ext e p1,p3⟩)
  (by
   rintro s ⟨m1,rfl,h1⟩
   refine ⟨_,?_,m1,rfl,h1.congr fun p x=>?_⟩
   ·unfold t_boundary_Trace_L5
    dsimp only
    rw [Jy (by omega)]
   ·rw [Ay])
 exact ⟨m',he,hm'⟩
end Go.Proofs.Ytmfagdfkpjgeiaa
namespace Go.Proofs.Ytmfagdfkpjgeiaa
open Go Go.Vv Go.Dn Go.Dn.W
set_option linter.unusedVariables false
set_option linter.unusedSimpArgs false
set_option maxRecDepth 100000
theorem Jok {hi:Int}:∀ {l:List Run} {lo:Int},lo≤hi→RunsOK lo hi l→(l.length:Int)≤hi - lo
 | [],lo,h0,_=>by simp;omega
 | u::l,lo,h0,h=>by
  obtain ⟨p1,p2⟩:=Ak.1 h.pw
  have hu:=h.bd u (Af ..)
  have:=Jok (l:=l) (lo:=u.2) (hi:=hi) (by omega) ⟨fun x hx=>by
   have h1:=h.bd x (Ai _ hx)
   have h2:=p1 x hx
   exact ⟨by omega,h1.2.1,h1.2.2⟩,p2⟩
  rw [Ar]
  omega
theorem Jmb {lo hi lo' hi':Int} {l:List Run} (h:RunsOK lo hi l) (h1:lo'≤lo) (h2:hi≤hi'):RunsOK lo' hi' l :=
 ⟨fun x hx=>by have:=h.bd x hx;exact ⟨by omega,this.2.1,by omega⟩,h.pw⟩
theorem jj {l:List Run} (h:RunsOK (-4096) 4096 l):l.length≤8192:=by
 have:=Jok (by omega) h
 omega
theorem Jgz {a b:List Run} (ha:RunsOK (-4096) 4096 a) (hb:RunsOK (-4096) 4096 b) :
  ∃l:List Run,(∀ {α:Type} (k:List (Int×Int)→Option α),@W.call wv α c_runs_Subtract ((a,b):List (Int×Int)×List (Int×Int)) k=k l)∧RunsOK (-4096) 4096 l∧∀x,Jk l x↔Jk a x∧¬Jk b x:=by
 have la:=jj ha
 have lb:=jj hb
 obtain ⟨l,hl,hn,hx⟩:=Jml a b (by omega) (by omega) (Jmb ha (by omega) (by omega)) (Jmb hb (by omega) (by omega))
 refine ⟨l,fun k=>ca_s (c:=c_runs_Subtract) hl,normL_ok hn fun x h=>?_,hx⟩
 obtain ⟨u,hu,h1,h2⟩:=((hx x).1 h).1
 have:=ha.bd u hu
 omega
end Go.Proofs.Ytmfagdfkpjgeiaa
namespace Go.Proofs.Ytmfagdfkpjgeiaa
open Go Go.Vv Go.Dn Go.Dn.W
set_option linter.unusedVariables false
set_option linter.unusedSimpArgs false
set_option maxRecDepth 100000
def Jhu (r:Reg) (w:Row) (p:Cell) (x:Int):Prop :=
 (p.2=w.1∧(Jk w.2 p.1∧¬Jk (rowY r (w.1 - 1)) p.1)∧x=0)∨(p.2=w.1+1∧(Jk w.2 (p.1 - 1)∧¬Jk (rowY r (w.1+1)) (p.1 - 1))∧x=2) ∨
 (p.2=w.1∧(∃u∈w.2,p.1=u.2)∧x=1)∨(p.2=w.1+1∧(∃u∈w.2,p.1=u.1)∧x=3)
theorem L0_step (a r:Reg) (hr:RegOK r) (hlen:r.length≤1000000000) {i:Nat} {w:Row} (hw:r[i]?=some w) (m:Cr) {S:Cell→Int→Prop} (h:MapOK m S) (hd:HdOK S) (hf:∀p x,Jhu r w p x→¬S p x) :
  ∃m',@t_boundary_Trace_L0 wv a ⟨r,⟨(r.length:Int),⟨(i:Int),⟨r,⟨m,()⟩⟩⟩⟩⟩=some (.go ⟨r,⟨(r.length:Int),⟨((i+1:Nat):Int),⟨r,⟨m',()⟩⟩⟩⟩⟩) ∧
   MapOK m' (fun p x=>S p x∨Jhu r w p x):=by
 have hi:=(Aa.1 hw).1
 have hm:=Ac hw
 have hy:=hr.y w hm
 have hrs:=hr.rs w hm
 have e3:@W.ar wv .add .i64 (i:Int) 1=((i+1:Nat):Int):=by rw [Jx,wr (by omega) (by omega)];omega
 obtain ⟨up,ku,hu,xu⟩:=Jgz hrs (Jt2 hr (w.1 - 1))
 obtain ⟨dn,kd,hdn,xd⟩:=Jgz hrs (Jt2 hr (w.1+1))
 obtain ⟨m1,q1,h1⟩:=L1_ok a (rowY r (w.1+1)) r (r.length:Int) (i:Int) up r w.1 w.2 m h hd hu (by have:=jj hu;omega) (fun x hx=>hf _ _ (.inl ⟨rfl,(xu x).1 hx,rfl⟩))
 have hd1:HdOK (fun p x=>S p x∨(p.2=w.1∧Jk up p.1∧x=0)):=fun p x hp=>hp.elim (hd p x) fun hp=>.inl hp.2.2
 obtain ⟨m2,q2,h2⟩:=L3_ok a r (r.length:Int) (i:Int) dn r w.1 w.2 m1 h1 hd1 hdn (by have:=jj hdn;omega) hy (fun x hx hc=>by
  rcases hc with hc|hc
  ·exact hf _ _ (.inr (.inl ⟨rfl,by dsimp only;rw [show x+1 - 1=x by omega];exact (xd x).1 hx,rfl⟩)) hc
  ·have:=hc.2.2;omega)
 have hd2:HdOK (fun p x=>(S p x∨(p.2=w.1∧Jk up p.1∧x=0))∨(p.2=w.1+1∧Jk dn (p.1 - 1)∧x=2)):=fun p x hp=>hp.elim (hd1 p x) fun hp=>.inr (.inr (.inl hp.2.2))
 obtain ⟨m3,q3,h3⟩:=L5_ok a r (r.length:Int) (i:Int) w.2 r w.1 w.2 m2 h2 hd2 hrs (by have:=jj hrs;omega) hy (fun u hu' hc=>by
  rcases hc with (hc|hc)|hc
  ·exact hf (u.2,w.1) 1 (.inr (.inr (.inl ⟨rfl,⟨u,hu',rfl⟩,rfl⟩))) hc
  ·have:=hc.2.2;omega
  ·have:=hc.2.2;omega) (fun u hu' hc=>by
  rcases hc with (hc|hc)|hc
  ·exact hf (u.1,w.1+1) 3 (.inr (.inr (.inr ⟨rfl,⟨u,hu',rfl⟩,rfl⟩))) hc
  ·have:=hc.2.2;omega
  ·have:=hc.2.2;omega)
 refine ⟨m3,?_,h3.congr fun p x=>?_⟩
 ·unfold t_boundary_Trace_L0
  dsimp only
  rw [Kj (by omega),ge_s (fg hw),k_around hr hlen hw]
  dsimp only
  rw [ku]
  refine (lo_s q1).trans ?_
  dsimp only
  rw [kd]
  refine (lo_s q2).trans ?_
  dsimp only
  refine (lo_s q3).trans ?_
  dsimp only
  rw [e3]
 ·unfold Jhu
  rw [xu,xd]
  constructor
  ·rintro (((hp|hp)|hp)|hp|hp)
   ·exact .inl hp
   ·exact .inr (.inl hp)
   ·exact .inr (.inr (.inl hp))
   ·exact .inr (.inr (.inr (.inl hp)))
   ·exact .inr (.inr (.inr (.inr hp)))
  ·rintro (hp|hp|hp|hp|hp)
   ·exact .inl (.inl (.inl hp))
   ·exact .inl (.inl (.inr hp))
   ·exact .inl (.inr hp)
   ·exact .inr (.inl hp)
   ·exact .inr (.inr hp)
end Go.Proofs.Ytmfagdfkpjgeiaa
namespace Go.Proofs.Ytmfagdfkpjgeiaa
open Go Go.Vv Go.Dn Go.Dn.W
set_option linter.unusedVariables false
set_option linter.unusedSimpArgs false
set_option maxRecDepth 100000
def J4 (p:Cell) (x:Int):Cell:=if x=0 then p else if x=1 then (p.1 - 1,p.2) else if x=2 then (p.1 - 1,p.2 - 1) else (p.1,p.2 - 1)
theorem Jvq {r:Reg} {w:Row} {p:Cell} {x:Int} (h:Jhu r w p x):w.1=(J4 p x).2:=by
 unfold J4
 rcases h with ⟨h1,_,rfl⟩|⟨h1,_,rfl⟩|⟨h1,_,rfl⟩|⟨h1,_,rfl⟩
 ·rw [if_pos rfl];omega
 ·rw [if_neg (by decide),if_neg (by decide),if_pos rfl];dsimp only;omega
 ·rw [if_neg (by decide),if_pos rfl];dsimp only;omega
 ·rw [if_neg (by decide),if_neg (by decide),if_neg (by decide)];dsimp only;omega
theorem rowCr_hd {r:Reg} {w:Row} {p:Cell} {x:Int} (h:Jhu r w p x):x=0∨x=1∨x=2∨x=3:=by
 rcases h with ⟨_,_,rfl⟩|⟨_,_,rfl⟩|⟨_,_,rfl⟩|⟨_,_,rfl⟩<;>simp
theorem Jq1 (a r:Reg) (hr:RegOK r) (hlen:r.length≤1000000000) :
  ∃m,K3 (@t_boundary_Trace_L0 wv a) bigN ⟨r,⟨(r.length:Int),⟨0,⟨r,⟨[],()⟩⟩⟩⟩⟩=some ⟨m,()⟩∧MapOK m (fun p x=>∃w∈r,Jhu r w p x):=by
 obtain ⟨e,he,m,rfl,hm⟩:=Qh (b:=@t_boundary_Trace_L0 wv a)
  (fun i s=>∃m,s=⟨r,⟨(r.length:Int),⟨(i:Int),⟨r,⟨m,()⟩⟩⟩⟩⟩∧MapOK m (fun p x=>∃w∈r.take i,Jhu r w p x))
  (fun e=>∃m,e=⟨m,()⟩∧MapOK m (fun p x=>∃w∈r,Jhu r w p x))
  r.length (by omega) (s0:=⟨r,⟨(r.length:Int),⟨0,⟨r,⟨[],()⟩⟩⟩⟩⟩)
  ⟨[],rfl,MapOK.nil.congr fun p x=>⟨False.elim,fun ⟨w,hw,_⟩=>by rw [Bb] at hw;exact (Ao hw).elim⟩⟩
  (fun i s hi=>by
   rintro ⟨m1,rfl,h1⟩
   have hw:r[i]?=some r[i]:=Ab hi
   obtain ⟨m2,q,h2⟩:=L0_step a r hr hlen hw m1 h1 (fun p x ⟨w,_,hc⟩=>rowCr_hd hc) (fun p x hc ⟨w,hw',hc'⟩=>by
    obtain ⟨j,hj⟩:=Ah hw'
    obtain ⟨hlt,e⟩:=Aa.1 hj
    rw [Bm] at hlt
    rw [Bz] at e
    have h3:=Jpx hr (Ab (l:=r) (i:=j) (by omega)) hw (by omega)
    rw [e,Jvq hc,Jvq hc'] at h3
    omega)
   refine ⟨_,q,m2,rfl,h2.congr fun p x=>?_⟩
   rw [Qt hw]
   constructor
   ·rintro (⟨w,hw',hc⟩|hc)
    ·exact ⟨w,Ae.2 (.inl hw'),hc⟩
    ·exact ⟨_,Ae.2 (.inr (Ad.2 rfl)),hc⟩
   ·rintro ⟨w,hw',hc⟩
    rcases Ae.1 hw' with hw'|hw'
    ·exact .inl ⟨w,hw',hc⟩
    ·rw [Ad] at hw';subst hw';exact .inr hc)
  (by
   rintro s ⟨m1,rfl,h1⟩
   refine ⟨_,?_,m1,rfl,h1.congr fun p x=>?_⟩
   ·unfold t_boundary_Trace_L0
    dsimp only
    rw [Jy (by omega)]
   ·rw [Ay])
 exact ⟨m,he,hm⟩
end Go.Proofs.Ytmfagdfkpjgeiaa
namespace Go.Proofs.Ytmfagdfkpjgeiaa
open Go Go.Vv Go.Dn Go.Dn.W
set_option linter.unusedVariables false
set_option linter.unusedSimpArgs false
set_option maxRecDepth 100000
def Crk (r:Reg) (p:Cell) (x:Int):Prop :=
 (x=0∧Kz r (p.1,p.2)∧¬Kz r (p.1,p.2 - 1))∨(x=1∧Kz r (p.1 - 1,p.2)∧¬Kz r (p.1,p.2)) ∨
 (x=2∧Kz r (p.1 - 1,p.2 - 1)∧¬Kz r (p.1 - 1,p.2))∨(x=3∧Kz r (p.1,p.2 - 1)∧¬Kz r (p.1 - 1,p.2 - 1))
theorem Jsn {lo hi:Int} {l:List Run} (h:RunsOK lo hi l) (x:Int):(∃u∈l,x=u.2)↔Jk l (x - 1)∧¬Jk l x:=by
 constructor
 ·rintro ⟨u,hu,rfl⟩
  have hb:=h.bd u hu
  refine ⟨⟨u,hu,by omega,by omega⟩,?_⟩
  rintro ⟨v,hv,h1,h2⟩
  obtain ⟨i,hi⟩:=Ah hu
  obtain ⟨j,hj⟩:=Ah hv
  obtain ⟨p1,e1⟩:=Aa.1 hi
  obtain ⟨p2,e2⟩:=Aa.1 hj
  have pw:=Aj.1 h.pw
  rcases Az i j with hij|hij|hij
  ·have:=pw i j p1 p2 hij;rw [e1,e2] at this;omega
  ·subst hij;rw [e1] at e2;subst e2;omega
  ·have:=pw j i p2 p1 hij;rw [e1,e2] at this;omega
 ·rintro ⟨⟨u,hu,h1,h2⟩,hn⟩
  refine ⟨u,hu,?_⟩
  by_cases hx:x<u.2
  ·exact (hn ⟨u,hu,by omega,hx⟩).elim
  ·omega
theorem Jt8 {lo hi:Int} {l:List Run} (h:RunsOK lo hi l) (x:Int):(∃u∈l,x=u.1)↔Jk l x∧¬Jk l (x - 1):=by
 constructor
 ·rintro ⟨u,hu,rfl⟩
  have hb:=h.bd u hu
  refine ⟨⟨u,hu,by omega,by omega⟩,?_⟩
  rintro ⟨v,hv,h1,h2⟩
  obtain ⟨i,hi⟩:=Ah hu
  obtain ⟨j,hj⟩:=Ah hv
  obtain ⟨p1,e1⟩:=Aa.1 hi
  obtain ⟨p2,e2⟩:=Aa.1 hj
  have pw:=Aj.1 h.pw
  rcases Az i j with hij|hij|hij
  ·have:=pw i j p1 p2 hij;rw [e1,e2] at this;omega
  ·subst hij;rw [e1] at e2;subst e2;omega
  ·have:=pw j i p2 p1 hij;rw [e1,e2] at this;omega
 ·rintro ⟨⟨u,hu,h1,h2⟩,hn⟩
  refine ⟨u,hu,?_⟩
  by_cases hx:u.1≤x - 1
  ·exact (hn ⟨u,hu,hx,by omega⟩).elim
  ·omega
end Go.Proofs.Ytmfagdfkpjgeiaa
namespace Go.Proofs.Ytmfagdfkpjgeiaa
open Go Go.Vv Go.Dn Go.Dn.W
set_option linter.unusedVariables false
set_option linter.unusedSimpArgs false
set_option maxRecDepth 100000
theorem in_row {r:Reg} (hr:RegOK r) {w:Row} (hw:w∈r) {x y:Int} (e:y=w.1):Kz r (x,y)↔Jk w.2 x:=by
 rw [Ja9 hr,e,zd hr hw]
theorem crk_iff {r:Reg} (hr:RegOK r) (p:Cell) (x:Int):(∃w∈r,Jhu r w p x)↔Crk r p x:=by
 constructor
 ·rintro ⟨w,hw,h⟩
  have hrs:=hr.rs w hw
  rcases h with ⟨h1,h2,rfl⟩|⟨h1,h2,rfl⟩|⟨h1,h2,rfl⟩|⟨h1,h2,rfl⟩
  ·exact .inl ⟨rfl,(in_row hr hw h1).2 h2.1,by rw [Ja9 hr,h1];exact h2.2⟩
  ·exact .inr (.inr (.inl ⟨rfl,(in_row hr hw (by omega)).2 h2.1,by rw [Ja9 hr,h1];exact h2.2⟩))
  ·have:=(Jsn hrs p.1).1 h2
   exact .inr (.inl ⟨rfl,(in_row hr hw h1).2 this.1,fun hc=>this.2 ((in_row hr hw h1).1 hc)⟩)
  ·have:=(Jt8 hrs p.1).1 h2
   exact .inr (.inr (.inr ⟨rfl,(in_row hr hw (by omega)).2 this.1,fun hc=>this.2 ((in_row hr hw (by omega)).1 hc)⟩))
 ·have key:∀ {a b:Int},Kz r (a,b)→∃w∈r,w.1=b:=fun ⟨w,hw,e,_⟩=>⟨w,hw,e⟩
  rintro (⟨rfl,h1,h2⟩|⟨rfl,h1,h2⟩|⟨rfl,h1,h2⟩|⟨rfl,h1,h2⟩)
  ·obtain ⟨w,hw,e⟩:=key h1
   exact ⟨w,hw,.inl ⟨e.symm,⟨(in_row hr hw e.symm).1 h1,fun hc=>h2 (by rw [Ja9 hr,←e];exact hc)⟩,rfl⟩⟩
  ·obtain ⟨w,hw,e⟩:=key h1
   exact ⟨w,hw,.inr (.inr (.inl ⟨e.symm,(Jsn (hr.rs w hw) p.1).2 ⟨(in_row hr hw e.symm).1 h1,fun hc=>h2 ((in_row hr hw e.symm).2 hc)⟩,rfl⟩))⟩
  ·obtain ⟨w,hw,e⟩:=key h1
   exact ⟨w,hw,.inr (.inl ⟨by omega,⟨(in_row hr hw e.symm).1 h1,fun hc=>h2 (by rw [Ja9 hr,show p.2=w.1+1 by omega];exact hc)⟩,rfl⟩)⟩
  ·obtain ⟨w,hw,e⟩:=key h1
   exact ⟨w,hw,.inr (.inr (.inr ⟨by omega,(Jt8 (hr.rs w hw) p.1).2 ⟨(in_row hr hw e.symm).1 h1,fun hc=>h2 ((in_row hr hw e.symm).2 hc)⟩,rfl⟩))⟩
end Go.Proofs.Ytmfagdfkpjgeiaa
namespace Go.Proofs.Ytmfagdfkpjgeiaa
open Go Go.Vv Go.Dn Go.Dn.W
set_option linter.unusedVariables false
set_option linter.unusedSimpArgs false
set_option maxRecDepth 100000
theorem Crk.hd {r:Reg} {p:Cell} {x:Int} (h:Crk r p x):x=0∨x=1∨x=2∨x=3:=by
 rcases h with ⟨h,_⟩|⟨h,_⟩|⟨h,_⟩|⟨h,_⟩<;>simp [h]
theorem Crk.opp {r:Reg} {p:Cell} {x y:Int} (h:Crk r p x) (h':Crk r p y) (hne:x≠y):(x+2) % 4=y:=by
 rcases h with ⟨rfl,h1,h2⟩|⟨rfl,h1,h2⟩|⟨rfl,h1,h2⟩|⟨rfl,h1,h2⟩ <;>
 rcases h' with ⟨rfl,h3,h4⟩|⟨rfl,h3,h4⟩|⟨rfl,h3,h4⟩|⟨rfl,h3,h4⟩ <;>
 first|rfl|exact (hne rfl).elim|exact (h2 h3).elim|exact (h4 h1).elim
end Go.Proofs.Ytmfagdfkpjgeiaa
namespace Go.Proofs.Ytmfagdfkpjgeiaa
open Go Go.Vv Go.Dn Go.Dn.W
set_option linter.unusedVariables false
set_option linter.unusedSimpArgs false
set_option maxRecDepth 100000
open Classical in
noncomputable def nxtH (r:Reg) (p:Cell) (x:Int):Int :=
 let q:=Kh x p
 if Crk r q ((x+1) % 4) then (x+1) % 4 else if Crk r q x then x else (x+3) % 4
open Classical in
theorem Jno {r:Reg} {p:Cell} {x:Int} (h:Crk r p x):Crk r (Kh x p) (nxtH r p x):=by
 unfold nxtH
 dsimp only
 split
 ·assumption
 split
 ·assumption
 ·next h1 h2 =>
  rcases h with ⟨rfl,h3,h4⟩|⟨rfl,h3,h4⟩|⟨rfl,h3,h4⟩|⟨rfl,h3,h4⟩<;>simp [Kh,Crk] at *<;>grind
end Go.Proofs.Ytmfagdfkpjgeiaa
namespace Go.Proofs.Ytmfagdfkpjgeiaa
open Go Go.Vv Go.Dn Go.Dn.W
set_option linter.unusedVariables false
set_option linter.unusedSimpArgs false
set_option maxRecDepth 100000
open Classical in
theorem nxt_inj {r:Reg} {p q:Cell} {x y:Int} (hp:Crk r p x) (hq:Crk r q y) (e1:Kh x p=Kh y q) (e2:nxtH r p x=nxtH r q y):p=q∧x=y:=by
 by_cases hxy:x=y
 ·subst hxy
  refine ⟨?_,rfl⟩
  unfold Kh at e1
  rw [Prod.ext_iff] at e1 ⊢
  split at e1
  ·dsimp only at e1;omega
  split at e1
  ·dsimp only at e1;omega
  split at e1<;>(dsimp only at e1;omega)
 ·exfalso
  unfold nxtH at e2
  dsimp only at e2
  rw [←e1] at e2
  have hpo:=hp
  obtain ⟨p1,p2⟩:=p
  obtain ⟨q1,q2⟩:=q
  rcases hp with ⟨rfl,h1,h2⟩|⟨rfl,h1,h2⟩|⟨rfl,h1,h2⟩|⟨rfl,h1,h2⟩ <;>
  rcases hq with ⟨rfl,h3,h4⟩|⟨rfl,h3,h4⟩|⟨rfl,h3,h4⟩|⟨rfl,h3,h4⟩ <;>
  first
   | exact (hxy rfl).elim
   | (simp [Kh,Crk] at *<;>grind)
end Go.Proofs.Ytmfagdfkpjgeiaa
namespace Go.Proofs.Ytmfagdfkpjgeiaa
open Go Go.Vv Go.Dn Go.Dn.W
set_option linter.unusedVariables false
set_option linter.unusedSimpArgs false
set_option linter.unusedSectionVars false
set_option maxRecDepth 100000
section
variable {α:Type}
def itr (f:α→α):Nat→α→α
 | 0,c=>c
 | k+1,c=>f (itr f k c)
theorem Q1 (f:α→α) (c:α) (j:Nat):∀k,itr f (k+j) c=itr f k (itr f j c)
 | 0=>by rw [Nat.zero_add];rfl
 | k+1=>by rw [Nat.add_right_comm];exact congrArg f (Q1 f c j k)
theorem Xj:∀ {l m:List α},l.Nodup→(∀x∈l,x∈m)→l.length≤m.length
 | [],_,_,_=>Nat.zero_le _
 | x::l,m,h,hs=>by
  classical
  obtain ⟨h1,h2⟩:=Ax.1 h
  have hx:=hs x (Af ..)
  have:=Xj (m:=m.erase x) h2 fun y hy=>(Dp (fun e=>h1 (by rw [←e];exact hy))).2 (hs y (Ai _ hy))
  rw [Db hx] at this
  have:=Bj hx
  rw [Ar];omega
structure Ring (f:α→α) (cl:List α):Prop where
 mem:∀c∈cl,f c∈cl
 inj:∀c∈cl,∀d∈cl,f c=f d→c=d
variable {f:α→α} {cl:List α}
theorem Ring.itr_mem (h:Ring f cl) {c:α} (hc:c∈cl):∀k,itr f k c∈cl
 | 0=>hc
 | k+1=>h.mem _ (h.itr_mem hc k)
theorem Ring.itr_inj (h:Ring f cl) {c d:α} (hc:c∈cl) (hd:d∈cl):∀k,itr f k c=itr f k d→c=d
 | 0,e=>e
 | k+1,e=>h.itr_inj hc hd k (h.inj _ (h.itr_mem hc k) _ (h.itr_mem hd k) e)
structure Rnd (f:α→α) (c:α) (N:Nat):Prop where
 pos:0<N
 back:itr f N c=c
 ne:∀i,0<i→i<N→itr f i c≠c
theorem Ring.rnd (h:Ring f cl) {c:α} (hc:c∈cl):∃N,Rnd f c N∧N≤cl.length:=by
 classical
 have hex:∃n,0<n∧n≤cl.length∧itr f n c=c:=by
  apply Classical.byContradiction
  intro hno
  have hnd:((Bf (cl.length+1)).map fun i=>itr f i c).Nodup:=by
   refine List.pairwise_map.2 ?_
   refine List.Pairwise.imp_of_mem (R:=(·<·)) (fun {i j} hi hj hij e=>?_) Dj
   rw [Ba] at hi hj
   refine hno ⟨j - i,by omega,by omega,?_⟩
   have e1:itr f j c=itr f i (itr f (j - i) c):=by rw [←Q1,show i+(j - i)=j by omega]
   exact (h.itr_inj hc (h.itr_mem hc _) i (by rw [←e1];exact e)).symm
  have:=Xj hnd fun x hx=>by
   obtain ⟨i,_,rfl⟩:=Dc.1 hx
   exact h.itr_mem hc i
  rw [Dh,List.length_range] at this
  omega
 have hlt:∃N,(0<N∧N≤cl.length∧itr f N c=c)∧∀i,0<i→i<N→itr f i c≠c:=by
  obtain ⟨n,hn⟩:=hex
  induction n using De with
  | _ n ih =>
   by_cases hx:∃m,m<n∧0<m∧itr f m c=c
   ·obtain ⟨m,h1,h2,h3⟩:=hx
    exact ih m h1 ⟨h2,by omega,h3⟩
   ·exact ⟨n,hn,fun i h1 h2 h3=>hx ⟨i,h2,h1,h3⟩⟩
 obtain ⟨N,⟨h1,h2,h3⟩,h4⟩:=hlt
 exact ⟨N,⟨h1,h3,h4⟩,h2⟩
theorem Rnd.per {c:α} {N:Nat} (h:Rnd f c N) (k:Nat):itr f (k+N) c=itr f k c:=by rw [Q1,h.back]
theorem Rnd.from (hr:Ring f cl) {c:α} {N:Nat} (h:Rnd f c N) (hc:c∈cl) (j:Nat):Rnd f (itr f j c) N:=by
 have e:∀i,itr f i (itr f j c)=itr f j (itr f i c):=fun i=>by rw [←Q1,←Q1,Nat.add_comm]
 refine ⟨h.pos,by rw [e,h.back],fun i h1 h2 h3=>h.ne i h1 h2 ?_⟩
 rw [e] at h3
 exact hr.itr_inj (hr.itr_mem hc i) hc j h3
theorem Rnd.modN {c:α} {N:Nat} (h:Rnd f c N):∀k,∃i,i<N∧itr f k c=itr f i c
 | 0=>⟨0,h.pos,rfl⟩
 | k+1=>by
  obtain ⟨i,h1,h2⟩:=h.modN k
  by_cases h3:i+1<N
  ·exact ⟨i+1,h3,congrArg f h2⟩
  ·refine ⟨0,h.pos,(congrArg f h2).trans ?_⟩
   have:i+1=N:=by omega
   rw [show f (itr f i c)=itr f (i+1) c from rfl,this,h.back];rfl
theorem Rnd.to (c:α) {N:Nat} (h:Rnd f c N) (k:Nat):∃j,itr f j (itr f k c)=c:=by
 refine ⟨N * k - k,?_⟩
 have h1:k≤N * k:=Nat.le_mul_of_pos_left _ h.pos
 rw [←Q1,show N * k - k+k=N * k by omega]
 clear h1
 induction k with
 | zero=>rfl
 | succ k ih=>rw [Nat.mul_succ,h.per,ih]
theorem Ring.dist (h:Ring f cl) {c:α} (hc:c∈cl) {N:Nat} (hN:Rnd f c N) {i j:Nat} (hi:i<N) (hj:j<N) (e:itr f i c=itr f j c):i=j:=by
 rcases Az i j with hij|hij|hij
 ·have e1:itr f j c=itr f i (itr f (j - i) c):=by rw [←Q1,show i+(j - i)=j by omega]
  exact (hN.ne (j - i) (by omega) (by omega) (h.itr_inj hc (h.itr_mem hc _) i (by rw [←e1];exact e)).symm).elim
 ·exact hij
 ·have e1:itr f i c=itr f j (itr f (i - j) c):=by rw [←Q1,show j+(i - j)=i by omega]
  exact (hN.ne (i - j) (by omega) (by omega) (h.itr_inj hc (h.itr_mem hc _) j (by rw [←e1];exact e.symm)).symm).elim
end
end Go.Proofs.Ytmfagdfkpjgeiaa
namespace Go.Proofs.Ytmfagdfkpjgeiaa
open Go Go.Vv Go.Dn Go.Dn.W
set_option linter.unusedVariables false
set_option linter.unusedSimpArgs false
set_option linter.unusedSectionVars false
set_option maxRecDepth 100000
abbrev Ck:=Cell×Int
open Classical in
noncomputable def cellCk (r:Reg) (c:Cell):List Ck :=
 (if Kz r (c.1,c.2 - 1) then [] else [((c.1,c.2),0)])++(if Kz r (c.1+1,c.2) then [] else [((c.1+1,c.2),1)]) ++
 (if Kz r (c.1,c.2+1) then [] else [((c.1+1,c.2+1),2)])++(if Kz r (c.1 - 1,c.2) then [] else [((c.1,c.2+1),3)])
noncomputable def cks (r:Reg):List Ck:=(J7 r).flatMap (cellCk r)
theorem X1 {r:Reg} {c:Cell} {k:Ck}:k∈cellCk r c↔(¬Kz r (c.1,c.2 - 1)∧k=((c.1,c.2),0))∨(¬Kz r (c.1+1,c.2)∧k=((c.1+1,c.2),1)) ∨
  (¬Kz r (c.1,c.2+1)∧k=((c.1+1,c.2+1),2))∨(¬Kz r (c.1 - 1,c.2)∧k=((c.1,c.2+1),3)):=by
 classical
 have h:∀(p:Prop) (x:Ck),k∈(if p then [] else [x])↔¬p∧k=x:=fun p x=>by by_cases hp:p<;>simp [hp]
 unfold cellCk
 simp only [Ae,h,or_assoc]
theorem Kw {r:Reg} {k:Ck}:k∈cks r↔Crk r k.1 k.2:=by
 unfold cks
 rw [Bk]
 obtain ⟨⟨x,y⟩,h⟩:=k
 constructor
 ·rintro ⟨⟨a,b⟩,hc,hk⟩
  rw [Qx] at hc
  rcases X1.1 hk with ⟨h1,h2⟩|⟨h1,h2⟩|⟨h1,h2⟩|⟨h1,h2⟩<;>simp only [Prod.mk.injEq] at h2<;>obtain ⟨⟨rfl,rfl⟩,rfl⟩:=h2
  ·exact .inl ⟨rfl,hc,h1⟩
  ·exact .inr (.inl ⟨rfl,by simpa using hc,h1⟩)
  ·exact .inr (.inr (.inl ⟨rfl,by simpa using hc,by simpa using h1⟩))
  ·exact .inr (.inr (.inr ⟨rfl,by simpa using hc,by simpa using h1⟩))
 ·rintro (⟨e,h1,h2⟩|⟨e,h1,h2⟩|⟨e,h1,h2⟩|⟨e,h1,h2⟩)<;>have e:h=_:=e<;>subst e
  ·exact ⟨_,Qx.2 h1,X1.2 (.inl ⟨h2,rfl⟩)⟩
  ·exact ⟨_,Qx.2 h1,X1.2 (.inr (.inl ⟨by simpa using h2,by simp⟩))⟩
  ·exact ⟨_,Qx.2 h1,X1.2 (.inr (.inr (.inl ⟨by simpa using h2,by simp⟩)))⟩
  ·exact ⟨_,Qx.2 h1,X1.2 (.inr (.inr (.inr ⟨by simpa using h2,by simp⟩)))⟩
noncomputable def nx (r:Reg) (c:Ck):Ck:=(Kh c.2 c.1,nxtH r c.1 c.2)
theorem ring (r:Reg):Ring (nx r) (cks r) :=
 ⟨fun c hc=>Kw.2 (Jno (Kw.1 hc)),fun c hc d hd e=>by
  obtain ⟨e1,e2⟩:=Prod.mk.injEq ..▸e
  obtain ⟨h1,h2⟩:=nxt_inj (Kw.1 hc) (Kw.1 hd) e1 e2
  exact Prod.ext h1 h2⟩
def Least (r:Reg) (c:Ck):Prop:=Crk r c.1 c.2∧∀k,¬yx (itr (nx r) k c).1 c.1
theorem Jn8 (p:Cell) {h:Int} (hh:h=2∨h=3):yx (Kh h p) p:=by
 unfold yx Kh
 rcases hh with rfl|rfl<;>simp<;>omega
theorem Jv9 (p:Cell) {h:Int} (hh:h=0∨h=1):yx p (Kh h p):=by
 unfold yx Kh
 rcases hh with rfl|rfl<;>simp<;>omega
theorem Least.hd {r:Reg} {c:Ck} (h:Least r c):c.2=0∨c.2=1:=by
 rcases h.1.hd with e|e|e|e
 ·exact .inl e
 ·exact .inr e
 ·exact (h.2 1 (Jn8 c.1 (.inl e))).elim
 ·exact (h.2 1 (Jn8 c.1 (.inr e))).elim
theorem Least.mem {r:Reg} {c:Ck} (h:Least r c):c∈cks r:=Kw.2 h.1
theorem Kq {r:Reg} {c:Ck} (h:Crk r c.1 c.2) (k:Nat):Crk r (itr (nx r) k c).1 (itr (nx r) k c).2:=Kw.1 ((ring r).itr_mem (Kw.2 h) k)
theorem Least.prev {r:Reg} {c:Ck} (h:Least r c) {k:Nat} (hk:itr (nx r) (k+1) c=c):(itr (nx r) k c).2=2∨(itr (nx r) k c).2=3:=by
 have e:nx r (itr (nx r) k c)=c:=hk
 have e1:Kh (itr (nx r) k c).2 (itr (nx r) k c).1=c.1:=congrArg Prod.fst e
 rcases (Kq h.1 k).hd with e|e|e|e
 ·exact (h.2 k (by have:=Jv9 (itr (nx r) k c).1 (.inl e);rwa [e1] at this)).elim
 ·exact (h.2 k (by have:=Jv9 (itr (nx r) k c).1 (.inr e);rwa [e1] at this)).elim
 ·exact .inl e
 ·exact .inr e
theorem Least.only {r:Reg} {c d:Ck} (h:Least r c) (hd:Crk r d.1 d.2) (e:d.1=c.1) (hb:¬yx (nx r d).1 c.1):d=c:=by
 refine Prod.ext e ?_
 apply Classical.byContradiction
 intro hne
 have ho:=h.1.opp (y:=d.2) (by rw [←e];exact hd) (fun e=>hne e.symm)
 have h2:d.2=2∨d.2=3:=by rcases h.hd with e|e<;>rw [e] at ho<;>omega
 exact hb (by rw [←e];exact Jn8 d.1 h2)
theorem Least.ne {r:Reg} {c:Ck} (h:Least r c) {N:Nat} (hN:Rnd (nx r) c N) {k:Nat} (h0:0<k) (h1:k<N):(itr (nx r) k c).1≠c.1:=fun e =>
 hN.ne k h0 h1 (h.only (Kq h.1 k) e (h.2 (k+1)))
theorem Least.uniq {r:Reg} {c d:Ck} (h:Least r c) (h':Least r d) (e:d.1=c.1):d=c :=
 h.only h'.1 e (by rw [←e];exact h'.2 1)
theorem Joh (a b:Cell):yx a b∨a=b∨yx b a:=by
 unfold yx
 by_cases h:a=b
 ·exact .inr (.inl h)
 ·have:¬(a.1=b.1∧a.2=b.2):=fun e=>h (Prod.ext e.1 e.2)
  omega
theorem Ji2 {a b c:Cell} (h:yx a b) (h':yx b c):yx a c:=by unfold yx at *;omega
theorem Jvh {r:Reg} {c:Ck} (h:Crk r c.1 c.2):∃j,Least r (itr (nx r) j c):=by
 obtain ⟨N,hN,_⟩:=(ring r).rnd (Kw.2 h)
 have key:∀n,0<n→∃j,j<n∧∀k,k<n→¬yx (itr (nx r) k c).1 (itr (nx r) j c).1:=by
  intro n hn
  induction n with
  | zero=>omega
  | succ n ih =>
   by_cases h0:0<n
   ·obtain ⟨j,hj,hk⟩:=ih h0
    by_cases hy:yx (itr (nx r) n c).1 (itr (nx r) j c).1
    ·refine ⟨n,by omega,fun k hkn hlt=>?_⟩
     by_cases e:k=n
     ·subst e;exact Yi _ hlt
     ·exact hk k (by omega) (Ji2 hlt hy)
    ·refine ⟨j,by omega,fun k hkn=>?_⟩
     by_cases e:k=n
     ·subst e;exact hy
     ·exact hk k (by omega)
   ·have:n=0:=by omega
    subst this
    exact ⟨0,by omega,fun k hk=>by rw [show k=0 by omega];exact Yi _⟩
 obtain ⟨j,hj,hk⟩:=key N hN.pos
 refine ⟨j,Kq h j,fun k=>?_⟩
 rw [←Q1]
 obtain ⟨i,hi,e⟩:=hN.modN (k+j)
 rw [e]
 exact hk i hi
end Go.Proofs.Ytmfagdfkpjgeiaa
namespace Go.Proofs.Ytmfagdfkpjgeiaa
open Go Go.Vv Go.Dn Go.Dn.W
set_option linter.unusedVariables false
set_option linter.unusedSimpArgs false
set_option linter.unusedSectionVars false
set_option maxRecDepth 100000
noncomputable def turnAt (r:Reg) (c:Ck) (k:Nat):Option Cell:=if (itr (nx r) (k+1) c).2=(itr (nx r) k c).2 then none else some (itr (nx r) (k+1) c).1
noncomputable def seg (r:Reg) (c:Ck) (a n:Nat):List Cell:=(Bf n).filterMap fun i=>turnAt r c (a+i)
noncomputable def poly (r:Reg) (c:Ck) (N:Nat):List Cell:=c.1::seg r c 0 (N - 1)
theorem Ja7 (r:Reg) (c:Ck) (a n:Nat):seg r c a (n+1)=seg r c a n++(turnAt r c (a+n)).toList:=by
 unfold seg
 rw [Bq,Dm]
 cases h:turnAt r c (a+n)<;>simp [h]
theorem Je8 (r:Reg) (c:Ck) (a m:Nat):∀n,seg r c a (m+n)=seg r c a m++seg r c (a+m) n
 | 0=>by simp [seg]
 | n+1=>by rw [←Ds,Ja7,Je8 r c a m n,Ja7,Bu,Ds]
theorem Jt0 (r:Reg) (c:Ck) (a:Nat):seg r c a 1=(turnAt r c a).toList:=by rw [show (1:Nat)=0+1 from rfl,Ja7];simp [seg]
theorem Jlg (r:Reg) (c:Ck) (j k:Nat):turnAt r (itr (nx r) j c) k=turnAt r c (k+j):=by
 unfold turnAt
 rw [←Q1,←Q1,show k+1+j=k+j+1 by omega]
theorem turn_per {r:Reg} {c:Ck} {N:Nat} (h:Rnd (nx r) c N) (k:Nat):turnAt r c (k+N)=turnAt r c k:=by
 unfold turnAt
 rw [show k+N+1=k+1+N by omega,h.per,h.per]
theorem seg_from (r:Reg) (c:Ck) (j a n:Nat):seg r (itr (nx r) j c) a n=seg r c (a+j) n:=by
 unfold seg
 congr 1
 funext i
 rw [Jlg,show a+i+j=a+j+i by omega]
theorem Jv8 {r:Reg} {c:Ck} {N:Nat} (h:Rnd (nx r) c N) (a n:Nat):seg r c (a+N) n=seg r c a n:=by
 unfold seg
 congr 1
 funext i
 rw [show a+N+i=a+i+N by omega,turn_per h]
theorem Jvs {r:Reg} {c:Ck} {a n:Nat} {x:Cell} (h:x∈seg r c a n):∃i,i<n∧x=(itr (nx r) (a+i+1) c).1:=by
 unfold seg at h
 obtain ⟨i,hi,e⟩:=List.mem_filterMap.1 h
 refine ⟨i,Ba.1 hi,?_⟩
 unfold turnAt at e
 split at e
 ·cases e
 ·injection e with e;exact e.symm
theorem Least.turn {r:Reg} {s:Ck} (h:Least r s) {N:Nat} (hN:Rnd (nx r) s N):turnAt r s (N - 1)=some s.1:=by
 have hp:=hN.pos
 unfold turnAt
 have e:itr (nx r) (N - 1+1) s=s:=by rw [show N - 1+1=N by omega,hN.back]
 rw [e,if_neg]
 have h1:=h.hd
 have h2:=h.prev e
 omega
theorem poly_seg {r:Reg} {s:Ck} (h:Least r s) {N:Nat} (hN:Rnd (nx r) s N):poly r s N=seg r s (N - 1) N:=by
 have hp:=hN.pos
 have e:seg r s (N - 1) (1+(N - 1))=seg r s (N - 1) N:=by rw [show 1+(N - 1)=N by omega]
 rw [←e,Je8,Jt0,h.turn hN,show N - 1+1=0+N by omega,Jv8 hN]
 rfl
theorem Least.above {r:Reg} {s:Ck} (h:Least r s) {N:Nat} (hN:Rnd (nx r) s N) {k:Nat} (h0:0<k) (h1:k<N):yx s.1 (itr (nx r) k s).1:=by
 rcases Joh s.1 (itr (nx r) k s).1 with e|e|e
 ·exact e
 ·exact (h.ne hN h0 h1 e.symm).elim
 ·exact (h.2 k e).elim
theorem Js1 {r:Reg} {c:Ck} (hc:Crk r c.1 c.2) {N j:Nat} (hN:Rnd (nx r) c N) (hj:j<N) (h:Least r (itr (nx r) j c)) :
  ∃A B,seg r c (N - 1) N=A++(itr (nx r) j c).1::B∧poly r (itr (nx r) j c) N=(itr (nx r) j c).1::B++A∧∀x∈A++B,yx (itr (nx r) j c).1 x:=by
 have hs:Rnd (nx r) (itr (nx r) j c) N:=hN.from (ring r) (Kw.2 hc) j
 have hp:=hN.pos
 have ht:=h.turn hs
 rw [Jlg] at ht
 have eB:seg r c (N - 1+j) (N - j)=(itr (nx r) j c).1::seg r c (N+j) (N - j - 1):=by
  conv=>lhs;rw [show N - j=1+(N - j - 1) by omega]
  rw [Je8,Jt0,ht,show N - 1+j+1=N+j by omega]
  rfl
 refine ⟨seg r c (N - 1) j,seg r c (N+j) (N - j - 1),?_,?_,?_⟩
 ·rw [←eB,←Je8,show j+(N - j)=N by omega]
 ·rw [poly_seg h hs,seg_from,←eB]
  have e:seg r c (N - 1+j) ((N - j)+j)=seg r c (N - 1+j) N:=by rw [show N - j+j=N by omega]
  rw [←e,Je8,show N - 1+j+(N - j)=N - 1+N by omega,Jv8 hN]
 ·intro x hx
  rcases Ae.1 hx with hx|hx
  ·obtain ⟨i,hi,rfl⟩:=Jvs hx
   have:=h.above hs (k:=i+N - j) (by omega) (by omega)
   rwa [←Q1,show i+N - j+j=N - 1+i+1 by omega] at this
  ·obtain ⟨i,hi,rfl⟩:=Jvs hx
   have:=h.above hs (k:=i+1) (by omega) (by omega)
   rwa [←Q1,←hN.per (i+1+j),show i+1+j+N=N+j+i+1 by omega] at this
theorem Rnd.uniq {α:Type} {f:α→α} {c:α} {N M:Nat} (h:Rnd f c N) (h':Rnd f c M):N=M:=by
 rcases Az N M with e|e|e
 ·exact (h'.ne N h.pos e h.back).elim
 ·exact e
 ·exact (h.ne M h'.pos e h'.back).elim
open Classical in
noncomputable def perN (r:Reg) (c:Ck):Nat:=if h:∃N,Rnd (nx r) c N then h.choose else 0
theorem Xz {r:Reg} {c:Ck} (h:Crk r c.1 c.2):Rnd (nx r) c (perN r c):=by
 have hx:∃N,Rnd (nx r) c N:=(ring r).rnd (Kw.2 h) |>.imp fun N h=>h.1
 unfold perN
 rw [dif_pos hx]
 exact hx.choose_spec
theorem Jms {r:Reg} {c:Ck} {N:Nat} (h:Crk r c.1 c.2) (hN:Rnd (nx r) c N):perN r c=N:=(Xz h).uniq hN
theorem Jch {r:Reg} {c:Ck} (h:Crk r c.1 c.2):perN r c≤(cks r).length:=by
 obtain ⟨N,h1,h2⟩:=(ring r).rnd (Kw.2 h)
 rw [Jms h h1];exact h2
noncomputable def pol (r:Reg) (c:Ck):List Cell:=poly r c (perN r c)
structure Starts (r:Reg) (l:List Ck):Prop where
 pw:l.Pairwise fun a b=>yx a.1 b.1
 mem:∀c,c∈l↔Least r c
theorem Starts.uniq {r:Reg} {l m:List Ck} (h:Starts r l) (h':Starts r m):l=m :=
 Jfk (fun a b h=>Jjs h) h.pw h'.pw fun x=>(h.mem x).trans (h'.mem x).symm
def Closed (r:Reg) (S:Ck→Prop):Prop:=(∀c,S c→Crk r c.1 c.2)∧∀c,S c→S (nx r c)
theorem Closed.itr {r:Reg} {S:Ck→Prop} (h:Closed r S) {c:Ck} (hc:S c):∀k,S (itr (nx r) k c)
 | 0=>hc
 | k+1=>h.2 _ (h.itr hc k)
theorem Closed.sub {r:Reg} {S:Ck→Prop} (h:Closed r S) {c:Ck} (hc:Crk r c.1 c.2):Closed r fun d=>S d∧¬ ∃k,d=Go.Proofs.Ytmfagdfkpjgeiaa.itr (nx r) k c:=by
 refine ⟨fun d hd=>h.1 d hd.1,fun d hd=>⟨h.2 d hd.1,?_⟩⟩
 rintro ⟨k,hk⟩
 refine hd.2 ?_
 have hN:=Xz hc
 have e:nx r d=nx r (Go.Proofs.Ytmfagdfkpjgeiaa.itr (nx r) (k+perN r c - 1) c):=by
  have hp:=hN.pos
  rw [hk,show nx r (Go.Proofs.Ytmfagdfkpjgeiaa.itr (nx r) (k+perN r c - 1) c)=Go.Proofs.Ytmfagdfkpjgeiaa.itr (nx r) (k+perN r c - 1+1) c from rfl,show k+perN r c - 1+1=k+perN r c by omega,hN.per]
 exact ⟨_,(ring r).inj _ (Kw.2 (h.1 d hd.1)) _ (Kw.2 (Kq hc _)) e⟩
end Go.Proofs.Ytmfagdfkpjgeiaa
namespace Go.Proofs.Ytmfagdfkpjgeiaa
open Go Go.Vv Go.Dn Go.Dn.W
set_option linter.unusedVariables false
set_option linter.unusedSimpArgs false
set_option linter.unusedSectionVars false
set_option maxRecDepth 100000
def dirH (h:Int):Cell:=if h=0 then (1,0) else if h=1 then (0,1) else if h=2 then (-1,0) else (0,-1)
def addC (p d:Cell):Cell:=(p.1+d.1,p.2+d.2)
def fwd (p:Cell) (h:Int) (n:Nat):Cell:=(p.1+(n:Int) * (dirH h).1,p.2+(n:Int) * (dirH h).2)
theorem Ja5 (h:Int) (p:Cell):Kh h p=addC p (dirH h):=by
 unfold Kh addC dirH
 split
 ·simp
 split
 ·simp
 split
 ·simp [Int.sub_eq_add_neg]
 ·simp [Int.sub_eq_add_neg]
theorem Jh3 (p:Cell) (h:Int):fwd p h 0=p:=by unfold fwd;simp
theorem Jja (p:Cell) (h:Int) (n:Nat):fwd p h (n+1)=Kh h (fwd p h n):=by
 rw [Ja5]
 unfold fwd addC
 dsimp only
 rw [show ((n+1:Nat):Int)=(n:Int)+1 by omega,Int.add_mul,Int.add_mul,Int.one_mul,Int.one_mul,Int.add_assoc,Int.add_assoc]
section
variable (r:Reg) (s:Ck)
noncomputable def hdK (k:Nat):Int:=(itr (nx r) k s).2
noncomputable def ptK (k:Nat):Cell:=(itr (nx r) k s).1
theorem Jh5 (k:Nat):ptK r s (k+1)=Kh (hdK r s k) (ptK r s k):=rfl
noncomputable def tps (N:Nat):List Nat:=(Bf N).filter fun k=>decide (k=0∨hdK r s k≠hdK r s (k - 1))
theorem Jn9 {N k:Nat}:k∈tps r s N↔k<N∧(k=0∨hdK r s k≠hdK r s (k - 1)):=by
 unfold tps
 rw [List.mem_filter,Ba,decide_eq_true_eq]
theorem tps_pw (N:Nat):(tps r s N).Pairwise (·<·):=List.Pairwise.filter _ Dj
theorem Jia {N:Nat} (h:0<N):tps r s N=0::((Bf (N - 1)).filter fun k=>decide (hdK r s (k+1)≠hdK r s k)).map (·+1):=by
 unfold tps
 obtain ⟨M,rfl⟩:∃M,N=M+1:=⟨N - 1,by omega⟩
 rw [Dg,List.filter_cons_of_pos (by simp),List.filter_map,Nat.add_sub_cancel]
 congr 2
 refine List.filter_congr fun k _=>?_
 simp
theorem Jij {N:Nat} (h:0<N):poly r s N=(tps r s N).map (ptK r s):=by
 rw [Jia r s h,Ap,poly]
 congr 1
 unfold seg
 generalize N - 1=M
 clear h
 induction M with
 | zero=>rfl
 | succ M ih =>
  rw [Bq,Dm,List.filter_append,Bp,Bp,ih]
  congr 1
  have e0:(0:Nat)+M=M:=Nat.zero_add M
  by_cases hh:hdK r s (M+1)=hdK r s M
  ·have:turnAt r s M=none:=if_pos hh
   simp [hh,this,e0]
  ·have:turnAt r s M=some (ptK r s (M+1)):=if_neg hh
   simp [hh,this,e0]
noncomputable def tpN (N i:Nat):Nat:=(tps r s N)[i]?.getD N
theorem Jbm {N:Nat} (h:0<N):tpN r s N 0=0:=by unfold tpN;rw [Jia r s h];rfl
theorem Jca {N i:Nat} (h:(tps r s N).length≤i):tpN r s N i=N:=by unfold tpN;rw [Aw h];rfl
theorem Jci {N i:Nat} (h:i<(tps r s N).length):(tps r s N)[i]?=some (tpN r s N i):=by unfold tpN;rw [Ab h];rfl
theorem Je3 {N i:Nat} (h:i<(tps r s N).length):tpN r s N i<tpN r s N (i+1):=by
 have h1:=Jci r s h
 by_cases h2:i+1<(tps r s N).length
 ·exact Jpw (tps_pw r s N) h1 (Jci r s h2)
 ·rw [Jca r s (i:=i+1) (by omega)]
  exact (Jn9 r s).1 (Ac h1) |>.1
theorem Jk1 {N i:Nat}:tpN r s N i≤N:=by
 by_cases h:i<(tps r s N).length
 ·exact Nat.le_of_lt ((Jn9 r s).1 (Ac (Jci r s h)) |>.1)
 ·rw [Jca r s (by omega)];exact Aq _
theorem between {N i:Nat} (h:i<(tps r s N).length) {k:Nat} (h1:tpN r s N i<k) (h2:k<tpN r s N (i+1)):hdK r s k=hdK r s (k - 1):=by
 apply Classical.byContradiction
 intro hne
 have hm:k∈tps r s N:=(Jn9 r s).2 ⟨Nat.lt_of_lt_of_le h2 (Jk1 r s),.inr hne⟩
 obtain ⟨j,hj⟩:=Ah hm
 have hlt:=(Aa.1 hj).1
 have e:tpN r s N j=k:=by unfold tpN;rw [hj];rfl
 have mono:∀ {a b:Nat},a<b→b<(tps r s N).length→tpN r s N a<tpN r s N b:=fun {a b} hab hb=>by
  have ha:=Jci r s (N:=N) (i:=a) (by omega)
  have hb':=Jci r s hb
  obtain ⟨p1,e1⟩:=Aa.1 ha
  obtain ⟨p2,e2⟩:=Aa.1 hb'
  rw [←e1,←e2]
  exact Aj.1 (tps_pw r s N) a b p1 p2 hab
 rcases Az j i with hij|hij|hij
 ·have:=mono hij h;omega
 ·subst hij;omega
 ·by_cases hj2:j=i+1
  ·subst hj2;omega
  ·have:=mono (a:=i+1) (b:=j) (by omega) hlt;omega
theorem Jjl {N i:Nat} (h:i<(tps r s N).length):∀j,tpN r s N i+j<tpN r s N (i+1)→hdK r s (tpN r s N i+j)=hdK r s (tpN r s N i)
 | 0,_=>rfl
 | j+1,hj=>by
  rw [between r s h (k:=tpN r s N i+(j+1)) (by omega) hj,show tpN r s N i+(j+1) - 1=tpN r s N i+j by omega]
  exact Jjl h j (by omega)
theorem edge {N i:Nat} (h:i<(tps r s N).length):∀j,tpN r s N i+j≤tpN r s N (i+1)→ptK r s (tpN r s N i+j)=fwd (ptK r s (tpN r s N i)) (hdK r s (tpN r s N i)) j
 | 0,_=>(Jh3 _ _).symm
 | j+1,hj=>by rw [←Ds,Jh5,Jjl r s h j (by omega),edge h j (by omega),Jja]
def rgt (h h':Int):Prop:=h'=(h+3) % 4
instance (h h':Int):Decidable (rgt h h'):=inferInstanceAs (Decidable (_=_))
noncomputable def rawK (k:Nat):List Cell:=J4 (ptK r s k) (hdK r s k)::if rgt (hdK r s k) (hdK r s (k+1)) then [addC (J4 (ptK r s k) (hdK r s k)) (dirH (hdK r s k))] else []
noncomputable def raw (n:Nat):List Cell:=(Bf n).flatMap (rawK r s)
theorem Jbd (n:Nat):raw r s (n+1)=raw r s n++rawK r s n:=by unfold raw;rw [Bq,Br];simp
end
end Go.Proofs.Ytmfagdfkpjgeiaa
namespace Go.Proofs.Ytmfagdfkpjgeiaa
open Go Go.Vv Go.Dn Go.Dn.W
set_option linter.unusedVariables false
set_option linter.unusedSimpArgs false
set_option linter.unusedSectionVars false
set_option maxRecDepth 100000
def nbC (a b:Cell):Prop:=((a.1 - b.1=1∨a.1 - b.1=-1)∧a.2=b.2)∨(a.1=b.1∧(a.2 - b.2=1∨a.2 - b.2=-1))
def near (a b:Cell):Prop:=a=b∨nbC a b
def Adj (R:Cell→Cell→Prop) (l:List Cell):Prop:=∀i a b,l[i]?=some a→l[i+1]?=some b→R a b
theorem Adj.nil (R:Cell→Cell→Prop):Adj R []:=fun i a b h=>by simp at h
theorem Adj.snoc {R:Cell→Cell→Prop} {l:List Cell} {c:Cell} (h:Adj R l) (hl:∀a,l.getLast?=some a→R a c):Adj R (l++[c]):=by
 intro i a b ha hb
 have hi:i+1<(l++[c]).length:=(Aa.1 hb).1
 rw [Am,Do] at hi
 by_cases h1:i+1<l.length
 ·rw [As (by omega)] at ha hb
  exact h i a b ha hb
 ·have e:i+1=l.length:=by omega
  rw [As (by omega)] at ha
  rw [Bd (by omega),show i+1 - l.length=0 by omega] at hb
  simp at hb
  subst hb
  exact hl a (by rw [Da,show l.length - 1=i by omega];exact ha)
theorem Adj.left {R:Cell→Cell→Prop} {l m:List Cell} (h:Adj R (l++m)):Adj R l:=fun i a b ha hb=>by
 have h1:=(Aa.1 hb).1
 exact h i a b (by rw [As (by omega)];exact ha) (by rw [As (by omega)];exact hb)
theorem Adj.last {R:Cell→Cell→Prop} {l:List Cell} {c a:Cell} (h:Adj R (l++[c])) (ha:l.getLast?=some a):R a c:=by
 have hne:l≠[]:=fun e=>by subst e;simp at ha
 have hp:=Dr.2 hne
 rw [Da] at ha
 exact h (l.length - 1) a c (by rw [As (by omega)];exact ha) (by rw [show l.length - 1+1=l.length by omega,Bd (by omega)];simp)
def ddS (out:List Cell) (c:Cell):List Cell:=if out.getLast?=some c then out else out++[c]
def dd (l:List Cell):List Cell:=l.foldl ddS []
theorem Jck (l:List Cell) (c:Cell):dd (l++[c])=ddS (dd l) c:=by unfold dd;rw [List.foldl_append];rfl
theorem dd_add (l m:List Cell):dd (l++m)=m.foldl ddS (dd l):=by unfold dd;rw [List.foldl_append]
theorem Jh0 {P:List Cell→Prop} (h0:P []) (h1:∀l c,P l→P (l++[c])) (l:List Cell):P l:=by
 have key:∀m:List Cell,P m.reverse:=fun m=>by
  induction m with
  | nil=>exact h0
  | cons c m ih=>rw [List.reverse_cons];exact h1 _ _ ih
 have:=key l.reverse
 rwa [List.reverse_reverse] at this
theorem dd_mem (l:List Cell) (x:Cell):x∈dd l↔x∈l:=by
 refine Jh0 (P:=fun l=>x∈dd l↔x∈l) Iff.rfl (fun l c ih=>?_) l
 rw [Jck,Ae,Ad,←ih]
 unfold ddS
 split
 ·rename_i h
  refine ⟨.inl,fun hx=>hx.elim id fun e=>?_⟩
  subst e
  exact List.mem_of_getLast? h
 ·rw [Ae,Ad]
theorem Jl3 (l:List Cell):(dd l).length≤l.length:=by
 refine Jh0 (P:=fun l=>(dd l).length≤l.length) (Aq _) (fun l c ih=>?_) l
 rw [Jck,Am]
 unfold ddS
 split
 ·omega
 ·rw [Am];simp only [Do];omega
def trim (l:List Cell):List Cell:=if 1<l.length∧l.head?=l.getLast? then l.dropLast else l
def zt (l:List Cell):List Cell:=trim (dd l)
structure Closd (l:List Cell):Prop where
 ne:l≠[]
 adj:Adj nbC l
 cl:l.length=1∨∀a b,l.getLast?=some a→l.head?=some b→nbC a b
theorem once_mem {l:List Cell} (x:Cell):x∈zt l↔x∈l:=by
 rw [←dd_mem l]
 unfold zt trim
 generalize dd l=D
 split
 ·rename_i hx
  obtain ⟨h1,h2⟩:=hx
  refine ⟨fun h=>(List.dropLast_sublist _).subset h,fun hm=>?_⟩
  have hne:D≠[]:=fun e=>by subst e;simp at h1
  obtain ⟨M,y,rfl⟩:∃M y,D=M++[y]:=⟨D.dropLast,D.getLast hne,(List.dropLast_concat_getLast hne).symm⟩
  rw [List.dropLast_concat]
  rw [Dq] at h2
  rcases Ae.1 hm with hm|hm
  ·exact hm
  ·rw [Ad] at hm
   subst hm
   cases M with
   | nil=>simp at h1
   | cons y M =>
    have:y=x:=by simpa using h2
    subst this;exact Af ..
 ·exact Iff.rfl
theorem once_len (l:List Cell):(zt l).length≤l.length:=by
 have:=Jl3 l
 unfold zt trim
 split
 ·rw [List.length_dropLast];omega
 ·exact this
theorem Adj.app {R:Cell→Cell→Prop} {l:List Cell} (h:Adj R l):∀ {m:List Cell},Adj R m→(∀a b,l.getLast?=some a→m.head?=some b→R a b)→Adj R (l++m):=by
 intro m
 induction m generalizing l with
 | nil=>intro _ _;rw [Bo];exact h
 | cons c m ih =>
  intro hm hl
  have e:l++c::m=(l++[c])++m:=by simp
  rw [e]
  refine ih (h.snoc fun a ha=>hl a c ha rfl) (fun i a b ha hb=>hm (i+1) a b (by simpa using ha) (by simpa using hb)) fun a b ha hb=>?_
  rw [Dq] at ha
  injection ha with ha
  subst ha
  exact hm 0 c b rfl (by rw [←hb];cases m<;>rfl)
end Go.Proofs.Ytmfagdfkpjgeiaa
namespace Go.Proofs.Ytmfagdfkpjgeiaa
open Go Go.Vv Go.Dn Go.Dn.W
set_option linter.unusedVariables false
set_option linter.unusedSimpArgs false
set_option linter.unusedSectionVars false
set_option maxRecDepth 100000
theorem Jtd {r:Reg} {p:Cell} {x:Int} (h:Crk r p x):Kz r (J4 p x):=by
 rcases h with ⟨rfl,h1,h2⟩|⟨rfl,h1,h2⟩|⟨rfl,h1,h2⟩|⟨rfl,h1,h2⟩<;>simpa [J4] using h1
theorem Ju1 {r:Reg} {p:Cell} {x:Int} (h:Crk r p x) (hn:nxtH r p x=(x+3) % 4):Kz r (addC (J4 p x) (dirH x)):=by
 unfold nxtH at hn
 dsimp only at hn
 split at hn
 ·rcases h.hd with rfl|rfl|rfl|rfl<;>simp at hn
 split at hn
 ·rcases h.hd with rfl|rfl|rfl|rfl<;>simp at hn
 ·next h1 h2 =>
  obtain ⟨p1,p2⟩:=p
  rcases h with ⟨rfl,h3,h4⟩|⟨rfl,h3,h4⟩|⟨rfl,h3,h4⟩|⟨rfl,h3,h4⟩<;>simp [Kh,Crk,J4,addC,dirH] at *<;>grind
theorem raw_mem {r:Reg} {s:Ck} {n:Nat} {x:Cell} (h:x∈raw r s n):∃k,k<n∧x∈rawK r s k:=by
 obtain ⟨k,hk,hx⟩:=Bk.1 h
 exact ⟨k,Ba.1 hk,hx⟩
theorem raw_in {r:Reg} {s:Ck} (hs:Crk r s.1 s.2) {n:Nat} {x:Cell} (h:x∈raw r s n):Kz r x:=by
 obtain ⟨k,hk,hx⟩:=raw_mem h
 have hc:=Kq hs k
 unfold rawK at hx
 rcases Ag.1 hx with rfl|hx
 ·exact Jtd hc
 ·split at hx
  ·rename_i hr
   rw [Ad] at hx
   subst hx
   exact Ju1 hc hr
  ·exact (Ao hx).elim
theorem rawK_len (r:Reg) (s:Ck) (k:Nat):(rawK r s k).length≤2:=by
 unfold rawK
 split<;>simp
theorem Jae (r:Reg) (s:Ck):∀n,(raw r s n).length≤2 * n
 | 0=>Aq _
 | n+1=>by
  rw [Jbd,Am]
  have:=Jae r s n
  have:=rawK_len r s n
  omega
theorem Jgy (r:Reg) (c:Cell):(cellCk r c).length≤4:=by
 unfold cellCk
 split<;>split<;>split<;>split<;>simp
theorem Jfa (r:Reg):(cks r).length≤4 * (J7 r).length:=by
 unfold cks
 generalize J7 r=l
 induction l with
 | nil=>exact Aq _
 | cons c l ih =>
  rw [Bt,Am,Ar]
  have:=Jgy r c
  omega
theorem Jvj (r:Reg) (s:Ck) (N:Nat):(tps r s N).length≤N:=by
 have:=List.length_filter_le (fun k=>decide (k=0∨hdK r s k≠hdK r s (k - 1))) (Bf N)
 rw [List.length_range] at this
 exact this
theorem tps_two {r:Reg} {s:Ck} (h:Least r s) {N:Nat} (hN:Rnd (nx r) s N):2≤(tps r s N).length:=by
 have hp:=hN.pos
 rw [Jia r s hp,Ar,Dh]
 have h1:hdK r s 0=0∨hdK r s 0=1:=h.hd
 have h2:hdK r s (N - 1)=2∨hdK r s (N - 1)=3:=h.prev (k:=N - 1) (by rw [show N - 1+1=N by omega,hN.back])
 suffices hs:∃k,k<N - 1∧hdK r s (k+1)≠hdK r s k by
  obtain ⟨k,hk,hne⟩:=hs
  have:k∈(Bf (N - 1)).filter fun k=>decide (hdK r s (k+1)≠hdK r s k):=List.mem_filter.2 ⟨Ba.2 hk,decide_eq_true hne⟩
  have:=Bj this
  omega
 apply Classical.byContradiction
 intro hno
 have key:∀k,k≤N - 1→hdK r s k=hdK r s 0:=by
  intro k
  induction k with
  | zero=>intro _;rfl
  | succ k ih =>
   intro hk
   rw [←ih (by omega)]
   apply Classical.byContradiction
   intro hne
   exact hno ⟨k,by omega,hne⟩
 have:=key (N - 1) (Aq _)
 omega
end Go.Proofs.Ytmfagdfkpjgeiaa
namespace Go.Proofs.Ytmfagdfkpjgeiaa
open Go Go.Vv Go.Dn Go.Dn.W
set_option linter.unusedVariables false
set_option linter.unusedSimpArgs false
set_option linter.unusedSectionVars false
set_option maxRecDepth 100000
def edge8 (r:Reg) (c:Cell):Prop:=Kz r c∧∃dx dy:Int,-1≤dx∧dx≤1∧-1≤dy∧dy≤1∧¬Kz r (c.1+dx,c.2+dy)
end Go.Proofs.Ytmfagdfkpjgeiaa
