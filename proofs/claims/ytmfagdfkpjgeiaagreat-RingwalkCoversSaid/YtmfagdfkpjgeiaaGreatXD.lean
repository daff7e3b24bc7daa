/- Plain tools: what the words of the printed texts mean, loops. Conditions: none. -/
import Derived.Test.YtmfagdfkpjgeiaaGreatFD
import Derived.Test.YtmfagdfkpjgeiaaGreatXC
set_option linter.unusedVariables false
set_option linter.unusedSimpArgs false
set_option linter.unusedSectionVars false
set_option maxRecDepth 100000
open List renaming getElem?_eq_some_iff → Aa, getElem?_eq_getElem → Ab, mem_singleton → Ac, mem_append → Ad, mem_of_getElem? → Ae, mem_cons_self → Af, mem_cons → Ag, mem_cons_of_mem → Ah, getElem?_of_mem → Ai, pairwise_iff_getElem → Aj, not_mem_nil → Ak, pairwise_cons → Am, length_append → Ao, map_cons → Ap, mem_append_left → Aq, getElem?_append_left → As, pairwise_append → Au, length_cons → Av, getElem_mem → Aw, mem_iff_getElem? → Ax, getElem?_eq_none → Ay, nodup_cons → Az, getLast?_concat → Ba, mem_range → Bb, getElem?_append_right → Bd, mem_flatMap → Be, range → Bg, pairwise_singleton → Bj, take_zero → Bk, length_pos_of_mem → Bm, take_append_drop → Bn, length_take → Bo, take_length → Bp, flatMap_append → Bq, length_pos_iff → Br, dropLast_concat_getLast → Bs, flatMap_cons → Bt, getElem?_eq_none_iff → Bu, nodup_append → Bv, drop_eq_getElem_cons → Bw, getElem_take → By, getLast?_eq_getElem? → Bz, getLast?_eq_none_iff → Da, length_erase_of_mem → Db, mem_map → Dc, map_append → De, range_succ_eq_map → Df, pairwise_lt_range → Dh, range_succ → Di, pairwise_flatMap → Dj, concat_eq_append → Dk, filterMap_append → Dl, length_singleton → Dm, mem_erase_of_ne → Do, dropLast_concat → Dp
open Nat renaming le_refl → Ar, lt_trichotomy → Bc, strongRecOn → Dd, add_assoc → Dq
open Int renaming tmod_eq_emod_of_nonneg → Bf, sub_eq_add_neg → Bh
open Bool renaming not_eq_true' → Bl, eq_iff_iff → Dg
namespace Go.Dn
open Go Go.Vv Go.Dn.W
section words
variable {α β:Type}
theorem w_br (c:Bool) (x y:Option α):@W.br wv α c x y=if c=true then x else y:=rfl
theorem w_gd (c:Bool) (x:Option α):@W.gd wv α c x=if c=true then x else none:=rfl
theorem w_ge (l:List β) (i:Int) (k:β→Option α):@W.ge wv α β l i k=Jay (fget l i) k:=rfl
theorem w_call (c:Ctr) (a:c.aT.T) (k:c.rT.T→Option α):@W.call wv α c a k=Jay (c.fn a) k:=rfl
theorem w_loop {A B:Type} (b:A→Option (Nx A B)) (a:A) (k:B→Option α):@W.loop wv A B α b a k=Jay (Xk b bigN a) k:=rfl
theorem w_join {B:Type} (x:Option B) (k:B→Option α):@W.join wv B α x k=Jay x k:=rfl
theorem jo_s {B:Type} {x:Option B} {k:B→Option α} {e:B} (h:x=some e):@W.join wv B α x k=k e:=by rw [w_join,h];rfl
theorem w_ln (l:List α):@W.ln wv α l=(l.length:Int):=rfl
theorem w_pl (a b:Int):@W.pl wv a b=a+b:=rfl
theorem w_ib (i n:Int):@W.ib wv i n=decide (0≤i∧i<n):=rfl
theorem w_le (a b:Int):@W.le wv a b=decide (a≤b):=rfl
theorem w_ft (b:Nat) (n:Int):@W.ft wv b n=decide (n * b≤room∧n≤9223372036854775807):=rfl
theorem w_ap (l m:List α):@W.ap wv α l m=l++m:=rfl
theorem w_ct (l:List α) (a n:Int):@W.ct wv α l a n=(l.drop a.toNat).take n.toNat:=rfl
theorem w_st (l:List α) (i:Int) (x:α):@W.st wv α l i x=l.set i.toNat x:=rfl
theorem w_ml (l:List α) (f:α→α):@W.ml wv α l f=K3 l f:=rfl
theorem w_mx (a b:Int):@W.mx wv a b=if b > a then b else a:=rfl
theorem w_mn (a b:Int):@W.mn wv a b=if b<a then b else a:=rfl
theorem w_nt (a:Bool):@W.nt wv a=!a:=rfl
theorem w_an (a b:Bool):@W.an wv a b=(a&&b):=rfl
theorem w_nq (n:Int) (k:Bool→Option α):@W.nq wv α n k=nlv n k:=rfl
theorem K4 (a b:Int):@W.ar wv .add .i64 a b=IntKind.wrap .i64 (a+b):=rfl
theorem zg (a b:Int):@W.ar wv .sub .i64 a b=IntKind.wrap .i64 (a - b):=rfl
theorem w_mul (a b:Int):@W.ar wv .mul .i64 a b=IntKind.wrap .i64 (a * b):=rfl
theorem w_quo (a b:Int):@W.ar wv .quo .i64 a b=IntKind.wrap .i64 (a.tdiv b):=rfl
theorem w_rem (a b:Int):@W.ar wv .rem .i64 a b=a.tmod b:=rfl
theorem Yt (a b:Int):@W.cm wv .eql a b=(a==b):=rfl
theorem Jny (a b:Int):@W.cm wv .neq a b=(a != b):=rfl
theorem Jqd (a b:Int):@W.cm wv .lss a b=decide (a<b):=rfl
theorem Jlp (a b:Int):@W.cm wv .leq a b=decide (a≤b):=rfl
theorem Jan (a b:Int):@W.cm wv .gtr a b=decide (a > b):=rfl
theorem Jre (a b:Int):@W.cm wv .geq a b=decide (a≥b):=rfl
theorem wr {n:Int} (h:-9223372036854775808≤n) (h2:n≤9223372036854775807):IntKind.wrap .i64 n=n:=by
 rw [IntKind.wrap_i64,Int.emod_eq_of_lt]<;>omega
theorem fg {l:List α} {i:Nat} {x:α} (h:l[i]?=some x):fget l (i:Int)=some x:=by
 unfold fget
 rw [if_pos (by omega),Int.toNat_natCast,h]
theorem fgz {l:List α} {i:Int} (j:Nat) {x:α} (e:i=j) (h:l[j]?=some x):fget l i=some x:=by subst e;exact fg h
theorem fg0 {l:List α} {x:α} (h:l[0]?=some x):fget l 0=some x:=fg h
theorem ge_s {l:List β} {i:Int} {k:β→Option α} {x:β} (h:fget l i=some x):@W.ge wv α β l i k=k x:=by rw [w_ge,h];rfl
theorem ca_s {c:Ctr} {a:c.aT.T} {k:c.rT.T→Option α} {r:c.rT.T} (h:c.fn a=some r):@W.call wv α c a k=k r:=by rw [w_call,h];rfl
theorem lo_s {A B:Type} {b:A→Option (Nx A B)} {a:A} {k:B→Option α} {e:B} (h:Xk b bigN a=some e):@W.loop wv A B α b a k=k e:=by rw [w_loop,h];rfl
theorem br_t {c:Bool} {x y:Option α} (h:c=true):@W.br wv α c x y=x:=by rw [w_br,if_pos h]
theorem br_f {c:Bool} {x y:Option α} (h:c=false):@W.br wv α c x y=y:=by rw [w_br,h];rfl
theorem gd_t {c:Bool} {x:Option α} (h:c=true):@W.gd wv α c x=x:=by rw [w_gd,if_pos h]
theorem Xw {a b:Int} {x y:Option α} (h:a<b):@W.br wv α (@W.cm wv .lss a b) x y=x:=br_t (by rw [Jqd];exact decide_eq_true h)
theorem Kz {a b:Int} {x y:Option α} (h:¬a<b):@W.br wv α (@W.cm wv .lss a b) x y=y:=br_f (by rw [Jqd];exact decide_eq_false h)
theorem gd_ft {b:Nat} {n:Int} {x:Option α} (h:n * b≤room∧n≤9223372036854775807):@W.gd wv α (@W.ft wv b n) x=x:=gd_t (by rw [w_ft];exact decide_eq_true h)
theorem Jkf {i n:Int} {x:Option α} (h:0≤i∧i<n):@W.gd wv α (@W.ib wv i n) x=x:=gd_t (by rw [w_ib];exact decide_eq_true h)
end words
section loops
variable {A B:Type} {b:A→Option (Nx A B)}
theorem Jug {n:Nat} {s s':A} (h:b s=some (.go s')):Xk b (n+1) s=Xk b n s':=by simp only [Xk,h]
theorem Jcm {n:Nat} {s:A} {e:B} (h:b s=some (.out e)):Xk b (n+1) s=some e:=by simp only [Xk,h]
theorem Jup (st:Nat→A) {e:B}:∀(k i N M:Nat),N=i+k→k<M→(∀j,i≤j→j<N→b (st j)=some (.go (st (j+1))))→b (st N)=some (.out e)→Xk b M (st i)=some e
 | 0,i,N,M+1,hN,hM,h1,h2=>by
  subst hN
  exact Jcm h2
 | k+1,i,N,M+1,hN,hM,h1,h2=>by
  rw [Jug (h1 i (Ar _) (by omega))]
  exact Jup st k (i+1) N M (by omega) (by omega) (fun j hj=>h1 j (by omega)) h2
theorem Xa (st:Nat→A) (N:Nat) {e:B} (hN:N<1000000000000) (h1:∀i,i<N→b (st i)=some (.go (st (i+1)))) (h2:b (st N)=some (.out e)):Xk b bigN (st 0)=some e :=
 Jup st N 0 N bigN (by omega) (by unfold bigN;omega) (fun j _ hj=>h1 j hj) h2
open Classical in
theorem Jgs (st:Nat→A) (N:Nat) (hN:N<1000000000000) (good:Nat→Prop) {bad fin:B}
  (h1:∀i,i<N→(∀j,j<i→good j)→(good i→b (st i)=some (.go (st (i+1))))∧(¬good i→b (st i)=some (.out bad))) (h2:(∀i,i<N→good i)→b (st N)=some (.out fin)) :
  Xk b bigN (st 0)=some (if ∀i,i<N→good i then fin else bad):=by
 by_cases hg:∀i,i<N→good i
 ·rw [if_pos hg]
  exact Xa st N hN (fun i hi=>(h1 i hi fun j hj=>hg j (by omega)).1 (hg i hi)) (h2 hg)
 ·rw [if_neg hg]
  have:∃i,i<N∧¬good i∧∀j,j<i→good j:=by
   simp only [Classical.not_forall] at hg
   obtain ⟨i,hi,hn⟩:=hg
   induction i using Dd with
   | _ i ih =>
    by_cases h:∀j,j<i→good j
    ·exact ⟨i,hi,hn,h⟩
    ·simp only [Classical.not_forall] at h
     obtain ⟨j,hj,hnj⟩:=h
     exact ih j hj (by omega) hnj
  obtain ⟨i,hi,hn,hlt⟩:=this
  exact Xa st i (by omega) (fun j hj=>(h1 j (by omega) fun k hk=>hlt k (by omega)).1 (hlt j hj)) ((h1 i hi hlt).2 hn)
theorem Zm (I:Nat→A→Prop) (Q:B→Prop) (N:Nat) (hN:N<1000000000000) {s0:A} (h0:I 0 s0) (h1:∀i s,i<N→I i s→∃s',b s=some (.go s')∧I (i+1) s') (h2:∀s,I N s→∃e,b s=some (.out e)∧Q e) :
  ∃e,Xk b bigN s0=some e∧Q e:=by
 have key:∀(k i M:Nat) (s:A),i+k=N→k<M→I i s→∃e,Xk b M s=some e∧Q e:=by
  intro k
  induction k with
  | zero =>
   intro i M s hi hM hs
   have:i=N:=by omega
   subst this
   obtain ⟨e,he,hq⟩:=h2 s hs
   cases M with
   | zero=>omega
   | succ M=>exact ⟨e,Jcm he,hq⟩
  | succ k ih =>
   intro i M s hi hM hs
   obtain ⟨s',hs',hi'⟩:=h1 i s (by omega) hs
   cases M with
   | zero=>omega
   | succ M =>
    obtain ⟨e,he,hq⟩:=ih (i+1) M s' (by omega) (by omega) hi'
    exact ⟨e,(Jug hs').trans he,hq⟩
 exact key N 0 bigN s0 (by omega) (by unfold bigN;omega) h0
theorem Jwu {α:Type} (l:List α) (hl:l.length<1000000000000) (st:Nat→A) (p:α→Prop) (out:Nat→α→B) (nf:B)
  (h1:∀i x,i<l.length→l[i]?=some x→(p x→b (st i)=some (.out (out i x)))∧(¬p x→b (st i)=some (.go (st (i+1))))) (h2:b (st l.length)=some (.out nf)) :
  ∃e,Xk b bigN (st 0)=some e∧((e=nf∧∀x∈l,¬p x)∨∃i x,l[i]?=some x∧p x∧e=out i x):=by
 by_cases hg:∃i,i<l.length∧∃x,l[i]?=some x∧p x
 ·have:∃i,i<l.length∧(∃x,l[i]?=some x∧p x)∧∀j,j<i→∀x,l[j]?=some x→¬p x:=by
   obtain ⟨i,hi,hx⟩:=hg
   induction i using Dd with
   | _ i ih =>
    by_cases h:∃j,j<i∧∃x,l[j]?=some x∧p x
    ·obtain ⟨j,hj,hx'⟩:=h
     exact ih j hj (by omega) hx'
    ·exact ⟨i,hi,hx,fun j hj x hxj hp=>h ⟨j,hj,x,hxj,hp⟩⟩
  obtain ⟨i,hi,⟨x,hx,hp⟩,hlt⟩:=this
  exact ⟨_,Xa st i (by omega) (fun j hj=>(h1 j l[j] (by omega) (Ab _)).2 (hlt j hj _ (Ab _))) ((h1 i x hi hx).1 hp),.inr ⟨i,x,hx,hp,rfl⟩⟩
 ·have hn:∀i x,l[i]?=some x→¬p x:=fun i x hx hp=>hg ⟨i,(Aa.1 hx).1,x,hx,hp⟩
  exact ⟨nf,Xa st l.length hl (fun j hj=>(h1 j l[j] hj (Ab _)).2 (hn j _ (Ab _))) h2,.inl ⟨rfl,fun x hx=>by
   obtain ⟨i,hi⟩:=Ax.1 hx
   exact hn i x hi⟩⟩
theorem Jkc (I:A→Prop) (Q:B→Prop) (m:A→Nat) (h:∀s,I s→(∃s',b s=some (.go s')∧I s'∧m s'<m s)∨∃e,b s=some (.out e)∧Q e) {s0:A} (h0:I s0) (hm:m s0<1000000000000):∃e,Xk b bigN s0=some e∧Q e:=by
 have key:∀(n M:Nat) (s:A),m s≤n→n<M→I s→∃e,Xk b M s=some e∧Q e:=by
  intro n
  induction n with
  | zero =>
   intro M s hs hM hi
   cases M with
   | zero=>omega
   | succ M =>
    rcases h s hi with ⟨s',_,_,h3⟩|⟨e,h1,h2⟩
    ·omega
    ·exact ⟨e,Jcm h1,h2⟩
  | succ n ih =>
   intro M s hs hM hi
   cases M with
   | zero=>omega
   | succ M =>
    rcases h s hi with ⟨s',h1,h2,h3⟩|⟨e,h1,h2⟩
    ·obtain ⟨e,he,hq⟩:=ih M s' (by omega) (by omega) h2
     exact ⟨e,(Jug h1).trans he,hq⟩
    ·exact ⟨e,Jcm h1,h2⟩
 exact key (m s0) bigN s0 (Ar _) (by unfold bigN;omega) h0
end loops
section lists
variable {α β:Type}
theorem Xi {l:List α} {i:Nat} {x:α} (h:l[i]?=some x):l.take (i+1)=l.take i++[x]:=by
 rw [List.take_add_one,h];rfl
theorem Jgf {f:α→List β} {l:List α} {i:Nat} {x:α} (h:l[i]?=some x):(l.take (i+1)).flatMap f=(l.take i).flatMap f++f x:=by
 rw [Xi h,Bq,Bt,List.flatMap_nil,List.append_nil]
theorem Jfa {f:α→β} {l:List α} {i:Nat} {x:α} (h:l[i]?=some x):(l.take (i+1)).map f=(l.take i).map f++[f x]:=by
 rw [Xi h,De];rfl
def rng (a:Int) (n:Nat):List Int:=(Bg n).map fun i:Nat=>a+(i:Int)
theorem rng_len (a:Int) (n:Nat):(rng a n).length=n:=by simp [rng]
theorem J1p {a x:Int} {n:Nat}:x∈rng a n↔a≤x∧x<a+n:=by
 simp only [rng,Dc,Bb]
 constructor
 ·rintro ⟨i,hi,rfl⟩;omega
 ·intro h;exact ⟨(x - a).toNat,by omega,by omega⟩
theorem rng_cons (a:Int) (n:Nat):rng a (n+1)=a::rng (a+1) n:=by
 simp only [rng,Df,Ap,List.map_map]
 congr 1
 ·simp
 ·apply List.map_congr_left
  intro i _
  simp only [Function.comp]
  omega
theorem rng_pw (a:Int) (n:Nat):(rng a n).Pairwise (·<·):=by
 induction n generalizing a with
 | zero=>exact .nil
 | succ n ih =>
  rw [rng_cons]
  refine Am.2 ⟨fun x hx=>?_,ih _⟩
  have:=J1p.1 hx
  omega
theorem Jjf {f:α→List β} {l:List α} {n:Nat} (h:∀x∈l,(f x).length≤n):(l.flatMap f).length≤l.length * n:=by
 induction l with
 | nil=>simp
 | cons x l ih =>
  have:=h x (Af ..)
  have:=ih fun y hy=>h y (Ah _ hy)
  simp only [Bt,Ao,Av,Nat.add_mul]
  omega
theorem Yz (f:α→α) (x:α):∀l:List α,K3 (l++[x]) f=l++[f x]
 | []=>rfl
 | [y]=>rfl
 | y::z::l=>by
  show y::K3 (z::(l++[x])) f=_
  rw [show z::(l++[x])=(z::l)++[x] from rfl,Yz f x (z::l)]
  rfl
theorem Jni (l:List α) (x y:α):(l++[x]).set l.length y=l++[y]:=by
 rw [List.set_append_right _ _ (Ar _),Nat.sub_self];rfl
theorem Jnx (l:List α) (x:α):(l++[x])[l.length]?=some x:=by
 rw [Bd (Ar _),Nat.sub_self];rfl
end lists
end Go.Dn
namespace Go.Dn
abbrev Run:=Int×Int
abbrev Row:=Int×List Run
abbrev Reg:=List Row
abbrev Cell:=Int×Int
abbrev Jkk:=Int×(Bool×List Cell)
structure RunsOK (lo hi:Int) (l:List Run):Prop where
 bd:∀x∈l,lo≤x.1∧x.1<x.2∧x.2≤hi
 pw:l.Pairwise fun a b=>a.2<b.1
structure RegOK (r:Reg):Prop where
 y:∀w∈r,-4096≤w.1∧w.1<4096
 pw:r.Pairwise fun a b=>a.1<b.1
 ne:∀w∈r,w.2≠[]
 rs:∀w∈r,RunsOK (-4096) 4096 w.2
def Jj (l:List Run) (x:Int):Prop:=∃u∈l,u.1≤x∧x<u.2
def Kg (r:Reg) (c:Cell):Prop:=∃w∈r,w.1=c.2∧Jj w.2 c.1
def Jet (y:Int) (u:Run):List Cell:=(rng u.1 (u.2 - u.1).toNat).map fun x=>(x,y)
def rowC (w:Row):List Cell:=w.2.flatMap (Jet w.1)
def Zd (r:Reg):List Cell:=r.flatMap rowC
def yx (a b:Cell):Prop:=a.2<b.2∨(a.2=b.2∧a.1<b.1)
theorem Jn0 {y:Int} {u:Run} {c:Cell}:c∈Jet y u↔c.2=y∧u.1≤c.1∧c.1<u.2:=by
 simp only [Jet,Dc,J1p]
 constructor
 ·rintro ⟨x,hx,rfl⟩;exact ⟨rfl,by omega,by omega⟩
 ·rintro ⟨rfl,h1,h2⟩;exact ⟨c.1,by omega,rfl⟩
theorem Jto {w:Row} {c:Cell}:c∈rowC w↔c.2=w.1∧Jj w.2 c.1:=by
 simp only [rowC,Be,Jn0,Jj]
 constructor
 ·rintro ⟨u,hu,h1,h2⟩;exact ⟨h1,u,hu,h2⟩
 ·rintro ⟨h1,u,hu,h2⟩;exact ⟨u,hu,h1,h2⟩
theorem zu {r:Reg} {c:Cell}:c∈Zd r↔Kg r c:=by
 simp only [Zd,Be,Jto,Kg]
 constructor
 ·rintro ⟨w,hw,h1,h2⟩;exact ⟨w,hw,h1.symm,h2⟩
 ·rintro ⟨w,hw,h1,h2⟩;exact ⟨w,hw,h1.symm,h2⟩
theorem RegOK.bd {r:Reg} (h:RegOK r) {c:Cell} (hc:Kg r c):-4096≤c.1∧c.1<4096∧-4096≤c.2∧c.2<4096:=by
 obtain ⟨w,hw,e,u,hu,h1,h2⟩:=hc
 have:=(h.rs w hw).bd u hu
 have:=h.y w hw
 omega
theorem line_pw (y:Int) (u:Run):(Jet y u).Pairwise yx:=by
 refine List.pairwise_map.2 ((rng_pw _ _).imp fun h=>.inr ⟨rfl,h⟩)
theorem row_pw {lo hi:Int} {w:Row} (h:RunsOK lo hi w.2):(rowC w).Pairwise yx:=by
 refine Dj.2 ⟨fun u _=>line_pw _ _,h.pw.imp fun {a b} hab c hc d hd=>?_⟩
 have hc:=Jn0.1 hc
 have hd:=Jn0.1 hd
 exact .inr ⟨by omega,by omega⟩
theorem RegOK.cells_pw {r:Reg} (h:RegOK r):(Zd r).Pairwise yx:=by
 refine Dj.2 ⟨fun w hw=>row_pw (h.rs w hw),h.pw.imp fun {a b} hab c hc d hd=>?_⟩
 have hc:=Jto.1 hc
 have hd:=Jto.1 hd
 exact .inl (by omega)
theorem Jb8 (a:Cell):¬yx a a:=by unfold yx;omega
theorem Jwi {a b:Cell} (h:yx a b):¬yx b a:=by unfold yx at *;omega
theorem Jcj {α:Type} {R:α→α→Prop} (asy:∀a b,R a b→¬R b a):∀ {l m:List α},l.Pairwise R→m.Pairwise R→(∀x,x∈l↔x∈m)→l=m
 | [],[],_,_,_=>rfl
 | [],y::m,_,_,h=>by have:=(h y).2 (Af ..);cases this
 | x::l,[],_,_,h=>by have:=(h x).1 (Af ..);cases this
 | x::l,y::m,h1,h2,h=>by
  obtain ⟨p1,p2⟩:=Am.1 h1
  obtain ⟨q1,q2⟩:=Am.1 h2
  have e:x=y:=by
   rcases Ag.1 ((h x).1 (Af ..)) with e|hx
   ·exact e
   ·rcases Ag.1 ((h y).2 (Af ..)) with e|hy
    ·exact e.symm
    ·exact (asy _ _ (p1 y hy) (q1 x hx)).elim
  subst e
  have irr:∀z,¬R z z:=fun z hz=>asy z z hz hz
  rw [Jcj asy p2 q2 fun z=>?_]
  constructor
  ·intro hz
   rcases Ag.1 ((h z).1 (Ah _ hz)) with e|hz'
   ·subst e;exact (irr _ (p1 _ hz)).elim
   ·exact hz'
  ·intro hz
   rcases Ag.1 ((h z).2 (Ah _ hz)) with e|hz'
   ·subst e;exact (irr _ (q1 _ hz)).elim
   ·exact hz'
theorem pw_adj {α:Type} {R:α→α→Prop} (tr:∀a b c,R a b→R b c→R a c) {l:List α} (h:∀i a b,l[i]?=some a→l[i+1]?=some b→R a b):l.Pairwise R:=by
 induction l with
 | nil=>exact .nil
 | cons x l ih =>
  have ih':=ih fun i a b ha hb=>h (i+1) a b (by simpa using ha) (by simpa using hb)
  refine Am.2 ⟨fun y hy=>?_,ih'⟩
  cases l with
  | nil=>cases hy
  | cons z l =>
   have hz:R x z:=h 0 x z rfl rfl
   rcases Ag.1 hy with rfl|hy
   ·exact hz
   ·exact tr _ _ _ hz ((Am.1 ih').1 y hy)
theorem Ju7 {α:Type} {R:α→α→Prop} {l:List α} (h:l.Pairwise R) {i:Nat} {a b:α} (ha:l[i]?=some a) (hb:l[i+1]?=some b):R a b:=by
 have h1:=(Aa.1 ha)
 have h2:=(Aa.1 hb)
 obtain ⟨p1,e1⟩:=h1
 obtain ⟨p2,e2⟩:=h2
 have:=Aj.1 h i (i+1) p1 p2 (by omega)
 rwa [e1,e2] at this
theorem Jv6 {l:List Run} (hp:l.Pairwise fun a b=>a.2<b.1) {u v:Run} (hu:u∈l) (hv:v∈l):u=v∨u.2<v.1∨v.2<u.1:=by
 induction l with
 | nil=>cases hu
 | cons x l ih =>
  obtain ⟨p1,p2⟩:=Am.1 hp
  rcases Ag.1 hu with rfl|hu'<;>rcases Ag.1 hv with rfl|hv'
  ·exact .inl rfl
  ·exact .inr (.inl (p1 _ hv'))
  ·exact .inr (.inr (p1 _ hu'))
  ·exact ih p2 hu' hv'
theorem RunsOK.left {lo hi:Int} {l:List Run} (h:RunsOK lo hi l) {u:Run} (hu:u∈l):¬Jj l (u.1 - 1):=by
 rintro ⟨v,hv,h1,h2⟩
 have hub:=h.bd u hu
 have hvb:=h.bd v hv
 have hpw:=h.pw
 rcases Jv6 hpw hu hv with e|e|e
 ·subst e;omega
 ·omega
 ·omega
theorem RunsOK.right {lo hi:Int} {l:List Run} (h:RunsOK lo hi l) {u:Run} (hu:u∈l):¬Jj l u.2:=by
 rintro ⟨v,hv,h1,h2⟩
 have hub:=h.bd u hu
 have hvb:=h.bd v hv
 rcases Jv6 h.pw hu hv with e|e|e
 ·subst e;omega
 ·omega
 ·omega
theorem RegOK.row_uniq {r:Reg} (h:RegOK r) {w v:Row} (hw:w∈r) (hv:v∈r) (e:w.1=v.1):w=v:=by
 have hp:=h.pw
 clear h
 induction r with
 | nil=>cases hw
 | cons x l ih =>
  obtain ⟨p1,p2⟩:=Am.1 hp
  rcases Ag.1 hw with rfl|hw'<;>rcases Ag.1 hv with rfl|hv'
  ·rfl
  ·have:=p1 _ hv';omega
  ·have:=p1 _ hw';omega
  ·exact ih hw' hv' p2
theorem RegOK.in_row {r:Reg} (h:RegOK r) {w:Row} (hw:w∈r) (x:Int):Kg r (x,w.1)↔Jj w.2 x:=by
 constructor
 ·rintro ⟨v,hv,e,hx⟩
  rw [h.row_uniq hw hv e.symm]
  exact hx
 ·exact fun hx=>⟨w,hw,rfl,hx⟩
theorem Jfc {lo hi:Int} {l:List Run} {u:Run}:RunsOK lo hi (l++[u])↔RunsOK lo hi l∧(lo≤u.1∧u.1<u.2∧u.2≤hi)∧∀v∈l,v.2<u.1:=by
 constructor
 ·rintro ⟨h1,h2⟩
  obtain ⟨p1,p2,p3⟩:=Au.1 h2
  exact ⟨⟨fun x hx=>h1 x (Aq _ hx),p1⟩,h1 u (by simp),fun v hv=>p3 v hv u (by simp)⟩
 ·rintro ⟨⟨h1,h2⟩,h3,h4⟩
  refine ⟨fun x hx=>?_,Au.2 ⟨h2,Bj _ _,fun v hv w hw=>?_⟩⟩
  ·rcases Ad.1 hx with h|h
   ·exact h1 x h
   ·rw [Ac.1 h];exact h3
  ·rw [Ac.1 hw];exact h4 v hv
theorem j6 {l:List Run} {u:Run} {x:Int}:Jj (l++[u]) x↔Jj l x∨(u.1≤x∧x<u.2):=by
 unfold Jj
 constructor
 ·rintro ⟨v,hv,h⟩
  rcases Ad.1 hv with q|q
  ·exact .inl ⟨v,q,h⟩
  ·rw [Ac.1 q] at h;exact .inr h
 ·rintro (⟨v,hv,h⟩|h)
  ·exact ⟨v,Aq _ hv,h⟩
  ·exact ⟨u,by simp,h⟩
theorem Jeo {l:Reg} {w:Row}:RegOK (l++[w])↔RegOK l∧(-4096≤w.1∧w.1<4096)∧w.2≠[]∧RunsOK (-4096) 4096 w.2∧∀v∈l,v.1<w.1:=by
 constructor
 ·rintro ⟨h1,h2,h3,h4⟩
  obtain ⟨p1,p2,p3⟩:=Au.1 h2
  exact ⟨⟨fun x hx=>h1 x (Aq _ hx),p1,fun x hx=>h3 x (Aq _ hx),fun x hx=>h4 x (Aq _ hx)⟩,h1 w (by simp),h3 w (by simp),h4 w (by simp),fun v hv=>p3 v hv w (by simp)⟩
 ·rintro ⟨⟨h1,h2,h3,h4⟩,a,b,c,d⟩
  have key:∀ {P:Row→Prop},(∀x∈l,P x)→P w→∀x∈l++[w],P x:=fun hl hw x hx=>by
   rcases Ad.1 hx with h|h
   ·exact hl x h
   ·rw [Ac.1 h];exact hw
  exact ⟨key h1 a,Au.2 ⟨h2,Bj _ _,fun v hv w' hw=>by rw [Ac.1 hw];exact d v hv⟩,key h3 b,key h4 c⟩
theorem Jav {l:Reg} {w:Row} {c:Cell}:Kg (l++[w]) c↔Kg l c∨(w.1=c.2∧Jj w.2 c.1):=by
 unfold Kg
 constructor
 ·rintro ⟨v,hv,h⟩
  rcases Ad.1 hv with q|q
  ·exact .inl ⟨v,q,h⟩
  ·rw [Ac.1 q] at h;exact .inr h
 ·rintro (⟨v,hv,h⟩|h)
  ·exact ⟨v,Aq _ hv,h⟩
  ·exact ⟨w,by simp,h⟩
end Go.Dn
namespace Go.Proofs.YtmfagdfkpjgeiaaGreat
open Go Go.Vv Go.Dn Go.Dn.W
theorem Jq3 (x:Int):@Jcu wv x=some (decide (-4096≤x∧x<4096)):=by
 simp only [Jcu,w_br,Jre,Jqd,decide_eq_true_eq]
 split<;>simp<;>omega
theorem Jaz {α:Type} (x:Int) (k:Bool→Option α):@W.call wv α Kq x k=k (decide (-4096≤x∧x<4096)):=ca_s (c:=Kq) (Jq3 x)
theorem Jq0 (x:Int×Int):@Jc6 wv x=some (decide (-1048576≤x.1∧x.1≤1048576∧-1048576≤x.2∧x.2≤1048576)):=by
 simp only [Jc6,w_br,Jre,Jlp,decide_eq_true_eq]
 (repeat' split)<;>first|exact congrArg some (decide_eq_decide.2 (by omega))|exact congrArg some (decide_eq_false (by omega)).symm
theorem Jsw {α:Type} (x:Int×Int) (k:Bool→Option α):@W.call wv α j7 x k=k (decide (-1048576≤x.1∧x.1≤1048576∧-1048576≤x.2∧x.2≤1048576)):=ca_s (c:=j7) (Jq0 x)
def Jcn (lo hi:Int) (l:List Run) (i:Nat):Prop:=∀x,l[i]?=some x→lo≤x.1∧x.1<x.2∧x.2≤hi∧∀p,0<i→l[i - 1]?=some p→p.2<x.1
theorem Jef (lo hi:Int) (l:List Run):(∀i,i<l.length→Jcn lo hi l i)↔RunsOK lo hi l:=by
 constructor
 ·intro h
  have key:∀(i:Nat) (x:Run),l[i]?=some x→lo≤x.1∧x.1<x.2∧x.2≤hi∧∀p,0<i→l[i - 1]?=some p→p.2<x.1:=fun i x hx=>h i (Aa.1 hx).1 x hx
  refine ⟨fun x hx=>?_,?_⟩
  ·obtain ⟨i,hi⟩:=Ax.1 hx
   have:=key i x hi
   omega
  ·have hp:(l.Pairwise fun a b=>(a.1<a.2∧b.1<b.2∧a.2<b.1)):=pw_adj (fun a b c h1 h2=>by omega) fun i a b ha hb=>by
    have h1:=key i a ha
    have h2:=key (i+1) b hb
    have h3:=h2.2.2.2 a (by omega) (by simpa using ha)
    omega
   exact hp.imp fun h=>h.2.2
 ·rintro ⟨h1,h2⟩ i hi x hx
  have hb:=h1 x (Ae hx)
  refine ⟨hb.1,hb.2.1,hb.2.2,fun p h0 hp=>?_⟩
  exact Ju7 h2 hp (by rwa [Nat.sub_add_cancel h0])
open Classical in
theorem Jnc (l:List Run) (hl:l.length≤1000000000):@Jd3 wv l=some (decide (RunsOK (-1048576) 1048576 l)):=by
 have hloop:=Jgs (b:=@Yu wv) (bad:=.inl ()) (fin:=.inr ()) (fun i=>⟨l,⟨l,⟨(l.length:Int),⟨(i:Int),()⟩⟩⟩⟩) l.length (by omega) (Jcn (-1048576) 1048576 l) (fun i hi _=>by
  have hx:=Ab hi
  have hb:@Yu wv ⟨l,⟨l,⟨(l.length:Int),⟨(i:Int),()⟩⟩⟩⟩=if Jcn (-1048576) 1048576 l i then some (.go ⟨l,⟨l,⟨(l.length:Int),⟨((i+1:Nat):Int),()⟩⟩⟩⟩) else some (.out (.inl ())):=by
   unfold Yu
   dsimp only
   rw [Xw (by omega),ge_s (fg hx)]
   simp only [w_br,Jre,Jan,Jlp,K4,w_nt,Jsw,decide_eq_true_eq,Bl,decide_eq_false_iff_not]
   rw [wr (by omega) (by omega)]
   by_cases h0:0<i
   ·have hp:=Ab (l:=l) (i:=i - 1) (by omega)
    rw [ge_s (fgz (i - 1) (by rw [zg,wr (by omega) (by omega)];omega) hp)]
    have hg:Jcn (-1048576) 1048576 l i↔-1048576≤l[i].1∧l[i].1<l[i].2∧l[i].2≤1048576∧(l[i - 1]'(by omega)).2<l[i].1:=by
     constructor
     ·intro h;have:=h _ hx;exact ⟨this.1,this.2.1,this.2.2.1,this.2.2.2 _ h0 hp⟩
     ·rintro ⟨a,b,c,d⟩ x hx'
      rw [hx] at hx';injection hx' with e;subst e
      exact ⟨a,b,c,fun p _ hp'=>by rw [hp] at hp';injection hp' with e;subst e;exact d⟩
    simp only [hg]
    (repeat' split)<;>first|rfl|omega
   ·have hg:Jcn (-1048576) 1048576 l i↔-1048576≤l[i].1∧l[i].1<l[i].2∧l[i].2≤1048576:=by
     constructor
     ·intro h;have:=h _ hx;exact ⟨this.1,this.2.1,this.2.2.1⟩
     ·rintro ⟨a,b,c⟩ x hx'
      rw [hx] at hx';injection hx' with e;subst e
      exact ⟨a,b,c,fun p h=>(h0 h).elim⟩
    simp only [hg]
    (repeat' split)<;>first|rfl|omega
  rw [hb]
  exact ⟨fun h=>if_pos h,fun h=>if_neg h⟩) (fun _=>by unfold Yu;dsimp only;rw [Kz (by omega)])
 refine (lo_s hloop).trans ?_
 by_cases h:RunsOK (-1048576) 1048576 l
 ·rw [if_pos ((Jef _ _ _).2 h),decide_eq_true h]
 ·rw [if_neg fun q=>h ((Jef _ _ _).1 q),decide_eq_false h]
open Classical in
theorem Zu {α:Type} {l:List Run} (hl:l.length≤1000000000) (k:Bool→Option α):@W.call wv α J7 l k=k (decide (RunsOK (-1048576) 1048576 l)):=ca_s (c:=J7) (Jnc l hl)
def LimR (r:Reg):Prop:=r.length≤1000000000∧∀w∈r,w.2.length≤1000000000
theorem Jw8 {lo hi:Int} {l:List Run} (h:RunsOK lo hi l) {x0:Run} (h0:l[0]?=some x0):∀x∈l,x0.1≤x.1:=by
 cases l with
 | nil=>simp at h0
 | cons y l =>
  simp only [List.getElem?_cons_zero,Option.some.injEq] at h0
  subst h0
  intro x hx
  rcases Ag.1 hx with rfl|hx'
  ·omega
  ·have:=(Am.1 h.pw).1 x hx'
   have:=h.bd y (Af ..)
   omega
theorem Jzm {lo hi:Int} {l:List Run} (h:RunsOK lo hi l) {x1:Run} (h1:l[l.length - 1]?=some x1):∀x∈l,x.2≤x1.2:=by
 intro x hx
 have hm:=Ae h1
 obtain ⟨i,hi⟩:=Ax.1 hx
 obtain ⟨p1,e1⟩:=Aa.1 hi
 obtain ⟨p2,e2⟩:=Aa.1 h1
 have hb:=h.bd x1 hm
 by_cases e:i=l.length - 1
 ·subst e
  rw [hi] at h1
  injection h1 with h1
  subst h1
  omega
 ·have:=Aj.1 h.pw i (l.length - 1) p1 p2 (by omega)
  rw [e1,e2] at this
  omega
def Jcz (r:Reg) (i:Nat):Prop:=∀w,r[i]?=some w→-4096≤w.1∧w.1<4096∧w.2≠[]∧RunsOK (-4096) 4096 w.2∧∀p,0<i→r[i - 1]?=some p→p.1<w.1
theorem Jgi (r:Reg):(∀i,i<r.length→Jcz r i)↔RegOK r:=by
 constructor
 ·intro h
  have key:∀(i:Nat) (w:Row),r[i]?=some w→-4096≤w.1∧w.1<4096∧w.2≠[]∧RunsOK (-4096) 4096 w.2∧∀p,0<i→r[i - 1]?=some p→p.1<w.1:=fun i x hx=>h i (Aa.1 hx).1 x hx
  have km:∀w∈r,-4096≤w.1∧w.1<4096∧w.2≠[]∧RunsOK (-4096) 4096 w.2:=fun w hw=>by
   obtain ⟨i,hi⟩:=Ax.1 hw
   have:=key i w hi
   exact ⟨this.1,this.2.1,this.2.2.1,this.2.2.2.1⟩
  exact ⟨fun w hw=>⟨(km w hw).1,(km w hw).2.1⟩,pw_adj (fun a b c h1 h2=>by omega) fun i a b ha hb=>(key (i+1) b hb).2.2.2.2 a (by omega) (by simpa using ha),fun w hw=>(km w hw).2.2.1,fun w hw=>(km w hw).2.2.2⟩
 ·intro h i hi w hw
  have hm:=Ae hw
  exact ⟨(h.y w hm).1,(h.y w hm).2,h.ne w hm,h.rs w hm,fun p h0 hp=>Ju7 h.pw hp (by rwa [Nat.sub_add_cancel h0])⟩
theorem Jq8 {l:List Run} {x0 x1:Run} (h0:l[0]?=some x0) (h1:l[l.length - 1]?=some x1):RunsOK (-4096) 4096 l↔RunsOK (-1048576) 1048576 l∧(-4096≤x0.1∧x0.1<4096)∧(-4096≤x1.2 - 1∧x1.2 - 1<4096):=by
 constructor
 ·intro h
  have a:=h.bd x0 (Ae h0)
  have b:=h.bd x1 (Ae h1)
  exact ⟨⟨fun x hx=>by have:=h.bd x hx;omega,h.pw⟩,by omega,by omega⟩
 ·rintro ⟨h,a,b⟩
  exact ⟨fun x hx=>by
   have q1:=Jw8 h h0 x hx
   have q2:=Jzm h h1 x hx
   have:=h.bd x hx
   omega,h.pw⟩
open Classical in
theorem Jjo (r:Reg) (hl:LimR r):@zl wv r=some (decide (RegOK r)):=by
 have hloop:=Jgs (b:=@X3 wv) (bad:=.inl ()) (fin:=.inr ()) (fun i=>⟨r,⟨(r.length:Int),⟨(i:Int),⟨r,()⟩⟩⟩⟩) r.length (by have:=hl.1;omega) (Jcz r) (fun i hi _=>by
  have hx:=Ab hi
  have hL:=hl.1
  have hb:@X3 wv ⟨r,⟨(r.length:Int),⟨(i:Int),⟨r,()⟩⟩⟩⟩=if Jcz r i then some (.go ⟨r,⟨(r.length:Int),⟨((i+1:Nat):Int),⟨r,()⟩⟩⟩⟩) else some (.out (.inl ())):=by
   generalize hw:r[i]=w at hx
   have hwm:=Ae hx
   have hLw:=hl.2 w hwm
   unfold X3
   dsimp only
   rw [Xw (by omega),ge_s (fg hx)]
   have tail:letI:W:=wv;∀X:Option (Nx _ (Unit ⊕ Unit)),(br (cm .eql (ln w.2) 0) (some (.out (.inl ()))) (call J7 (w.2:(List (Int×Int))) fun (v3:Bool)=>br (nt v3) (some (.out (.inl ()))) (ge w.2 0 fun v4=>call Kq (v4.1:Int) fun (v5:Bool)=>br (nt v5) (some (.out (.inl ())))
     (ge w.2 (ar .sub .i64 (ln w.2) 1) fun v6=>call Kq ((ar .sub .i64 v6.2 1):Int) fun (v7:Bool)=>br (nt v7) (some (.out (.inl ()))) X))):Option (Nx (HP (List (Int×(List (Int×Int)))) (HP Int (HP Int (HP (List (Int×(List (Int×Int)))) Unit)))) (Unit ⊕ Unit)))=if w.2≠[]∧RunsOK (-4096) 4096 w.2 then X else some (.out (.inl ())):=by
    intro X
    cases hr:w.2 with
    | nil=>rfl
    | cons u l =>
     rw [hr] at hLw
     have e0:(u::l)[0]?=some u:=rfl
     have e1:(u::l)[(u::l).length - 1]?=some ((u::l)[(u::l).length - 1]'(by simp)):=Ab _
     generalize ((u::l)[(u::l).length - 1]'(by simp))=x1 at e1
     have hlen:(0:Int)<((u::l).length:Int):=by simp only [Av];omega
     rw [br_f (by simp only [Yt,w_ln,beq_eq_false_iff_ne];omega),Zu hLw]
     by_cases hV:RunsOK (-1048576) 1048576 (u::l)
     ·have hx1:=hV.bd x1 (Ae e1)
      rw [br_f (by simp [w_nt,hV]),ge_s (fg0 e0),Jaz,ge_s (fgz ((u::l).length - 1) (by rw [zg,w_ln,wr (by omega) (by omega)];omega) e1),Jaz,zg,wr (by omega) (by omega)]
      have he:=Jq8 e0 e1
      simp only [ne_eq,reduceCtorEq,not_false_iff,true_and,he,w_br,w_nt,Bl,decide_eq_false_iff_not,hV]
      (repeat' split)<;>first|rfl|omega
     ·rw [br_t (by simp [w_nt,hV]),if_neg]
      rintro ⟨-,h⟩
      exact hV ((Jq8 e0 e1).1 h).1
   rw [tail]
   simp only [Jaz,w_br,Jan,Jlp,w_nt,K4,decide_eq_true_eq,Bl,decide_eq_false_iff_not]
   rw [wr (by omega) (by omega)]
   by_cases h0:0<i
   ·have hp:=Ab (l:=r) (i:=i - 1) (by omega)
    generalize r[i - 1]=p at hp
    rw [ge_s (fgz (i - 1) (by rw [zg,wr (by omega) (by omega)];omega) hp)]
    have hg:Jcz r i↔(-4096≤w.1∧w.1<4096)∧(w.2≠[]∧RunsOK (-4096) 4096 w.2)∧p.1<w.1:=by
     constructor
     ·intro h;have:=h _ hx;exact ⟨⟨this.1,this.2.1⟩,⟨this.2.2.1,this.2.2.2.1⟩,this.2.2.2.2 _ h0 hp⟩
     ·rintro ⟨⟨a,b⟩,⟨c,d⟩,e⟩ x hx'
      rw [hx] at hx';injection hx' with q;subst q
      exact ⟨a,b,c,d,fun p' _ hp'=>by rw [hp] at hp';injection hp' with q;subst q;exact e⟩
    simp only [hg]
    by_cases hT:w.2≠[]∧RunsOK (-4096) 4096 w.2
    ·simp only [hT,and_self,true_and,if_true,ne_eq,not_false_iff]
     (repeat' split)<;>first|rfl|omega
    ·simp only [hT,false_and,and_false,if_false]
     (repeat' split)<;>first|rfl|omega
   ·have hg:Jcz r i↔(-4096≤w.1∧w.1<4096)∧(w.2≠[]∧RunsOK (-4096) 4096 w.2):=by
     constructor
     ·intro h;have:=h _ hx;exact ⟨⟨this.1,this.2.1⟩,⟨this.2.2.1,this.2.2.2.1⟩⟩
     ·rintro ⟨⟨a,b⟩,⟨c,d⟩⟩ x hx'
      rw [hx] at hx';injection hx' with q;subst q
      exact ⟨a,b,c,d,fun p' h=>(h0 h).elim⟩
    simp only [hg]
    by_cases hT:w.2≠[]∧RunsOK (-4096) 4096 w.2
    ·simp only [hT,and_self,and_true,if_true,ne_eq,not_false_iff]
     (repeat' split)<;>first|rfl|omega
    ·simp only [hT,and_false,if_false]
     (repeat' split)<;>first|rfl|omega
  rw [hb]
  exact ⟨fun h=>if_pos h,fun h=>if_neg h⟩) (fun _=>by unfold X3;dsimp only;rw [Kz (by omega)])
 unfold zl
 refine (lo_s hloop).trans ?_
 by_cases h:RegOK r
 ·rw [if_pos ((Jgi _).2 h),decide_eq_true h]
 ·rw [if_neg fun q=>h ((Jgi _).1 q),decide_eq_false h]
open Classical in
theorem Ze {α:Type} {r:Reg} (hl:LimR r) (k:Bool→Option α):@W.call wv α J2 r k=k (decide (RegOK r)):=ca_s (c:=J2) (Jjo r hl)
open Classical in
theorem fine_ok (l:List Run) (hl:l.length≤1000000000):@Xy wv l=some (decide (l≠[]∧RunsOK (-4096) 4096 l)):=by
 have hloop:=Jgs (b:=@K6 wv) (bad:=.inl ()) (fin:=.inr ⟨l,()⟩) (fun i=>⟨l,⟨(i:Int),()⟩⟩) l.length (by omega) (Jcn (-4096) 4096 l) (fun i hi _=>by
  have hx:=Ab hi
  have hb:@K6 wv ⟨l,⟨(i:Int),()⟩⟩=if Jcn (-4096) 4096 l i then some (.go ⟨l,⟨((i+1:Nat):Int),()⟩⟩) else some (.out (.inl ())):=by
   generalize hu:l[i]=u at hx
   unfold K6
   dsimp only
   simp only [ge_s (fg hx)]
   rw [w_ln,Xw (by omega)]
   simp only [w_br,Jre,Jan,Jlp,Jqd,K4,decide_eq_true_eq]
   rw [wr (by omega) (by omega)]
   by_cases h0:0<i
   ·have hp:=Ab (l:=l) (i:=i - 1) (by omega)
    generalize l[i - 1]=p at hp
    rw [ge_s (fgz (i - 1) (by rw [zg,wr (by omega) (by omega)];omega) hp)]
    have hg:Jcn (-4096) 4096 l i↔-4096≤u.1∧u.1<u.2∧u.2≤4096∧p.2<u.1:=by
     constructor
     ·intro h;have:=h _ hx;exact ⟨this.1,this.2.1,this.2.2.1,this.2.2.2 _ h0 hp⟩
     ·rintro ⟨a,b,c,d⟩ x hx'
      rw [hx] at hx';injection hx' with e;subst e
      exact ⟨a,b,c,fun p _ hp'=>by rw [hp] at hp';injection hp' with e;subst e;exact d⟩
    simp only [hg]
    (repeat' split)<;>first|rfl|omega
   ·have hg:Jcn (-4096) 4096 l i↔-4096≤u.1∧u.1<u.2∧u.2≤4096:=by
     constructor
     ·intro h;have:=h _ hx;exact ⟨this.1,this.2.1,this.2.2.1⟩
     ·rintro ⟨a,b,c⟩ x hx'
      rw [hx] at hx';injection hx' with e;subst e
      exact ⟨a,b,c,fun p h=>(h0 h).elim⟩
    simp only [hg]
    (repeat' split)<;>first|rfl|omega
  rw [hb]
  exact ⟨fun h=>if_pos h,fun h=>if_neg h⟩) (fun _=>by unfold K6;dsimp only;rw [w_ln,Kz (by omega)])
 unfold Xy
 refine (lo_s hloop).trans ?_
 by_cases h:RunsOK (-4096) 4096 l
 ·rw [if_pos ((Jef _ _ _).2 h)]
  show some (decide ((l.length:Int) > 0))=_
  congr 1
  rw [decide_eq_decide]
  cases l<;>simp [h]
 ·rw [if_neg fun q=>h ((Jef _ _ _).1 q),decide_eq_false fun q=>h q.2]
open Classical in
theorem k_fine {α:Type} {l:List Run} (hl:l.length≤1000000000) (k:Bool→Option α):@W.call wv α Kp l k=k (decide (l≠[]∧RunsOK (-4096) 4096 l)):=ca_s (c:=Kp) (fine_ok l hl)
open Classical in
theorem Jry (r:Reg) (hl:LimR r):@Xn wv r=some (decide (RegOK r)):=by
 have hloop:=Jgs (b:=@Kx wv) (bad:=.inl ()) (fin:=.inr ()) (fun i=>⟨(i:Int),⟨r,()⟩⟩) r.length (by have:=hl.1;omega) (Jcz r) (fun i hi _=>by
  have hx:=Ab hi
  have hL:=hl.1
  have hb:@Kx wv ⟨(i:Int),⟨r,()⟩⟩=if Jcz r i then some (.go ⟨((i+1:Nat):Int),⟨r,()⟩⟩) else some (.out (.inl ())):=by
   generalize hw:r[i]=w at hx
   have hLw:=hl.2 w (Ae hx)
   unfold Kx
   dsimp only
   simp only [ge_s (fg hx)]
   rw [w_ln,Xw (by omega)]
   simp only [w_br,Jre,Jan,Jlp,Jqd,K4,w_nt,k_fine hLw,decide_eq_true_eq,Bl,decide_eq_false_iff_not]
   rw [wr (by omega) (by omega)]
   by_cases h0:0<i
   ·have hp:=Ab (l:=r) (i:=i - 1) (by omega)
    generalize r[i - 1]=p at hp
    rw [ge_s (fgz (i - 1) (by rw [zg,wr (by omega) (by omega)];omega) hp)]
    have hg:Jcz r i↔(-4096≤w.1∧w.1<4096)∧(w.2≠[]∧RunsOK (-4096) 4096 w.2)∧p.1<w.1:=by
     constructor
     ·intro h;have:=h _ hx;exact ⟨⟨this.1,this.2.1⟩,⟨this.2.2.1,this.2.2.2.1⟩,this.2.2.2.2 _ h0 hp⟩
     ·rintro ⟨⟨a,b⟩,⟨c,d⟩,e⟩ x hx'
      rw [hx] at hx';injection hx' with q;subst q
      exact ⟨a,b,c,d,fun p' _ hp'=>by rw [hp] at hp';injection hp' with q;subst q;exact e⟩
    simp only [hg]
    by_cases hT:w.2≠[]∧RunsOK (-4096) 4096 w.2
    ·simp only [hT,and_self,true_and,if_true,ne_eq,not_false_iff,not_true_eq_false,if_false]
     (repeat' split)<;>first|rfl|omega
    ·simp only [hT,false_and,and_false,if_false,not_false_iff,if_true]
     (repeat' split)<;>first|rfl|omega
   ·have hg:Jcz r i↔(-4096≤w.1∧w.1<4096)∧(w.2≠[]∧RunsOK (-4096) 4096 w.2):=by
     constructor
     ·intro h;have:=h _ hx;exact ⟨⟨this.1,this.2.1⟩,⟨this.2.2.1,this.2.2.2.1⟩⟩
     ·rintro ⟨⟨a,b⟩,⟨c,d⟩⟩ x hx'
      rw [hx] at hx';injection hx' with q;subst q
      exact ⟨a,b,c,d,fun p' h=>(h0 h).elim⟩
    simp only [hg]
    by_cases hT:w.2≠[]∧RunsOK (-4096) 4096 w.2
    ·simp only [hT,and_self,and_true,if_true,ne_eq,not_false_iff,not_true_eq_false,if_false]
     (repeat' split)<;>first|rfl|omega
    ·simp only [hT,and_false,if_false,not_false_iff,if_true]
     (repeat' split)<;>first|rfl|omega
  rw [hb]
  exact ⟨fun h=>if_pos h,fun h=>if_neg h⟩) (fun _=>by unfold Kx;dsimp only;rw [w_ln,Kz (by omega)])
 unfold Xn
 refine (lo_s hloop).trans ?_
 by_cases h:RegOK r
 ·rw [if_pos ((Jgi _).2 h),decide_eq_true h]
 ·rw [if_neg fun q=>h ((Jgi _).1 q),decide_eq_false h]
open Classical in
theorem Jte {α:Type} {r:Reg} (hl:LimR r) (k:Bool→Option α):@W.call wv α Km r k=k (decide (RegOK r)):=ca_s (c:=Km) (Jry r hl)
def Jhe (r:Reg) (y:Int):List Run:=match r.find? (fun w=>w.1==y) with|some w=>w.2|none=>[]
theorem Jsj {r:Reg} (h:RegOK r) (c:Cell):Jj (Jhe r c.2) c.1↔Kg r c:=by
 unfold Jhe
 cases hf:r.find? fun w=>w.1==c.2 with
 | none =>
  constructor
  ·rintro ⟨u,hu,-⟩;cases hu
  ·rintro ⟨w,hw,e,-⟩
   have:=List.find?_eq_none.1 hf w hw
   simp [e] at this
 | some w =>
  have hw:=List.mem_of_find?_eq_some hf
  have e:w.1=c.2:=by have:=List.find?_some hf;simpa using this
  have:=h.in_row hw c.1
  rw [e] at this
  exact this.symm
theorem fitB {α:Type} {b:Nat} {n:Int} {x:Option α} (h:n≤1000000001) (h0:0≤n) (hb:b≤64):@W.gd wv α (@W.ft wv b n) x=x:=by
 refine gd_ft ⟨?_,by omega⟩
 have:n * (b:Int)≤1000000001 * 64:=Int.mul_le_mul h (by omega) (by omega) (by omega)
 unfold room
 omega
theorem Jih {α:Type} {n:Int} {x:Option α} (h:n≤1000000001) (h0:0≤n):@W.gd wv α (@W.ft wv 16 n) x=x:=fitB h h0 (by decide)
theorem fit40 {α:Type} {n:Int} {x:Option α} (h:n≤1000000001) (h0:0≤n):@W.gd wv α (@W.ft wv 40 n) x=x:=fitB h h0 (by decide)
theorem Jzf {α:Type} {n:Int} {x:Option α} (h:n≤1000000001) (h0:0≤n):@W.gd wv α (@W.ft wv 32 n) x=x:=fitB h h0 (by decide)
theorem Jj2 (y:Int) (u:Run):(Jet y u).length=(u.2 - u.1).toNat:=by simp [Jet,rng_len]
theorem J2o {w:Row} {k:Nat} {u:Run} (h:w.2[k]?=some u):(w.2.take (k+1)).flatMap (Jet w.1)=(w.2.take k).flatMap (Jet w.1)++Jet w.1 u:=Jgf h
theorem Jrq {α β:Type} (f:α→List β) (l:List α) (k:Nat):((l.take k).flatMap f).length≤(l.flatMap f).length:=by
 conv=>rhs;rw [←Bn k l,Bq,Ao]
 omega
theorem Je5 {α β:Type} (f:α→List β) {l:List α} {x:α} {k:Nat} (h:l[k]?=some x):((l.take k).flatMap f).length+(f x).length≤(l.flatMap f).length:=by
 have:=Jrq f l (k+1)
 rw [Jgf h,Ao] at this
 exact this
theorem cells_le {r:Reg} {w:Row} {u:Run} {i k:Nat} (hw:r[i]?=some w) (hu:w.2[k]?=some u):((r.take i).flatMap rowC).length+((w.2.take k).flatMap (Jet w.1)).length+(Jet w.1 u).length≤(Zd r).length:=by
 have h1:=Je5 rowC hw
 have h2:=Je5 (Jet w.1) hu
 unfold Zd
 have:(rowC w).length=(w.2.flatMap (Jet w.1)).length:=rfl
 omega
structure Jg7 (l:List Run):Prop where
 bd:∀u∈l,u.1<u.2
 pw:l.Pairwise fun a b=>a.2<b.1
theorem Jpy {lo hi:Int} {l:List Run} (h:Jg7 l) (hb:∀x,Jj l x→lo≤x∧x<hi):RunsOK lo hi l:=by
 refine ⟨fun u hu=>?_,h.pw⟩
 have h1:=h.bd u hu
 have h2:=hb u.1 ⟨u,hu,by omega,by omega⟩
 have h3:=hb (u.2 - 1) ⟨u,hu,by omega,by omega⟩
 omega
theorem Jmc {l:List Run} {u:Run}:Jg7 (l++[u])↔Jg7 l∧u.1<u.2∧∀v∈l,v.2<u.1:=by
 constructor
 ·rintro ⟨h1,h2⟩
  obtain ⟨p1,p2,p3⟩:=Au.1 h2
  exact ⟨⟨fun x hx=>h1 x (Aq _ hx),p1⟩,h1 u (by simp),fun v hv=>p3 v hv u (by simp)⟩
 ·rintro ⟨⟨h1,h2⟩,h3,h4⟩
  refine ⟨fun x hx=>?_,Au.2 ⟨h2,Bj _ _,fun v hv w hw=>?_⟩⟩
  ·rcases Ad.1 hx with h|h
   ·exact h1 x h
   ·rw [Ac.1 h];exact h3
  ·rw [Ac.1 hw];exact h4 v hv
def bnd (l:List Run) (i:Nat):Int:=match l[i / 2]? with
 | some u=>if i % 2=1 then u.2 else u.1
 | none=>1048577
theorem over_ok (l:List Run) (i:Nat) (hl:l.length≤1000000000):@Ym wv (l,(i:Int))=some (decide (i=2 * l.length)):=by
 unfold Ym
 dsimp only
 rw [Yt,w_mul,w_ln,wr (by omega) (by omega)]
 refine congrArg some ?_
 rw [Dg,beq_iff_eq,decide_eq_true_eq]
 omega
theorem Jf9 {α:Type} {l:List Run} {i:Nat} (hl:l.length≤1000000000) (k:Bool→Option α):@W.call wv α Js ((l,(i:Int)):List (Int×Int)×Int) k=k (decide (i=2 * l.length)):=ca_s (c:=Js) (over_ok l i hl)
theorem ins_ok (l:List Run) (i:Nat):@Xx wv (l,(i:Int))=some (decide (i % 2=1)):=by
 unfold Xx
 dsimp only
 rw [gd_t (by rfl),w_rem,Yt,Bf (by omega)]
 refine congrArg some ?_
 rw [Dg,beq_iff_eq,decide_eq_true_eq]
 omega
theorem J1a {α:Type} {l:List Run} {i:Nat} (k:Bool→Option α):@W.call wv α Jm ((l,(i:Int)):List (Int×Int)×Int) k=k (decide (i % 2=1)):=ca_s (c:=Jm) (ins_ok l i)
theorem next_ok (l:List Run) (i:Nat) (hl:l.length≤1000000000) (hi:i≤2 * l.length):@Yp wv (l,(i:Int))=some (bnd l i):=by
 unfold Yp
 dsimp only
 rw [Jf9 hl]
 by_cases h:i=2 * l.length
 ·rw [br_t (decide_eq_true h)]
  have:l[i / 2]?=none:=Ay (by omega)
  simp only [bnd,this]
 ·rw [br_f (decide_eq_false h),J1a]
  have hx:=Ab (l:=l) (i:=i / 2) (by omega)
  have hq:@W.ar wv .quo .i64 (i:Int) 2=((i / 2:Nat):Int):=by
   rw [w_quo,Int.tdiv_eq_ediv_of_nonneg (by omega),wr (by omega) (by omega)];omega
  simp only [bnd,hx]
  by_cases hp:i % 2=1
  ·rw [br_t (decide_eq_true hp),gd_t (by rfl),hq,ge_s (fg hx),if_pos hp]
  ·rw [br_f (decide_eq_false hp),gd_t (by rfl),hq,ge_s (fg hx),if_neg hp]
theorem Jia {α:Type} {l:List Run} {i:Nat} (hl:l.length≤1000000000) (hi:i≤2 * l.length) (k:Int→Option α):@W.call wv α Jq ((l,(i:Int)):List (Int×Int)×Int) k=k (bnd l i):=ca_s (c:=Jq) (next_ok l i hl hi)
def At (l:List Run) (p:Int) (i:Nat):Prop:=i≤2 * l.length∧(∀k,k<i→bnd l k≤p)∧∀k,i≤k→p<bnd l k∨2 * l.length≤k
theorem Jub {l:List Run} {p:Int} {i:Nat} (h:At l p i):Jj l p↔i % 2=1:=by
 obtain ⟨h0,h1,h2⟩:=h
 have hb:∀q u,l[q]?=some u→bnd l (2 * q)=u.1∧bnd l (2 * q+1)=u.2:=fun q u hu=>by
  constructor
  ·simp only [bnd,show 2 * q / 2=q by omega,hu];rw [if_neg (by omega)]
  ·simp only [bnd,show (2 * q+1) / 2=q by omega,hu];rw [if_pos (by omega)]
 constructor
 ·rintro ⟨u,hu,a,b⟩
  obtain ⟨q,hq⟩:=Ax.1 hu
  have hlt:=(Aa.1 hq).1
  obtain ⟨e1,e2⟩:=hb q u hq
  by_cases c1:i≤2 * q
  ·have:=h2 (2 * q) c1;omega
  ·by_cases c2:2 * q+1<i
   ·have:=h1 (2 * q+1) c2;omega
   ·omega
 ·intro hp
  have hlt:i / 2<l.length:=by omega
  have hu:=Ab hlt
  obtain ⟨e1,e2⟩:=hb (i / 2) _ hu
  have a1:=h1 (2 * (i / 2)) (by omega)
  have a2:=h2 (2 * (i / 2)+1) (by omega)
  exact ⟨_,Ae hu,by omega,by omega⟩
theorem bnd_mono {lo hi:Int} {l:List Run} (h:RunsOK lo hi l) {i:Nat} (hi':i+1<2 * l.length):bnd l i<bnd l (i+1):=by
 have hu:=Ab (l:=l) (i:=i / 2) (by omega)
 have hv:=Ab (l:=l) (i:=(i+1) / 2) (by omega)
 simp only [bnd,hu,hv]
 by_cases hp:i % 2=1
 ·rw [if_pos hp,if_neg (by omega)]
  have e:(i+1) / 2=i / 2+1:=by omega
  have:=Ju7 h.pw hu (by rw [←e];exact hv)
  exact this
 ·rw [if_neg hp,if_pos (by omega)]
  have e:(i+1) / 2=i / 2:=by omega
  simp only [e]
  exact (h.bd _ (Ae hu)).2.1
theorem Jhz {l:List Run} (h:RunsOK (-1048576) 1048576 l) (i:Nat):-1048576≤bnd l i∧bnd l i≤1048577:=by
 unfold bnd
 split
 ·rename_i u hu
  have:=h.bd u (Ae hu)
  split<;>omega
 ·omega
theorem Ju2 {l:List Run} (h:RunsOK (-1048576) 1048576 l):∀ {i k:Nat},i<k→k<2 * l.length→bnd l i<bnd l k
 | i,0,h1,_=>by omega
 | i,k+1,h1,h2=>by
  have:=bnd_mono h h2
  by_cases e:i=k
  ·subst e;exact this
  ·have:=Ju2 h (i:=i) (k:=k) (by omega) (by omega);omega
theorem Jo0 {l:List Run} (h:RunsOK (-1048576) 1048576 l) {p m:Int} {i:Nat} (ha:At l p i) (hm:m≤bnd l i) (hpm:p<m) (hm2:m<1048577):At l m (if bnd l i=m then i+1 else i)∧∀x,p≤x→x<m→(Jj l x↔i % 2=1):=by
 have ha':=ha
 obtain ⟨h0,h1,h2⟩:=ha
 refine ⟨?_,fun x hx1 hx2=>Jub ⟨h0,fun k hk=>by have:=h1 k hk;omega,fun k hk=>?_⟩⟩
 ·by_cases e:bnd l i=m
  ·rw [if_pos e]
   have hlt:i<2 * l.length:=by
    by_cases q:i<2 * l.length
    ·exact q
    ·have:l[i / 2]?=none:=Ay (by omega)
     simp only [bnd,this] at e
     omega
   refine ⟨by omega,fun k hk=>?_,fun k hk=>?_⟩
   ·by_cases q:k=i
    ·subst q;omega
    ·have:=h1 k (by omega);omega
   ·by_cases q:2 * l.length≤k
    ·exact .inr q
    ·left
     have:=Ju2 h (i:=i) (k:=k) (by omega) (by omega)
     omega
  ·rw [if_neg e]
   refine ⟨h0,fun k hk=>by have:=h1 k hk;omega,fun k hk=>?_⟩
   by_cases q:2 * l.length≤k
   ·exact .inr q
   ·left
    by_cases q2:k=i
    ·subst q2;omega
    ·have:=Ju2 h (i:=i) (k:=k) (by omega) (by omega);omega
 ·by_cases q:2 * l.length≤k
  ·exact .inr q
  ·left
   by_cases q2:k=i
   ·subst q2;omega
   ·have:=Ju2 h (i:=i) (k:=k) (by omega) (by omega);omega
def Jpg (was:Bool) (a:List Run) (i:Nat) (b:List Run) (j:Nat) (out:List Run):HP Bool (HP (List (Int×Int)) (HP Int (HP (List (Int×Int)) (HP Int (HP (List (Int×Int)) Unit))))) :=
 let m:=min (bnd a i) (bnd b j)
 let i':=if bnd a i=m then i+1 else i
 let j':=if bnd b j=m then j+1 else j
 let now:=decide (i' % 2=1)&&!decide (j' % 2=1)
 ⟨now,⟨a,⟨(i':Int),⟨b,⟨(j':Int),⟨if now=true∧was=false then out++[(m,0)] else if now=false∧was=true then K3 out (fun u=>(u.1,m)) else out,()⟩⟩⟩⟩⟩⟩
theorem Jk8 {l:List Run} (hne:l≠[]) (m:Int):∃v,l[l.length - 1]?=some v∧l.set (l.length - 1) (v.1,m)=K3 l fun u=>(u.1,m):=by
 obtain ⟨r,v,rfl⟩:∃r v,l=r++[v]:=by
  rcases l.eq_nil_or_concat with rfl|⟨r,v,e⟩
  ·exact (hne rfl).elim
  ·exact ⟨r,v,by rw [e,Dk]⟩
 have e:(r++[v]).length - 1=r.length:=by simp
 rw [e]
 exact ⟨v,Jnx r v,by rw [Jni,Yz]⟩
theorem mn_min (x y:Int):@W.mn wv x y=min x y:=by rw [w_mn];omega
theorem sub_step (was:Bool) (a b out:List Run) (i j:Nat) (ha:a.length≤1000000000) (hb:b.length≤1000000000) (hi:i≤2 * a.length) (hj:j≤2 * b.length) (ho:out.length≤1000000000) (hw:was=true→out≠[]) (hne:¬(i=2 * a.length∧j=2 * b.length)) :
  @Qi wv ⟨was,⟨a,⟨(i:Int),⟨b,⟨(j:Int),⟨out,()⟩⟩⟩⟩⟩⟩=some (.go (Jpg was a i b j out)):=by
 have j1:@Xg wv ⟨was,⟨a,⟨(i:Int),⟨b,⟨(j:Int),⟨out,()⟩⟩⟩⟩⟩⟩=some (.inl ⟨was,⟨a,⟨(i:Int),⟨b,⟨(j:Int),⟨out,()⟩⟩⟩⟩⟩⟩):=by
  unfold Xg
  dsimp only
  rw [Jf9 ha]
  by_cases c1:i=2 * a.length
  ·rw [br_f (by simp [w_nt,c1]),Jf9 hb,br_t (by simp [w_nt];exact fun q=>hne ⟨c1,q⟩)]
  ·rw [br_t (by simp [w_nt,c1])]
 generalize hm:min (bnd a i) (bnd b j)=m
 have j2:@jc wv ⟨was,⟨a,⟨(i:Int),⟨b,⟨(j:Int),⟨out,()⟩⟩⟩⟩⟩⟩ (bnd a i) (bnd b j)=some ⟨was,⟨m,⟨a,⟨((if bnd a i=m then i+1 else i:Nat):Int),⟨b,⟨(j:Int),⟨out,()⟩⟩⟩⟩⟩⟩⟩:=by
  unfold jc
  dsimp only
  rw [Jia ha hi,mn_min,hm,K4,wr (by omega) (by omega)]
  by_cases c:bnd a i=m
  ·rw [br_t (by rw [Yt];simp [c]),if_pos c];rfl
  ·rw [br_f (by rw [Yt];simp [c]),if_neg c]
 generalize hi':(if bnd a i=m then i+1 else i)=i' at j2
 have j3:@jj wv ⟨was,⟨m,⟨a,⟨(i':Int),⟨b,⟨(j:Int),⟨out,()⟩⟩⟩⟩⟩⟩⟩=some ⟨was,⟨m,⟨a,⟨(i':Int),⟨b,⟨((if bnd b j=m then j+1 else j:Nat):Int),⟨out,()⟩⟩⟩⟩⟩⟩⟩:=by
  unfold jj
  dsimp only
  rw [Jia hb hj,K4,wr (by omega) (by omega)]
  by_cases c:bnd b j=m
  ·rw [br_t (by rw [Yt];simp [c]),if_pos c];rfl
  ·rw [br_f (by rw [Yt];simp [c]),if_neg c]
 generalize hj':(if bnd b j=m then j+1 else j)=j' at j3
 have j4:@jm wv ⟨was,⟨m,⟨a,⟨(i':Int),⟨b,⟨(j':Int),⟨out,()⟩⟩⟩⟩⟩⟩⟩=some ⟨was,⟨m,⟨decide (i' % 2=1)&&!decide (j' % 2=1),⟨a,⟨(i':Int),⟨b,⟨(j':Int),⟨out,()⟩⟩⟩⟩⟩⟩⟩⟩:=by
  unfold jm
  dsimp only
  rw [J1a,J1a]
  by_cases c:i' % 2=1
  ·rw [br_t (by simp [c])];simp [c,w_nt]
  ·rw [br_f (by simp [c])];simp [c]
 generalize hnow:(decide (i' % 2=1)&&!decide (j' % 2=1))=now at j4
 have hfit:∀ {α:Type} (x:Option α),@W.gd wv α (@W.ft wv 16 (@W.pl wv (@W.ln wv (Int×Int) out) 1)) x=x:=fun x=>by rw [w_ln,w_pl];exact Jih (by omega) (by omega)
 have j5:@Zz wv ⟨was,⟨m,⟨now,⟨a,⟨(i':Int),⟨b,⟨(j':Int),⟨out,()⟩⟩⟩⟩⟩⟩⟩⟩=some ⟨now,⟨a,⟨(i':Int),⟨b,⟨(j':Int),⟨if now=true∧was=false then out++[(m,0)] else if now=false∧was=true then K3 out (fun u=>(u.1,m)) else out,()⟩⟩⟩⟩⟩⟩:=by
  unfold Zz
  dsimp only
  rw [hfit]
  have nt1:@W.nt wv true=false:=rfl
  have nt0:@W.nt wv false=true:=rfl
  cases now with
  | true =>
   cases was with
   | true=>rw [nt1,br_t rfl,br_f rfl,br_f rfl,if_neg (by simp),if_neg (by simp)]
   | false=>rw [nt0,br_t rfl,br_t rfl,if_pos (by simp),w_ap]
  | false =>
   cases was with
   | false=>rw [nt0,br_f rfl,br_t rfl,br_f rfl,if_neg (by simp),if_neg (by simp)]
   | true =>
    have hpos:=Br.2 (hw rfl)
    obtain ⟨v,hv,h2⟩:=Jk8 (hw rfl) m
    rw [nt0,br_f rfl,br_t rfl,br_t rfl,w_ln,zg,wr (by omega) (by omega),Jkf ⟨by omega,by omega⟩,ge_s (fgz (out.length - 1) (by omega) hv),if_neg (by simp),if_pos (by simp),w_st,show ((out.length:Int) - 1).toNat=out.length - 1 by omega,h2]
 unfold Qi
 rw [jo_s j1]
 dsimp only
 rw [Jia ha hi,Jia hb hj,jo_s j2,jo_s j3,jo_s j4,jo_s j5]
 unfold Jpg
 dsimp only
 rw [hm,hi',hj',hnow]
def SubI (a b:List Run) (p:Int) (was:Bool) (i j:Nat) (out:List Run):Prop :=
 At a p i∧At b p j∧was=(decide (i % 2=1)&&!decide (j % 2=1)) ∧
 ((was=false∧Jg7 out∧(∀u∈out,u.2≤p)∧∀x,x<p→(Jj out x↔Jj a x∧¬Jj b x)) ∨
  ∃(o:List Run) (s z:Int),out=o++[(s,z)]∧was=true∧s≤p∧Jg7 o∧(∀u∈o,u.2<s)∧(∀x,x<s→(Jj o x↔Jj a x∧¬Jj b x))∧∀x,s≤x→x≤p→Jj a x∧¬Jj b x)
theorem sub_inv {a b:List Run} (ha:RunsOK (-1048576) 1048576 a) (hb:RunsOK (-1048576) 1048576 b) {p:Int} {was:Bool} {i j:Nat} {out:List Run} (hI:SubI a b p was i j out) (hne:¬(i=2 * a.length∧j=2 * b.length)) :
  ∃m,p<m∧∃(was':Bool) (i' j':Nat) (out':List Run),Jpg was a i b j out=⟨was',⟨a,⟨(i':Int),⟨b,⟨(j':Int),⟨out',()⟩⟩⟩⟩⟩⟩∧SubI a b m was' i' j' out'∧i+j<i'+j'∧out'.length≤out.length+1:=by
 obtain ⟨hA,hB,hw,hO⟩:=hI
 have hm2:min (bnd a i) (bnd b j)<1048577:=by
  have q1:i<2 * a.length→bnd a i<1048577:=fun q=>by
   have hu:=Ab (l:=a) (i:=i / 2) (by omega)
   have:=ha.bd _ (Ae hu)
   simp only [bnd,hu];split<;>omega
  have q2:j<2 * b.length→bnd b j<1048577:=fun q=>by
   have hu:=Ab (l:=b) (i:=j / 2) (by omega)
   have:=hb.bd _ (Ae hu)
   simp only [bnd,hu];split<;>omega
  have h1:=hA.1
  have h2:=hB.1
  have h3:i<2 * a.length∨j<2 * b.length:=by omega
  rcases h3 with h3|h3
  ·have:=q1 h3;omega
  ·have:=q2 h3;omega
 have hp1:p<bnd a i:=by
  rcases hA.2.2 i (Ar _) with h|h
  ·exact h
  ·have e:a[i / 2]?=none:=Ay (by omega)
   have:p<1048577:=by
    have q:At b p j:=hB
    by_cases q2:j<2 * b.length
    ·rcases hB.2.2 j (Ar _) with h'|h'
     ·have:=Jhz hb j;omega
     ·omega
    ·exact (hne ⟨by have:=hA.1;omega,by have:=hB.1;omega⟩).elim
   simp only [bnd,e];exact this
 have hp2:p<bnd b j:=by
  rcases hB.2.2 j (Ar _) with h|h
  ·exact h
  ·have e:b[j / 2]?=none:=Ay (by omega)
   have:p<1048577:=by have:=Jhz ha i;omega
   simp only [bnd,e];exact this
 generalize hmdef:min (bnd a i) (bnd b j)=m at hm2
 have hpm:p<m:=by omega
 obtain ⟨hA',hAx⟩:=Jo0 ha hA (m:=m) (by omega) hpm hm2
 obtain ⟨hB',hBx⟩:=Jo0 hb hB (m:=m) (by omega) hpm hm2
 refine ⟨m,hpm,_,_,_,_,by unfold Jpg;rw [hmdef],?_,?_,?_⟩
 ·refine ⟨hA',hB',rfl,?_⟩
  have hAm:=Jub hA'
  have hBm:=Jub hB'
  generalize (if bnd a i=m then i+1 else i)=i' at *
  generalize (if bnd b j=m then j+1 else j)=j' at *
  have hD:∀x,p≤x→x<m→(Jj a x∧¬Jj b x↔was=true):=fun x h1 h2=>by
   rw [hAx x h1 h2,hBx x h1 h2,hw];simp
  have hDm:Jj a m∧¬Jj b m↔(decide (i' % 2=1)&&!decide (j' % 2=1))=true:=by
   rw [hAm,hBm];simp
  generalize (decide (i' % 2=1)&&!decide (j' % 2=1))=now at *
  rcases hO with ⟨w0,n1,n2,n3⟩|⟨o,s,z,rfl,w0,hs,n1,n2,n3,n4⟩
  ·subst w0
   cases now with
   | false =>
    left
    rw [if_neg (by simp),if_neg (by simp)]
    refine ⟨rfl,n1,fun u hu=>by have:=n2 u hu;omega,fun x hx=>?_⟩
    by_cases q:x<p
    ·exact n3 x q
    ·rw [hD x (by omega) hx]
     refine ⟨fun ⟨u,hu,h1,h2⟩=>by have:=n2 u hu;omega,fun h=>by simp at h⟩
   | true =>
    right
    rw [if_pos (by simp)]
    refine ⟨out,m,0,rfl,rfl,Int.le_refl _,n1,fun u hu=>by have:=n2 u hu;omega,fun x hx=>?_,fun x h1 h2=>?_⟩
    ·by_cases q:x<p
     ·exact n3 x q
     ·rw [hD x (by omega) hx]
      refine ⟨fun ⟨u,hu,h1,h2⟩=>by have:=n2 u hu;omega,fun h=>by simp at h⟩
    ·have:x=m:=by omega
     subst this
     exact hDm.2 rfl
  ·subst w0
   cases now with
   | true =>
    right
    rw [if_neg (by simp),if_neg (by simp)]
    refine ⟨o,s,z,rfl,rfl,by omega,n1,n2,n3,fun x h1 h2=>?_⟩
    by_cases q:x≤p
    ·exact n4 x h1 q
    ·by_cases q2:x=m
     ·subst q2;exact hDm.2 rfl
     ·exact (hD x (by omega) (by omega)).2 rfl
   | false =>
    left
    rw [if_neg (by simp),if_pos (by simp),Yz]
    refine ⟨rfl,Jmc.2 ⟨n1,by dsimp only;omega,n2⟩,fun u hu=>?_,fun x hx=>?_⟩
    ·rcases Ad.1 hu with h|h
     ·have:=n2 u h;omega
     ·rw [Ac.1 h];exact Int.le_refl _
    ·rw [j6]
     dsimp only
     by_cases q:x<s
     ·rw [n3 x q]
      exact ⟨fun h=>h.resolve_right fun h=>by omega,.inl⟩
     ·have hin:Jj a x∧¬Jj b x:=by
       by_cases q2:x≤p
       ·exact n4 x (by omega) q2
       ·exact (hD x (by omega) hx).2 rfl
      exact ⟨fun _=>hin,fun _=>.inr ⟨by omega,hx⟩⟩
 ·by_cases q:bnd a i=m
  ·rw [if_pos q];split<;>omega
  ·have:bnd b j=m:=by omega
   rw [if_pos this];split<;>omega
 ·have hml:∀(l:List Run) (f:Run→Run),(K3 l f).length=l.length:=fun l f=>by
   rcases l.eq_nil_or_concat with rfl|⟨r,v,rfl⟩
   ·rfl
   ·rw [Dk,Yz];simp
  have key:∀nw ws:Bool,(if nw=true∧ws=false then out++[(m,0)] else if nw=false∧ws=true then K3 out (fun u=>(u.1,m)) else out).length≤out.length+1:=fun nw ws=>by
   cases nw<;>cases ws<;>simp [hml]
  exact key _ _
theorem sub_loop (a b:List Run) (hla:a.length≤100000000) (hlb:b.length≤100000000) (ha:RunsOK (-1048576) 1048576 a) (hb:RunsOK (-1048576) 1048576 b) :
  ∃e,Xk (@Qi wv) bigN ⟨false,⟨a,⟨0,⟨b,⟨0,⟨[],()⟩⟩⟩⟩⟩⟩=some e∧Jg7 e.hd∧∀x,Jj e.hd x↔Jj a x∧¬Jj b x:=by
 refine Jkc (b:=@Qi wv) (fun s=>∃(p:Int) (was:Bool) (i j:Nat) (out:List Run),s=⟨was,⟨a,⟨(i:Int),⟨b,⟨(j:Int),⟨out,()⟩⟩⟩⟩⟩⟩∧SubI a b p was i j out∧out.length≤i+j)
  (fun e=>Jg7 e.hd∧∀x,Jj e.hd x↔Jj a x∧¬Jj b x) (fun s=>(2 * (a.length:Int)+2 * (b.length:Int) - s.tl.tl.hd - s.tl.tl.tl.tl.hd).toNat) ?_ ⟨-1048577,false,0,0,[],rfl,⟨⟨by omega,by omega,fun k hk=>?_⟩,⟨by omega,by omega,fun k hk=>?_⟩,rfl,.inl ⟨rfl,⟨by simp,.nil⟩,by simp,fun x hx=>?_⟩⟩,by simp⟩ (by dsimp only;omega)
 ·rintro s ⟨p,was,i,j,out,rfl,hI,ho⟩
  have h1:=hI.1.1
  have h2:=hI.2.1.1
  by_cases hne:i=2 * a.length∧j=2 * b.length
  ·right
   obtain ⟨rfl,rfl⟩:=hne
   have j1:@Xg wv ⟨was,⟨a,⟨((2 * a.length:Nat):Int),⟨b,⟨((2 * b.length:Nat):Int),⟨out,()⟩⟩⟩⟩⟩⟩=some (.inr ⟨out,()⟩):=by
    unfold Xg
    dsimp only
    rw [Jf9 (by omega),br_f (by simp [w_nt]),Jf9 (by omega),br_f (by simp [w_nt])]
   unfold Qi
   rw [jo_s j1]
   refine ⟨_,rfl,?_⟩
   obtain ⟨hA,hB,hw,hO⟩:=hI
   have hwf:was=false:=by rw [hw];simp
   rcases hO with ⟨w0,n1,n2,n3⟩|⟨o,s,z,rfl,w0,-⟩
   ·refine ⟨n1,fun x=>?_⟩
    by_cases q:x<p
    ·exact n3 x q
    ·refine ⟨fun ⟨u,hu,h3,h4⟩=>by have:=n2 u hu;omega,fun ⟨h3,h4⟩=>?_⟩
     have:At a x (2 * a.length):=⟨Ar _,fun k hk=>by have:=hA.2.1 k hk;omega,fun k hk=>.inr hk⟩
     have:=(Jub this).1 h3
     omega
   ·rw [hwf] at w0;cases w0
  ·left
   obtain ⟨m,hpm,was',i',j',out',e,hI',hlt,hlen⟩:=sub_inv ha hb hI hne
   refine ⟨_,sub_step was a b out i j (by omega) (by omega) h1 h2 (by omega) (fun q=>?_) hne,?_,?_⟩
   ·rcases hI.2.2.2 with ⟨w0,-⟩|⟨o,s,z,rfl,-⟩
    ·rw [w0] at q;cases q
    ·simp
   ·rw [e]
    exact ⟨m,was',i',j',out',rfl,hI',by omega⟩
   ·rw [e]
    have h1':=hI'.1.1
    have h2':=hI'.2.1.1
    dsimp only
    omega
 ·by_cases q:2 * a.length≤k
  ·exact .inr q
  ·left;have:=Jhz ha k;omega
 ·by_cases q:2 * b.length≤k
  ·exact .inr q
  ·left;have:=Jhz hb k;omega
 ·constructor
  ·rintro ⟨u,hu,-⟩;cases hu
  ·rintro ⟨⟨u,hu,h1,h2⟩,-⟩
   have:=ha.bd u hu;omega
open Classical in
theorem Jlh (a b:List Run) (hla:a.length≤100000000) (hlb:b.length≤100000000) (ha:RunsOK (-1048576) 1048576 a) (hb:RunsOK (-1048576) 1048576 b) :
  ∃l,@jb wv (a,b)=some l∧Jg7 l∧∀x,Jj l x↔Jj a x∧¬Jj b x:=by
 obtain ⟨e,he,h1,h2⟩:=sub_loop a b hla hlb ha hb
 refine ⟨e.hd,?_,h1,h2⟩
 unfold jb
 dsimp only
 rw [Zu (by omega),br_f (by simp [w_nt,ha]),Zu (by omega),br_f (by simp [w_nt,hb])]
 exact lo_s he
def grid (c:Cell):Prop:=-4096≤c.1∧c.1<4096∧-4096≤c.2∧c.2<4096
instance (c:Cell):Decidable (grid c):=by unfold grid;exact inferInstance
def nb (a b:Cell):Prop:=(a.1 - b.1) * (a.1 - b.1)+(a.2 - b.2) * (a.2 - b.2)=1
instance (a b:Cell):Decidable (nb a b):=by unfold nb;exact inferInstance
theorem J2u (c:Cell):@zn wv c=some (decide (grid c)):=by
 simp only [zn,w_br,Jre,Jqd,decide_eq_true_eq]
 (repeat' split)<;>first|exact congrArg some (decide_eq_decide.2 (by unfold grid;omega))|exact congrArg some (decide_eq_false (by unfold grid;omega)).symm
theorem k_onGrid {α:Type} (c:Cell) (k:Bool→Option α):@W.call wv α Yg ((c.1,c.2):Int×Int) k=k (decide (grid c)):=ca_s (c:=Yg) (J2u c)
theorem sq_bd {d:Int} (h1:-100000≤d) (h2:d≤100000):0≤d * d∧d * d≤10000000000:=by
 have e:d * d=((d.natAbs * d.natAbs:Nat):Int):=(Int.natAbs_mul_self (a:=d)).symm
 have:d.natAbs * d.natAbs≤100000 * 100000:=Nat.mul_le_mul (by omega) (by omega)
 omega
theorem Jqb (a b:Cell) (ha:grid a) (hb:grid b):@Y5 wv (a,b)=some (decide (nb a b)):=by
 unfold grid at ha hb
 have h1:=sq_bd (d:=a.1 - b.1) (by omega) (by omega)
 have h2:=sq_bd (d:=a.2 - b.2) (by omega) (by omega)
 unfold Y5
 dsimp only
 simp only [K4,w_mul,zg,Yt]
 rw [wr (n:=a.1 - b.1) (by omega) (by omega),wr (n:=a.2 - b.2) (by omega) (by omega),wr (n:=(a.1 - b.1) * (a.1 - b.1)) (by omega) (by omega),wr (n:=(a.2 - b.2) * (a.2 - b.2)) (by omega) (by omega),wr (by omega) (by omega)]
 congr 1
theorem Jj9 {α:Type} {a b:Cell} (ha:grid a) (hb:grid b) (k:Bool→Option α):@W.call wv α Qb (((a.1,a.2),(b.1,b.2)):(Int×Int)×(Int×Int)) k=k (decide (nb a b)):=ca_s (c:=Qb) (Jqb a b ha hb)
def J2g (l:List Cell) (i:Nat):Prop:=∀c,l[i]?=some c→grid c∧∀p,0<i→l[i - 1]?=some p→nb p c
def VT (t:Jkk):Prop:=(1≤t.1∧t.1≤7)∧(1≤t.2.2.length∧t.2.2.length≤65536)∧(∀i,i<t.2.2.length→J2g t.2.2 i)∧(t.2.1=true→t.2.2.length=1∨∀a b,t.2.2[t.2.2.length - 1]?=some a→t.2.2[0]?=some b→nb a b)
open Classical in
theorem Jll (t:Jkk):@Jat wv t=some (decide (VT t)):=by
 obtain ⟨role,closed,l⟩:=t
 unfold Jat
 dsimp only
 simp only [w_ln]
 by_cases h1:1≤role∧role≤7
 case neg =>
  rw [decide_eq_false fun q:VT _=>h1 q.1]
  simp only [w_br,Jqd,Jan,decide_eq_true_eq]
  by_cases h2:role<1
  ·rw [if_pos h2]
  ·rw [if_neg h2,if_pos (by omega)]
 rw [Kz (by omega),br_f (by rw [Jan];exact decide_eq_false (by omega))]
 by_cases h2:1≤l.length∧l.length≤65536
 case neg =>
  rw [decide_eq_false fun q:VT _=>h2 q.2.1]
  simp only [w_br,Jqd,Jan,decide_eq_true_eq]
  by_cases h3:(l.length:Int)<1
  ·rw [if_pos h3]
  ·rw [if_neg h3,if_pos (by omega)]
 rw [Kz (by omega),br_f (by rw [Jan];exact decide_eq_false (by omega))]
 have hloop:=Jgs (b:=@X8 wv) (bad:=.inl ()) (fin:=.inr ⟨(l.length:Int),⟨role,⟨closed,⟨l,()⟩⟩⟩⟩) (fun i=>⟨(l.length:Int),⟨l,⟨(l.length:Int),⟨(i:Int),⟨role,⟨closed,⟨l,()⟩⟩⟩⟩⟩⟩⟩) l.length (by omega) (J2g l) (fun i hi hprev=>by
  have hx:=Ab hi
  generalize l[i]=c at hx
  have hb:@X8 wv ⟨(l.length:Int),⟨l,⟨(l.length:Int),⟨(i:Int),⟨role,⟨closed,⟨l,()⟩⟩⟩⟩⟩⟩⟩=if J2g l i then some (.go ⟨(l.length:Int),⟨l,⟨(l.length:Int),⟨((i+1:Nat):Int),⟨role,⟨closed,⟨l,()⟩⟩⟩⟩⟩⟩⟩) else some (.out (.inl ())):=by
   unfold X8
   dsimp only
   rw [Xw (by omega),ge_s (fg hx),k_onGrid]
   by_cases hg:grid c
   case neg=>rw [br_t (by simp [w_nt,hg]),if_neg fun q=>hg (q c hx).1]
   rw [br_f (by simp [w_nt,hg]),K4,wr (by omega) (by omega)]
   by_cases h0:0<i
   ·have hp:=Ab (l:=l) (i:=i - 1) (by omega)
    generalize l[i - 1]=p at hp
    have hpg:grid p:=(hprev (i - 1) (by omega) p hp).1
    rw [br_t (by rw [Jan];exact decide_eq_true (by omega)),ge_s (fgz (i - 1) (by rw [zg,wr (by omega) (by omega)];omega) hp),Jj9 hpg hg]
    have hiff:J2g l i↔nb p c:=by
     constructor
     ·intro q;exact (q c hx).2 p h0 hp
     ·intro q c' hc'
      rw [hx] at hc';injection hc' with e;subst e
      exact ⟨hg,fun p' _ hp'=>by rw [hp] at hp';injection hp' with e;subst e;exact q⟩
    by_cases hn:nb p c
    ·rw [br_f (by simp [w_nt,hn]),if_pos (hiff.2 hn)];rfl
    ·rw [br_t (by simp [w_nt,hn]),if_neg fun q=>hn (hiff.1 q)]
   ·rw [br_f (by rw [Jan];exact decide_eq_false (by omega)),if_pos]
    ·rfl
    ·intro c' hc'
     rw [hx] at hc';injection hc' with e;subst e
     exact ⟨hg,fun p' h=>(h0 h).elim⟩
  rw [hb]
  exact ⟨fun h=>if_pos h,fun h=>if_neg h⟩) (fun _=>by unfold X8;dsimp only;rw [Kz (by omega)])
 refine (lo_s hloop).trans ?_
 by_cases h3:∀i,i<l.length→J2g l i
 case neg=>rw [if_neg h3,decide_eq_false fun q:VT _=>h3 q.2.2.1]
 rw [if_pos h3]
 dsimp only
 cases hcl:closed with
 | false=>rw [br_t (by rfl),decide_eq_true];exact ⟨h1,h2,h3,fun q=>by cases q⟩
 | true =>
  rw [br_f (by rfl)]
  by_cases h4:l.length=1
  ·rw [br_t (by rw [Yt,h4];rfl),decide_eq_true];exact ⟨h1,h2,h3,fun _=>.inl h4⟩
  ·have hla:=Ab (l:=l) (i:=l.length - 1) (by omega)
   have hfi:=Ab (l:=l) (i:=0) (by omega)
   generalize l[l.length - 1]=a at hla
   generalize l[0]=b at hfi
   rw [br_f (by rw [Yt,beq_eq_false_iff_ne];omega),ge_s (fgz (l.length - 1) (by rw [zg,wr (by omega) (by omega)];omega) hla),ge_s (fg0 hfi),Jj9 (h3 _ (by omega) a hla).1 (h3 _ (by omega) b hfi).1]
   refine congrArg some (decide_eq_decide.2 ⟨fun q=>⟨h1,h2,h3,fun _=>.inr fun a' b' ha' hb'=>?_⟩,fun q=>?_⟩)
   ·dsimp only at ha' hb'
    rw [hla] at ha';rw [hfi] at hb'
    injection ha' with e1;injection hb' with e2
    subst e1;subst e2;exact q
   ·rcases q.2.2.2 rfl with e|e
    ·exact (h4 e).elim
    ·exact e a b hla hfi
open Classical in
theorem Jok {α:Type} {t:Jkk} (k:Bool→Option α):@W.call wv α Y3 ((t.1,(t.2.1,t.2.2)):Int×(Bool×List (Int×Int))) k=k (decide (VT t)):=ca_s (c:=Y3) (Jll t)
def rowY (r:Reg) (y:Int):List Run:=((r.find? fun w=>w.1==y).map Prod.snd).getD []
theorem Jek {r:Reg} (h:RegOK r) {w:Row} (hw:w∈r):rowY r w.1=w.2:=by
 have hp:=h.pw
 clear h
 induction r with
 | nil=>cases hw
 | cons v r ih =>
  obtain ⟨p1,p2⟩:=Am.1 hp
  unfold rowY
  rcases Ag.1 hw with rfl|hw'
  ·simp
  ·have hlt:=p1 w hw'
   rw [List.find?_cons_of_neg (by simp;omega)]
   exact ih hw' p2
theorem Jee {r:Reg} {y:Int} (h:∀w∈r,w.1≠y):rowY r y=[]:=by
 unfold rowY
 rw [List.find?_eq_none.2 (fun w hw=>by simp [h w hw])]
 rfl
theorem Jc8 {r:Reg} (h:RegOK r) {x y:Int}:Kg r (x,y)↔Jj (rowY r y) x:=by
 constructor
 ·rintro ⟨w,hw,e,hx⟩
  have e:w.1=y:=e
  rw [←e,Jek h hw];exact hx
 ·intro hx
  by_cases hy:∃w∈r,w.1=y
  ·obtain ⟨w,hw,e⟩:=hy
   rw [←e,Jek h hw] at hx
   exact ⟨w,hw,e,hx⟩
  ·rw [Jee (fun w hw e=>hy ⟨w,hw,e⟩)] at hx
   obtain ⟨u,hu,_⟩:=hx
   cases hu
theorem Jg5 {r:Reg} (h:RegOK r) (y:Int):RunsOK (-4096) 4096 (rowY r y):=by
 by_cases hy:∃w∈r,w.1=y
 ·obtain ⟨w,hw,e⟩:=hy
  rw [←e,Jek h hw];exact h.rs w hw
 ·rw [Jee (fun w hw e=>hy ⟨w,hw,e⟩)]
  exact ⟨by simp,.nil⟩
theorem Jlx {r:Reg} (h:RegOK r) {i j:Nat} {a b:Row} (ha:r[i]?=some a) (hb:r[j]?=some b) (hij:i<j):a.1<b.1:=by
 obtain ⟨p1,rfl⟩:=Aa.1 ha
 obtain ⟨p2,rfl⟩:=Aa.1 hb
 exact Aj.1 h.pw i j p1 p2 hij
theorem Jmq {r:Reg} (h:RegOK r) {i j:Nat} {a b:Row} (ha:r[i]?=some a) (hb:r[j]?=some b) (hij:i≤j):a.1≤b.1:=by
 rcases Nat.lt_or_eq_of_le hij with h1|rfl
 ·have:=Jlx h ha hb h1;omega
 ·rw [ha] at hb;injection hb with e;subst e;omega
theorem Jwq {r:Reg} (h:RegOK r) {i:Nat} {w:Row} (hw:r[i]?=some w) :
  rowY r (w.1 - 1)=(if 0<i then (match r[i - 1]? with|some v=>if v.1=w.1 - 1 then v.2 else []|none=>[]) else []):=by
 by_cases hi:0<i
 ·rw [if_pos hi]
  have hlt:=(Aa.1 hw).1
  have hv:r[i - 1]?=some r[i - 1]:=Ab (by omega)
  rw [hv]
  dsimp only
  by_cases he:r[i - 1].1=w.1 - 1
  ·rw [if_pos he,←he,Jek h (Aw _)]
  ·rw [if_neg he]
   refine Jee fun v hv' e=>?_
   obtain ⟨j,hj⟩:=Ai hv'
   have h1:=Jlx h hv hw (by omega)
   rcases Nat.lt_or_ge (i - 1) j with hlt|hge
   ·have:=Jmq h hw hj (by omega);omega
   ·have:=Jmq h hj hv hge;omega
 ·rw [if_neg hi]
  refine Jee fun v hv' e=>?_
  obtain ⟨j,hj⟩:=Ai hv'
  have:=Jmq h hw hj (by omega);omega
theorem next_row {r:Reg} (h:RegOK r) {i:Nat} {w:Row} (hw:r[i]?=some w) :
  rowY r (w.1+1)=(match r[i+1]? with|some v=>if v.1=w.1+1 then v.2 else []|none=>[]):=by
 cases hv:r[i+1]? with
 | none =>
  dsimp only
  refine Jee fun v hv' e=>?_
  obtain ⟨j,hj⟩:=Ai hv'
  have h1:=(Aa.1 hj).1
  have h2:=Bu.1 hv
  have:=Jmq h hj hw (by omega);omega
 | some v =>
  dsimp only
  by_cases he:v.1=w.1+1
  ·rw [if_pos he,←he,Jek h (Ae hv)]
  ·rw [if_neg he]
   refine Jee fun u hu e=>?_
   obtain ⟨j,hj⟩:=Ai hu
   have h1:=Jlx h hw hv (by omega)
   rcases Nat.lt_or_ge i j with hlt|hge
   ·have:=Jmq h hv hj (by omega);omega
   ·have:=Jmq h hj hw hge;omega
theorem J23 (r:Reg) (h:RegOK r) (hl:r.length≤1000000000) {i:Nat} {w:Row} (hw:r[i]?=some w) :
  @Y4 wv (r,(i:Int))=some (rowY r (w.1 - 1),rowY r (w.1+1)):=by
 have hi:=(Aa.1 hw).1
 have hy:=h.y w (Ae hw)
 have e1:@W.ar wv .sub .i64 w.1 1=w.1 - 1:=by rw [zg,wr (by omega) (by omega)]
 have e2:@W.ar wv .add .i64 w.1 1=w.1+1:=by rw [K4,wr (by omega) (by omega)]
 have e3:@W.ar wv .add .i64 (i:Int) 1=((i+1:Nat):Int):=by rw [K4,wr (by omega) (by omega)];omega
 have tail:∀up:List Run,
   (@W.br wv (List Run×List Run) (@W.cm wv .lss (@W.ar wv .add .i64 (i:Int) 1) (@W.ln wv Row r)) (@W.ge wv (List Run×List Run) Row r (@W.ar wv .add .i64 (i:Int) 1) fun v3 =>
    @W.br wv (List Run×List Run) (@W.cm wv .eql v3.1 (@W.ar wv .add .i64 w.1 1)) (@W.ge wv (List Run×List Run) Row r (@W.ar wv .add .i64 (i:Int) 1) fun v4=>some (up,v4.2)) (some (up,[]))) (some (up,[])))=some (up,rowY r (w.1+1)):=by
  intro up
  rw [next_row h hw,e3,w_ln,e2]
  cases hv:r[i+1]? with
  | none =>
   have h2:=Bu.1 hv
   rw [Kz (by omega)]
  | some v =>
   have h2:=(Aa.1 hv).1
   rw [Xw (by omega),ge_s (fg hv)]
   dsimp only
   by_cases he:v.1=w.1+1
   ·rw [br_t (by rw [Yt];simpa using he),ge_s (fg hv),if_pos he]
   ·rw [br_f (by rw [Yt];simpa using he),if_neg he]
 unfold Y4
 dsimp only
 rw [ge_s (fg hw)]
 by_cases h0:0<i
 ·have hv:r[i - 1]?=some r[i - 1]:=Ab (by omega)
  have e4:@W.ar wv .sub .i64 (i:Int) 1=((i - 1:Nat):Int):=by rw [zg,wr (by omega) (by omega)];omega
  rw [br_t (by rw [Jan];exact decide_eq_true (by omega)),e4,ge_s (fg hv),Jwq h hw,if_pos h0,hv]
  dsimp only
  by_cases he:r[i - 1].1=w.1 - 1
  ·rw [br_t (by rw [Yt,e1];simpa using he),ge_s (fg hv),if_pos he]
   exact tail _
  ·rw [br_f (by rw [Yt,e1];simpa using he),if_neg he]
   exact tail _
 ·rw [br_f (by rw [Jan];exact decide_eq_false (by omega)),Jwq h hw,if_neg h0]
  exact tail _
theorem k_around {α:Type} {r:Reg} (h:RegOK r) (hl:r.length≤1000000000) {i:Nat} {w:Row} (hw:r[i]?=some w) (k:List (Int×Int)×List (Int×Int)→Option α):@W.call wv α Qv ((r,(i:Int)):List (Int×List (Int×Int))×Int) k=k (rowY r (w.1 - 1),rowY r (w.1+1)):=ca_s (c:=Qv) (J23 r h hl hw)
def Qa (h:Int) (p:Cell):Cell:=if h=0 then (p.1+1,p.2) else if h=1 then (p.1,p.2+1) else if h=2 then (p.1 - 1,p.2) else (p.1,p.2 - 1)
def Yr (p:Cell):Prop:=(-1000000000≤p.1∧p.1≤1000000000)∧-1000000000≤p.2∧p.2≤1000000000
theorem from_ok (h:Int) (p:Cell) (hp:Yr p):@Qr wv (h,p)=some (Qa h p):=by
 obtain ⟨⟨h1,h2⟩,h3,h4⟩:=hp
 unfold Qr Qa
 dsimp only
 simp only [K4,zg,w_br,Yt,beq_iff_eq]
 rw [wr (n:=p.1+1) (by omega) (by omega),wr (n:=p.2+1) (by omega) (by omega),wr (n:=p.1 - 1) (by omega) (by omega),wr (n:=p.2 - 1) (by omega) (by omega)]
 split
 ·rfl
 split
 ·rfl
 split<;>rfl
theorem k_from {α:Type} {h:Int} {p:Cell} (hp:Yr p) (k:Int×Int→Option α):@W.call wv α J8 ((h,p):Int×(Int×Int)) k=k (Qa h p):=ca_s (c:=J8) (from_ok h p hp)
theorem left_ok (h:Int) (h1:0≤h) (h2:h≤3):@Qt wv h=some ((h+1) % 4):=by
 unfold Qt
 rw [gd_t (by rfl),w_rem,K4,wr (by omega) (by omega),Bf (by omega)]
theorem k_left {α:Type} {h:Int} (h1:0≤h) (h2:h≤3) (k:Int→Option α):@W.call wv α J5 (h:Int) k=k ((h+1) % 4):=ca_s (c:=J5) (left_ok h h1 h2)
theorem right_ok (h:Int) (h1:0≤h) (h2:h≤3):@Ql wv h=some ((h+3) % 4):=by
 unfold Ql
 rw [gd_t (by rfl),w_rem,K4,wr (by omega) (by omega),Bf (by omega)]
theorem k_right {α:Type} {h:Int} (h1:0≤h) (h2:h≤3) (k:Int→Option α):@W.call wv α J1 (h:Int) k=k ((h+3) % 4):=ca_s (c:=J1) (right_ok h h1 h2)
theorem index_ok (l:List Int) (x:Int) (hl:l.length≤1000000000):∃e,@Jl wv (l,x)=some e∧((e=-1∧x∉l)∨∃i:Nat,l[i]?=some x∧e=(i:Int)):=by
 obtain ⟨e,he,hq⟩:=Jwu (b:=@Jr wv) l (by omega) (fun i=>⟨l,⟨x,⟨(l.length:Int),⟨(i:Int),()⟩⟩⟩⟩) (fun y=>x=y) (fun i _=>.inl ⟨(i:Int),()⟩) (.inr ()) (fun i y hi hy=>by
  have e3:@W.ar wv .add .i64 (i:Int) 1=((i+1:Nat):Int):=by rw [K4,wr (by omega) (by omega)];omega
  unfold Jr
  dsimp only
  rw [Xw (by omega),ge_s (fg hy)]
  refine ⟨fun h=>?_,fun h=>?_⟩
  ·rw [br_t (by rw [Yt];simpa using h)]
  ·rw [br_f (by rw [Yt];simpa using h),e3]) (by
  unfold Jr
  dsimp only
  rw [Kz (by omega)])
 unfold Jl
 dsimp only
 rw [w_ln]
 rcases hq with ⟨rfl,hn⟩|⟨i,y,hy,hp,rfl⟩
 ·exact ⟨-1,lo_s he,.inl ⟨rfl,fun hm=>hn x hm rfl⟩⟩
 ·exact ⟨(i:Int),lo_s he,.inr ⟨i,by rw [hy,hp],rfl⟩⟩
theorem J2p {l:List Int} (x:Int) (hl:l.length≤1000000000):∃e:Int,(∀ {α:Type} (k:Int→Option α),@W.call wv α Jd ((l,x):List Int×Int) k=k e)∧((e=-1∧x∉l)∨∃i:Nat,l[i]?=some x∧e=(i:Int)):=by
 obtain ⟨e,he,hq⟩:=index_ok l x hl
 exact ⟨e,fun k=>ca_s (c:=Jd) he,hq⟩
theorem Juh (l:List Int) (x:Int) (hl:l.length≤1000000000):@Jp wv (l,x)=some (decide (x∈l)):=by
 obtain ⟨e,he,hq⟩:=J2p x hl
 unfold Jp
 dsimp only
 rw [he]
 refine congrArg some ?_
 rw [Jre]
 refine decide_eq_decide.2 ?_
 rcases hq with ⟨rfl,hn⟩|⟨i,hi,rfl⟩
 ·exact ⟨fun h=>by omega,fun h=>(hn h).elim⟩
 ·exact ⟨fun _=>Ae hi,fun _=>by omega⟩
theorem Jxc {α:Type} {l:List Int} {x:Int} (hl:l.length≤1000000000) (k:Bool→Option α):@W.call wv α Jb ((l,x):List Int×Int) k=k (decide (x∈l)):=ca_s (c:=Jb) (Juh l x hl)
abbrev Cr:=List ((Int×Int)×List Int)
def atC:Cr→Cell→List Int
 | [],_=>[]
 | e::r,p=>if p=e.1 then e.2 else atC r p
def putC:Cr→Cell→List Int→Cr
 | [],p,v=>[(p,v)]
 | e::r,p,v=>if p=e.1 then (p,v)::r else e::putC r p v
def delC:Cr→Cell→Cr
 | [],p=>[]
 | e::r,p=>if p=e.1 then r else e::delC r p
theorem Jwz (p q:Cell):Ty.eqb (.p I I) p q=decide (p=q):=by
 show ((p.1==q.1)&&(p.2==q.2))=_
 rw [Dg,Bool.and_eq_true,beq_iff_eq,beq_iff_eq,decide_eq_true_eq,Prod.ext_iff]
theorem Jy8 (m:Cr) (p:Cell):@W.mg wv (.p I I) (.ls I) m p []=atC m p:=by
 show (Zv (a:=.p I I) (b:=.ls I) p m).getD []=_
 induction m with
 | nil=>rfl
 | cons e r ih =>
  show _=if p=e.1 then e.2 else atC r p
  by_cases h:p=e.1
  ·have hd:Ty.eqb (.p I I) p e.1=true:=by rw [Jwz];exact decide_eq_true h
   rw [if_pos h]
   exact congrArg (fun o:Option (List Int)=>o.getD []) (show Zv (a:=.p I I) (b:=.ls I) p (e::r)=some e.2 from if_pos hd)
  ·have hd:¬Ty.eqb (.p I I) p e.1=true:=by rw [Jwz];exact fun hc=>h (of_decide_eq_true hc)
   rw [if_neg h,←ih]
   exact congrArg (fun o:Option (List Int)=>o.getD []) (show Zv (a:=.p I I) (b:=.ls I) p (e::r)=Zv (a:=.p I I) (b:=.ls I) p r from if_neg hd)
theorem ms_put (m:Cr) (p:Cell) (v:List Int):@W.ms wv (.p I I) (.ls I) m p v=putC m p v:=by
 show mSet (a:=.p I I) (b:=.ls I) p v m=_
 induction m with
 | nil=>rfl
 | cons e r ih =>
  show (if Ty.eqb (.p I I) p e.1=true then (p,v)::r else e::mSet (a:=.p I I) (b:=.ls I) p v r)=if p=e.1 then (p,v)::r else e::putC r p v
  rw [Jwz]
  by_cases h:p=e.1
  ·rw [if_pos (decide_eq_true h),if_pos h]
  ·rw [if_neg (fun hc=>h (of_decide_eq_true hc)),if_neg h,ih]
theorem md_del (m:Cr) (p:Cell):@W.md wv (.p I I) (.ls I) m p=delC m p:=by
 show mDel (a:=.p I I) (b:=.ls I) p m=_
 induction m with
 | nil=>rfl
 | cons e r ih =>
  show (if Ty.eqb (.p I I) p e.1=true then r else e::mDel (a:=.p I I) (b:=.ls I) p r)=if p=e.1 then r else e::delC r p
  rw [Jwz]
  by_cases h:p=e.1
  ·rw [if_pos (decide_eq_true h),if_pos h]
  ·rw [if_neg (fun hc=>h (of_decide_eq_true hc)),if_neg h,ih]
theorem Juo (m:Cr) (p q:Cell) (v:List Int):atC (putC m p v) q=if q=p then v else atC m q:=by
 induction m with
 | nil=>rfl
 | cons e r ih =>
  unfold putC
  by_cases h:p=e.1
  ·rw [if_pos h]
   show (if q=p then v else atC r q)=if q=p then v else (if q=e.1 then e.2 else atC r q)
   by_cases hq:q=p
   ·rw [if_pos hq,if_pos hq]
   ·rw [if_neg hq,if_neg hq,if_neg (by rw [←h];exact hq)]
  ·rw [if_neg h]
   show (if q=e.1 then e.2 else atC (putC r p v) q)=if q=p then v else (if q=e.1 then e.2 else atC r q)
   rw [ih]
   by_cases hq:q=e.1
   ·rw [if_pos hq,if_neg (by rw [hq];exact fun e=>h e.symm),if_pos hq]
   ·rw [if_neg hq,if_neg hq]
theorem Juv {m:Cr} {p:Cell} (h:p∉m.map (·.1)):atC m p=[]:=by
 induction m with
 | nil=>rfl
 | cons e r ih =>
  simp only [Ap,Ag,not_or] at h
  unfold atC
  rw [if_neg h.1,ih h.2]
theorem keys_put (m:Cr) (p:Cell) (v:List Int):(putC m p v).map (·.1)=if p∈m.map (·.1) then m.map (·.1) else m.map (·.1)++[p]:=by
 induction m with
 | nil=>simp [putC]
 | cons e r ih =>
  unfold putC
  by_cases h:p=e.1
  ·rw [if_pos h,if_pos (by simp [h])];simp [h]
  ·rw [if_neg h,Ap,ih]
   by_cases hm:p∈r.map (·.1)
   ·rw [if_pos hm,if_pos (by rw [Ap];exact Ah _ hm),Ap]
   ·rw [if_neg hm,if_neg (by rw [Ap,Ag];exact fun hc=>hc.elim h hm),Ap,List.cons_append]
theorem Jrb {m:Cr} (h:(m.map (·.1)).Nodup) (p:Cell) (v:List Int):((putC m p v).map (·.1)).Nodup:=by
 rw [keys_put]
 split
 ·exact h
 ·next hp=>exact Bv.2 ⟨h,Az.2 ⟨by simp,.nil⟩,fun a ha b hb e=>by
   rw [Ac] at hb
   exact hp (by rw [←hb,←e];exact ha)⟩
theorem keys_del (m:Cr) (p:Cell):((delC m p).map (·.1)).Sublist (m.map (·.1)):=by
 induction m with
 | nil=>exact .slnil
 | cons e r ih =>
  unfold delC
  split
  ·exact .cons _ (List.Sublist.refl _)
  ·rw [Ap,Ap];exact .cons_cons _ ih
theorem at_del {m:Cr} (h:(m.map (·.1)).Nodup) (p q:Cell):atC (delC m p) q=if q=p then [] else atC m q:=by
 induction m with
 | nil=>simp [delC,atC]
 | cons e r ih =>
  obtain ⟨h1,h2⟩:=Az.1 (by rw [Ap] at h;exact h)
  unfold delC
  by_cases hp:p=e.1
  ·rw [if_pos hp]
   show atC r q=if q=p then [] else (if q=e.1 then e.2 else atC r q)
   by_cases hq:q=p
   ·rw [if_pos hq];exact Juv (by rw [hq,hp];exact h1)
   ·rw [if_neg hq,if_neg (by rw [←hp];exact hq)]
  ·rw [if_neg hp]
   show (if q=e.1 then e.2 else atC (delC r p) q)=if q=p then [] else (if q=e.1 then e.2 else atC r q)
   rw [ih h2]
   by_cases hq:q=e.1
   ·rw [if_pos hq,if_neg (by rw [hq];exact fun e=>hp e.symm),if_pos hq]
   ·rw [if_neg hq,if_neg hq]
theorem J0t {m:Cr} (h:(m.map (·.1)).Nodup) (p:Cell):((delC m p).map (·.1)).Nodup:=h.sublist (keys_del m p)
structure MapOK (m:Cr) (S:Cell→Int→Prop):Prop where
 nd:(m.map (·.1)).Nodup
 mem:∀p h,h∈atC m p↔S p h
 one:∀p,(atC m p).Nodup
 ne:∀e∈m,e.2≠[]
theorem MapOK.nil:MapOK [] fun _ _=>False:=⟨.nil,fun p h=>⟨fun h=>(Ak h).elim,False.elim⟩,fun p=>.nil,fun e he=>(Ak he).elim⟩
theorem MapOK.congr {m:Cr} {S T:Cell→Int→Prop} (h:MapOK m S) (e:∀p x,S p x↔T p x):MapOK m T:=⟨h.nd,fun p x=>(h.mem p x).trans (e p x),h.one,h.ne⟩
theorem ne_put {m:Cr} (h:∀e∈m,e.2≠[]) (p:Cell) {v:List Int} (hv:v≠[]):∀e∈putC m p v,e.2≠[]:=by
 induction m with
 | nil =>
  intro e he
  rw [putC,Ac] at he
  rw [he];exact hv
 | cons x r ih =>
  intro e he
  unfold putC at he
  split at he
  ·rcases Ag.1 he with rfl|he
   ·exact hv
   ·exact h e (Ah _ he)
  ·rcases Ag.1 he with rfl|he
   ·exact h _ (Af ..)
   ·exact ih (fun e he=>h e (Ah _ he)) e he
theorem ne_del {m:Cr} (h:∀e∈m,e.2≠[]) (p:Cell):∀e∈delC m p,e.2≠[]:=by
 induction m with
 | nil=>exact h
 | cons x r ih =>
  intro e he
  unfold delC at he
  split at he
  ·exact h e (Ah _ he)
  ·rcases Ag.1 he with rfl|he
   ·exact h _ (Af ..)
   ·exact ih (fun e he=>h e (Ah _ he)) e he
theorem Jx0 {m:Cr} (h:(m.map (·.1)).Nodup) {e:(Int×Int)×List Int} (he:e∈m):atC m e.1=e.2:=by
 induction m with
 | nil=>exact (Ak he).elim
 | cons x r ih =>
  obtain ⟨h1,h2⟩:=Az.1 (by rw [Ap] at h;exact h)
  unfold atC
  rcases Ag.1 he with rfl|he
  ·rw [if_pos rfl]
  ·rw [if_neg (fun e'=>h1 (by rw [←e'];exact List.mem_map_of_mem he)),ih h2 he]
theorem MapOK.key {m:Cr} {S:Cell→Int→Prop} (h:MapOK m S) (p:Cell):p∈m.map (·.1)↔∃x,S p x:=by
 constructor
 ·intro hp
  obtain ⟨e,he,rfl⟩:=Dc.1 hp
  have hne:=h.ne e he
  have hat:=Jx0 h.nd he
  cases hl:e.2 with
  | nil=>exact (hne hl).elim
  | cons x l=>exact ⟨x,(h.mem e.1 x).1 (by rw [hat,hl];exact Af ..)⟩
 ·rintro ⟨x,hx⟩
  by_cases hp:p∈m.map (·.1)
  ·exact hp
  ·have:=(h.mem p x).2 hx
   rw [Juv hp] at this
   exact (Ak this).elim
theorem MapOK.add {m:Cr} {S:Cell→Int→Prop} (h:MapOK m S) {p:Cell} {x:Int} (hn:¬S p x):MapOK (putC m p (atC m p++[x])) fun q y=>S q y∨(q=p∧y=x):=by
 refine ⟨Jrb h.nd _ _,fun q y=>?_,fun q=>?_,ne_put h.ne _ (by simp)⟩
 ·rw [Juo]
  by_cases hq:q=p
  ·subst hq
   rw [if_pos rfl,Ad,Ac,h.mem]
   exact ⟨fun h=>h.imp id fun e=>⟨rfl,e⟩,fun h=>h.imp id And.right⟩
  ·rw [if_neg hq,h.mem]
   exact ⟨.inl,fun h=>h.elim id fun e=>(hq e.1).elim⟩
 ·rw [Juo]
  split
  ·refine Bv.2 ⟨h.one p,Az.2 ⟨by simp,.nil⟩,fun a ha b hb e=>?_⟩
   rw [Ac] at hb
   exact hn ((h.mem p x).1 (by rw [←hb,←e];exact ha))
  ·exact h.one q
theorem mem_cut {l:List Int} (h:l.Nodup) {i:Nat} {x y:Int} (hx:l[i]?=some x):y∈l.take i++l.drop (i+1)↔y∈l∧y≠x:=by
 obtain ⟨hi,e⟩:=Aa.1 hx
 have hl:l=l.take i++x::l.drop (i+1):=by
  conv=>lhs;rw [←Bn i l,Bw hi,e]
 have hnd:=h
 rw [hl] at hnd
 obtain ⟨n1,n2,n3⟩:=Bv.1 hnd
 obtain ⟨n4,n5⟩:=Az.1 n2
 constructor
 ·intro hy
  rcases Ad.1 hy with hy|hy
  ·exact ⟨List.mem_of_mem_take hy,fun e=>n3 y hy x (Af ..) e⟩
  ·exact ⟨List.mem_of_mem_drop hy,fun e=>n4 (by rw [←e];exact hy)⟩
 ·rintro ⟨hy,hne⟩
  rw [hl] at hy
  rcases Ad.1 hy with hy|hy
  ·exact Ad.2 (.inl hy)
  ·rcases Ag.1 hy with e|hy
   ·exact (hne e).elim
   ·exact Ad.2 (.inr hy)
theorem MapOK.cut {m:Cr} {S:Cell→Int→Prop} (h:MapOK m S) {p:Cell} {x:Int} {i:Nat} (hx:(atC m p)[i]?=some x) (h1:(atC m p).length≠1) :
  MapOK (putC m p ((atC m p).take i++(atC m p).drop (i+1))) fun q y=>S q y∧¬(q=p∧y=x):=by
 have hi:=(Aa.1 hx).1
 refine ⟨Jrb h.nd _ _,fun q y=>?_,fun q=>?_,ne_put h.ne _ fun e=>?_⟩
 ·rw [Juo]
  by_cases hq:q=p
  ·subst hq
   rw [if_pos rfl,mem_cut (h.one q) hx,h.mem]
   exact ⟨fun h=>⟨h.1,fun e=>h.2 e.2⟩,fun h=>⟨h.1,fun e=>h.2 ⟨rfl,e⟩⟩⟩
  ·rw [if_neg hq,h.mem]
   exact ⟨fun h=>⟨h,fun e=>hq e.1⟩,And.left⟩
 ·rw [Juo]
  split
  ·have:=h.one p
   rw [←Bn i (atC m p),Bw hi] at this
   exact this.sublist (.append (List.Sublist.refl _) (.cons _ (List.Sublist.refl _)))
  ·exact h.one q
 ·have:=congrArg List.length e
  rw [Ao,Bo,List.length_drop,List.length_nil] at this
  omega
theorem MapOK.del {m:Cr} {S:Cell→Int→Prop} (h:MapOK m S) {p:Cell} {x:Int} (hx:atC m p=[x]) :
  MapOK (delC m p) fun q y=>S q y∧¬(q=p∧y=x):=by
 refine ⟨J0t h.nd _,fun q y=>?_,fun q=>?_,ne_del h.ne _⟩
 ·rw [at_del h.nd]
  by_cases hq:q=p
  ·subst hq
   rw [if_pos rfl,←h.mem,hx,Ac]
   exact ⟨fun h=>(Ak h).elim,fun h=>(h.2 ⟨rfl,h.1⟩).elim⟩
  ·rw [if_neg hq,h.mem]
   exact ⟨fun h=>⟨h,fun e=>hq e.1⟩,And.left⟩
 ·rw [at_del h.nd]
  split
  ·exact .nil
  ·exact h.one q
theorem Jwa:∀ {l k:List Int},l.Nodup→(∀x∈l,x∈k)→l.length≤k.length
 | [],k,_,_=>Nat.zero_le _
 | x::l,k,h,hs=>by
  obtain ⟨h1,h2⟩:=Az.1 h
  have hx:=hs x (Af ..)
  have:=Jwa (l:=l) (k:=k.erase x) h2 fun y hy=>(Do (fun e=>h1 (by rw [←e];exact hy))).2 (hs y (Ah _ hy))
  rw [Db hx] at this
  have:0<k.length:=Bm hx
  rw [Av]
  omega
def HdOK (S:Cell→Int→Prop):Prop:=∀p h,S p h→h=0∨h=1∨h=2∨h=3
theorem MapOK.le4 {m:Cr} {S:Cell→Int→Prop} (h:MapOK m S) (hd:HdOK S) (p:Cell):(atC m p).length≤4 :=
 Jwa (k:=[0,1,2,3]) (h.one p) fun x hx=>by
  rcases hd p x ((h.mem p x).1 hx) with rfl|rfl|rfl|rfl<;>simp
theorem Jim {α:Type} {m:Cr} {S:Cell→Int→Prop} (h:MapOK m S) (hd:HdOK S) (p:Cell) (x:Option α):@W.gd wv α (@W.ft wv 8 (@W.pl wv (@W.ln wv Int (@W.mg wv (.p I I) (.ls I) m p [])) 1)) x=x:=by
 have h4:=h.le4 hd p
 rw [Jy8,w_pl,w_ln]
 exact fitB (by omega) (by omega) (by decide)
theorem Yi {A B:Type} {x y:A} {r t:B} (h:x=y) (h2:r=t):(⟨x,r⟩:HP A B)=⟨y,t⟩:=by rw [h,h2]
theorem Jwl (m:Cr) (p:Cell) (x:Int):@W.ms wv (.p I I) (.ls I) m p (@W.ap wv Int (@W.mg wv (.p I I) (.ls I) m p []) [x])=putC m p (atC m p++[x]):=by
 rw [Jy8,ms_put,w_ap]
theorem L2_ok (a:Reg) (s0:List Run) (s2:Reg) (s3 s4:Int) (s5:List Run) (s6 s7:Int) (s8:Reg) (y:Int) (s10:List Run) (u v:Int) (m:Cr) {S:Cell→Int→Prop}
  (h:MapOK m S) (hd:HdOK S) (hf:∀x,u≤x→x<v→¬S (x,y) 0) (hb:-4096≤u∧u≤v∧v≤4096) :
  ∃m',Xk (@Q5 wv a) bigN ⟨s0,⟨u,⟨s2,⟨s3,⟨s4,⟨s5,⟨s6,⟨s7,⟨s8,⟨y,⟨s10,⟨u,⟨v,⟨m,()⟩⟩⟩⟩⟩⟩⟩⟩⟩⟩⟩⟩⟩⟩=some ⟨s0,⟨s2,⟨s3,⟨s4,⟨s5,⟨s6,⟨s7,⟨s8,⟨y,⟨s10,⟨m',()⟩⟩⟩⟩⟩⟩⟩⟩⟩⟩⟩ ∧
   MapOK m' (fun p x=>S p x∨(p.2=y∧u≤p.1∧p.1<v∧x=0)):=by
 obtain ⟨e,he,m',rfl,hm'⟩:=Zm (b:=@Q5 wv a)
  (fun i s=>∃m',s=⟨s0,⟨u+(i:Int),⟨s2,⟨s3,⟨s4,⟨s5,⟨s6,⟨s7,⟨s8,⟨y,⟨s10,⟨u,⟨v,⟨m',()⟩⟩⟩⟩⟩⟩⟩⟩⟩⟩⟩⟩⟩⟩∧MapOK m' (fun p x=>S p x∨(p.2=y∧u≤p.1∧p.1<u+i∧x=0)))
  (fun e=>∃m',e=⟨s0,⟨s2,⟨s3,⟨s4,⟨s5,⟨s6,⟨s7,⟨s8,⟨y,⟨s10,⟨m',()⟩⟩⟩⟩⟩⟩⟩⟩⟩⟩⟩∧MapOK m' (fun p x=>S p x∨(p.2=y∧u≤p.1∧p.1<v∧x=0)))
  (v - u).toNat (by omega) (s0:=⟨s0,⟨u,⟨s2,⟨s3,⟨s4,⟨s5,⟨s6,⟨s7,⟨s8,⟨y,⟨s10,⟨u,⟨v,⟨m,()⟩⟩⟩⟩⟩⟩⟩⟩⟩⟩⟩⟩⟩⟩)
  ⟨m,by simp,h.congr fun p x=>⟨.inl,fun h=>h.elim id fun h=>by omega⟩⟩
  (fun i s hi=>by
   rintro ⟨m1,rfl,h1⟩
   have e3:@W.ar wv .add .i64 (u+(i:Int)) 1=u+((i+1:Nat):Int):=by rw [K4,wr (by omega) (by omega)];omega
   have hd1:HdOK (fun p x=>S p x∨(p.2=y∧u≤p.1∧p.1<u+i∧x=0)):=fun p x hp=>hp.elim (hd p x) fun hp=>.inl hp.2.2.2
   refine ⟨_,?_,putC m1 (u+(i:Int),y) (atC m1 (u+(i:Int),y)++[0]),rfl,?_⟩
   ·unfold Q5
    dsimp only
    rw [Xw (by omega)]
    refine (Jim h1 hd1 (u+(i:Int),y) _).trans ?_
    refine congrArg some (congrArg Nx.go ?_)
    rw [e3]
    refine Yi rfl (Yi rfl (Yi rfl (Yi rfl (Yi rfl (Yi rfl (Yi rfl (Yi rfl (Yi rfl (Yi rfl (Yi rfl (Yi rfl (Yi rfl (Yi ?_ rfl)))))))))))))
    exact Jwl m1 (u+(i:Int),y) 0
   ·refine (h1.add (p:=(u+(i:Int),y)) (x:=0) fun hc=>?_).congr fun p x=>?_
    ·rcases hc with hc|hc
     ·exact hf _ (by omega) (by omega) hc
     ·have:=hc.2.2.1;dsimp only at this;omega
    ·constructor
     ·rintro ((hp|hp)|⟨rfl,rfl⟩)
      ·exact .inl hp
      ·exact .inr ⟨hp.1,hp.2.1,by have:=hp.2.2.1;omega,hp.2.2.2⟩
      ·exact .inr ⟨rfl,by dsimp only;omega,by dsimp only;omega,rfl⟩
     ·rintro (hp|⟨p1,p2,p3,rfl⟩)
      ·exact .inl (.inl hp)
      ·by_cases hq:p.1<u+(i:Int)
       ·exact .inl (.inr ⟨p1,p2,hq,rfl⟩)
       ·exact .inr ⟨Prod.ext (by dsimp only;omega) p1,rfl⟩)
  (by
   rintro s ⟨m1,rfl,h1⟩
   refine ⟨_,?_,m1,rfl,h1.congr fun p x=>?_⟩
   ·unfold Q5
    dsimp only
    rw [Kz (by omega)]
   ·have:u+(((v - u).toNat:Nat):Int)=v:=by omega
    rw [this])
 exact ⟨m',he,hm'⟩
theorem L4_ok (a:Reg) (s1:Reg) (s2 s3:Int) (s4:List Run) (s5 s6:Int) (s7:Reg) (y:Int) (s9:List Run) (u v:Int) (m:Cr) {S:Cell→Int→Prop}
  (h:MapOK m S) (hd:HdOK S) (hf:∀x,u≤x→x<v→¬S (x+1,y+1) 2) (hb:-4096≤u∧u≤v∧v≤4096) (hy:-4096≤y∧y<4096) :
  ∃m',Xk (@Qw wv a) bigN ⟨u,⟨s1,⟨s2,⟨s3,⟨s4,⟨s5,⟨s6,⟨s7,⟨y,⟨s9,⟨u,⟨v,⟨m,()⟩⟩⟩⟩⟩⟩⟩⟩⟩⟩⟩⟩⟩=some ⟨s1,⟨s2,⟨s3,⟨s4,⟨s5,⟨s6,⟨s7,⟨y,⟨s9,⟨m',()⟩⟩⟩⟩⟩⟩⟩⟩⟩⟩ ∧
   MapOK m' (fun p x=>S p x∨(p.2=y+1∧u<p.1∧p.1≤v∧x=2)):=by
 obtain ⟨e,he,m',rfl,hm'⟩:=Zm (b:=@Qw wv a)
  (fun i s=>∃m',s=⟨u+(i:Int),⟨s1,⟨s2,⟨s3,⟨s4,⟨s5,⟨s6,⟨s7,⟨y,⟨s9,⟨u,⟨v,⟨m',()⟩⟩⟩⟩⟩⟩⟩⟩⟩⟩⟩⟩⟩∧MapOK m' (fun p x=>S p x∨(p.2=y+1∧u<p.1∧p.1≤u+i∧x=2)))
  (fun e=>∃m',e=⟨s1,⟨s2,⟨s3,⟨s4,⟨s5,⟨s6,⟨s7,⟨y,⟨s9,⟨m',()⟩⟩⟩⟩⟩⟩⟩⟩⟩⟩∧MapOK m' (fun p x=>S p x∨(p.2=y+1∧u<p.1∧p.1≤v∧x=2)))
  (v - u).toNat (by omega) (s0:=⟨u,⟨s1,⟨s2,⟨s3,⟨s4,⟨s5,⟨s6,⟨s7,⟨y,⟨s9,⟨u,⟨v,⟨m,()⟩⟩⟩⟩⟩⟩⟩⟩⟩⟩⟩⟩⟩)
  ⟨m,by simp,h.congr fun p x=>⟨.inl,fun h=>h.elim id fun h=>by omega⟩⟩
  (fun i s hi=>by
   rintro ⟨m1,rfl,h1⟩
   have e3:@W.ar wv .add .i64 (u+(i:Int)) 1=u+((i+1:Nat):Int):=by rw [K4,wr (by omega) (by omega)];omega
   have e4:@W.ar wv .add .i64 y 1=y+1:=by rw [K4,wr (by omega) (by omega)]
   have hd1:HdOK (fun p x=>S p x∨(p.2=y+1∧u<p.1∧p.1≤u+i∧x=2)):=fun p x hp=>hp.elim (hd p x) fun hp=>.inr (.inr (.inl hp.2.2.2))
   refine ⟨_,?_,putC m1 (u+((i+1:Nat):Int),y+1) (atC m1 (u+((i+1:Nat):Int),y+1)++[2]),rfl,?_⟩
   ·unfold Qw
    dsimp only
    rw [Xw (by omega),e3,e4]
    refine (Jim h1 hd1 (u+((i+1:Nat):Int),y+1) _).trans ?_
    refine congrArg some (congrArg Nx.go ?_)
    refine Yi rfl (Yi rfl (Yi rfl (Yi rfl (Yi rfl (Yi rfl (Yi rfl (Yi rfl (Yi rfl (Yi rfl (Yi rfl (Yi rfl (Yi ?_ rfl))))))))))))
    exact Jwl m1 (u+((i+1:Nat):Int),y+1) 2
   ·refine (h1.add (p:=(u+((i+1:Nat):Int),y+1)) (x:=2) fun hc=>?_).congr fun p x=>?_
    ·rcases hc with hc|hc
     ·have:=hf (u+(i:Int)) (by omega) (by omega)
      refine this ?_
      have e:u+((i+1:Nat):Int)=u+(i:Int)+1:=by omega
      rw [←e];exact hc
     ·have:=hc.2.2.1;dsimp only at this;omega
    ·constructor
     ·rintro ((hp|hp)|⟨rfl,rfl⟩)
      ·exact .inl hp
      ·exact .inr ⟨hp.1,hp.2.1,by have:=hp.2.2.1;omega,hp.2.2.2⟩
      ·exact .inr ⟨rfl,by dsimp only;omega,by dsimp only;omega,rfl⟩
     ·rintro (hp|⟨p1,p2,p3,rfl⟩)
      ·exact .inl (.inl hp)
      ·by_cases hq:p.1≤u+(i:Int)
       ·exact .inl (.inr ⟨p1,p2,hq,rfl⟩)
       ·exact .inr ⟨Prod.ext (by dsimp only;omega) p1,rfl⟩)
  (by
   rintro s ⟨m1,rfl,h1⟩
   refine ⟨_,?_,m1,rfl,h1.congr fun p x=>?_⟩
   ·unfold Qw
    dsimp only
    rw [Kz (by omega)]
   ·have:u+(((v - u).toNat:Nat):Int)=v:=by omega
    rw [this])
 exact ⟨m',he,hm'⟩
theorem Jk1 {l:List Run} {i:Nat} {w:Run} (h:l[i]?=some w) (x:Int):Jj (l.take (i+1)) x↔Jj (l.take i) x∨(w.1≤x∧x<w.2):=by
 rw [Xi h]
 unfold Jj
 constructor
 ·rintro ⟨u,hu,hx⟩
  rcases Ad.1 hu with hu|hu
  ·exact .inl ⟨u,hu,hx⟩
  ·rw [Ac] at hu;subst hu;exact .inr hx
 ·rintro (⟨u,hu,hx⟩|hx)
  ·exact ⟨u,Ad.2 (.inl hu),hx⟩
  ·exact ⟨w,Ad.2 (.inr (Ac.2 rfl)),hx⟩
theorem Jmu {lo hi:Int} {l:List Run} (hl:RunsOK lo hi l) {i:Nat} {w:Run} (h:l[i]?=some w) {x:Int} (hx:Jj (l.take i) x):x<w.1:=by
 obtain ⟨u,hu,h1,h2⟩:=hx
 obtain ⟨j,hj⟩:=Ai hu
 obtain ⟨hlt,e⟩:=Aa.1 hj
 rw [Bo] at hlt
 rw [By] at e
 obtain ⟨hi',e'⟩:=Aa.1 h
 have:=Aj.1 hl.pw j i (by omega) hi' (by omega)
 rw [e,e'] at this
 omega
theorem L1_ok (a:Reg) (s0:List Run) (s1:Reg) (s2 s3:Int) (l:List Run) (s7:Reg) (y:Int) (s9:List Run) (m:Cr) {S:Cell→Int→Prop}
  (h:MapOK m S) (hd:HdOK S) (hl:RunsOK (-4096) 4096 l) (hn:l.length≤1000000000) (hf:∀x,Jj l x→¬S (x,y) 0) :
  ∃m',Xk (@Q1 wv a) bigN ⟨s0,⟨s1,⟨s2,⟨s3,⟨l,⟨(l.length:Int),⟨0,⟨s7,⟨y,⟨s9,⟨m,()⟩⟩⟩⟩⟩⟩⟩⟩⟩⟩⟩=some ⟨s0,⟨s1,⟨s2,⟨s3,⟨s7,⟨y,⟨s9,⟨m',()⟩⟩⟩⟩⟩⟩⟩⟩ ∧
   MapOK m' (fun p x=>S p x∨(p.2=y∧Jj l p.1∧x=0)):=by
 obtain ⟨e,he,m',rfl,hm'⟩:=Zm (b:=@Q1 wv a)
  (fun i s=>∃m',s=⟨s0,⟨s1,⟨s2,⟨s3,⟨l,⟨(l.length:Int),⟨(i:Int),⟨s7,⟨y,⟨s9,⟨m',()⟩⟩⟩⟩⟩⟩⟩⟩⟩⟩⟩∧MapOK m' (fun p x=>S p x∨(p.2=y∧Jj (l.take i) p.1∧x=0)))
  (fun e=>∃m',e=⟨s0,⟨s1,⟨s2,⟨s3,⟨s7,⟨y,⟨s9,⟨m',()⟩⟩⟩⟩⟩⟩⟩⟩∧MapOK m' (fun p x=>S p x∨(p.2=y∧Jj l p.1∧x=0)))
  l.length (by omega) (s0:=⟨s0,⟨s1,⟨s2,⟨s3,⟨l,⟨(l.length:Int),⟨0,⟨s7,⟨y,⟨s9,⟨m,()⟩⟩⟩⟩⟩⟩⟩⟩⟩⟩⟩)
  ⟨m,rfl,h.congr fun p x=>⟨.inl,fun h=>h.elim id fun h=>by obtain ⟨_,⟨u,hu,_⟩,_⟩:=h;rw [Bk] at hu;exact (Ak hu).elim⟩⟩
  (fun i s hi=>by
   rintro ⟨m1,rfl,h1⟩
   have e3:@W.ar wv .add .i64 (i:Int) 1=((i+1:Nat):Int):=by rw [K4,wr (by omega) (by omega)];omega
   have hd1:HdOK (fun p x=>S p x∨(p.2=y∧Jj (l.take i) p.1∧x=0)):=fun p x hp=>hp.elim (hd p x) fun hp=>.inl hp.2.2
   have hw:l[i]?=some l[i]:=Ab hi
   have hb:=hl.bd l[i] (Aw _)
   obtain ⟨m2,e2,h2⟩:=L2_ok a s0 s1 s2 s3 l (l.length:Int) (i:Int) s7 y s9 l[i].1 l[i].2 m1 h1 hd1 (fun x hx1 hx2 hc=>by
    rcases hc with hc|hc
    ·exact hf x ⟨l[i],Aw _,hx1,hx2⟩ hc
    ·have:=Jmu hl hw hc.2.1;dsimp only at this;omega) (by omega)
   refine ⟨_,?_,m2,rfl,h2.congr fun p x=>?_⟩
   ·unfold Q1
    dsimp only
    rw [Xw (by omega),ge_s (fg hw)]
    refine (lo_s e2).trans ?_
    dsimp only
    rw [e3]
   ·rw [Jk1 hw]
    constructor
    ·rintro ((hp|hp)|hp)
     ·exact .inl hp
     ·exact .inr ⟨hp.1,.inl hp.2.1,hp.2.2⟩
     ·exact .inr ⟨hp.1,.inr ⟨hp.2.1,hp.2.2.1⟩,hp.2.2.2⟩
    ·rintro (hp|⟨p1,p2|p2,p3⟩)
     ·exact .inl (.inl hp)
     ·exact .inl (.inr ⟨p1,p2,p3⟩)
     ·exact .inr ⟨p1,p2.1,p2.2,p3⟩)
  (by
   rintro s ⟨m1,rfl,h1⟩
   refine ⟨_,?_,m1,rfl,h1.congr fun p x=>?_⟩
   ·unfold Q1
    dsimp only
    rw [Kz (by omega)]
   ·rw [Bp])
 exact ⟨m',he,hm'⟩
theorem L3_ok (a:Reg) (s0:Reg) (s1 s2:Int) (l:List Run) (s6:Reg) (y:Int) (s8:List Run) (m:Cr) {S:Cell→Int→Prop}
  (h:MapOK m S) (hd:HdOK S) (hl:RunsOK (-4096) 4096 l) (hn:l.length≤1000000000) (hy:-4096≤y∧y<4096) (hf:∀x,Jj l x→¬S (x+1,y+1) 2) :
  ∃m',Xk (@Qz wv a) bigN ⟨s0,⟨s1,⟨s2,⟨l,⟨(l.length:Int),⟨0,⟨s6,⟨y,⟨s8,⟨m,()⟩⟩⟩⟩⟩⟩⟩⟩⟩⟩=some ⟨s0,⟨s1,⟨s2,⟨s6,⟨y,⟨s8,⟨m',()⟩⟩⟩⟩⟩⟩⟩ ∧
   MapOK m' (fun p x=>S p x∨(p.2=y+1∧Jj l (p.1 - 1)∧x=2)):=by
 obtain ⟨e,he,m',rfl,hm'⟩:=Zm (b:=@Qz wv a)
  (fun i s=>∃m',s=⟨s0,⟨s1,⟨s2,⟨l,⟨(l.length:Int),⟨(i:Int),⟨s6,⟨y,⟨s8,⟨m',()⟩⟩⟩⟩⟩⟩⟩⟩⟩⟩∧MapOK m' (fun p x=>S p x∨(p.2=y+1∧Jj (l.take i) (p.1 - 1)∧x=2)))
  (fun e=>∃m',e=⟨s0,⟨s1,⟨s2,⟨s6,⟨y,⟨s8,⟨m',()⟩⟩⟩⟩⟩⟩⟩∧MapOK m' (fun p x=>S p x∨(p.2=y+1∧Jj l (p.1 - 1)∧x=2)))
  l.length (by omega) (s0:=⟨s0,⟨s1,⟨s2,⟨l,⟨(l.length:Int),⟨0,⟨s6,⟨y,⟨s8,⟨m,()⟩⟩⟩⟩⟩⟩⟩⟩⟩⟩)
  ⟨m,rfl,h.congr fun p x=>⟨.inl,fun h=>h.elim id fun h=>by obtain ⟨_,⟨u,hu,_⟩,_⟩:=h;rw [Bk] at hu;exact (Ak hu).elim⟩⟩
  (fun i s hi=>by
   rintro ⟨m1,rfl,h1⟩
   have e3:@W.ar wv .add .i64 (i:Int) 1=((i+1:Nat):Int):=by rw [K4,wr (by omega) (by omega)];omega
   have hd1:HdOK (fun p x=>S p x∨(p.2=y+1∧Jj (l.take i) (p.1 - 1)∧x=2)):=fun p x hp=>hp.elim (hd p x) fun hp=>.inr (.inr (.inl hp.2.2))
   have hw:l[i]?=some l[i]:=Ab hi
   have hb:=hl.bd l[i] (Aw _)
   obtain ⟨m2,e2,h2⟩:=L4_ok a s0 s1 s2 l (l.length:Int) (i:Int) s6 y s8 l[i].1 l[i].2 m1 h1 hd1 (fun x hx1 hx2 hc=>by
    rcases hc with hc|hc
    ·exact hf x ⟨l[i],Aw _,hx1,hx2⟩ hc
    ·have:=Jmu hl hw hc.2.1;dsimp only at this;omega) (by omega) hy
   refine ⟨_,?_,m2,rfl,h2.congr fun p x=>?_⟩
   ·unfold Qz
    dsimp only
    rw [Xw (by omega),ge_s (fg hw)]
    refine (lo_s e2).trans ?_
    dsimp only
    rw [e3]
   ·rw [Jk1 hw]
    constructor
    ·rintro ((hp|hp)|hp)
     ·exact .inl hp
     ·exact .inr ⟨hp.1,.inl hp.2.1,hp.2.2⟩
     ·exact .inr ⟨hp.1,.inr ⟨by omega,by omega⟩,hp.2.2.2⟩
    ·rintro (hp|⟨p1,p2|p2,p3⟩)
     ·exact .inl (.inl hp)
     ·exact .inl (.inr ⟨p1,p2,p3⟩)
     ·exact .inr ⟨p1,by omega,by omega,p3⟩)
  (by
   rintro s ⟨m1,rfl,h1⟩
   refine ⟨_,?_,m1,rfl,h1.congr fun p x=>?_⟩
   ·unfold Qz
    dsimp only
    rw [Kz (by omega)]
   ·rw [Bp])
 exact ⟨m',he,hm'⟩
theorem L5_ok (a:Reg) (s0:Reg) (s1 s2:Int) (l:List Run) (s6:Reg) (y:Int) (s8:List Run) (m:Cr) {S:Cell→Int→Prop}
  (h:MapOK m S) (hd:HdOK S) (hl:RunsOK (-4096) 4096 l) (hn:l.length≤1000000000) (hy:-4096≤y∧y<4096) (hf1:∀w∈l,¬S (w.2,y) 1) (hf3:∀w∈l,¬S (w.1,y+1) 3) :
  ∃m',Xk (@Q0 wv a) bigN ⟨s0,⟨s1,⟨s2,⟨l,⟨(l.length:Int),⟨0,⟨s6,⟨y,⟨s8,⟨m,()⟩⟩⟩⟩⟩⟩⟩⟩⟩⟩=some ⟨s0,⟨s1,⟨s2,⟨s6,⟨m',()⟩⟩⟩⟩⟩∧MapOK m' (fun p x=>S p x∨(p.2=y∧(∃w∈l,p.1=w.2)∧x=1)∨(p.2=y+1∧(∃w∈l,p.1=w.1)∧x=3)):=by
 have hS:∀i,HdOK (fun p x=>S p x∨(p.2=y∧(∃w∈l.take i,p.1=w.2)∧x=1)∨(p.2=y+1∧(∃w∈l.take i,p.1=w.1)∧x=3)):=fun i p x hp=>by
  rcases hp with hp|hp|hp
  ·exact hd p x hp
  ·exact .inr (.inl hp.2.2)
  ·exact .inr (.inr (.inr hp.2.2))
 obtain ⟨e,he,m',rfl,hm'⟩:=Zm (b:=@Q0 wv a)
  (fun i s=>∃m',s=⟨s0,⟨s1,⟨s2,⟨l,⟨(l.length:Int),⟨(i:Int),⟨s6,⟨y,⟨s8,⟨m',()⟩⟩⟩⟩⟩⟩⟩⟩⟩⟩∧MapOK m' (fun p x=>S p x∨(p.2=y∧(∃w∈(l.take i),p.1=w.2)∧x=1)∨(p.2=y+1∧(∃w∈(l.take i),p.1=w.1)∧x=3)))
  (fun e=>∃m',e=⟨s0,⟨s1,⟨s2,⟨s6,⟨m',()⟩⟩⟩⟩⟩∧MapOK m' (fun p x=>S p x∨(p.2=y∧(∃w∈l,p.1=w.2)∧x=1)∨(p.2=y+1∧(∃w∈l,p.1=w.1)∧x=3)))
  l.length (by omega) (s0:=⟨s0,⟨s1,⟨s2,⟨l,⟨(l.length:Int),⟨0,⟨s6,⟨y,⟨s8,⟨m,()⟩⟩⟩⟩⟩⟩⟩⟩⟩⟩)
  ⟨m,rfl,h.congr fun p x=>⟨.inl,fun h=>by
   rcases h with h|⟨_,⟨w,hw,_⟩,_⟩|⟨_,⟨w,hw,_⟩,_⟩
   ·exact h
   ·rw [Bk] at hw;exact (Ak hw).elim
   ·rw [Bk] at hw;exact (Ak hw).elim⟩⟩
  (fun i s hi=>by
   rintro ⟨m1,rfl,h1⟩
   have e3:@W.ar wv .add .i64 (i:Int) 1=((i+1:Nat):Int):=by rw [K4,wr (by omega) (by omega)];omega
   have e4:@W.ar wv .add .i64 y 1=y+1:=by rw [K4,wr (by omega) (by omega)]
   have hw:l[i]?=some l[i]:=Ab hi
   have hm:l[i]∈l:=Aw _
   have old:∀w∈l.take i,w.2<l[i].1∧w.1<w.2:=fun w hw'=>by
    obtain ⟨j,hj⟩:=Ai hw'
    obtain ⟨hlt,e⟩:=Aa.1 hj
    rw [Bo] at hlt
    rw [By] at e
    have h1:=Aj.1 hl.pw j i (by omega) hi (by omega)
    have h2:=hl.bd _ (Aw (l:=l) (n:=j) (by omega))
    rw [e] at h1 h2
    omega
   have hbd:=hl.bd l[i] hm
   have h2:=h1.add (p:=(l[i].2,y)) (x:=1) (fun hc=>by
    rcases hc with hc|⟨_,⟨w,hw',e⟩,_⟩|⟨_,_,e⟩
    ·exact hf1 _ hm hc
    ·have:=old w hw';dsimp only at e;omega
    ·omega)
   have hd2:HdOK (fun p x=>(S p x∨(p.2=y∧(∃w∈l.take i,p.1=w.2)∧x=1)∨(p.2=y+1∧(∃w∈l.take i,p.1=w.1)∧x=3))∨(p=(l[i].2,y)∧x=1)):=fun p x hp=>hp.elim (hS i p x) fun hp=>.inr (.inl hp.2)
   have h3:=h2.add (p:=(l[i].1,y+1)) (x:=3) (fun hc=>by
    rcases hc with (hc|⟨_,_,e⟩|⟨_,⟨w,hw',e⟩,_⟩)|hc
    ·exact hf3 _ hm hc
    ·omega
    ·have:=old w hw';dsimp only at e;omega
    ·have:=hc.2;omega)
   refine ⟨_,?_,_,rfl,h3.congr fun p x=>?_⟩
   ·unfold Q0
    dsimp only
    rw [Xw (by omega),ge_s (fg hw),e3,e4]
    refine (Jim h1 (hS i) (l[i].2,y) _).trans ?_
    have q:=Jwl m1 (l[i].2,y) 1
    have g:=Jim (α:=Nx (HP Reg (HP Int (HP Int (HP (List Run) (HP Int (HP Int (HP Reg (HP Int (HP (List Run) (HP Cr Unit)))))))))) (HP Reg (HP Int (HP Int (HP Reg (HP Cr Unit)))))) h2 hd2 (l[i].1,y+1)
    rw [←q] at g
    refine (g _).trans ?_
    refine congrArg some (congrArg Nx.go ?_)
    refine Yi rfl (Yi rfl (Yi rfl (Yi rfl (Yi rfl (Yi rfl (Yi rfl (Yi rfl (Yi rfl (Yi ?_ rfl)))))))))
    have q2:=Jwl (putC m1 (l[i].2,y) (atC m1 (l[i].2,y)++[1])) (l[i].1,y+1) 3
    rw [←q] at q2 ⊢
    exact q2
   ·rw [Xi hw]
    constructor
    ·rintro (((hp|⟨p1,⟨w,hw',e⟩,p3⟩|⟨p1,⟨w,hw',e⟩,p3⟩)|⟨rfl,rfl⟩)|⟨rfl,rfl⟩)
     ·exact .inl hp
     ·exact .inr (.inl ⟨p1,⟨w,Ad.2 (.inl hw'),e⟩,p3⟩)
     ·exact .inr (.inr ⟨p1,⟨w,Ad.2 (.inl hw'),e⟩,p3⟩)
     ·exact .inr (.inl ⟨rfl,⟨l[i],Ad.2 (.inr (Ac.2 rfl)),rfl⟩,rfl⟩)
     ·exact .inr (.inr ⟨rfl,⟨l[i],Ad.2 (.inr (Ac.2 rfl)),rfl⟩,rfl⟩)
    ·rintro (hp|⟨p1,⟨w,hw',e⟩,p3⟩|⟨p1,⟨w,hw',e⟩,p3⟩)
     ·exact .inl (.inl (.inl hp))
     ·rcases Ad.1 hw' with hw'|hw'
      ·exact .inl (.inl (.inr (.inl ⟨p1,⟨w,hw',e⟩,p3⟩)))
      ·rw [Ac] at hw';subst hw'
       exact .inl (.inr ⟨Prod.ext e p1,p3⟩)
     ·rcases Ad.1 hw' with hw'|hw'
      ·exact .inl (.inl (.inr (.inr ⟨p1,⟨w,hw',e⟩,p3⟩)))
      ·rw [Ac] at hw';subst hw'
       exact .inr ⟨Prod.ext e p1,p3⟩)
  (by
   rintro s ⟨m1,rfl,h1⟩
   refine ⟨_,?_,m1,rfl,h1.congr fun p x=>?_⟩
   ·unfold Q0
    dsimp only
    rw [Kz (by omega)]
   ·rw [Bp])
 exact ⟨m',he,hm'⟩
theorem Jwo {hi:Int}:∀ {l:List Run} {lo:Int},lo≤hi→RunsOK lo hi l→(l.length:Int)≤hi - lo
 | [],lo,h0,_=>by simp;omega
 | u::l,lo,h0,h=>by
  obtain ⟨p1,p2⟩:=Am.1 h.pw
  have hu:=h.bd u (Af ..)
  have:=Jwo (l:=l) (lo:=u.2) (hi:=hi) (by omega) ⟨fun x hx=>by
   have h1:=h.bd x (Ah _ hx)
   have h2:=p1 x hx
   exact ⟨by omega,h1.2.1,h1.2.2⟩,p2⟩
  rw [Av]
  omega
theorem Jrr {lo hi lo' hi':Int} {l:List Run} (h:RunsOK lo hi l) (h1:lo'≤lo) (h2:hi≤hi'):RunsOK lo' hi' l :=
 ⟨fun x hx=>by have:=h.bd x hx;exact ⟨by omega,this.2.1,by omega⟩,h.pw⟩
theorem Jdq {l:List Run} (h:RunsOK (-4096) 4096 l):l.length≤8192:=by
 have:=Jwo (by omega) h
 omega
theorem Jl7 {a b:List Run} (ha:RunsOK (-4096) 4096 a) (hb:RunsOK (-4096) 4096 b) :
  ∃l:List Run,(∀ {α:Type} (k:List (Int×Int)→Option α),@W.call wv α Kh ((a,b):List (Int×Int)×List (Int×Int)) k=k l)∧RunsOK (-4096) 4096 l∧∀x,Jj l x↔Jj a x∧¬Jj b x:=by
 have la:=Jdq ha
 have lb:=Jdq hb
 obtain ⟨l,hl,hn,hx⟩:=Jlh a b (by omega) (by omega) (Jrr ha (by omega) (by omega)) (Jrr hb (by omega) (by omega))
 refine ⟨l,fun k=>ca_s (c:=Kh) hl,Jpy hn fun x h=>?_,hx⟩
 obtain ⟨u,hu,h1,h2⟩:=((hx x).1 h).1
 have:=ha.bd u hu
 omega
def Jn4 (r:Reg) (w:Row) (p:Cell) (x:Int):Prop :=
 (p.2=w.1∧(Jj w.2 p.1∧¬Jj (rowY r (w.1 - 1)) p.1)∧x=0)∨(p.2=w.1+1∧(Jj w.2 (p.1 - 1)∧¬Jj (rowY r (w.1+1)) (p.1 - 1))∧x=2) ∨
 (p.2=w.1∧(∃u∈w.2,p.1=u.2)∧x=1)∨(p.2=w.1+1∧(∃u∈w.2,p.1=u.1)∧x=3)
theorem L0_step (a r:Reg) (hr:RegOK r) (hlen:r.length≤1000000000) {i:Nat} {w:Row} (hw:r[i]?=some w) (m:Cr) {S:Cell→Int→Prop} (h:MapOK m S) (hd:HdOK S) (hf:∀p x,Jn4 r w p x→¬S p x) :
  ∃m',@Qc wv a ⟨r,⟨(r.length:Int),⟨(i:Int),⟨r,⟨m,()⟩⟩⟩⟩⟩=some (.go ⟨r,⟨(r.length:Int),⟨((i+1:Nat):Int),⟨r,⟨m',()⟩⟩⟩⟩⟩) ∧
   MapOK m' (fun p x=>S p x∨Jn4 r w p x):=by
 have hi:=(Aa.1 hw).1
 have hm:=Ae hw
 have hy:=hr.y w hm
 have hrs:=hr.rs w hm
 have e3:@W.ar wv .add .i64 (i:Int) 1=((i+1:Nat):Int):=by rw [K4,wr (by omega) (by omega)];omega
 obtain ⟨up,ku,hu,xu⟩:=Jl7 hrs (Jg5 hr (w.1 - 1))
 obtain ⟨dn,kd,hdn,xd⟩:=Jl7 hrs (Jg5 hr (w.1+1))
 obtain ⟨m1,q1,h1⟩:=L1_ok a (rowY r (w.1+1)) r (r.length:Int) (i:Int) up r w.1 w.2 m h hd hu (by have:=Jdq hu;omega) (fun x hx=>hf _ _ (.inl ⟨rfl,(xu x).1 hx,rfl⟩))
 have hd1:HdOK (fun p x=>S p x∨(p.2=w.1∧Jj up p.1∧x=0)):=fun p x hp=>hp.elim (hd p x) fun hp=>.inl hp.2.2
 obtain ⟨m2,q2,h2⟩:=L3_ok a r (r.length:Int) (i:Int) dn r w.1 w.2 m1 h1 hd1 hdn (by have:=Jdq hdn;omega) hy (fun x hx hc=>by
  rcases hc with hc|hc
  ·exact hf _ _ (.inr (.inl ⟨rfl,by dsimp only;rw [show x+1 - 1=x by omega];exact (xd x).1 hx,rfl⟩)) hc
  ·have:=hc.2.2;omega)
 have hd2:HdOK (fun p x=>(S p x∨(p.2=w.1∧Jj up p.1∧x=0))∨(p.2=w.1+1∧Jj dn (p.1 - 1)∧x=2)):=fun p x hp=>hp.elim (hd1 p x) fun hp=>.inr (.inr (.inl hp.2.2))
 obtain ⟨m3,q3,h3⟩:=L5_ok a r (r.length:Int) (i:Int) w.2 r w.1 w.2 m2 h2 hd2 hrs (by have:=Jdq hrs;omega) hy (fun u hu' hc=>by
  rcases hc with (hc|hc)|hc
  ·exact hf (u.2,w.1) 1 (.inr (.inr (.inl ⟨rfl,⟨u,hu',rfl⟩,rfl⟩))) hc
  ·have:=hc.2.2;omega
  ·have:=hc.2.2;omega) (fun u hu' hc=>by
  rcases hc with (hc|hc)|hc
  ·exact hf (u.1,w.1+1) 3 (.inr (.inr (.inr ⟨rfl,⟨u,hu',rfl⟩,rfl⟩))) hc
  ·have:=hc.2.2;omega
  ·have:=hc.2.2;omega)
 refine ⟨m3,?_,h3.congr fun p x=>?_⟩
 ·unfold Qc
  dsimp only
  rw [Xw (by omega),ge_s (fg hw),k_around hr hlen hw]
  dsimp only
  rw [ku]
  refine (lo_s q1).trans ?_
  dsimp only
  rw [kd]
  refine (lo_s q2).trans ?_
  dsimp only
  refine (lo_s q3).trans ?_
  dsimp only
  rw [e3]
 ·unfold Jn4
  rw [xu,xd]
  constructor
  ·rintro (((hp|hp)|hp)|hp|hp)
   ·exact .inl hp
   ·exact .inr (.inl hp)
   ·exact .inr (.inr (.inl hp))
   ·exact .inr (.inr (.inr (.inl hp)))
   ·exact .inr (.inr (.inr (.inr hp)))
  ·rintro (hp|hp|hp|hp|hp)
   ·exact .inl (.inl (.inl hp))
   ·exact .inl (.inl (.inr hp))
   ·exact .inl (.inr hp)
   ·exact .inr (.inl hp)
   ·exact .inr (.inr hp)
def Kd (p:Cell) (x:Int):Cell:=if x=0 then p else if x=1 then (p.1 - 1,p.2) else if x=2 then (p.1 - 1,p.2 - 1) else (p.1,p.2 - 1)
theorem Jyz {r:Reg} {w:Row} {p:Cell} {x:Int} (h:Jn4 r w p x):w.1=(Kd p x).2:=by
 unfold Kd
 rcases h with ⟨h1,_,rfl⟩|⟨h1,_,rfl⟩|⟨h1,_,rfl⟩|⟨h1,_,rfl⟩
 ·rw [if_pos rfl];omega
 ·rw [if_neg (by decide),if_neg (by decide),if_pos rfl];dsimp only;omega
 ·rw [if_neg (by decide),if_pos rfl];dsimp only;omega
 ·rw [if_neg (by decide),if_neg (by decide),if_neg (by decide)];dsimp only;omega
theorem rowCr_hd {r:Reg} {w:Row} {p:Cell} {x:Int} (h:Jn4 r w p x):x=0∨x=1∨x=2∨x=3:=by
 rcases h with ⟨_,_,rfl⟩|⟨_,_,rfl⟩|⟨_,_,rfl⟩|⟨_,_,rfl⟩<;>simp
theorem Jx1 (a r:Reg) (hr:RegOK r) (hlen:r.length≤1000000000) :
  ∃m,Xk (@Qc wv a) bigN ⟨r,⟨(r.length:Int),⟨0,⟨r,⟨[],()⟩⟩⟩⟩⟩=some ⟨m,()⟩∧MapOK m (fun p x=>∃w∈r,Jn4 r w p x):=by
 obtain ⟨e,he,m,rfl,hm⟩:=Zm (b:=@Qc wv a)
  (fun i s=>∃m,s=⟨r,⟨(r.length:Int),⟨(i:Int),⟨r,⟨m,()⟩⟩⟩⟩⟩∧MapOK m (fun p x=>∃w∈r.take i,Jn4 r w p x))
  (fun e=>∃m,e=⟨m,()⟩∧MapOK m (fun p x=>∃w∈r,Jn4 r w p x))
  r.length (by omega) (s0:=⟨r,⟨(r.length:Int),⟨0,⟨r,⟨[],()⟩⟩⟩⟩⟩)
  ⟨[],rfl,MapOK.nil.congr fun p x=>⟨False.elim,fun ⟨w,hw,_⟩=>by rw [Bk] at hw;exact (Ak hw).elim⟩⟩
  (fun i s hi=>by
   rintro ⟨m1,rfl,h1⟩
   have hw:r[i]?=some r[i]:=Ab hi
   obtain ⟨m2,q,h2⟩:=L0_step a r hr hlen hw m1 h1 (fun p x ⟨w,_,hc⟩=>rowCr_hd hc) (fun p x hc ⟨w,hw',hc'⟩=>by
    obtain ⟨j,hj⟩:=Ai hw'
    obtain ⟨hlt,e⟩:=Aa.1 hj
    rw [Bo] at hlt
    rw [By] at e
    have h3:=Jlx hr (Ab (l:=r) (i:=j) (by omega)) hw (by omega)
    rw [e,Jyz hc,Jyz hc'] at h3
    omega)
   refine ⟨_,q,m2,rfl,h2.congr fun p x=>?_⟩
   rw [Xi hw]
   constructor
   ·rintro (⟨w,hw',hc⟩|hc)
    ·exact ⟨w,Ad.2 (.inl hw'),hc⟩
    ·exact ⟨_,Ad.2 (.inr (Ac.2 rfl)),hc⟩
   ·rintro ⟨w,hw',hc⟩
    rcases Ad.1 hw' with hw'|hw'
    ·exact .inl ⟨w,hw',hc⟩
    ·rw [Ac] at hw';subst hw';exact .inr hc)
  (by
   rintro s ⟨m1,rfl,h1⟩
   refine ⟨_,?_,m1,rfl,h1.congr fun p x=>?_⟩
   ·unfold Qc
    dsimp only
    rw [Kz (by omega)]
   ·rw [Bp])
 exact ⟨m,he,hm⟩
def Crk (r:Reg) (p:Cell) (x:Int):Prop :=
 (x=0∧Kg r (p.1,p.2)∧¬Kg r (p.1,p.2 - 1))∨(x=1∧Kg r (p.1 - 1,p.2)∧¬Kg r (p.1,p.2)) ∨
 (x=2∧Kg r (p.1 - 1,p.2 - 1)∧¬Kg r (p.1 - 1,p.2))∨(x=3∧Kg r (p.1,p.2 - 1)∧¬Kg r (p.1 - 1,p.2 - 1))
theorem Jti {lo hi:Int} {l:List Run} (h:RunsOK lo hi l) (x:Int):(∃u∈l,x=u.2)↔Jj l (x - 1)∧¬Jj l x:=by
 constructor
 ·rintro ⟨u,hu,rfl⟩
  have hb:=h.bd u hu
  refine ⟨⟨u,hu,by omega,by omega⟩,?_⟩
  rintro ⟨v,hv,h1,h2⟩
  obtain ⟨i,hi⟩:=Ai hu
  obtain ⟨j,hj⟩:=Ai hv
  obtain ⟨p1,e1⟩:=Aa.1 hi
  obtain ⟨p2,e2⟩:=Aa.1 hj
  have pw:=Aj.1 h.pw
  rcases Bc i j with hij|hij|hij
  ·have:=pw i j p1 p2 hij;rw [e1,e2] at this;omega
  ·subst hij;rw [e1] at e2;subst e2;omega
  ·have:=pw j i p2 p1 hij;rw [e1,e2] at this;omega
 ·rintro ⟨⟨u,hu,h1,h2⟩,hn⟩
  refine ⟨u,hu,?_⟩
  by_cases hx:x<u.2
  ·exact (hn ⟨u,hu,by omega,hx⟩).elim
  ·omega
theorem J0r {lo hi:Int} {l:List Run} (h:RunsOK lo hi l) (x:Int):(∃u∈l,x=u.1)↔Jj l x∧¬Jj l (x - 1):=by
 constructor
 ·rintro ⟨u,hu,rfl⟩
  have hb:=h.bd u hu
  refine ⟨⟨u,hu,by omega,by omega⟩,?_⟩
  rintro ⟨v,hv,h1,h2⟩
  obtain ⟨i,hi⟩:=Ai hu
  obtain ⟨j,hj⟩:=Ai hv
  obtain ⟨p1,e1⟩:=Aa.1 hi
  obtain ⟨p2,e2⟩:=Aa.1 hj
  have pw:=Aj.1 h.pw
  rcases Bc i j with hij|hij|hij
  ·have:=pw i j p1 p2 hij;rw [e1,e2] at this;omega
  ·subst hij;rw [e1] at e2;subst e2;omega
  ·have:=pw j i p2 p1 hij;rw [e1,e2] at this;omega
 ·rintro ⟨⟨u,hu,h1,h2⟩,hn⟩
  refine ⟨u,hu,?_⟩
  by_cases hx:u.1≤x - 1
  ·exact (hn ⟨u,hu,hx,by omega⟩).elim
  ·omega
theorem in_row {r:Reg} (hr:RegOK r) {w:Row} (hw:w∈r) {x y:Int} (e:y=w.1):Kg r (x,y)↔Jj w.2 x:=by
 rw [Jc8 hr,e,Jek hr hw]
theorem crk_iff {r:Reg} (hr:RegOK r) (p:Cell) (x:Int):(∃w∈r,Jn4 r w p x)↔Crk r p x:=by
 constructor
 ·rintro ⟨w,hw,h⟩
  have hrs:=hr.rs w hw
  rcases h with ⟨h1,h2,rfl⟩|⟨h1,h2,rfl⟩|⟨h1,h2,rfl⟩|⟨h1,h2,rfl⟩
  ·exact .inl ⟨rfl,(in_row hr hw h1).2 h2.1,by rw [Jc8 hr,h1];exact h2.2⟩
  ·exact .inr (.inr (.inl ⟨rfl,(in_row hr hw (by omega)).2 h2.1,by rw [Jc8 hr,h1];exact h2.2⟩))
  ·have:=(Jti hrs p.1).1 h2
   exact .inr (.inl ⟨rfl,(in_row hr hw h1).2 this.1,fun hc=>this.2 ((in_row hr hw h1).1 hc)⟩)
  ·have:=(J0r hrs p.1).1 h2
   exact .inr (.inr (.inr ⟨rfl,(in_row hr hw (by omega)).2 this.1,fun hc=>this.2 ((in_row hr hw (by omega)).1 hc)⟩))
 ·have key:∀ {a b:Int},Kg r (a,b)→∃w∈r,w.1=b:=fun ⟨w,hw,e,_⟩=>⟨w,hw,e⟩
  rintro (⟨rfl,h1,h2⟩|⟨rfl,h1,h2⟩|⟨rfl,h1,h2⟩|⟨rfl,h1,h2⟩)
  ·obtain ⟨w,hw,e⟩:=key h1
   exact ⟨w,hw,.inl ⟨e.symm,⟨(in_row hr hw e.symm).1 h1,fun hc=>h2 (by rw [Jc8 hr,←e];exact hc)⟩,rfl⟩⟩
  ·obtain ⟨w,hw,e⟩:=key h1
   exact ⟨w,hw,.inr (.inr (.inl ⟨e.symm,(Jti (hr.rs w hw) p.1).2 ⟨(in_row hr hw e.symm).1 h1,fun hc=>h2 ((in_row hr hw e.symm).2 hc)⟩,rfl⟩))⟩
  ·obtain ⟨w,hw,e⟩:=key h1
   exact ⟨w,hw,.inr (.inl ⟨by omega,⟨(in_row hr hw e.symm).1 h1,fun hc=>h2 (by rw [Jc8 hr,show p.2=w.1+1 by omega];exact hc)⟩,rfl⟩)⟩
  ·obtain ⟨w,hw,e⟩:=key h1
   exact ⟨w,hw,.inr (.inr (.inr ⟨by omega,(J0r (hr.rs w hw) p.1).2 ⟨(in_row hr hw e.symm).1 h1,fun hc=>h2 ((in_row hr hw e.symm).2 hc)⟩,rfl⟩))⟩
theorem Crk.hd {r:Reg} {p:Cell} {x:Int} (h:Crk r p x):x=0∨x=1∨x=2∨x=3:=by
 rcases h with ⟨h,_⟩|⟨h,_⟩|⟨h,_⟩|⟨h,_⟩<;>simp [h]
theorem Crk.opp {r:Reg} {p:Cell} {x y:Int} (h:Crk r p x) (h':Crk r p y) (hne:x≠y):(x+2) % 4=y:=by
 rcases h with ⟨rfl,h1,h2⟩|⟨rfl,h1,h2⟩|⟨rfl,h1,h2⟩|⟨rfl,h1,h2⟩ <;>
 rcases h' with ⟨rfl,h3,h4⟩|⟨rfl,h3,h4⟩|⟨rfl,h3,h4⟩|⟨rfl,h3,h4⟩ <;>
 first|rfl|exact (hne rfl).elim|exact (h2 h3).elim|exact (h4 h1).elim
open Classical in
noncomputable def nxtH (r:Reg) (p:Cell) (x:Int):Int :=
 let q:=Qa x p
 if Crk r q ((x+1) % 4) then (x+1) % 4 else if Crk r q x then x else (x+3) % 4
open Classical in
theorem Jy7 {r:Reg} {p:Cell} {x:Int} (h:Crk r p x):Crk r (Qa x p) (nxtH r p x):=by
 unfold nxtH
 dsimp only
 split
 ·assumption
 split
 ·assumption
 ·next h1 h2 =>
  rcases h with ⟨rfl,h3,h4⟩|⟨rfl,h3,h4⟩|⟨rfl,h3,h4⟩|⟨rfl,h3,h4⟩<;>simp [Qa,Crk] at *<;>grind
open Classical in
theorem nxt_inj {r:Reg} {p q:Cell} {x y:Int} (hp:Crk r p x) (hq:Crk r q y) (e1:Qa x p=Qa y q) (e2:nxtH r p x=nxtH r q y):p=q∧x=y:=by
 by_cases hxy:x=y
 ·subst hxy
  refine ⟨?_,rfl⟩
  unfold Qa at e1
  rw [Prod.ext_iff] at e1 ⊢
  split at e1
  ·dsimp only at e1;omega
  split at e1
  ·dsimp only at e1;omega
  split at e1<;>(dsimp only at e1;omega)
 ·exfalso
  unfold nxtH at e2
  dsimp only at e2
  rw [←e1] at e2
  have hpo:=hp
  obtain ⟨p1,p2⟩:=p
  obtain ⟨q1,q2⟩:=q
  rcases hp with ⟨rfl,h1,h2⟩|⟨rfl,h1,h2⟩|⟨rfl,h1,h2⟩|⟨rfl,h1,h2⟩ <;>
  rcases hq with ⟨rfl,h3,h4⟩|⟨rfl,h3,h4⟩|⟨rfl,h3,h4⟩|⟨rfl,h3,h4⟩ <;>
  first
   | exact (hxy rfl).elim
   | (simp [Qa,Crk] at *<;>grind)
section
variable {α:Type}
def itr (f:α→α):Nat→α→α
 | 0,c=>c
 | k+1,c=>f (itr f k c)
theorem zb (f:α→α) (c:α) (j:Nat):∀k,itr f (k+j) c=itr f k (itr f j c)
 | 0=>by rw [Nat.zero_add];rfl
 | k+1=>by rw [Nat.add_right_comm];exact congrArg f (zb f c j k)
theorem zy:∀ {l m:List α},l.Nodup→(∀x∈l,x∈m)→l.length≤m.length
 | [],_,_,_=>Nat.zero_le _
 | x::l,m,h,hs=>by
  classical
  obtain ⟨h1,h2⟩:=Az.1 h
  have hx:=hs x (Af ..)
  have:=zy (m:=m.erase x) h2 fun y hy=>(Do (fun e=>h1 (by rw [←e];exact hy))).2 (hs y (Ah _ hy))
  rw [Db hx] at this
  have:=Bm hx
  rw [Av];omega
structure Ring (f:α→α) (cl:List α):Prop where
 mem:∀c∈cl,f c∈cl
 inj:∀c∈cl,∀d∈cl,f c=f d→c=d
variable {f:α→α} {cl:List α}
theorem Ring.itr_mem (h:Ring f cl) {c:α} (hc:c∈cl):∀k,itr f k c∈cl
 | 0=>hc
 | k+1=>h.mem _ (h.itr_mem hc k)
theorem Ring.itr_inj (h:Ring f cl) {c d:α} (hc:c∈cl) (hd:d∈cl):∀k,itr f k c=itr f k d→c=d
 | 0,e=>e
 | k+1,e=>h.itr_inj hc hd k (h.inj _ (h.itr_mem hc k) _ (h.itr_mem hd k) e)
structure Rnd (f:α→α) (c:α) (N:Nat):Prop where
 pos:0<N
 back:itr f N c=c
 ne:∀i,0<i→i<N→itr f i c≠c
theorem Ring.rnd (h:Ring f cl) {c:α} (hc:c∈cl):∃N,Rnd f c N∧N≤cl.length:=by
 classical
 have hex:∃n,0<n∧n≤cl.length∧itr f n c=c:=by
  apply Classical.byContradiction
  intro hno
  have hnd:((Bg (cl.length+1)).map fun i=>itr f i c).Nodup:=by
   refine List.pairwise_map.2 ?_
   refine List.Pairwise.imp_of_mem (R:=(·<·)) (fun {i j} hi hj hij e=>?_) Dh
   rw [Bb] at hi hj
   refine hno ⟨j - i,by omega,by omega,?_⟩
   have e1:itr f j c=itr f i (itr f (j - i) c):=by rw [←zb,show i+(j - i)=j by omega]
   exact (h.itr_inj hc (h.itr_mem hc _) i (by rw [←e1];exact e)).symm
  have:=zy hnd fun x hx=>by
   obtain ⟨i,_,rfl⟩:=Dc.1 hx
   exact h.itr_mem hc i
  rw [List.length_map,List.length_range] at this
  omega
 have hlt:∃N,(0<N∧N≤cl.length∧itr f N c=c)∧∀i,0<i→i<N→itr f i c≠c:=by
  obtain ⟨n,hn⟩:=hex
  induction n using Dd with
  | _ n ih =>
   by_cases hx:∃m,m<n∧0<m∧itr f m c=c
   ·obtain ⟨m,h1,h2,h3⟩:=hx
    exact ih m h1 ⟨h2,by omega,h3⟩
   ·exact ⟨n,hn,fun i h1 h2 h3=>hx ⟨i,h2,h1,h3⟩⟩
 obtain ⟨N,⟨h1,h2,h3⟩,h4⟩:=hlt
 exact ⟨N,⟨h1,h3,h4⟩,h2⟩
theorem Rnd.per {c:α} {N:Nat} (h:Rnd f c N) (k:Nat):itr f (k+N) c=itr f k c:=by rw [zb,h.back]
theorem Rnd.from (hr:Ring f cl) {c:α} {N:Nat} (h:Rnd f c N) (hc:c∈cl) (j:Nat):Rnd f (itr f j c) N:=by
 have e:∀i,itr f i (itr f j c)=itr f j (itr f i c):=fun i=>by rw [←zb,←zb,Nat.add_comm]
 refine ⟨h.pos,by rw [e,h.back],fun i h1 h2 h3=>h.ne i h1 h2 ?_⟩
 rw [e] at h3
 exact hr.itr_inj (hr.itr_mem hc i) hc j h3
theorem Rnd.modN {c:α} {N:Nat} (h:Rnd f c N):∀k,∃i,i<N∧itr f k c=itr f i c
 | 0=>⟨0,h.pos,rfl⟩
 | k+1=>by
  obtain ⟨i,h1,h2⟩:=h.modN k
  by_cases h3:i+1<N
  ·exact ⟨i+1,h3,congrArg f h2⟩
  ·refine ⟨0,h.pos,(congrArg f h2).trans ?_⟩
   have:i+1=N:=by omega
   rw [show f (itr f i c)=itr f (i+1) c from rfl,this,h.back];rfl
theorem Rnd.to (c:α) {N:Nat} (h:Rnd f c N) (k:Nat):∃j,itr f j (itr f k c)=c:=by
 refine ⟨N * k - k,?_⟩
 have h1:k≤N * k:=Nat.le_mul_of_pos_left _ h.pos
 rw [←zb,show N * k - k+k=N * k by omega]
 clear h1
 induction k with
 | zero=>rfl
 | succ k ih=>rw [Nat.mul_succ,h.per,ih]
theorem Ring.dist (h:Ring f cl) {c:α} (hc:c∈cl) {N:Nat} (hN:Rnd f c N) {i j:Nat} (hi:i<N) (hj:j<N) (e:itr f i c=itr f j c):i=j:=by
 rcases Bc i j with hij|hij|hij
 ·have e1:itr f j c=itr f i (itr f (j - i) c):=by rw [←zb,show i+(j - i)=j by omega]
  exact (hN.ne (j - i) (by omega) (by omega) (h.itr_inj hc (h.itr_mem hc _) i (by rw [←e1];exact e)).symm).elim
 ·exact hij
 ·have e1:itr f i c=itr f j (itr f (i - j) c):=by rw [←zb,show j+(i - j)=i by omega]
  exact (hN.ne (i - j) (by omega) (by omega) (h.itr_inj hc (h.itr_mem hc _) j (by rw [←e1];exact e.symm)).symm).elim
end
abbrev Ck:=Cell×Int
open Classical in
noncomputable def Jh8 (r:Reg) (c:Cell):List Ck :=
 (if Kg r (c.1,c.2 - 1) then [] else [((c.1,c.2),0)])++(if Kg r (c.1+1,c.2) then [] else [((c.1+1,c.2),1)]) ++
 (if Kg r (c.1,c.2+1) then [] else [((c.1+1,c.2+1),2)])++(if Kg r (c.1 - 1,c.2) then [] else [((c.1,c.2+1),3)])
noncomputable def cks (r:Reg):List Ck:=(Zd r).flatMap (Jh8 r)
theorem Jaw {r:Reg} {c:Cell} {k:Ck}:k∈Jh8 r c↔(¬Kg r (c.1,c.2 - 1)∧k=((c.1,c.2),0))∨(¬Kg r (c.1+1,c.2)∧k=((c.1+1,c.2),1)) ∨
  (¬Kg r (c.1,c.2+1)∧k=((c.1+1,c.2+1),2))∨(¬Kg r (c.1 - 1,c.2)∧k=((c.1,c.2+1),3)):=by
 classical
 have h:∀(p:Prop) (x:Ck),k∈(if p then [] else [x])↔¬p∧k=x:=fun p x=>by by_cases hp:p<;>simp [hp]
 unfold Jh8
 simp only [Ad,h,or_assoc]
theorem je {r:Reg} {k:Ck}:k∈cks r↔Crk r k.1 k.2:=by
 unfold cks
 rw [Be]
 obtain ⟨⟨x,y⟩,h⟩:=k
 constructor
 ·rintro ⟨⟨a,b⟩,hc,hk⟩
  rw [zu] at hc
  rcases Jaw.1 hk with ⟨h1,h2⟩|⟨h1,h2⟩|⟨h1,h2⟩|⟨h1,h2⟩<;>simp only [Prod.mk.injEq] at h2<;>obtain ⟨⟨rfl,rfl⟩,rfl⟩:=h2
  ·exact .inl ⟨rfl,hc,h1⟩
  ·exact .inr (.inl ⟨rfl,by simpa using hc,h1⟩)
  ·exact .inr (.inr (.inl ⟨rfl,by simpa using hc,by simpa using h1⟩))
  ·exact .inr (.inr (.inr ⟨rfl,by simpa using hc,by simpa using h1⟩))
 ·rintro (⟨e,h1,h2⟩|⟨e,h1,h2⟩|⟨e,h1,h2⟩|⟨e,h1,h2⟩)<;>have e:h=_:=e<;>subst e
  ·exact ⟨_,zu.2 h1,Jaw.2 (.inl ⟨h2,rfl⟩)⟩
  ·exact ⟨_,zu.2 h1,Jaw.2 (.inr (.inl ⟨by simpa using h2,by simp⟩))⟩
  ·exact ⟨_,zu.2 h1,Jaw.2 (.inr (.inr (.inl ⟨by simpa using h2,by simp⟩)))⟩
  ·exact ⟨_,zu.2 h1,Jaw.2 (.inr (.inr (.inr ⟨by simpa using h2,by simp⟩)))⟩
noncomputable def nx (r:Reg) (c:Ck):Ck:=(Qa c.2 c.1,nxtH r c.1 c.2)
theorem ring (r:Reg):Ring (nx r) (cks r) :=
 ⟨fun c hc=>je.2 (Jy7 (je.1 hc)),fun c hc d hd e=>by
  obtain ⟨e1,e2⟩:=Prod.mk.injEq ..▸e
  obtain ⟨h1,h2⟩:=nxt_inj (je.1 hc) (je.1 hd) e1 e2
  exact Prod.ext h1 h2⟩
def Least (r:Reg) (c:Ck):Prop:=Crk r c.1 c.2∧∀k,¬yx (itr (nx r) k c).1 c.1
theorem Jtt (p:Cell) {h:Int} (hh:h=2∨h=3):yx (Qa h p) p:=by
 unfold yx Qa
 rcases hh with rfl|rfl<;>simp<;>omega
theorem Jzg (p:Cell) {h:Int} (hh:h=0∨h=1):yx p (Qa h p):=by
 unfold yx Qa
 rcases hh with rfl|rfl<;>simp<;>omega
theorem Least.hd {r:Reg} {c:Ck} (h:Least r c):c.2=0∨c.2=1:=by
 rcases h.1.hd with e|e|e|e
 ·exact .inl e
 ·exact .inr e
 ·exact (h.2 1 (Jtt c.1 (.inl e))).elim
 ·exact (h.2 1 (Jtt c.1 (.inr e))).elim
theorem Least.mem {r:Reg} {c:Ck} (h:Least r c):c∈cks r:=je.2 h.1
theorem Yk {r:Reg} {c:Ck} (h:Crk r c.1 c.2) (k:Nat):Crk r (itr (nx r) k c).1 (itr (nx r) k c).2:=je.1 ((ring r).itr_mem (je.2 h) k)
theorem Least.prev {r:Reg} {c:Ck} (h:Least r c) {k:Nat} (hk:itr (nx r) (k+1) c=c):(itr (nx r) k c).2=2∨(itr (nx r) k c).2=3:=by
 have e:nx r (itr (nx r) k c)=c:=hk
 have e1:Qa (itr (nx r) k c).2 (itr (nx r) k c).1=c.1:=congrArg Prod.fst e
 rcases (Yk h.1 k).hd with e|e|e|e
 ·exact (h.2 k (by have:=Jzg (itr (nx r) k c).1 (.inl e);rwa [e1] at this)).elim
 ·exact (h.2 k (by have:=Jzg (itr (nx r) k c).1 (.inr e);rwa [e1] at this)).elim
 ·exact .inl e
 ·exact .inr e
theorem Least.only {r:Reg} {c d:Ck} (h:Least r c) (hd:Crk r d.1 d.2) (e:d.1=c.1) (hb:¬yx (nx r d).1 c.1):d=c:=by
 refine Prod.ext e ?_
 apply Classical.byContradiction
 intro hne
 have ho:=h.1.opp (y:=d.2) (by rw [←e];exact hd) (fun e=>hne e.symm)
 have h2:d.2=2∨d.2=3:=by rcases h.hd with e|e<;>rw [e] at ho<;>omega
 exact hb (by rw [←e];exact Jtt d.1 h2)
theorem Least.ne {r:Reg} {c:Ck} (h:Least r c) {N:Nat} (hN:Rnd (nx r) c N) {k:Nat} (h0:0<k) (h1:k<N):(itr (nx r) k c).1≠c.1:=fun e =>
 hN.ne k h0 h1 (h.only (Yk h.1 k) e (h.2 (k+1)))
theorem Least.uniq {r:Reg} {c d:Ck} (h:Least r c) (h':Least r d) (e:d.1=c.1):d=c :=
 h.only h'.1 e (by rw [←e];exact h'.2 1)
theorem J1j (a b:Cell):yx a b∨a=b∨yx b a:=by
 unfold yx
 by_cases h:a=b
 ·exact .inr (.inl h)
 ·have:¬(a.1=b.1∧a.2=b.2):=fun e=>h (Prod.ext e.1 e.2)
  omega
theorem yx_trans {a b c:Cell} (h:yx a b) (h':yx b c):yx a c:=by unfold yx at *;omega
theorem J0u {r:Reg} {c:Ck} (h:Crk r c.1 c.2):∃j,Least r (itr (nx r) j c):=by
 obtain ⟨N,hN,_⟩:=(ring r).rnd (je.2 h)
 have key:∀n,0<n→∃j,j<n∧∀k,k<n→¬yx (itr (nx r) k c).1 (itr (nx r) j c).1:=by
  intro n hn
  induction n with
  | zero=>omega
  | succ n ih =>
   by_cases h0:0<n
   ·obtain ⟨j,hj,hk⟩:=ih h0
    by_cases hy:yx (itr (nx r) n c).1 (itr (nx r) j c).1
    ·refine ⟨n,by omega,fun k hkn hlt=>?_⟩
     by_cases e:k=n
     ·subst e;exact Jb8 _ hlt
     ·exact hk k (by omega) (yx_trans hlt hy)
    ·refine ⟨j,by omega,fun k hkn=>?_⟩
     by_cases e:k=n
     ·subst e;exact hy
     ·exact hk k (by omega)
   ·have:n=0:=by omega
    subst this
    exact ⟨0,by omega,fun k hk=>by rw [show k=0 by omega];exact Jb8 _⟩
 obtain ⟨j,hj,hk⟩:=key N hN.pos
 refine ⟨j,Yk h j,fun k=>?_⟩
 rw [←zb]
 obtain ⟨i,hi,e⟩:=hN.modN (k+j)
 rw [e]
 exact hk i hi
noncomputable def jx (r:Reg) (c:Ck) (k:Nat):Option Cell:=if (itr (nx r) (k+1) c).2=(itr (nx r) k c).2 then none else some (itr (nx r) (k+1) c).1
noncomputable def seg (r:Reg) (c:Ck) (a n:Nat):List Cell:=(Bg n).filterMap fun i=>jx r c (a+i)
noncomputable def poly (r:Reg) (c:Ck) (N:Nat):List Cell:=c.1::seg r c 0 (N - 1)
theorem Jir (r:Reg) (c:Ck) (a n:Nat):seg r c a (n+1)=seg r c a n++(jx r c (a+n)).toList:=by
 unfold seg
 rw [Di,Dl]
 cases h:jx r c (a+n)<;>simp [h]
theorem Jk4 (r:Reg) (c:Ck) (a m:Nat):∀n,seg r c a (m+n)=seg r c a m++seg r c (a+m) n
 | 0=>by simp [seg]
 | n+1=>by rw [←Dq,Jir,Jk4 r c a m n,Jir,List.append_assoc,Dq]
theorem Jyu (r:Reg) (c:Ck) (a:Nat):seg r c a 1=(jx r c a).toList:=by rw [show (1:Nat)=0+1 from rfl,Jir];simp [seg]
theorem Jrn (r:Reg) (c:Ck) (j k:Nat):jx r (itr (nx r) j c) k=jx r c (k+j):=by
 unfold jx
 rw [←zb,←zb,show k+1+j=k+j+1 by omega]
theorem turn_per {r:Reg} {c:Ck} {N:Nat} (h:Rnd (nx r) c N) (k:Nat):jx r c (k+N)=jx r c k:=by
 unfold jx
 rw [show k+N+1=k+1+N by omega,h.per,h.per]
theorem seg_from (r:Reg) (c:Ck) (j a n:Nat):seg r (itr (nx r) j c) a n=seg r c (a+j) n:=by
 unfold seg
 congr 1
 funext i
 rw [Jrn,show a+i+j=a+j+i by omega]
theorem Jz4 {r:Reg} {c:Ck} {N:Nat} (h:Rnd (nx r) c N) (a n:Nat):seg r c (a+N) n=seg r c a n:=by
 unfold seg
 congr 1
 funext i
 rw [show a+N+i=a+i+N by omega,turn_per h]
theorem Jz5 {r:Reg} {c:Ck} {a n:Nat} {x:Cell} (h:x∈seg r c a n):∃i,i<n∧x=(itr (nx r) (a+i+1) c).1:=by
 unfold seg at h
 obtain ⟨i,hi,e⟩:=List.mem_filterMap.1 h
 refine ⟨i,Bb.1 hi,?_⟩
 unfold jx at e
 split at e
 ·cases e
 ·injection e with e;exact e.symm
theorem Least.turn {r:Reg} {s:Ck} (h:Least r s) {N:Nat} (hN:Rnd (nx r) s N):jx r s (N - 1)=some s.1:=by
 have hp:=hN.pos
 unfold jx
 have e:itr (nx r) (N - 1+1) s=s:=by rw [show N - 1+1=N by omega,hN.back]
 rw [e,if_neg]
 have h1:=h.hd
 have h2:=h.prev e
 omega
theorem poly_seg {r:Reg} {s:Ck} (h:Least r s) {N:Nat} (hN:Rnd (nx r) s N):poly r s N=seg r s (N - 1) N:=by
 have hp:=hN.pos
 have e:seg r s (N - 1) (1+(N - 1))=seg r s (N - 1) N:=by rw [show 1+(N - 1)=N by omega]
 rw [←e,Jk4,Jyu,h.turn hN,show N - 1+1=0+N by omega,Jz4 hN]
 rfl
theorem Least.above {r:Reg} {s:Ck} (h:Least r s) {N:Nat} (hN:Rnd (nx r) s N) {k:Nat} (h0:0<k) (h1:k<N):yx s.1 (itr (nx r) k s).1:=by
 rcases J1j s.1 (itr (nx r) k s).1 with e|e|e
 ·exact e
 ·exact (h.ne hN h0 h1 e.symm).elim
 ·exact (h.2 k e).elim
theorem turned {r:Reg} {c:Ck} (hc:Crk r c.1 c.2) {N j:Nat} (hN:Rnd (nx r) c N) (hj:j<N) (h:Least r (itr (nx r) j c)) :
  ∃A B,seg r c (N - 1) N=A++(itr (nx r) j c).1::B∧poly r (itr (nx r) j c) N=(itr (nx r) j c).1::B++A∧∀x∈A++B,yx (itr (nx r) j c).1 x:=by
 have hs:Rnd (nx r) (itr (nx r) j c) N:=hN.from (ring r) (je.2 hc) j
 have hp:=hN.pos
 have ht:=h.turn hs
 rw [Jrn] at ht
 have eB:seg r c (N - 1+j) (N - j)=(itr (nx r) j c).1::seg r c (N+j) (N - j - 1):=by
  conv=>lhs;rw [show N - j=1+(N - j - 1) by omega]
  rw [Jk4,Jyu,ht,show N - 1+j+1=N+j by omega]
  rfl
 refine ⟨seg r c (N - 1) j,seg r c (N+j) (N - j - 1),?_,?_,?_⟩
 ·rw [←eB,←Jk4,show j+(N - j)=N by omega]
 ·rw [poly_seg h hs,seg_from,←eB]
  have e:seg r c (N - 1+j) ((N - j)+j)=seg r c (N - 1+j) N:=by rw [show N - j+j=N by omega]
  rw [←e,Jk4,show N - 1+j+(N - j)=N - 1+N by omega,Jz4 hN]
 ·intro x hx
  rcases Ad.1 hx with hx|hx
  ·obtain ⟨i,hi,rfl⟩:=Jz5 hx
   have:=h.above hs (k:=i+N - j) (by omega) (by omega)
   rwa [←zb,show i+N - j+j=N - 1+i+1 by omega] at this
  ·obtain ⟨i,hi,rfl⟩:=Jz5 hx
   have:=h.above hs (k:=i+1) (by omega) (by omega)
   rwa [←zb,←hN.per (i+1+j),show i+1+j+N=N+j+i+1 by omega] at this
theorem Rnd.uniq {α:Type} {f:α→α} {c:α} {N M:Nat} (h:Rnd f c N) (h':Rnd f c M):N=M:=by
 rcases Bc N M with e|e|e
 ·exact (h'.ne N h.pos e h.back).elim
 ·exact e
 ·exact (h.ne M h'.pos e h'.back).elim
open Classical in
noncomputable def perN (r:Reg) (c:Ck):Nat:=if h:∃N,Rnd (nx r) c N then h.choose else 0
theorem Jbu {r:Reg} {c:Ck} (h:Crk r c.1 c.2):Rnd (nx r) c (perN r c):=by
 have hx:∃N,Rnd (nx r) c N:=(ring r).rnd (je.2 h) |>.imp fun N h=>h.1
 unfold perN
 rw [dif_pos hx]
 exact hx.choose_spec
theorem J2v {r:Reg} {c:Ck} {N:Nat} (h:Crk r c.1 c.2) (hN:Rnd (nx r) c N):perN r c=N:=(Jbu h).uniq hN
theorem Jpq {r:Reg} {c:Ck} (h:Crk r c.1 c.2):perN r c≤(cks r).length:=by
 obtain ⟨N,h1,h2⟩:=(ring r).rnd (je.2 h)
 rw [J2v h h1];exact h2
noncomputable def pol (r:Reg) (c:Ck):List Cell:=poly r c (perN r c)
structure Starts (r:Reg) (l:List Ck):Prop where
 pw:l.Pairwise fun a b=>yx a.1 b.1
 mem:∀c,c∈l↔Least r c
theorem Starts.uniq {r:Reg} {l m:List Ck} (h:Starts r l) (h':Starts r m):l=m :=
 Jcj (fun a b h=>Jwi h) h.pw h'.pw fun x=>(h.mem x).trans (h'.mem x).symm
def Closed (r:Reg) (S:Ck→Prop):Prop:=(∀c,S c→Crk r c.1 c.2)∧∀c,S c→S (nx r c)
theorem Closed.itr {r:Reg} {S:Ck→Prop} (h:Closed r S) {c:Ck} (hc:S c):∀k,S (itr (nx r) k c)
 | 0=>hc
 | k+1=>h.2 _ (h.itr hc k)
theorem Closed.sub {r:Reg} {S:Ck→Prop} (h:Closed r S) {c:Ck} (hc:Crk r c.1 c.2):Closed r fun d=>S d∧¬ ∃k,d=Go.Proofs.YtmfagdfkpjgeiaaGreat.itr (nx r) k c:=by
 refine ⟨fun d hd=>h.1 d hd.1,fun d hd=>⟨h.2 d hd.1,?_⟩⟩
 rintro ⟨k,hk⟩
 refine hd.2 ?_
 have hN:=Jbu hc
 have e:nx r d=nx r (Go.Proofs.YtmfagdfkpjgeiaaGreat.itr (nx r) (k+perN r c - 1) c):=by
  have hp:=hN.pos
  rw [hk,show nx r (Go.Proofs.YtmfagdfkpjgeiaaGreat.itr (nx r) (k+perN r c - 1) c)=Go.Proofs.YtmfagdfkpjgeiaaGreat.itr (nx r) (k+perN r c - 1+1) c from rfl,show k+perN r c - 1+1=k+perN r c by omega,hN.per]
 exact ⟨_,(ring r).inj _ (je.2 (h.1 d hd.1)) _ (je.2 (Yk hc _)) e⟩
def dirH (h:Int):Cell:=if h=0 then (1,0) else if h=1 then (0,1) else if h=2 then (-1,0) else (0,-1)
def addC (p d:Cell):Cell:=(p.1+d.1,p.2+d.2)
def fwd (p:Cell) (h:Int) (n:Nat):Cell:=(p.1+(n:Int) * (dirH h).1,p.2+(n:Int) * (dirH h).2)
theorem Jkh (h:Int) (p:Cell):Qa h p=addC p (dirH h):=by
 unfold Qa addC dirH
 split
 ·simp
 split
 ·simp
 split
 ·simp [Bh]
 ·simp [Bh]
theorem Jve (p:Cell) (h:Int):fwd p h 0=p:=by unfold fwd;simp
theorem Jpc (p:Cell) (h:Int) (n:Nat):fwd p h (n+1)=Qa h (fwd p h n):=by
 rw [Jkh]
 unfold fwd addC
 dsimp only
 rw [show ((n+1:Nat):Int)=(n:Int)+1 by omega,Int.add_mul,Int.add_mul,Int.one_mul,Int.one_mul,Int.add_assoc,Int.add_assoc]
section
variable (r:Reg) (s:Ck)
noncomputable def hdK (k:Nat):Int:=(itr (nx r) k s).2
noncomputable def ptK (k:Nat):Cell:=(itr (nx r) k s).1
theorem Ji0 (k:Nat):ptK r s (k+1)=Qa (hdK r s k) (ptK r s k):=rfl
noncomputable def tps (N:Nat):List Nat:=(Bg N).filter fun k=>decide (k=0∨hdK r s k≠hdK r s (k - 1))
theorem Jtx {N k:Nat}:k∈tps r s N↔k<N∧(k=0∨hdK r s k≠hdK r s (k - 1)):=by
 unfold tps
 rw [List.mem_filter,Bb,decide_eq_true_eq]
theorem tps_pw (N:Nat):(tps r s N).Pairwise (·<·):=List.Pairwise.filter _ Dh
theorem Jod {N:Nat} (h:0<N):tps r s N=0::((Bg (N - 1)).filter fun k=>decide (hdK r s (k+1)≠hdK r s k)).map (·+1):=by
 unfold tps
 obtain ⟨M,rfl⟩:∃M,N=M+1:=⟨N - 1,by omega⟩
 rw [Df,List.filter_cons_of_pos (by simp),List.filter_map,Nat.add_sub_cancel]
 congr 2
 refine List.filter_congr fun k _=>?_
 simp
theorem Jn8 {N:Nat} (h:0<N):poly r s N=(tps r s N).map (ptK r s):=by
 rw [Jod r s h,Ap,poly]
 congr 1
 unfold seg
 generalize N - 1=M
 clear h
 induction M with
 | zero=>rfl
 | succ M ih =>
  rw [Di,Dl,List.filter_append,De,De,ih]
  congr 1
  have e0:(0:Nat)+M=M:=Nat.zero_add M
  by_cases hh:hdK r s (M+1)=hdK r s M
  ·have:jx r s M=none:=if_pos hh
   simp [hh,this,e0]
  ·have:jx r s M=some (ptK r s (M+1)):=if_neg hh
   simp [hh,this,e0]
noncomputable def tpN (N i:Nat):Nat:=(tps r s N)[i]?.getD N
theorem Jiu {N:Nat} (h:0<N):tpN r s N 0=0:=by unfold tpN;rw [Jod r s h];rfl
theorem Ji2 {N i:Nat} (h:(tps r s N).length≤i):tpN r s N i=N:=by unfold tpN;rw [Ay h];rfl
theorem Jhm {N i:Nat} (h:i<(tps r s N).length):(tps r s N)[i]?=some (tpN r s N i):=by unfold tpN;rw [Ab h];rfl
theorem Jmp {N i:Nat} (h:i<(tps r s N).length):tpN r s N i<tpN r s N (i+1):=by
 have h1:=Jhm r s h
 by_cases h2:i+1<(tps r s N).length
 ·exact Ju7 (tps_pw r s N) h1 (Jhm r s h2)
 ·rw [Ji2 r s (i:=i+1) (by omega)]
  exact (Jtx r s).1 (Ae h1) |>.1
theorem Jvi {N i:Nat}:tpN r s N i≤N:=by
 by_cases h:i<(tps r s N).length
 ·exact Nat.le_of_lt ((Jtx r s).1 (Ae (Jhm r s h)) |>.1)
 ·rw [Ji2 r s (by omega)];exact Ar _
theorem between {N i:Nat} (h:i<(tps r s N).length) {k:Nat} (h1:tpN r s N i<k) (h2:k<tpN r s N (i+1)):hdK r s k=hdK r s (k - 1):=by
 apply Classical.byContradiction
 intro hne
 have hm:k∈tps r s N:=(Jtx r s).2 ⟨Nat.lt_of_lt_of_le h2 (Jvi r s),.inr hne⟩
 obtain ⟨j,hj⟩:=Ai hm
 have hlt:=(Aa.1 hj).1
 have e:tpN r s N j=k:=by unfold tpN;rw [hj];rfl
 have mono:∀ {a b:Nat},a<b→b<(tps r s N).length→tpN r s N a<tpN r s N b:=fun {a b} hab hb=>by
  have ha:=Jhm r s (N:=N) (i:=a) (by omega)
  have hb':=Jhm r s hb
  obtain ⟨p1,e1⟩:=Aa.1 ha
  obtain ⟨p2,e2⟩:=Aa.1 hb'
  rw [←e1,←e2]
  exact Aj.1 (tps_pw r s N) a b p1 p2 hab
 rcases Bc j i with hij|hij|hij
 ·have:=mono hij h;omega
 ·subst hij;omega
 ·by_cases hj2:j=i+1
  ·subst hj2;omega
  ·have:=mono (a:=i+1) (b:=j) (by omega) hlt;omega
theorem Ji8 {N i:Nat} (h:i<(tps r s N).length):∀j,tpN r s N i+j<tpN r s N (i+1)→hdK r s (tpN r s N i+j)=hdK r s (tpN r s N i)
 | 0,_=>rfl
 | j+1,hj=>by
  rw [between r s h (k:=tpN r s N i+(j+1)) (by omega) hj,show tpN r s N i+(j+1) - 1=tpN r s N i+j by omega]
  exact Ji8 h j (by omega)
theorem edge {N i:Nat} (h:i<(tps r s N).length):∀j,tpN r s N i+j≤tpN r s N (i+1)→ptK r s (tpN r s N i+j)=fwd (ptK r s (tpN r s N i)) (hdK r s (tpN r s N i)) j
 | 0,_=>(Jve _ _).symm
 | j+1,hj=>by rw [←Dq,Ji0,Ji8 r s h j (by omega),edge h j (by omega),Jpc]
def rgt (h h':Int):Prop:=h'=(h+3) % 4
instance (h h':Int):Decidable (rgt h h'):=inferInstanceAs (Decidable (_=_))
noncomputable def rawK (k:Nat):List Cell:=Kd (ptK r s k) (hdK r s k)::if rgt (hdK r s k) (hdK r s (k+1)) then [addC (Kd (ptK r s k) (hdK r s k)) (dirH (hdK r s k))] else []
noncomputable def raw (n:Nat):List Cell:=(Bg n).flatMap (rawK r s)
theorem Jcv (n:Nat):raw r s (n+1)=raw r s n++rawK r s n:=by unfold raw;rw [Di,Bq];simp
end
def nbC (a b:Cell):Prop:=((a.1 - b.1=1∨a.1 - b.1=-1)∧a.2=b.2)∨(a.1=b.1∧(a.2 - b.2=1∨a.2 - b.2=-1))
def near (a b:Cell):Prop:=a=b∨nbC a b
def Adj (R:Cell→Cell→Prop) (l:List Cell):Prop:=∀i a b,l[i]?=some a→l[i+1]?=some b→R a b
theorem Adj.nil (R:Cell→Cell→Prop):Adj R []:=fun i a b h=>by simp at h
theorem Adj.snoc {R:Cell→Cell→Prop} {l:List Cell} {c:Cell} (h:Adj R l) (hl:∀a,l.getLast?=some a→R a c):Adj R (l++[c]):=by
 intro i a b ha hb
 have hi:i+1<(l++[c]).length:=(Aa.1 hb).1
 rw [Ao,Dm] at hi
 by_cases h1:i+1<l.length
 ·rw [As (by omega)] at ha hb
  exact h i a b ha hb
 ·have e:i+1=l.length:=by omega
  rw [As (by omega)] at ha
  rw [Bd (by omega),show i+1 - l.length=0 by omega] at hb
  simp at hb
  subst hb
  exact hl a (by rw [Bz,show l.length - 1=i by omega];exact ha)
theorem Adj.left {R:Cell→Cell→Prop} {l m:List Cell} (h:Adj R (l++m)):Adj R l:=fun i a b ha hb=>by
 have h1:=(Aa.1 hb).1
 exact h i a b (by rw [As (by omega)];exact ha) (by rw [As (by omega)];exact hb)
theorem Adj.last {R:Cell→Cell→Prop} {l:List Cell} {c a:Cell} (h:Adj R (l++[c])) (ha:l.getLast?=some a):R a c:=by
 have hne:l≠[]:=fun e=>by subst e;simp at ha
 have hp:=Br.2 hne
 rw [Bz] at ha
 exact h (l.length - 1) a c (by rw [As (by omega)];exact ha) (by rw [show l.length - 1+1=l.length by omega,Bd (by omega)];simp)
def ddS (out:List Cell) (c:Cell):List Cell:=if out.getLast?=some c then out else out++[c]
def dd (l:List Cell):List Cell:=l.foldl ddS []
theorem Jhc (l:List Cell) (c:Cell):dd (l++[c])=ddS (dd l) c:=by unfold dd;rw [List.foldl_append];rfl
theorem dd_add (l m:List Cell):dd (l++m)=m.foldl ddS (dd l):=by unfold dd;rw [List.foldl_append]
theorem Jgw {P:List Cell→Prop} (h0:P []) (h1:∀l c,P l→P (l++[c])) (l:List Cell):P l:=by
 have key:∀m:List Cell,P m.reverse:=fun m=>by
  induction m with
  | nil=>exact h0
  | cons c m ih=>rw [List.reverse_cons];exact h1 _ _ ih
 have:=key l.reverse
 rwa [List.reverse_reverse] at this
theorem Jz2 (l:List Cell):(dd l).getLast?=l.getLast?:=by
 refine Jgw (P:=fun l=>(dd l).getLast?=l.getLast?) rfl (fun l c ih=>?_) l
 rw [Jhc,Ba]
 unfold ddS
 split
 ·assumption
 ·exact Ba ..
theorem dd_head (l:List Cell):(dd l).head?=l.head?:=by
 refine Jgw (P:=fun l=>(dd l).head?=l.head?) rfl (fun l c ih=>?_) l
 rw [Jhc]
 have hap:∀m:List Cell,(m++[c]).head?=m.head?.or (some c):=fun m=>by cases m<;>rfl
 rw [hap l,←ih]
 unfold ddS
 split
 ·rename_i h
  cases hd:dd l with
  | nil=>rw [hd] at h;simp at h
  | cons x m=>rfl
 ·rw [hap]
theorem dd_mem (l:List Cell) (x:Cell):x∈dd l↔x∈l:=by
 refine Jgw (P:=fun l=>x∈dd l↔x∈l) Iff.rfl (fun l c ih=>?_) l
 rw [Jhc,Ad,Ac,←ih]
 unfold ddS
 split
 ·rename_i h
  refine ⟨.inl,fun hx=>hx.elim id fun e=>?_⟩
  subst e
  exact List.mem_of_getLast? h
 ·rw [Ad,Ac]
theorem J0s (l:List Cell):(dd l).length≤l.length:=by
 refine Jgw (P:=fun l=>(dd l).length≤l.length) (Ar _) (fun l c ih=>?_) l
 rw [Jhc,Ao]
 unfold ddS
 split
 ·omega
 ·rw [Ao];simp only [Dm];omega
theorem dd_adj {l:List Cell} (h:Adj near l):Adj nbC (dd l):=by
 revert h
 refine Jgw (P:=fun l=>Adj near l→Adj nbC (dd l)) (fun _=>Adj.nil _) (fun l c ih h=>?_) l
 rw [Jhc]
 unfold ddS
 split
 ·exact ih h.left
 ·rename_i hne
  refine (ih h.left).snoc fun a ha=>?_
  rcases h.last (by rw [←Jz2];exact ha) with e|hn
  ·exact (hne (by rw [ha,e])).elim
  ·exact hn
def trim (l:List Cell):List Cell:=if 1<l.length∧l.head?=l.getLast? then l.dropLast else l
def Jij (l:List Cell):List Cell:=trim (dd l)
structure Closd (l:List Cell):Prop where
 ne:l≠[]
 adj:Adj nbC l
 cl:l.length=1∨∀a b,l.getLast?=some a→l.head?=some b→nbC a b
theorem Jst {l:List Cell} (hne:l≠[]) (h:Adj near l) (hc:∀a b,l.getLast?=some a→l.head?=some b→near a b):Closd (Jij l):=by
 have hD:=dd_adj h
 have e1:=Jz2 l
 have e2:=dd_head l
 have hneD:dd l≠[]:=fun e=>by rw [e] at e1;exact hne (Da.1 e1.symm)
 unfold Jij trim
 generalize dd l=D at *
 split
 ·rename_i hx
  obtain ⟨h1,h2⟩:=hx
  obtain ⟨M,x,rfl⟩:∃M x,D=M++[x]:=⟨D.dropLast,D.getLast hneD,(Bs hneD).symm⟩
  rw [Dp]
  rw [Ba] at h2
  have hM:M≠[]:=fun e=>by subst e;simp at h1
  have hh:M.head?=some x:=by
   cases M with
   | nil=>exact (hM rfl).elim
   | cons y M=>simpa using h2
  refine ⟨hM,hD.left,.inr fun a b ha hb=>?_⟩
  rw [hh] at hb
  injection hb with hb
  subst hb
  exact hD.last ha
 ·rename_i hx
  refine ⟨hneD,hD,?_⟩
  by_cases h1:D.length=1
  ·exact .inl h1
  ·refine .inr fun a b ha hb=>?_
   have h2:1<D.length:=by have:=Br.2 hneD;omega
   rcases hc a b (by rw [←e1];exact ha) (by rw [←e2];exact hb) with e|hn
   ·exact (hx ⟨h2,by rw [ha,hb,e]⟩).elim
   ·exact hn
theorem Jo8 {l:List Cell} (x:Cell):x∈Jij l↔x∈l:=by
 rw [←dd_mem l]
 unfold Jij trim
 generalize dd l=D
 split
 ·rename_i hx
  obtain ⟨h1,h2⟩:=hx
  refine ⟨fun h=>(List.dropLast_sublist _).subset h,fun hm=>?_⟩
  have hne:D≠[]:=fun e=>by subst e;simp at h1
  obtain ⟨M,y,rfl⟩:∃M y,D=M++[y]:=⟨D.dropLast,D.getLast hne,(Bs hne).symm⟩
  rw [Dp]
  rw [Ba] at h2
  rcases Ad.1 hm with hm|hm
  ·exact hm
  ·rw [Ac] at hm
   subst hm
   cases M with
   | nil=>simp at h1
   | cons y M =>
    have:y=x:=by simpa using h2
    subst this;exact Af ..
 ·exact Iff.rfl
theorem Jwd (l:List Cell):(Jij l).length≤l.length:=by
 have:=J0s l
 unfold Jij trim
 split
 ·rw [List.length_dropLast];omega
 ·exact this
theorem Adj.app {R:Cell→Cell→Prop} {l:List Cell} (h:Adj R l):∀ {m:List Cell},Adj R m→(∀a b,l.getLast?=some a→m.head?=some b→R a b)→Adj R (l++m):=by
 intro m
 induction m generalizing l with
 | nil=>intro _ _;rw [List.append_nil];exact h
 | cons c m ih =>
  intro hm hl
  have e:l++c::m=(l++[c])++m:=by simp
  rw [e]
  refine ih (h.snoc fun a ha=>hl a c ha rfl) (fun i a b ha hb=>hm (i+1) a b (by simpa using ha) (by simpa using hb)) fun a b ha hb=>?_
  rw [Ba] at ha
  injection ha with ha
  subst ha
  exact hm 0 c b rfl (by rw [←hb];cases m<;>rfl)
theorem nxt_or (r:Reg) (p:Cell) (x:Int):nxtH r p x=(x+1) % 4∨nxtH r p x=x∨nxtH r p x=(x+3) % 4:=by
 unfold nxtH
 dsimp only
 split
 ·exact .inl rfl
 split
 ·exact .inr (.inl rfl)
 ·exact .inr (.inr rfl)
theorem Jql {r:Reg} {s:Ck} (hs:Crk r s.1 s.2) (k:Nat):∀a,(rawK r s k).getLast?=some a→near a (Kd (ptK r s (k+1)) (hdK r s (k+1))):=by
 have h:=Yk hs k
 intro a ha
 have hn:=nxt_or r (ptK r s k) (hdK r s k)
 rw [show nxtH r (ptK r s k) (hdK r s k)=hdK r s (k+1) from rfl] at hn
 have hx:hdK r s k=0∨hdK r s k=1∨hdK r s k=2∨hdK r s k=3:=h.hd
 rw [Ji0]
 unfold rawK at ha
 generalize hdK r s k=x at *
 generalize hdK r s (k+1)=y at *
 generalize ptK r s k=p at *
 rcases hx with rfl|rfl|rfl|rfl<;>rcases hn with rfl|rfl|rfl<;>simp [rgt,List.getLast?] at ha<;>subst ha<;>simp [near,nbC,Kd,Qa,addC,dirH]<;>omega
theorem J0o (r:Reg) (s:Ck) (hs:Crk r s.1 s.2) (k:Nat):Adj near (rawK r s k):=by
 have hx:hdK r s k=0∨hdK r s k=1∨hdK r s k=2∨hdK r s k=3:=(Yk hs k).hd
 unfold rawK
 split
 ·intro i a b ha hb
  cases i with
  | zero =>
   simp at ha hb
   subst ha;subst hb
   refine .inr ?_
   generalize hdK r s k=x at *
   rcases hx with rfl|rfl|rfl|rfl<;>simp [nbC,addC,dirH]<;>omega
  | succ i=>simp at hb
 ·intro i a b ha hb
  simp at hb
theorem Jyn (r:Reg) (s:Ck) (k:Nat):(rawK r s k).head?=some (Kd (ptK r s k) (hdK r s k)):=rfl
theorem rawK_ne (r:Reg) (s:Ck) (k:Nat):rawK r s k≠[]:=fun e=>by cases e
theorem Jwh (r:Reg) (s:Ck) {n:Nat}:(raw r s (n+1)).getLast?=(rawK r s n).getLast?:=by
 rw [Jcv,List.getLast?_append]
 cases h:(rawK r s n).getLast? with
 | none=>exact (rawK_ne r s n (Da.1 h)).elim
 | some a=>rfl
theorem Jzn {r:Reg} {s:Ck} (hs:Crk r s.1 s.2):∀n,Adj near (raw r s n)
 | 0=>Adj.nil _
 | n+1=>by
  rw [Jcv]
  refine (Jzn hs n).app (J0o r s hs n) fun a b ha hb=>?_
  cases n with
  | zero=>simp [raw] at ha
  | succ n =>
   rw [Jwh] at ha
   rw [Jyn] at hb
   injection hb with hb
   subst hb
   exact Jql hs n a ha
theorem Joh (r:Reg) (s:Ck):∀ {n:Nat},0<n→(raw r s n).head?=some (Kd s.1 s.2)
 | 1,_=>by rw [Jcv];rfl
 | n+2,_=>by
  rw [Jcv]
  have:=Joh r s (n:=n+1) (by omega)
  cases h:raw r s (n+1) with
  | nil=>rw [h] at this;cases this
  | cons x l=>rw [h] at this;exact this
theorem raw_ne (r:Reg) (s:Ck) {n:Nat} (h:0<n):raw r s n≠[]:=fun e=>by have:=Joh r s h;rw [e] at this;cases this
theorem Js8 {r:Reg} {s:Ck} (hs:Crk r s.1 s.2) {N:Nat} (hN:Rnd (nx r) s N):Closd (Jij (raw r s N)):=by
 have hp:=hN.pos
 obtain ⟨M,rfl⟩:∃M,N=M+1:=⟨N - 1,by omega⟩
 refine Jst (raw_ne r s hp) (Jzn hs _) fun a b ha hb=>?_
 rw [Jwh] at ha
 rw [Joh r s hp] at hb
 injection hb with hb
 subst hb
 have:=Jql hs M a ha
 have e:itr (nx r) (M+1) s=s:=hN.back
 have e1:ptK r s (M+1)=s.1:=congrArg Prod.fst e
 have e2:hdK r s (M+1)=s.2:=congrArg Prod.snd e
 rwa [e1,e2] at this
theorem J0h {r:Reg} {p:Cell} {x:Int} (h:Crk r p x):Kg r (Kd p x):=by
 rcases h with ⟨rfl,h1,h2⟩|⟨rfl,h1,h2⟩|⟨rfl,h1,h2⟩|⟨rfl,h1,h2⟩<;>simpa [Kd] using h1
theorem Jzq {r:Reg} {p:Cell} {x:Int} (h:Crk r p x) (hn:nxtH r p x=(x+3) % 4):Kg r (addC (Kd p x) (dirH x)):=by
 unfold nxtH at hn
 dsimp only at hn
 split at hn
 ·rcases h.hd with rfl|rfl|rfl|rfl<;>simp at hn
 split at hn
 ·rcases h.hd with rfl|rfl|rfl|rfl<;>simp at hn
 ·next h1 h2 =>
  obtain ⟨p1,p2⟩:=p
  rcases h with ⟨rfl,h3,h4⟩|⟨rfl,h3,h4⟩|⟨rfl,h3,h4⟩|⟨rfl,h3,h4⟩<;>simp [Qa,Crk,Kd,addC,dirH] at *<;>grind
theorem J0d {r:Reg} {s:Ck} {n:Nat} {x:Cell} (h:x∈raw r s n):∃k,k<n∧x∈rawK r s k:=by
 obtain ⟨k,hk,hx⟩:=Be.1 h
 exact ⟨k,Bb.1 hk,hx⟩
theorem raw_in {r:Reg} {s:Ck} (hs:Crk r s.1 s.2) {n:Nat} {x:Cell} (h:x∈raw r s n):Kg r x:=by
 obtain ⟨k,hk,hx⟩:=J0d h
 have hc:=Yk hs k
 unfold rawK at hx
 rcases Ag.1 hx with rfl|hx
 ·exact J0h hc
 ·split at hx
  ·rename_i hr
   rw [Ac] at hx
   subst hx
   exact Jzq hc hr
  ·exact (Ak hx).elim
theorem rawK_len (r:Reg) (s:Ck) (k:Nat):(rawK r s k).length≤2:=by
 unfold rawK
 split<;>simp
theorem Jkv (r:Reg) (s:Ck):∀n,(raw r s n).length≤2 * n
 | 0=>Ar _
 | n+1=>by
  rw [Jcv,Ao]
  have:=Jkv r s n
  have:=rawK_len r s n
  omega
theorem Jxk (r:Reg) (c:Cell):(Jh8 r c).length≤4:=by
 unfold Jh8
 split<;>split<;>split<;>split<;>simp
theorem Jps (r:Reg):(cks r).length≤4 * (Zd r).length:=by
 unfold cks
 generalize Zd r=l
 induction l with
 | nil=>exact Ar _
 | cons c l ih =>
  rw [Bt,Ao,Av]
  have:=Jxk r c
  omega
theorem tps_len (r:Reg) (s:Ck) (N:Nat):(tps r s N).length≤N:=by
 have:=List.length_filter_le (fun k=>decide (k=0∨hdK r s k≠hdK r s (k - 1))) (Bg N)
 rw [List.length_range] at this
 exact this
theorem tps_two {r:Reg} {s:Ck} (h:Least r s) {N:Nat} (hN:Rnd (nx r) s N):2≤(tps r s N).length:=by
 have hp:=hN.pos
 rw [Jod r s hp,Av,List.length_map]
 have h1:hdK r s 0=0∨hdK r s 0=1:=h.hd
 have h2:hdK r s (N - 1)=2∨hdK r s (N - 1)=3:=h.prev (k:=N - 1) (by rw [show N - 1+1=N by omega,hN.back])
 suffices hs:∃k,k<N - 1∧hdK r s (k+1)≠hdK r s k by
  obtain ⟨k,hk,hne⟩:=hs
  have:k∈(Bg (N - 1)).filter fun k=>decide (hdK r s (k+1)≠hdK r s k):=List.mem_filter.2 ⟨Bb.2 hk,decide_eq_true hne⟩
  have:=Bm this
  omega
 apply Classical.byContradiction
 intro hno
 have key:∀k,k≤N - 1→hdK r s k=hdK r s 0:=by
  intro k
  induction k with
  | zero=>intro _;rfl
  | succ k ih =>
   intro hk
   rw [←ih (by omega)]
   apply Classical.byContradiction
   intro hne
   exact hno ⟨k,by omega,hne⟩
 have:=key (N - 1) (Ar _)
 omega
theorem on_ring {r:Reg} {c:Ck} (h:Crk r c.1 c.2):∃s k,Least r s∧k<perN r s∧c=itr (nx r) k s:=by
 obtain ⟨j,hj⟩:=J0u h
 have hN:=Jbu h
 obtain ⟨i,hi⟩:=hN.to c j
 have hS:=Jbu hj.1
 obtain ⟨k,hk,e⟩:=hS.modN i
 exact ⟨_,k,hj,hk,by rw [←e,hi]⟩
def Jxb (r:Reg) (c:Cell):Prop:=Kg r c∧∃dx dy:Int,-1≤dx∧dx≤1∧-1≤dy∧dy≤1∧¬Kg r (c.1+dx,c.2+dy)
theorem Jtz {r:Reg} {s:Ck} (hs:Crk r s.1 s.2) {n:Nat} {x:Cell} (h:x∈raw r s n):Jxb r x:=by
 refine ⟨raw_in hs h,?_⟩
 obtain ⟨k,hk,hx⟩:=J0d h
 have hc:=Yk hs k
 rw [show itr (nx r) k s=(ptK r s k,hdK r s k) from rfl] at hc
 unfold rawK at hx
 dsimp only at hc
 generalize ptK r s k=p at *
 generalize hdK r s k=y at *
 have hout:¬Kg r (Kd (addC p (dirH ((y+3) % 4))) y):=by
  rcases hc with ⟨rfl,h1,h2⟩|⟨rfl,h1,h2⟩|⟨rfl,h1,h2⟩|⟨rfl,h1,h2⟩<;>simp [Kd,addC,dirH]<;>grind
 rcases Ag.1 hx with rfl|hx
 ·rcases hc.hd with rfl|rfl|rfl|rfl
  ·exact ⟨0,-1,by omega,by omega,by omega,by omega,by simp [Kd,addC,dirH] at hout ⊢;grind⟩
  ·exact ⟨1,0,by omega,by omega,by omega,by omega,by simp [Kd,addC,dirH] at hout ⊢;grind⟩
  ·exact ⟨0,1,by omega,by omega,by omega,by omega,by simp [Kd,addC,dirH] at hout ⊢;grind⟩
  ·exact ⟨-1,0,by omega,by omega,by omega,by omega,by simp [Kd,addC,dirH] at hout ⊢;grind⟩
 ·split at hx
  ·rw [Ac] at hx
   subst hx
   rcases hc.hd with rfl|rfl|rfl|rfl
   ·exact ⟨-1,-1,by omega,by omega,by omega,by omega,by simp [Kd,addC,dirH] at hout ⊢;grind⟩
   ·exact ⟨1,-1,by omega,by omega,by omega,by omega,by simp [Kd,addC,dirH] at hout ⊢;grind⟩
   ·exact ⟨1,1,by omega,by omega,by omega,by omega,by simp [Kd,addC,dirH] at hout ⊢;grind⟩
   ·exact ⟨-1,1,by omega,by omega,by omega,by omega,by simp [Kd,addC,dirH] at hout ⊢;grind⟩
  ·exact (Ak hx).elim
theorem Zr {r:Reg} {p:Cell} {x:Int} (h:Crk r p x) {c:Cell} (hc:c=Kd p x∨(nxtH r p x=(x+3) % 4∧c=addC (Kd p x) (dirH x))) :
  ∃s,Least r s∧c∈raw r s (perN r s):=by
 obtain ⟨s,k,hs,hk,e⟩:=on_ring (c:=(p,x)) h
 refine ⟨s,hs,Be.2 ⟨k,Bb.2 hk,?_⟩⟩
 have e1:ptK r s k=p:=by rw [ptK,←e]
 have e2:hdK r s k=x:=by rw [hdK,←e]
 have e3:hdK r s (k+1)=nxtH r p x:=by
  show nxtH r (ptK r s k) (hdK r s k)=_
  rw [e1,e2]
 unfold rawK
 rw [e1,e2,e3]
 rcases hc with rfl|⟨h1,rfl⟩
 ·exact Af ..
 ·rw [if_pos (show rgt x (nxtH r p x) from h1)];exact Ah _ (Ac.2 rfl)
theorem Jtn {r:Reg} {c:Cell} (h:Jxb r c):∃s,Least r s∧c∈raw r s (perN r s):=by
 classical
 obtain ⟨hin,dx,dy,h1,h2,h3,h4,hout⟩:=h
 obtain ⟨x,y⟩:=c
 dsimp only at hout
 by_cases a0:Kg r (x,y - 1)
 case neg=>exact Zr (p:=(x,y)) (x:=0) (.inl ⟨rfl,hin,a0⟩) (.inl rfl)
 by_cases a1:Kg r (x+1,y)
 case neg=>exact Zr (p:=(x+1,y)) (x:=1) (.inr (.inl ⟨rfl,by simpa using hin,a1⟩)) (.inl (by simp [Kd]))
 by_cases a2:Kg r (x,y+1)
 case neg=>exact Zr (p:=(x+1,y+1)) (x:=2) (.inr (.inr (.inl ⟨rfl,by simpa using hin,by simpa using a2⟩))) (.inl (by simp [Kd]))
 by_cases a3:Kg r (x - 1,y)
 case neg=>exact Zr (p:=(x,y+1)) (x:=3) (.inr (.inr (.inr ⟨rfl,by simpa using hin,by simpa using a3⟩))) (.inl (by simp [Kd]))
 have hd:¬Kg r (x - 1,y - 1)∨¬Kg r (x+1,y - 1)∨¬Kg r (x+1,y+1)∨¬Kg r (x - 1,y+1):=by
  have ex:dx=-1∨dx=0∨dx=1:=by omega
  have ey:dy=-1∨dy=0∨dy=1:=by omega
  rcases ex with rfl|rfl|rfl<;>rcases ey with rfl|rfl|rfl
  ·exact .inl hout
  ·exact (hout (by simpa [Bh] using a3)).elim
  ·exact .inr (.inr (.inr hout))
  ·exact (hout (by simpa [Bh] using a0)).elim
  ·exact (hout (by simpa using hin)).elim
  ·exact (hout (by simpa using a2)).elim
  ·exact .inr (.inl hout)
  ·exact (hout (by simpa using a1)).elim
  ·exact .inr (.inr (.inl hout))
 rcases hd with hd|hd|hd|hd
 ·refine Zr (p:=(x - 1,y)) (x:=0) (.inl ⟨rfl,a3,hd⟩) (.inr ⟨?_,by simp [Kd,addC,dirH]⟩)
  unfold nxtH
  dsimp only
  rw [if_neg (by simp [Crk,Qa];grind),if_neg (by simp [Crk,Qa];grind)]
 ·refine Zr (p:=(x+1,y - 1)) (x:=1) (.inr (.inl ⟨rfl,by simpa using a0,by simpa using hd⟩)) (.inr ⟨?_,by simp [Kd,addC,dirH]⟩)
  unfold nxtH
  dsimp only
  rw [if_neg (by simp [Crk,Qa];grind),if_neg (by simp [Crk,Qa];grind)]
 ·refine Zr (p:=(x+2,y+1)) (x:=2) (.inr (.inr (.inl ⟨rfl,by simp;grind,by simp;grind⟩))) (.inr ⟨?_,by simp [Kd,addC,dirH];grind⟩)
  unfold nxtH
  dsimp only
  rw [if_neg (by simp [Crk,Qa];grind),if_neg (by simp [Crk,Qa];grind)]
 ·refine Zr (p:=(x,y+2)) (x:=3) (.inr (.inr (.inr ⟨rfl,by simp;grind,by simp;grind⟩))) (.inr ⟨?_,by simp [Kd,addC,dirH];grind⟩)
  unfold nxtH
  dsimp only
  rw [if_neg (by simp [Crk,Qa];grind),if_neg (by simp [Crk,Qa];grind)]
end Go.Proofs.YtmfagdfkpjgeiaaGreat
