/- Regions in plain Lean: valid ones, their cells. Conditions: none. -/
import Derived.Test.YtmfagdfkpjgeiaaGreatXG
open Option renaming some -> AC, none -> AD
open _root_ renaming List -> AG, Int -> AI, Nat -> AM, Bool -> AN, Option -> AH, congrArg -> AT, decide_eq_false -> B0, if_neg -> AR, if_pos -> AS, decide_eq_true -> AW
open Bool renaming true -> AE, false -> AF
set_option linter.unusedVariables false
set_option linter.unusedSimpArgs false
set_option linter.unusedSectionVars false
set_option maxRecDepth 100000
open List renaming getElem?_eq_some_iff → Aa, getElem?_eq_getElem → Ab, mem_singleton → Ac, mem_append → Ad, mem_of_getElem? → Ae, mem_cons → Af, getElem?_of_mem → Ag, mem_cons_self → Ah, pairwise_iff_getElem → Ai, mem_cons_of_mem → Aj, not_mem_nil → Ak, pairwise_cons → Am, length_append → Ao, mem_append_left → Ap, map_cons → Aq, getElem?_append_left → As, pairwise_append → Au, getElem_mem → Av, getElem?_eq_none → Aw, nodup_cons → Ax, getLast?_concat → Ay, length_cons → Az, mem_iff_getElem? → Bb, pairwise_singleton → Be, take_zero → Bf, mem_range → Bg, length_pos_of_mem → Bj, range → Bk, mem_flatMap → Bl, take_append_drop → Bm, length_take → Bn, take_length → Bo, length_pos_iff → Bp, dropLast_concat_getLast → Bq, getElem?_append_right → Br, getElem?_eq_none_iff → Bs, nodup_append → Bt, drop_eq_getElem_cons → Bu, getElem_take → Bv, getLast?_eq_getElem? → Bw, getLast?_eq_none_iff → By, length_erase_of_mem → Bz, map_append → Da, pairwise_lt_range → Dc, range_succ → Dd, pairwise_flatMap → De, concat_eq_append → Df, filterMap_append → Dg, length_singleton → Dh, mem_erase_of_ne → Di, dropLast_concat → Dj, flatMap_append → Dk, mem_map → Dm
open Classical renaming byContradiction → Ar
open Nat renaming le_refl → Ba, lt_trichotomy → Bc, add_assoc → Dl
open Int renaming tmod_eq_emod_of_nonneg → Bd
open Bool renaming not_eq_true' → Bh, eq_iff_iff → Db
namespace Go.Dn
abbrev Run:=AI×AI
abbrev Row:=AI×AG Run
abbrev AQ:=AG Row
abbrev Cell:=AI×AI
abbrev Jk:=AI×(AN×AG Cell)
structure AO (lo hi:AI) (l:AG Run):Prop where
 bd:∀x∈l,lo<=x.1/\x.1<x.2/\x.2<=hi
 pw:l.Pairwise λa b=>a.2<b.1
structure AJ (r:AQ):Prop where
 y:∀w∈r,-4096<=w.1/\w.1<4096
 pw:r.Pairwise λa b=>a.1<b.1
 ne:∀w∈r,w.2≠[]
 rs:∀w∈r,AO (-4096) 4096 w.2
def Jl(l:AG Run)(x:AI):Prop:=∃u∈l,u.1<=x/\x<u.2
def J1(r:AQ)(c:Cell):Prop:=∃w∈r,w.1=c.2/\Jl w.2 c.1
def Q6(y:AI)(u:Run):AG Cell:=(rng u.1 (u.2 - u.1).toNat).map λx=>(x,y)
def CV(w:Row):AG Cell:=w.2.flatMap (Q6 w.1)
def Jq(r:AQ):AG Cell:=r.flatMap CV
def yx(a b:Cell):Prop:=a.2<b.2\/(a.2=b.2/\a.1<b.1)
theorem bg{y:AI}{u:Run}{c:Cell}:c∈Q6 y u↔c.2=y/\u.1<=c.1/\c.1<u.2:=by
 simp only [Q6,Dm,J6l];constructor
 .rintro ⟨x,hx,rfl⟩;exact ⟨rfl,by omega,by omega⟩
 .rintro ⟨rfl,d,a⟩;exact ⟨c.1,by omega,rfl⟩
theorem J02{w:Row}{c:Cell}:c∈CV w↔c.2=w.1/\Jl w.2 c.1:=by
 simp only [CV,Bl,bg,Jl];constructor
 .rintro ⟨u,a,f,d⟩;exact ⟨f,u,a,d⟩
 .rintro ⟨f,u,a,d⟩;exact ⟨u,a,f,d⟩
theorem Q5{r:AQ}{c:Cell}:c∈Jq r↔J1 r c:=by
 simp only [Jq,Bl,J02,J1];constructor
 .rintro ⟨w,a,f,d⟩;exact ⟨w,a,f.symm,d⟩
 .rintro ⟨w,a,f,d⟩;exact ⟨w,a,f.symm,d⟩
theorem AJ.bd{r:AQ}(h:AJ r){c:Cell}(f:J1 r c):-4096<=c.1/\c.1<4096/\-4096<=c.2/\c.2<4096:=by obtain ⟨w,a,e,u,d,l,g⟩:=f;have:=(h.rs w a).bd u d;have:=h.y w a;omega
theorem WI(y:AI)(u:Run):(Q6 y u).Pairwise yx:=by refine List.pairwise_map.2 ((eD _ _).imp λh=>.inr ⟨rfl,h⟩)
theorem dz{lo hi:AI}{w:Row}(h:AO lo hi w.2):(CV w).Pairwise yx:=by refine De.2 ⟨λu _=>WI _ _,h.pw.imp λ{a b} g c f d hd=>?_⟩;have f:=bg.1 f;have hd:=bg.1 hd;exact .inr ⟨by omega,by omega⟩
theorem AJ.IQ{r:AQ}(h:AJ r):(Jq r).Pairwise yx:=by refine De.2 ⟨λw g=>dz (h.rs w g),h.pw.imp λ{a b} l c f d hd=>?_⟩;have f:=J02.1 f;have hd:=J02.1 hd;exact .inl (by omega)
theorem nR(a:Cell):¬yx a a:=by unfold yx;omega
theorem J31{a b:Cell}(h:yx a b):¬yx b a:=by unfold yx at *;omega
theorem Jo1{α:Type}{R:α->α->Prop}(asy:∀a b,R a b->¬R b a):∀ {l m:AG α},l.Pairwise R->m.Pairwise R->(∀x,x∈l↔x∈m)->l=m
 | [],[],_,_,_=>rfl
 | [],y::m,_,_,h=>by have:=(h y).2 (Ah ..);cases this
 | x::l,[],_,_,h=>by have:=(h x).1 (Ah ..);cases this
 | x::l,y::m,E,B,h=>by
  obtain ⟨r,w⟩:=Am.1 E;obtain ⟨g,v⟩:=Am.1 B;have e:x=y:=by
   rcases Af.1 ((h x).1 (Ah ..)) with e|hx
   .exact e
   .rcases Af.1 ((h y).2 (Ah ..)) with e|A
    .exact e.symm
    .exact (asy _ _ (r y A) (g x hx)).elim
  subst e;have irr:∀z,¬R z z:=λz d=>asy z z d d;rw [Jo1 asy w v λz=>?_];constructor
  .intro d;rcases Af.1 ((h z).1 (Aj _ d)) with e|f
   .subst e;exact (irr _ (r _ d)).elim
   .exact f
  .intro d;rcases Af.1 ((h z).2 (Aj _ d)) with e|f
   .subst e;exact (irr _ (g _ d)).elim
   .exact f
theorem Oj{α:Type}{R:α->α->Prop}(tr:∀a b c,R a b->R b c->R a c){l:AG α}(h:∀i a b,l[i]?=AC a->l[i+1]?=AC b->R a b):l.Pairwise R:=by
 induction l with
 | nil=>exact .nil
 | cons x l g=>
  have ih':=g λi a b r m=>h (i+1) a b (by simpa using r) (by simpa using m);refine Am.2 ⟨λy d=>?_,ih'⟩;cases l with
  | nil=>cases d
  | cons z l=>
   have f:R x z:=h 0 x z rfl rfl;rcases Af.1 d with rfl|d
   .exact f
   .exact tr _ _ _ f ((Am.1 ih').1 y d)
theorem J25{α:Type}{R:α->α->Prop}{l:AG α}(h:l.Pairwise R){i:AM}{a b:α}(m:l[i]?=AC a)(g:l[i+1]?=AC b):R a b:=by have v:=(Aa.1 m);have r:=(Aa.1 g);obtain ⟨f,y⟩:=v;obtain ⟨d,w⟩:=r;have:=Ai.1 h i (i+1) f d (by omega);rwa [y,w] at this
theorem J3h{l:AG Run}(y:l.Pairwise λa b=>a.2<b.1){u v:Run}(h:u∈l)(w:v∈l):u=v\/u.2<v.1\/v.2<u.1:=by
 induction l with
 | nil=>cases h
 | cons x l r=>
  obtain ⟨g,m⟩:=Am.1 y;rcases Af.1 h with rfl|f<;>rcases Af.1 w with rfl|d
  .exact .inl rfl
  .exact .inr (.inl (g _ d))
  .exact .inr (.inr (g _ f))
  .exact r m f d
theorem AO.left{lo hi:AI}{l:AG Run}(h:AO lo hi l){u:Run}(f:u∈l):¬Jl l (u.1 - 1):=by
 rintro ⟨v,d,w,r⟩;have m:=h.bd u f;have g:=h.bd v d;have a:=h.pw;rcases J3h a f d with e|e|e
 .subst e;omega
 .omega
 .omega
theorem AO.right{lo hi:AI}{l:AG Run}(h:AO lo hi l){u:Run}(d:u∈l):¬Jl l u.2:=by
 rintro ⟨v,a,r,m⟩;have g:=h.bd u d;have f:=h.bd v a;rcases J3h h.pw d a with e|e|e
 .subst e;omega
 .omega
 .omega
theorem AJ.KD{r:AQ}(h:AJ r){w v:Row}(g:w∈r)(A:v∈r)(e:w.1=v.1):w=v:=by
 have B:=h.pw;clear h
 induction r with
 | nil=>cases g
 | cons x l y=>
  obtain ⟨f,m⟩:=Am.1 B;rcases Af.1 g with rfl|a<;>rcases Af.1 A with rfl|d
  .rfl
  .have:=f _ d;omega
  .have:=f _ a;omega
  .exact y a d m
theorem AJ.DV{r:AQ}(h:AJ r){w:Row}(a:w∈r)(x:AI):J1 r (x,w.1)↔Jl w.2 x:=by
 constructor
 .rintro ⟨v,d,e,hx⟩;rw [h.KD a d e.symm];exact hx
 .exact λhx=>⟨w,a,rfl,hx⟩
theorem Jkj{lo hi:AI}{l:AG Run}{u:Run}:AO lo hi (l++[u])↔AO lo hi l/\(lo<=u.1/\u.1<u.2/\u.2<=hi)/\∀v∈l,v.2<u.1:=by
 constructor
 .rintro ⟨a,f⟩;obtain ⟨m,B,g⟩:=Au.1 f;exact ⟨⟨λx hx=>a x (Ap _ hx),m⟩,a u (by simp),λv d=>g v d u (by simp)⟩
 .rintro ⟨⟨a,f⟩,A,y⟩;refine ⟨λx hx=>?_,Au.2 ⟨f,Be _ _,λv d w r=>?_⟩⟩
  .rcases Ad.1 hx with h|h
   .exact a x h
   .rw [Ac.1 h];exact A
  .rw [Ac.1 r];exact y v d
theorem Yw{l:AG Run}{u:Run}{x:AI}:Jl (l++[u]) x↔Jl l x\/(u.1<=x/\x<u.2):=by
 unfold Jl;constructor
 .rintro ⟨v,a,h⟩;rcases Ad.1 a with q|q
  .exact .inl ⟨v,q,h⟩
  .rw [Ac.1 q] at h;exact .inr h
 .rintro (⟨v,a,h⟩|h)
  .exact ⟨v,Ap _ a,h⟩
  .exact ⟨u,by simp,h⟩
theorem uG{l:AQ}{w:Row}:AJ (l++[w])↔AJ l/\(-4096<=w.1/\w.1<4096)/\w.2≠[]/\AO (-4096) 4096 w.2/\∀v∈l,v.1<w.1:=by
 constructor
 .rintro ⟨m,A,g,f⟩;obtain ⟨E,F,B⟩:=Au.1 A;exact ⟨⟨λx hx=>m x (Ap _ hx),E,λx hx=>g x (Ap _ hx),λx hx=>f x (Ap _ hx)⟩,m w (by simp),g w (by simp),f w (by simp),λv y=>B v y w (by simp)⟩
 .rintro ⟨⟨m,A,g,f⟩,a,b,c,d⟩;have key:∀ {P:Row->Prop},(∀x∈l,P x)->P w->∀x∈l++[w],P x:=λhl r x hx=>by
   rcases Ad.1 hx with h|h
   .exact hl x h
   .rw [Ac.1 h];exact r
  exact ⟨key m a,Au.2 ⟨A,Be _ _,λv y w' r=>by rw [Ac.1 r];exact d v y⟩,key g b,key f c⟩
theorem dB{l:AQ}{w:Row}{c:Cell}:J1 (l++[w]) c↔J1 l c\/(w.1=c.2/\Jl w.2 c.1):=by
 unfold J1;constructor
 .rintro ⟨v,a,h⟩;rcases Ad.1 a with q|q
  .exact .inl ⟨v,q,h⟩
  .rw [Ac.1 q] at h;exact .inr h
 .rintro (⟨v,a,h⟩|h)
  .exact ⟨v,Ap _ a,h⟩
  .exact ⟨w,by simp,h⟩
end Go.Dn
namespace Go.Proofs.YtmfagdfkpjgeiaaGreat
open Go Go.Vv Go.Dn Go.Dn.W
theorem Jwu(x:AI):@yu wv x=AC (decide (-4096<=x/\x<4096)):=by simp only [yu,ET,MR,Sj,decide_eq_true_eq];split<;>simp<;>omega
theorem uR{α:Type}(x:AI)(k:AN->AH α):@W.call wv α K9 x k=k (decide (-4096<=x/\x<4096)):=BM (c:=K9) (Jwu x)
theorem Jxh(x:AI×AI):@yY wv x=AC (decide (-1048576<=x.1/\x.1<=1048576/\-1048576<=x.2/\x.2<=1048576)):=by
 simp only [yY,ET,MR,KY,decide_eq_true_eq]
 (repeat' split)<;>first|exact AT AC (decide_eq_decide.2 (by omega))|exact AT AC (B0 (by omega)).symm
theorem Jqg{α:Type}(x:AI×AI)(k:AN->AH α):@W.call wv α Zj x k=k (decide (-1048576<=x.1/\x.1<=1048576/\-1048576<=x.2/\x.2<=1048576)):=BM (c:=Zj) (Jxh x)
def ZI(lo hi:AI)(l:AG Run)(i:AM):Prop:=∀x,l[i]?=AC x->lo<=x.1/\x.1<x.2/\x.2<=hi/\∀p,0<i->l[i - 1]?=AC p->p.2<x.1
theorem yR(lo hi:AI)(l:AG Run):(∀i,i<l.length->ZI lo hi l i)↔AO lo hi l:=by
 constructor
 .intro h;have key:∀(i:AM) (x:Run),l[i]?=AC x->lo<=x.1/\x.1<x.2/\x.2<=hi/\∀p,0<i->l[i - 1]?=AC p->p.2<x.1:=λi x hx=>h i (Aa.1 hx).1 x hx;refine ⟨λx hx=>?_,?_⟩
  .obtain ⟨i,hi⟩:=Bb.1 hx;have:=key i x hi;omega
  .have g:(l.Pairwise λa b=>(a.1<a.2/\b.1<b.2/\a.2<b.1)):=Oj (λa b c m f=>by omega) λi a b r d=>by have m:=key i a r;have f:=key (i+1) b d;have w:=f.2.2.2 a (by omega) (by simpa using r);omega
   exact g.imp λh=>h.2.2
 .rintro ⟨m,f⟩ i hi x hx;have d:=m x (Ae hx);refine ⟨d.1,d.2.1,d.2.2,λp v g=>?_⟩;exact J25 f g (by rwa [Nat.sub_add_cancel v])
open Classical in
theorem Jud(l:AG Run)(hl:l.length<=1000000000):@Jhm wv l=AC (decide (AO (-1048576) 1048576 l)):=by
 have g:=sW (b:=@jy wv) (bad:=.inl ()) (fin:=.inr ()) (λi=>⟨l,l,(l.length:AI),(i:AI),()⟩) l.length (by omega) (ZI (-1048576) 1048576 l) (λi hi _=>by
  have hx:=Ab hi;have y:@jy wv ⟨l,l,(l.length:AI),(i:AI),()⟩=if ZI (-1048576) 1048576 l i then AC (.go ⟨l,l,(l.length:AI),((i+1:AM):AI),()⟩) else AC (.out (.inl ())):=by
   unfold jy;dsimp only;rw [Ky (by omega),BH (fg hx)];simp only [ET,MR,jm,KY,J6,BO,Jqg,decide_eq_true_eq,Bh,decide_eq_false_iff_not];rw [wr (by omega) (by omega)];by_cases w:0<i
   .have r:=Ab (l:=l) (i:=i - 1) (by omega);rw [BH (TI (i - 1) (by rw [Yc,wr (by omega) (by omega)];omega) r)];have v:ZI (-1048576) 1048576 l i↔-1048576<=l[i].1/\l[i].1<l[i].2/\l[i].2<=1048576/\(l[i - 1]'(by omega)).2<l[i].1:=by
     constructor
     .intro h;have:=h _ hx;exact ⟨this.1,this.2.1,this.2.2.1,this.2.2.2 _ w r⟩
     .rintro ⟨a,b,c,d⟩ x f;rw [hx] at f;injection f with e;subst e;exact ⟨a,b,c,λp _ m=>by rw [r] at m;injection m with e;subst e;exact d⟩
    simp only [v]
    (repeat' split)<;>first|rfl|omega
   .have v:ZI (-1048576) 1048576 l i↔-1048576<=l[i].1/\l[i].1<l[i].2/\l[i].2<=1048576:=by
     constructor
     .intro h;have:=h _ hx;exact ⟨this.1,this.2.1,this.2.2.1⟩
     .rintro ⟨a,b,c⟩ x f;rw [hx] at f;injection f with e;subst e;exact ⟨a,b,c,λp h=>(w h).elim⟩
    simp only [v]
    (repeat' split)<;>first|rfl|omega
  rw [y];exact ⟨λh=>AS h,λh=>AR h⟩) (λ_=>by unfold jy;dsimp only;rw [J2 (by omega)])
 refine (BN g).trans ?_;by_cases h:AO (-1048576) 1048576 l
 .rw [AS ((yR _ _ _).2 h),AW h]
 .rw [AR λq=>h ((yR _ _ _).1 q),B0 h]
open Classical in
theorem ze{α:Type}{l:AG Run}(hl:l.length<=1000000000)(k:AN->AH α):@W.call wv α J7 l k=k (decide (AO (-1048576) 1048576 l)):=BM (c:=J7) (Jud l hl)
def DJ(r:AQ):Prop:=r.length<=1000000000/\∀w∈r,w.2.length<=1000000000
theorem J5u{lo hi:AI}{l:AG Run}(h:AO lo hi l){x0:Run}(d:l[0]?=AC x0):∀x∈l,x0.1<=x.1:=by
 cases l with
 | nil=>simp at d
 | cons y l=>
  simp only [List.getElem?_cons_zero,Option.some.injEq] at d;subst d;intro x hx;rcases Af.1 hx with rfl|a
  .omega
  .have:=(Am.1 h.pw).1 x a;have:=h.bd y (Ah ..);omega
theorem J6v{lo hi:AI}{l:AG Run}(h:AO lo hi l){x1:Run}(a:l[l.length - 1]?=AC x1):∀x∈l,x.2<=x1.2:=by
 intro x hx;have g:=Ae a;obtain ⟨i,hi⟩:=Bb.1 hx;obtain ⟨f,r⟩:=Aa.1 hi;obtain ⟨d,m⟩:=Aa.1 a;have v:=h.bd x1 g;by_cases e:i=l.length - 1
 .subst e;rw [hi] at a;injection a with a;subst a;omega
 .have:=Ai.1 h.pw i (l.length - 1) f d (by omega);rw [r,m] at this;omega
def ZK(r:AQ)(i:AM):Prop:=∀w,r[i]?=AC w->-4096<=w.1/\w.1<4096/\w.2≠[]/\AO (-4096) 4096 w.2/\∀p,0<i->r[i - 1]?=AC p->p.1<w.1
theorem yE(r:AQ):(∀i,i<r.length->ZK r i)↔AJ r:=by
 constructor
 .intro h;have key:∀(i:AM) (w:Row),r[i]?=AC w->-4096<=w.1/\w.1<4096/\w.2≠[]/\AO (-4096) 4096 w.2/\∀p,0<i->r[i - 1]?=AC p->p.1<w.1:=λi x hx=>h i (Aa.1 hx).1 x hx;have km:∀w∈r,-4096<=w.1/\w.1<4096/\w.2≠[]/\AO (-4096) 4096 w.2:=λw d=>by obtain ⟨i,hi⟩:=Bb.1 d;have:=key i w hi;exact ⟨this.1,this.2.1,this.2.2.1,this.2.2.2.1⟩
  exact ⟨λw d=>⟨(km w d).1,(km w d).2.1⟩,Oj (λa b c A y=>by omega) λi a b m l=>(key (i+1) b l).2.2.2.2 a (by omega) (by simpa using m),λw d=>(km w d).2.2.1,λw d=>(km w d).2.2.2⟩
 .intro h i hi w d;have f:=Ae d;exact ⟨(h.y w f).1,(h.y w f).2,h.ne w f,h.rs w f,λp v g=>J25 h.pw g (by rwa [Nat.sub_add_cancel v])⟩
theorem Jy2{l:AG Run}{x0 x1:Run}(f:l[0]?=AC x0)(d:l[l.length - 1]?=AC x1):AO (-4096) 4096 l↔AO (-1048576) 1048576 l/\(-4096<=x0.1/\x0.1<4096)/\(-4096<=x1.2 - 1/\x1.2 - 1<4096):=by
 constructor
 .intro h;have a:=h.bd x0 (Ae f);have b:=h.bd x1 (Ae d);exact ⟨⟨λx hx=>by have:=h.bd x hx;omega,h.pw⟩,by omega,by omega⟩
 .rintro ⟨h,a,b⟩;exact ⟨λx hx=>by have m:=J5u h f x hx;have g:=J6v h d x hx;have:=h.bd x hx;omega,h.pw⟩
open Classical in
theorem Jq1(r:AQ)(hl:DJ r):@Jck wv r=AC (decide (AJ r)):=by
 have g:=sW (b:=@Y5 wv) (bad:=.inl ()) (fin:=.inr ()) (λi=>⟨r,(r.length:AI),(i:AI),r,()⟩) r.length (by have:=hl.1;omega) (ZK r) (λi hi _=>by
  have hx:=Ab hi;have hL:=hl.1;have N:@Y5 wv ⟨r,(r.length:AI),(i:AI),r,()⟩=if ZK r i then AC (.go ⟨r,(r.length:AI),((i+1:AM):AI),r,()⟩) else AC (.out (.inl ())):=by
   generalize O:r[i]=w at hx;have A:=Ae hx;have hLw:=hl.2 w A;unfold Y5;dsimp only;rw [Ky (by omega),BH (fg hx)];have tail:letI:W:=wv;∀X:AH (Nx _ (Unit ⊕ Unit)),(br (cm .eql (ln w.2) 0) (AC (.out (.inl ()))) (call J7 (w.2:(AG (AI×AI))) λ(v3:AN)=>br (nt v3) (AC (.out (.inl ()))) (ge w.2 0 λv4=>call K9 (v4.1:AI) λ(v5:AN)=>br (nt v5) (AC (.out (.inl ())))
     (ge w.2 (ar .sub .i64 (ln w.2) 1) λJ=>call K9 ((ar .sub .i64 J.2 1):AI) λ(H:AN)=>br (nt H) (AC (.out (.inl ()))) X))):AH (Nx (HP (AG (AI×(AG (AI×AI)))) (HP AI (HP AI (HP (AG (AI×(AG (AI×AI)))) Unit)))) (Unit ⊕ Unit)))=if w.2≠[]/\AO (-4096) 4096 w.2 then X else AC (.out (.inl ())):=by
    intro X;cases hr:w.2 with
    | nil=>rfl
    | cons u l=>
     rw [hr] at hLw;have E:(u::l)[0]?=AC u:=rfl;have v:(u::l)[(u::l).length - 1]?=AC ((u::l)[(u::l).length - 1]'(by simp)):=Ab _;generalize ((u::l)[(u::l).length - 1]'(by simp))=x1 at v;have F:(0:AI)<((u::l).length:AI):=by simp only [Az];omega
     rw [BA (by simp only [Q3,AZ,beq_eq_false_iff_ne];omega),ze hLw];by_cases hV:AO (-1048576) 1048576 (u::l)
     .have L:=hV.bd x1 (Ae v);rw [BA (by simp [BO,hV]),BH (lG E),uR,BH (TI ((u::l).length - 1) (by rw [Yc,AZ,wr (by omega) (by omega)];omega) v),uR,Yc,wr (by omega) (by omega)];have M:=Jy2 E v;simp only [ne_eq,reduceCtorEq,not_false_iff,true_and,M,ET,BO,Bh,decide_eq_false_iff_not,hV]
      (repeat' split)<;>first|rfl|omega
     .rw [BF (by simp [BO,hV]),AR];rintro ⟨-,h⟩;exact hV ((Jy2 E v).1 h).1
   rw [tail];simp only [uR,ET,jm,KY,BO,J6,decide_eq_true_eq,Bh,decide_eq_false_iff_not];rw [wr (by omega) (by omega)];by_cases G:0<i
   .have y:=Ab (l:=r) (i:=i - 1) (by omega);generalize r[i - 1]=p at y;rw [BH (TI (i - 1) (by rw [Yc,wr (by omega) (by omega)];omega) y)];have B:ZK r i↔(-4096<=w.1/\w.1<4096)/\(w.2≠[]/\AO (-4096) 4096 w.2)/\p.1<w.1:=by
     constructor
     .intro h;have:=h _ hx;exact ⟨⟨this.1,this.2.1⟩,⟨this.2.2.1,this.2.2.2.1⟩,this.2.2.2.2 _ G y⟩
     .rintro ⟨⟨a,b⟩,⟨c,d⟩,e⟩ x f;rw [hx] at f;injection f with q;subst q;exact ⟨a,b,c,d,λK _ m=>by rw [y] at m;injection m with q;subst q;exact e⟩
    simp only [B];by_cases hT:w.2≠[]/\AO (-4096) 4096 w.2
    .simp only [hT,and_self,true_and,if_true,ne_eq,not_false_iff]
     (repeat' split)<;>first|rfl|omega
    .simp only [hT,false_and,and_false,if_false]
     (repeat' split)<;>first|rfl|omega
   .have B:ZK r i↔(-4096<=w.1/\w.1<4096)/\(w.2≠[]/\AO (-4096) 4096 w.2):=by
     constructor
     .intro h;have:=h _ hx;exact ⟨⟨this.1,this.2.1⟩,this.2.2.1,this.2.2.2.1⟩
     .rintro ⟨⟨a,b⟩,c,d⟩ x f;rw [hx] at f;injection f with q;subst q;exact ⟨a,b,c,d,λK h=>(G h).elim⟩
    simp only [B];by_cases hT:w.2≠[]/\AO (-4096) 4096 w.2
    .simp only [hT,and_self,and_true,if_true,ne_eq,not_false_iff]
     (repeat' split)<;>first|rfl|omega
    .simp only [hT,and_false,if_false]
     (repeat' split)<;>first|rfl|omega
  rw [N];exact ⟨λh=>AS h,λh=>AR h⟩) (λ_=>by unfold Y5;dsimp only;rw [J2 (by omega)])
 unfold Jck;refine (BN g).trans ?_;by_cases h:AJ r
 .rw [AS ((yE _).2 h),AW h]
 .rw [AR λq=>h ((yE _).1 q),B0 h]
open Classical in
theorem Kg{α:Type}{r:AQ}(hl:DJ r)(k:AN->AH α):@W.call wv α Je r k=k (decide (AJ r)):=BM (c:=Je) (Jq1 r hl)
open Classical in
theorem Wu(l:AG Run)(hl:l.length<=1000000000):@Yz wv l=AC (decide (l≠[]/\AO (-4096) 4096 l)):=by
 have g:=sW (b:=@Qt wv) (bad:=.inl ()) (fin:=.inr ⟨l,()⟩) (λi=>⟨l,(i:AI),()⟩) l.length (by omega) (ZI (-4096) 4096 l) (λi hi _=>by
  have hx:=Ab hi;have y:@Qt wv ⟨l,(i:AI),()⟩=if ZI (-4096) 4096 l i then AC (.go ⟨l,((i+1:AM):AI),()⟩) else AC (.out (.inl ())):=by
   generalize A:l[i]=u at hx;unfold Qt;dsimp only;simp only [BH (fg hx)];rw [AZ,Ky (by omega)];simp only [ET,MR,jm,KY,Sj,J6,decide_eq_true_eq];rw [wr (by omega) (by omega)];by_cases w:0<i
   .have r:=Ab (l:=l) (i:=i - 1) (by omega);generalize l[i - 1]=p at r;rw [BH (TI (i - 1) (by rw [Yc,wr (by omega) (by omega)];omega) r)];have v:ZI (-4096) 4096 l i↔-4096<=u.1/\u.1<u.2/\u.2<=4096/\p.2<u.1:=by
     constructor
     .intro h;have:=h _ hx;exact ⟨this.1,this.2.1,this.2.2.1,this.2.2.2 _ w r⟩
     .rintro ⟨a,b,c,d⟩ x f;rw [hx] at f;injection f with e;subst e;exact ⟨a,b,c,λp _ m=>by rw [r] at m;injection m with e;subst e;exact d⟩
    simp only [v]
    (repeat' split)<;>first|rfl|omega
   .have v:ZI (-4096) 4096 l i↔-4096<=u.1/\u.1<u.2/\u.2<=4096:=by
     constructor
     .intro h;have:=h _ hx;exact ⟨this.1,this.2.1,this.2.2.1⟩
     .rintro ⟨a,b,c⟩ x f;rw [hx] at f;injection f with e;subst e;exact ⟨a,b,c,λp h=>(w h).elim⟩
    simp only [v]
    (repeat' split)<;>first|rfl|omega
  rw [y];exact ⟨λh=>AS h,λh=>AR h⟩) (λ_=>by unfold Qt;dsimp only;rw [AZ,J2 (by omega)])
 unfold Yz;refine (BN g).trans ?_;by_cases h:AO (-4096) 4096 l
 .rw [AS ((yR _ _ _).2 h)];show AC (decide ((l.length:AI) > 0))=_
  congr 1
  rw [decide_eq_decide];cases l<;>simp [h]
 .rw [AR λq=>h ((yR _ _ _).1 q),B0 λq=>h q.2]
open Classical in
theorem gB{α:Type}{l:AG Run}(hl:l.length<=1000000000)(k:AN->AH α):@W.call wv α K8 l k=k (decide (l≠[]/\AO (-4096) 4096 l)):=BM (c:=K8) (Wu l hl)
open Classical in
theorem Jzj(r:AQ)(hl:DJ r):@Ym wv r=AC (decide (AJ r)):=by
 have g:=sW (b:=@Qo wv) (bad:=.inl ()) (fin:=.inr ()) (λi=>⟨(i:AI),r,()⟩) r.length (by have:=hl.1;omega) (ZK r) (λi hi _=>by
  have hx:=Ab hi;have hL:=hl.1;have E:@Qo wv ⟨(i:AI),r,()⟩=if ZK r i then AC (.go ⟨((i+1:AM):AI),r,()⟩) else AC (.out (.inl ())):=by
   generalize F:r[i]=w at hx;have hLw:=hl.2 w (Ae hx);unfold Qo;dsimp only;simp only [BH (fg hx)];rw [AZ,Ky (by omega)];simp only [ET,MR,jm,KY,Sj,J6,BO,gB hLw,decide_eq_true_eq,Bh,decide_eq_false_iff_not];rw [wr (by omega) (by omega)];by_cases A:0<i
   .have v:=Ab (l:=r) (i:=i - 1) (by omega);generalize r[i - 1]=p at v;rw [BH (TI (i - 1) (by rw [Yc,wr (by omega) (by omega)];omega) v)];have y:ZK r i↔(-4096<=w.1/\w.1<4096)/\(w.2≠[]/\AO (-4096) 4096 w.2)/\p.1<w.1:=by
     constructor
     .intro h;have:=h _ hx;exact ⟨⟨this.1,this.2.1⟩,⟨this.2.2.1,this.2.2.2.1⟩,this.2.2.2.2 _ A v⟩
     .rintro ⟨⟨a,b⟩,⟨c,d⟩,e⟩ x f;rw [hx] at f;injection f with q;subst q;exact ⟨a,b,c,d,λB _ m=>by rw [v] at m;injection m with q;subst q;exact e⟩
    simp only [y];by_cases hT:w.2≠[]/\AO (-4096) 4096 w.2
    .simp only [hT,and_self,true_and,if_true,ne_eq,not_false_iff,not_true_eq_false,if_false]
     (repeat' split)<;>first|rfl|omega
    .simp only [hT,false_and,and_false,if_false,not_false_iff,if_true]
     (repeat' split)<;>first|rfl|omega
   .have y:ZK r i↔(-4096<=w.1/\w.1<4096)/\(w.2≠[]/\AO (-4096) 4096 w.2):=by
     constructor
     .intro h;have:=h _ hx;exact ⟨⟨this.1,this.2.1⟩,this.2.2.1,this.2.2.2.1⟩
     .rintro ⟨⟨a,b⟩,c,d⟩ x f;rw [hx] at f;injection f with q;subst q;exact ⟨a,b,c,d,λB h=>(A h).elim⟩
    simp only [y];by_cases hT:w.2≠[]/\AO (-4096) 4096 w.2
    .simp only [hT,and_self,and_true,if_true,ne_eq,not_false_iff,not_true_eq_false,if_false]
     (repeat' split)<;>first|rfl|omega
    .simp only [hT,and_false,if_false,not_false_iff,if_true]
     (repeat' split)<;>first|rfl|omega
  rw [E];exact ⟨λh=>AS h,λh=>AR h⟩) (λ_=>by unfold Qo;dsimp only;rw [AZ,J2 (by omega)])
 unfold Ym;refine (BN g).trans ?_;by_cases h:AJ r
 .rw [AS ((yE _).2 h),AW h]
 .rw [AR λq=>h ((yE _).1 q),B0 h]
open Classical in
theorem Jox{α:Type}{r:AQ}(hl:DJ r)(k:AN->AH α):@W.call wv α K2 r k=k (decide (AJ r)):=BM (c:=K2) (Jzj r hl)
def Mt(r:AQ)(y:AI):AG Run:=match r.find? (λw=>w.1==y) with|some w=>w.2|none=>[]
theorem Jym{r:AQ}(h:AJ r)(c:Cell):Jl (Mt r c.2) c.1↔J1 r c:=by
 unfold Mt;cases d:r.find? λw=>w.1==c.2 with
 | none=>
  constructor
  .rintro ⟨u,f,-⟩;cases f
  .rintro ⟨w,a,e,-⟩;have:=List.find?_eq_none.1 d w a;simp [e] at this
 | some w=>
  have a:=List.mem_of_find?_eq_some d;have e:w.1=c.2:=by have:=List.find?_some d;simpa using this
  have:=h.DV a c.1;rw [e] at this;exact this.symm
theorem KJ{α:Type}{b:AM}{n:AI}{x:AH α}(h:n<=1000000001)(d:0<=n)(a:b<=64):@W.gd wv α (@W.ft wv b n) x=x:=by refine aN ⟨?_,by omega⟩;have:n * (b:AI)<=1000000001 * 64:=Int.mul_le_mul h (by omega) (by omega) (by omega);unfold room;omega
theorem GI{α:Type}{n:AI}{x:AH α}(h:n<=1000000001)(a:0<=n):@W.gd wv α (@W.ft wv 16 n) x=x:=KJ h a (by decide)
theorem TQ{α:Type}{n:AI}{x:AH α}(h:n<=1000000001)(a:0<=n):@W.gd wv α (@W.ft wv 40 n) x=x:=KJ h a (by decide)
theorem aZ{α:Type}{n:AI}{x:AH α}(h:n<=1000000001)(a:0<=n):@W.gd wv α (@W.ft wv 32 n) x=x:=KJ h a (by decide)
theorem Za(y:AI)(u:Run):(Q6 y u).length=(u.2 - u.1).toNat:=by simp [Q6,sD]
theorem yT(y a:AI)(n:AM):((rng a (n+1)).map λx=>((x,y):Cell))=((rng a n).map λx=>((x,y):Cell))++[(a+(n:AI),y)]:=by rw [OP,Da];rfl
theorem Kbh{w:Row}{k:AM}{u:Run}(h:w.2[k]?=AC u):(w.2.take (k+1)).flatMap (Q6 w.1)=(w.2.take k).flatMap (Q6 w.1)++Q6 w.1 u:=ZP h
theorem Jng{α β:Type}(f:α->AG β)(l:AG α)(k:AM):((l.take k).flatMap f).length<=(l.flatMap f).length:=by
 conv=>rhs;rw [<-Bm k l,Dk,Ao]
 omega
theorem Yv{α β:Type}(f:α->AG β){l:AG α}{x:α}{k:AM}(h:l[k]?=AC x):((l.take k).flatMap f).length+(f x).length<=(l.flatMap f).length:=by have:=Jng f l (k+1);rw [ZP h,Ao] at this;exact this
theorem J2c{r:AQ}{w:Row}{u:Run}{i k:AM}(a:r[i]?=AC w)(d:w.2[k]?=AC u):((r.take i).flatMap CV).length+((w.2.take k).flatMap (Q6 w.1)).length+(Q6 w.1 u).length<=(Jq r).length:=by have g:=Yv CV a;have f:=Yv (Q6 w.1) d;unfold Jq;have:(CV w).length=(w.2.flatMap (Q6 w.1)).length:=rfl;omega
structure Ic (l:AG Run):Prop where
 bd:∀u∈l,u.1<u.2
 pw:l.Pairwise λa b=>a.2<b.1
theorem nH{lo hi:AI}{l:AG Run}(h:Ic l)(d:∀x,Jl l x->lo<=x/\x<hi):AO lo hi l:=by refine ⟨λu a=>?_,h.pw⟩;have m:=h.bd u a;have g:=d u.1 ⟨u,a,by omega,by omega⟩;have f:=d (u.2 - 1) ⟨u,a,by omega,by omega⟩;omega
theorem AO.norm{lo hi:AI}{l:AG Run}(h:AO lo hi l):Ic l:=⟨λu a=>(h.bd u a).2.1,h.pw⟩
theorem uN{l:AG Run}{u:Run}:Ic (l++[u])↔Ic l/\u.1<u.2/\∀v∈l,v.2<u.1:=by
 constructor
 .rintro ⟨a,f⟩;obtain ⟨m,B,g⟩:=Au.1 f;exact ⟨⟨λx hx=>a x (Ap _ hx),m⟩,a u (by simp),λv d=>g v d u (by simp)⟩
 .rintro ⟨⟨a,f⟩,A,y⟩;refine ⟨λx hx=>?_,Au.2 ⟨f,Be _ _,λv d w r=>?_⟩⟩
  .rcases Ad.1 hx with h|h
   .exact a x h
   .rw [Ac.1 h];exact A
  .rw [Ac.1 r];exact y v d
def bnd(l:AG Run)(i:AM):AI:=match l[i / 2]? with
 | some u=>if i % 2=1 then u.2 else u.1
 | none=>1048577
theorem VJ(l:AG Run)(i:AM)(hl:l.length<=1000000000):@jg wv (l,(i:AI))=AC (decide (i=2 * l.length)):=by unfold jg;dsimp only;rw [Q3,vI,AZ,wr (by omega) (by omega)];refine AT AC ?_;rw [Db,beq_iff_eq,decide_eq_true_eq];omega
theorem ZE{α:Type}{l:AG Run}{i:AM}(hl:l.length<=1000000000)(k:AN->AH α):@W.call wv α J0 ((l,(i:AI)):AG (AI×AI)×AI) k=k (decide (i=2 * l.length)):=BM (c:=J0) (VJ l i hl)
theorem gJ(l:AG Run)(i:AM):@Y1 wv (l,(i:AI))=AC (decide (i % 2=1)):=by unfold Y1;dsimp only;rw [Cy (by rfl),oO,Q3,Bd (by omega)];refine AT AC ?_;rw [Db,beq_iff_eq,decide_eq_true_eq];omega
theorem vN{α:Type}{l:AG Run}{i:AM}(k:AN->AH α):@W.call wv α Js ((l,(i:AI)):AG (AI×AI)×AI) k=k (decide (i % 2=1)):=BM (c:=Js) (gJ l i)
theorem VX(l:AG Run)(i:AM)(hl:l.length<=1000000000)(hi:i<=2 * l.length):@jd wv (l,(i:AI))=AC (bnd l i):=by
 unfold jd;dsimp only;rw [ZE hl];by_cases h:i=2 * l.length
 .rw [BF (AW h)];have:l[i / 2]?=AD:=Aw (by omega);simp only [bnd,this]
 .rw [BA (B0 h),vN];have hx:=Ab (l:=l) (i:=i / 2) (by omega);have d:@W.ar wv .quo .i64 (i:AI) 2=((i / 2:AM):AI):=by rw [Nb,Int.tdiv_eq_ediv_of_nonneg (by omega),wr (by omega) (by omega)];omega
  simp only [bnd,hx];by_cases a:i % 2=1
  .rw [BF (AW a),Cy (by rfl),d,BH (fg hx),AS a]
  .rw [BA (B0 a),Cy (by rfl),d,BH (fg hx),AR a]
theorem bK{α:Type}{l:AG Run}{i:AM}(hl:l.length<=1000000000)(hi:i<=2 * l.length)(k:AI->AH α):@W.call wv α Ju ((l,(i:AI)):AG (AI×AI)×AI) k=k (bnd l i):=BM (c:=Ju) (VX l i hl hi)
def At(l:AG Run)(p:AI)(i:AM):Prop:=i<=2 * l.length/\(∀k,k<i->bnd l k<=p)/\∀k,i<=k->p<bnd l k\/2 * l.length<=k
theorem kN{l:AG Run}{p:AI}{i:AM}(h:At l p i):Jl l p↔i % 2=1:=by
 obtain ⟨F,v,r⟩:=h;have m:∀q u,l[q]?=AC u->bnd l (2 * q)=u.1/\bnd l (2 * q+1)=u.2:=λq u d=>by
  constructor
  .simp only [bnd,show 2 * q / 2=q by omega,d];rw [AR (by omega)]
  .simp only [bnd,show (2 * q+1) / 2=q by omega,d];rw [AS (by omega)]
 constructor
 .rintro ⟨u,d,a,b⟩;obtain ⟨q,g⟩:=Bb.1 d;have f:=(Aa.1 g).1;obtain ⟨y,w⟩:=m q u g;by_cases B:i<=2 * q
  .have:=r (2 * q) B;omega
  .by_cases A:2 * q+1<i
   .have:=v (2 * q+1) A;omega
   .omega
 .intro E;have f:i / 2<l.length:=by omega
  have d:=Ab f;obtain ⟨y,w⟩:=m (i / 2) _ d;have H:=v (2 * (i / 2)) (by omega);have G:=r (2 * (i / 2)+1) (by omega);exact ⟨_,Ae d,by omega,by omega⟩
theorem SB{lo hi:AI}{l:AG Run}(h:AO lo hi l){i:AM}(g:i+1<2 * l.length):bnd l i<bnd l (i+1):=by
 have a:=Ab (l:=l) (i:=i / 2) (by omega);have d:=Ab (l:=l) (i:=(i+1) / 2) (by omega);simp only [bnd,a,d];by_cases f:i % 2=1
 .rw [AS f,AR (by omega)];have e:(i+1) / 2=i / 2+1:=by omega
  have:=J25 h.pw a (by rw [<-e];exact d);exact this
 .rw [AR f,AS (by omega)];have e:(i+1) / 2=i / 2:=by omega
  simp only [e];exact (h.bd _ (Ae a)).2.1
theorem bM{l:AG Run}(h:AO (-1048576) 1048576 l)(i:AM):-1048576<=bnd l i/\bnd l i<=1048577:=by
 unfold bnd;split
 .rename_i u a;have:=h.bd u (Ae a);split<;>omega
 .omega
theorem J3c{l:AG Run}(h:AO (-1048576) 1048576 l):∀ {i k:AM},i<k->k<2 * l.length->bnd l i<bnd l k
 | i,0,d,_=>by omega
 | i,k+1,d,a=>by
  have:=SB h a;by_cases e:i=k
  .subst e;exact this
  .have:=J3c h (i:=i) (k:=k) (by omega) (by omega);omega
theorem wZ{l:AG Run}(h:AO (-1048576) 1048576 l){p m:AI}{i:AM}(g:At l p i)(F:m<=bnd l i)(y:p<m)(A:m<1048577):At l m (if bnd l i=m then i+1 else i)/\∀x,p<=x->x<m->(Jl l x↔i % 2=1):=by
 have E:=g;obtain ⟨r,f,G⟩:=g;refine ⟨?_,λx w v=>kN ⟨r,λk a=>by have:=f k a;omega,λk a=>?_⟩⟩
 .by_cases e:bnd l i=m
  .rw [AS e];have B:i<2 * l.length:=by
    by_cases q:i<2 * l.length
    .exact q
    .have:l[i / 2]?=AD:=Aw (by omega);simp only [bnd,this] at e;omega
   refine ⟨by omega,λk a=>?_,λk a=>?_⟩
   .by_cases q:k=i
    .subst q;omega
    .have:=f k (by omega);omega
   .by_cases q:2 * l.length<=k
    .exact .inr q
    .left;have:=J3c h (i:=i) (k:=k) (by omega) (by omega);omega
  .rw [AR e];refine ⟨r,λk a=>by have:=f k a;omega,λk a=>?_⟩;by_cases q:2 * l.length<=k
   .exact .inr q
   .left;by_cases d:k=i
    .subst d;omega
    .have:=J3c h (i:=i) (k:=k) (by omega) (by omega);omega
 .by_cases q:2 * l.length<=k
  .exact .inr q
  .left;by_cases d:k=i
   .subst d;omega
   .have:=J3c h (i:=i) (k:=k) (by omega) (by omega);omega
def wG(was:AN)(a:AG Run)(i:AM)(b:AG Run)(j:AM)(out:AG Run):HP AN (HP (AG (AI×AI)) (HP AI (HP (AG (AI×AI)) (HP AI (HP (AG (AI×AI)) Unit))))):=
 let m:=min (bnd a i) (bnd b j);let f:=if bnd a i=m then i+1 else i;let d:=if bnd b j=m then j+1 else j;let now:=decide (f % 2=1)&&!decide (d % 2=1)
 ⟨now,a,(f:AI),b,(d:AI),if now=AE/\was=AF then out++[(m,0)] else if now=AF/\was=AE then Qf out (λu=>(u.1,m)) else out,()⟩
theorem Jqr{l:AG Run}(a:l≠[])(m:AI):∃v,l[l.length - 1]?=AC v/\l.set (l.length - 1) (v.1,m)=Qf l λu=>(u.1,m):=by
 obtain ⟨r,v,rfl⟩:∃r v,l=r++[v]:=by
  rcases l.eq_nil_or_concat with rfl|⟨r,v,e⟩
  .exact (a rfl).elim
  .exact ⟨r,v,by rw [e,Df]⟩
 have e:(r++[v]).length - 1=r.length:=by simp
 rw [e];exact ⟨v,ZN r v,by rw [jN,Qi]⟩
theorem PX(x y:AI):@W.mn wv x y=min x y:=by rw [om];omega
theorem Ns(was:AN)(a b out:AG Run)(i j:AM)(A:a.length<=1000000000)(y:b.length<=1000000000)(hi:i<=2 * a.length)(L:j<=2 * b.length)(Q:out.length<=1000000000)(H:was=AE->out≠[])(l:¬(i=2 * a.length/\j=2 * b.length)) :
  @Xj wv ⟨was,a,(i:AI),b,(j:AI),out,()⟩=AC (.go (wG was a i b j out)):=by
 have N:@Yl wv ⟨was,a,(i:AI),b,(j:AI),out,()⟩=AC (.inl ⟨was,a,(i:AI),b,(j:AI),out,()⟩):=by
  unfold Yl;dsimp only;rw [ZE A];by_cases B:i=2 * a.length
  .rw [BA (by simp [BO,B]),ZE y,BF (by simp [BO];exact λq=>l ⟨B,q⟩)]
  .rw [BF (by simp [BO,B])]
 generalize K:min (bnd a i) (bnd b j)=m;have G:@Jbe wv ⟨was,a,(i:AI),b,(j:AI),out,()⟩ (bnd a i) (bnd b j)=AC ⟨was,m,a,((if bnd a i=m then i+1 else i:AM):AI),b,(j:AI),out,()⟩:=by
  unfold Jbe;dsimp only;rw [bK A hi,PX,K,J6,wr (by omega) (by omega)];by_cases c:bnd a i=m
  .rw [BF (by rw [Q3];simp [c]),AS c];rfl
  .rw [BA (by rw [Q3];simp [c]),AR c]
 generalize w:(if bnd a i=m then i+1 else i)=d at G;have F:@Jbk wv ⟨was,m,a,(d:AI),b,(j:AI),out,()⟩=AC ⟨was,m,a,(d:AI),b,((if bnd b j=m then j+1 else j:AM):AI),out,()⟩:=by
  unfold Jbk;dsimp only;rw [bK y L,J6,wr (by omega) (by omega)];by_cases c:bnd b j=m
  .rw [BF (by rw [Q3];simp [c]),AS c];rfl
  .rw [BA (by rw [Q3];simp [c]),AR c]
 generalize r:(if bnd b j=m then j+1 else j)=f at F;have E:@Jbm wv ⟨was,m,a,(d:AI),b,(f:AI),out,()⟩=AC ⟨was,m,decide (d % 2=1)&&!decide (f % 2=1),a,(d:AI),b,(f:AI),out,()⟩:=by
  unfold Jbm;dsimp only;rw [vN,vN];by_cases c:d % 2=1
  .rw [BF (by simp [c])];simp [c,BO]
  .rw [BA (by simp [c])];simp [c]
 generalize g:(decide (d % 2=1)&&!decide (f % 2=1))=now at E;have h:∀ {α:Type} (x:AH α),@W.gd wv α (@W.ft wv 16 (@W.pl wv (@W.ln wv (AI×AI) out) 1)) x=x:=λx=>by rw [AZ,BZ];exact GI (by omega) (by omega)
 have M:@Jbr wv ⟨was,m,now,a,(d:AI),b,(f:AI),out,()⟩=AC ⟨now,a,(d:AI),b,(f:AI),if now=AE/\was=AF then out++[(m,0)] else if now=AF/\was=AE then Qf out (λu=>(u.1,m)) else out,()⟩:=by
  unfold Jbr;dsimp only;rw [h];have nt1:@W.nt wv AE=AF:=rfl;have nt0:@W.nt wv AF=AE:=rfl;cases now with
  | true=>
   cases was with
   | true=>rw [nt1,BF rfl,BA rfl,BA rfl,AR (by simp),AR (by simp)]
   | false=>rw [nt0,BF rfl,BF rfl,AS (by simp),DL]
  | false=>
   cases was with
   | false=>rw [nt0,BA rfl,BF rfl,BA rfl,AR (by simp),AR (by simp)]
   | true=>
    have J:=Bp.2 (H rfl);obtain ⟨v,O,P⟩:=Jqr (H rfl) m;rw [nt0,BA rfl,BF rfl,BF rfl,AZ,Yc,wr (by omega) (by omega),Fj ⟨by omega,by omega⟩,BH (TI (out.length - 1) (by omega) O),AR (by simp),AS (by simp),FM,show ((out.length:AI) - 1).toNat=out.length - 1 by omega,P]
 unfold Xj;rw [HV N];dsimp only;rw [bK A hi,bK y L,HV G,HV F,HV E,HV M];unfold wG;dsimp only;rw [K,w,r,g]
def iQ(a b:AG Run)(p:AI)(was:AN)(i j:AM)(out:AG Run):Prop:=
 At a p i/\At b p j/\was=(decide (i % 2=1)&&!decide (j % 2=1)) /\
 ((was=AF/\Ic out/\(∀u∈out,u.2<=p)/\∀x,x<p->(Jl out x↔Jl a x/\¬Jl b x)) \/
  ∃(o:AG Run) (s z:AI),out=o++[(s,z)]/\was=AE/\s<=p/\Ic o/\(∀u∈o,u.2<s)/\(∀x,x<s->(Jl o x↔Jl a x/\¬Jl b x))/\∀x,s<=x->x<=p->Jl a x/\¬Jl b x)
theorem UA{a b:AG Run}(R:AO (-1048576) 1048576 a)(Q:AO (-1048576) 1048576 b){p:AI}{was:AN}{i j:AM}{out:AG Run}(hI:iQ a b p was i j out)(N:¬(i=2 * a.length/\j=2 * b.length)) :
  ∃m,p<m/\∃(was':AN) (H G:AM) (out':AG Run),wG was a i b j out=⟨was',a,(H:AI),b,(G:AI),out',()⟩/\iQ a b m was' H G out'/\i+j<H+G/\out'.length<=out.length+1:=by
 obtain ⟨hA,hB,Z,hO⟩:=hI;have B:min (bnd a i) (bnd b j)<1048577:=by
  have Y:i<2 * a.length->bnd a i<1048577:=λq=>by have d:=Ab (l:=a) (i:=i / 2) (by omega);have:=R.bd _ (Ae d);simp only [bnd,d];split<;>omega
  have F:j<2 * b.length->bnd b j<1048577:=λq=>by have d:=Ab (l:=b) (i:=j / 2) (by omega);have:=Q.bd _ (Ae d);simp only [bnd,d];split<;>omega
  have w:=hA.1;have E:=hB.1;have L:i<2 * a.length\/j<2 * b.length:=by omega
  rcases L with L|L
  .have:=Y L;omega
  .have:=F L;omega
 have hp1:p<bnd a i:=by
  rcases hA.2.2 i (Ba _) with h|h
  .exact h
  .have e:a[i / 2]?=AD:=Aw (by omega);have:p<1048577:=by
    have q:At b p j:=hB;by_cases F:j<2 * b.length
    .rcases hB.2.2 j (Ba _) with h'|h'
     .have:=bM Q j;omega
     .omega
    .exact (N ⟨by have:=hA.1;omega,by have:=hB.1;omega⟩).elim
   simp only [bnd,e];exact this
 have hp2:p<bnd b j:=by
  rcases hB.2.2 j (Ba _) with h|h
  .exact h
  .have e:b[j / 2]?=AD:=Aw (by omega);have:p<1048577:=by have:=bM R i;omega
   simp only [bnd,e];exact this
 generalize A:min (bnd a i) (bnd b j)=m at B;have y:p<m:=by omega
 obtain ⟨hA',hAx⟩:=wZ R hA (m:=m) (by omega) y B;obtain ⟨hB',hBx⟩:=wZ Q hB (m:=m) (by omega) y B;refine ⟨m,y,_,_,_,_,by unfold wG;rw [A],?_,?_,?_⟩
 .refine ⟨hA',hB',rfl,?_⟩;have hAm:=kN hA';have hBm:=kN hB';generalize (if bnd a i=m then i+1 else i)=H at *
  generalize (if bnd b j=m then j+1 else j)=G at *
  have hD:∀x,p<=x->x<m->(Jl a x/\¬Jl b x↔was=AE):=λx w E=>by rw [hAx x w E,hBx x w E,Z];simp
  have hDm:Jl a m/\¬Jl b m↔(decide (H % 2=1)&&!decide (G % 2=1))=AE:=by rw [hAm,hBm];simp
  generalize (decide (H % 2=1)&&!decide (G % 2=1))=now at *
  rcases hO with ⟨M,K,g,J⟩|⟨o,s,z,rfl,M,hs,K,g,J,X⟩
  .subst M;cases now with
   | false=>
    left;rw [AR (by simp),AR (by simp)];refine ⟨rfl,K,λu d=>by have:=g u d;omega,λx hx=>?_⟩;by_cases q:x<p
    .exact J x q
    .rw [hD x (by omega) hx];refine ⟨λ⟨u,d,w,E⟩=>by have:=g u d;omega,λh=>by simp at h⟩
   | true=>
    right;rw [AS (by simp)];refine ⟨out,m,0,rfl,rfl,Int.le_refl _,K,λu d=>by have:=g u d;omega,λx hx=>?_,λx w E=>?_⟩
    .by_cases q:x<p
     .exact J x q
     .rw [hD x (by omega) hx];refine ⟨λ⟨u,d,w,E⟩=>by have:=g u d;omega,λh=>by simp at h⟩
    .have:x=m:=by omega
     subst this;exact hDm.2 rfl
  .subst M;cases now with
   | true=>
    right;rw [AR (by simp),AR (by simp)];refine ⟨o,s,z,rfl,rfl,by omega,K,g,J,λx w E=>?_⟩;by_cases q:x<=p
    .exact X x w q
    .by_cases F:x=m
     .subst F;exact hDm.2 rfl
     .exact (hD x (by omega) (by omega)).2 rfl
   | false=>
    left;rw [AR (by simp),AS (by simp),Qi];refine ⟨rfl,uN.2 ⟨K,by dsimp only;omega,g⟩,λu d=>?_,λx hx=>?_⟩
    .rcases Ad.1 d with h|h
     .have:=g u h;omega
     .rw [Ac.1 h];exact Int.le_refl _
    .rw [Yw];dsimp only;by_cases q:x<s
     .rw [J x q];exact ⟨λh=>h.resolve_right λh=>by omega,.inl⟩
     .have P:Jl a x/\¬Jl b x:=by
       by_cases F:x<=p
       .exact X x (by omega) F
       .exact (hD x (by omega) hx).2 rfl
      exact ⟨λ_=>P,λ_=>.inr ⟨by omega,hx⟩⟩
 .by_cases q:bnd a i=m
  .rw [AS q];split<;>omega
  .have:bnd b j=m:=by omega
   rw [AS this];split<;>omega
 .have O:∀(l:AG Run) (f:Run->Run),(Qf l f).length=l.length:=λl f=>by
   rcases l.eq_nil_or_concat with rfl|⟨r,v,rfl⟩
   .rfl
   .rw [Df,Qi];simp
  have key:∀nw ws:AN,(if nw=AE/\ws=AF then out++[(m,0)] else if nw=AF/\ws=AE then Qf out (λu=>(u.1,m)) else out).length<=out.length+1:=λnw ws=>by cases nw<;>cases ws<;>simp [O]
  exact key _ _
theorem Nt(a b:AG Run)(P:a.length<=100000000)(O:b.length<=100000000)(r:AO (-1048576) 1048576 a)(w:AO (-1048576) 1048576 b) :
  ∃e,Qm (@Xj wv) CK ⟨AF,a,0,b,0,[],()⟩=AC e/\Ic e.e/\∀x,Jl e.e x↔Jl a x/\¬Jl b x:=by
 refine tV (b:=@Xj wv) (λs=>∃(p:AI) (was:AN) (i j:AM) (out:AG Run),s=⟨was,a,(i:AI),b,(j:AI),out,()⟩/\iQ a b p was i j out/\out.length<=i+j)
  (λe=>Ic e.e/\∀x,Jl e.e x↔Jl a x/\¬Jl b x) (λs=>(2 * (a.length:AI)+2 * (b.length:AI) - s.j.j.e - s.j.j.j.j.e).toNat) ?_ ⟨-1048577,AF,0,0,[],rfl,⟨⟨by omega,by omega,λk h=>?_⟩,⟨by omega,by omega,λk h=>?_⟩,rfl,.inl ⟨rfl,⟨by simp,.nil⟩,by simp,λx hx=>?_⟩⟩,by simp⟩ (by dsimp only;omega)
 .rintro s ⟨p,was,i,j,out,rfl,hI,Y⟩;have B:=hI.1.1;have A:=hI.2.1.1;by_cases d:i=2 * a.length/\j=2 * b.length
  .right;obtain ⟨rfl,rfl⟩:=d;have H:@Yl wv ⟨was,a,((2 * a.length:AM):AI),b,((2 * b.length:AM):AI),out,()⟩=AC (.inr ⟨out,()⟩):=by unfold Yl;dsimp only;rw [ZE (by omega),BA (by simp [BO]),ZE (by omega),BA (by simp [BO])]
   unfold Xj;rw [HV H];refine ⟨_,rfl,?_⟩;obtain ⟨hA,hB,L,hO⟩:=hI;have l:was=AF:=by rw [L];simp
   rcases hO with ⟨f,G,F,E⟩|⟨o,s,z,rfl,f,-⟩
   .refine ⟨G,λx=>?_⟩;by_cases q:x<p
    .exact E x q
    .refine ⟨λ⟨u,g,y,Q⟩=>by have:=F u g;omega,λ⟨y,Q⟩=>?_⟩;have:At a x (2 * a.length):=⟨Ba _,λk h=>by have:=hA.2.1 k h;omega,λk h=>.inr h⟩;have:=(kN this).1 y;omega
   .rw [l] at f;cases f
  .left;obtain ⟨m,M,was',K,J,out',e,hI',N,v⟩:=UA r w hI d;refine ⟨_,Ns was a b out i j (by omega) (by omega) B A (by omega) (λq=>?_) d,?_,?_⟩
   .rcases hI.2.2.2 with ⟨f,-⟩|⟨o,s,z,rfl,-⟩
    .rw [f] at q;cases q
    .simp
   .rw [e];exact ⟨m,was',K,J,out',rfl,hI',by omega⟩
   .rw [e];have X:=hI'.1.1;have R:=hI'.2.1.1;dsimp only;omega
 .by_cases q:2 * a.length<=k
  .exact .inr q
  .left;have:=bM r k;omega
 .by_cases q:2 * b.length<=k
  .exact .inr q
  .left;have:=bM w k;omega
 .constructor
  .rintro ⟨u,g,-⟩;cases g
  .rintro ⟨⟨u,g,B,A⟩,-⟩;have:=r.bd u g;omega
open Classical in
theorem Jkd(a b:AG Run)(f:a.length<=100000000)(d:b.length<=100000000)(h:AO (-1048576) 1048576 a)(g:AO (-1048576) 1048576 b) :
  ∃l,@j8 wv (a,b)=AC l/\Ic l/\∀x,Jl l x↔Jl a x/\¬Jl b x:=by obtain ⟨e,m,v,r⟩:=Nt a b f d h g;refine ⟨e.e,?_,v,r⟩;unfold j8;dsimp only;rw [ze (by omega),BA (by simp [BO,h]),ze (by omega),BA (by simp [BO,g])];exact BN m
def grid(c:Cell):Prop:=-4096<=c.1/\c.1<4096/\-4096<=c.2/\c.2<4096
instance (c:Cell):Decidable (grid c):=by unfold grid;exact inferInstance
def nb(a b:Cell):Prop:=(a.1 - b.1) * (a.1 - b.1)+(a.2 - b.2) * (a.2 - b.2)=1
instance (a b:Cell):Decidable (nb a b):=by unfold nb;exact inferInstance
theorem J6x(c:Cell):@Jcs wv c=AC (decide (grid c)):=by
 simp only [Jcs,ET,MR,Sj,decide_eq_true_eq]
 (repeat' split)<;>first|exact AT AC (decide_eq_decide.2 (by unfold grid;omega))|exact AT AC (B0 (by unfold grid;omega)).symm
theorem QD{α:Type}(c:Cell)(k:AN->AH α):@W.call wv α Zu ((c.1,c.2):AI×AI) k=k (decide (grid c)):=BM (c:=Zu) (J6x c)
theorem Lv{d:AI}(g:-100000<=d)(f:d<=100000):0<=d * d/\d * d<=10000000000:=by have e:d * d=((d.natAbs * d.natAbs:AM):AI):=(Int.natAbs_mul_self (a:=d)).symm;have:d.natAbs * d.natAbs<=100000 * 100000:=Nat.mul_le_mul (by omega) (by omega);omega
theorem Jyg(a b:Cell)(g:grid a)(f:grid b):@zt wv (a,b)=AC (decide (nb a b)):=by
 unfold grid at g f;have l:=Lv (d:=a.1 - b.1) (by omega) (by omega);have h:=Lv (d:=a.2 - b.2) (by omega) (by omega);unfold zt;dsimp only;simp only [J6,vI,Yc,Q3];rw [wr (n:=a.1 - b.1) (by omega) (by omega),wr (n:=a.2 - b.2) (by omega) (by omega),wr (n:=(a.1 - b.1) * (a.1 - b.1)) (by omega) (by omega),wr (n:=(a.2 - b.2) * (a.2 - b.2)) (by omega) (by omega),wr (by omega) (by omega)]
 congr 1
theorem Jpj{α:Type}{a b:Cell}(f:grid a)(d:grid b)(k:AN->AH α):@W.call wv α Xd (((a.1,a.2),(b.1,b.2)):(AI×AI)×(AI×AI)) k=k (decide (nb a b)):=BM (c:=Xd) (Jyg a b f d)
def YU(l:AG Cell)(i:AM):Prop:=∀c,l[i]?=AC c->grid c/\∀p,0<i->l[i - 1]?=AC p->nb p c
def VT(t:Jk):Prop:=(1<=t.1/\t.1<=7)/\(1<=t.2.2.length/\t.2.2.length<=65536)/\(∀i,i<t.2.2.length->YU t.2.2 i)/\(t.2.1=AE->t.2.2.length=1\/∀a b,t.2.2[t.2.2.length - 1]?=AC a->t.2.2[0]?=AC b->nb a b)
open Classical in
theorem Jrx(t:Jk):@Jdi wv t=AC (decide (VT t)):=by
 obtain ⟨role,closed,l⟩:=t;unfold Jdi;dsimp only;simp only [AZ];by_cases J:1<=role/\role<=7
 case neg=>
  rw [B0 λq:VT _=>J q.1];simp only [ET,Sj,jm,decide_eq_true_eq];by_cases B:role<1
  .rw [AS B]
  .rw [AR B,AS (by omega)]
 rw [J2 (by omega),BA (by rw [jm];exact B0 (by omega))];by_cases B:1<=l.length/\l.length<=65536
 case neg=>
  rw [B0 λq:VT _=>B q.2.1];simp only [ET,Sj,jm,decide_eq_true_eq];by_cases m:(l.length:AI)<1
  .rw [AS m]
  .rw [AR m,AS (by omega)]
 rw [J2 (by omega),BA (by rw [jm];exact B0 (by omega))];have w:=sW (b:=@Zp wv) (bad:=.inl ()) (fin:=.inr ⟨(l.length:AI),role,closed,l,()⟩) (λi=>⟨(l.length:AI),l,(l.length:AI),(i:AI),role,closed,l,()⟩) l.length (by omega) (YU l) (λi hi v=>by
  have hx:=Ab hi;generalize l[i]=c at hx;have P:@Zp wv ⟨(l.length:AI),l,(l.length:AI),(i:AI),role,closed,l,()⟩=if YU l i then AC (.go ⟨(l.length:AI),l,(l.length:AI),((i+1:AM):AI),role,closed,l,()⟩) else AC (.out (.inl ())):=by
   unfold Zp;dsimp only;rw [Ky (by omega),BH (fg hx),QD];by_cases E:grid c
   case neg=>rw [BF (by simp [BO,E]),AR λq=>E (q c hx).1]
   rw [BA (by simp [BO,E]),J6,wr (by omega) (by omega)];by_cases M:0<i
   .have G:=Ab (l:=l) (i:=i - 1) (by omega);generalize l[i - 1]=p at G;have K:grid p:=(v (i - 1) (by omega) p G).1;rw [BF (by rw [jm];exact AW (by omega)),BH (TI (i - 1) (by rw [Yc,wr (by omega) (by omega)];omega) G),Jpj K E];have r:YU l i↔nb p c:=by
     constructor
     .intro q;exact (q c hx).2 p M G
     .intro q c' g;rw [hx] at g;injection g with e;subst e;exact ⟨E,λN _ F=>by rw [G] at F;injection F with e;subst e;exact q⟩
    by_cases H:nb p c
    .rw [BA (by simp [BO,H]),AS (r.2 H)];rfl
    .rw [BF (by simp [BO,H]),AR λq=>H (r.1 q)]
   .rw [BA (by rw [jm];exact B0 (by omega)),AS]
    .rfl
    .intro c' g;rw [hx] at g;injection g with e;subst e;exact ⟨E,λN h=>(M h).elim⟩
  rw [P];exact ⟨λh=>AS h,λh=>AR h⟩) (λ_=>by unfold Zp;dsimp only;rw [J2 (by omega)])
 refine (BN w).trans ?_;by_cases m:∀i,i<l.length->YU l i
 case neg=>rw [AR m,B0 λq:VT _=>m q.2.2.1]
 rw [AS m];dsimp only;cases O:closed with
 | false=>rw [BF (by rfl),AW];exact ⟨J,B,m,λq=>by cases q⟩
 | true=>
  rw [BA (by rfl)];by_cases L:l.length=1
  .rw [BF (by rw [Q3,L];rfl),AW];exact ⟨J,B,m,λ_=>.inl L⟩
  .have d:=Ab (l:=l) (i:=l.length - 1) (by omega);have f:=Ab (l:=l) (i:=0) (by omega);generalize l[l.length - 1]=a at d;generalize l[0]=b at f;rw [BA (by rw [Q3,beq_eq_false_iff_ne];omega),BH (TI (l.length - 1) (by rw [Yc,wr (by omega) (by omega)];omega) d),BH (lG f),Jpj (m _ (by omega) a d).1 (m _ (by omega) b f).1];refine AT AC (decide_eq_decide.2 ⟨λq=>⟨J,B,m,λ_=>.inr λa' X A y=>?_⟩,λq=>?_⟩)
   .dsimp only at A y;rw [d] at A;rw [f] at y;injection A with R;injection y with Q;subst R;subst Q;exact q
   .rcases q.2.2.2 rfl with e|e
    .exact (L e).elim
    .exact e a b d f
open Classical in
theorem Jg3{α:Type}{t:Jk}(k:AN->AH α):@W.call wv α Kv ((t.1,(t.2.1,t.2.2)):AI×(AN×AG (AI×AI))) k=k (decide (VT t)):=BM (c:=Kv) (Jrx t)
def EK(r:AQ)(y:AI):AG Run:=((r.find? λw=>w.1==y).map Prod.snd).getD []
theorem nD{r:AQ}(h:AJ r){w:Row}(d:w∈r):EK r w.1=w.2:=by
 have m:=h.pw;clear h
 induction r with
 | nil=>cases d
 | cons v r l=>
  obtain ⟨g,f⟩:=Am.1 m;unfold EK;rcases Af.1 d with rfl|a
  .simp
  .have y:=g w a;rw [List.find?_cons_of_neg (by simp;omega)];exact l a f
theorem nL{r:AQ}{y:AI}(h:∀w∈r,w.1≠y):EK r y=[]:=by unfold EK;rw [List.find?_eq_none.2 (λw a=>by simp [h w a])];rfl
theorem jS{r:AQ}(h:AJ r){x y:AI}:J1 r (x,y)↔Jl (EK r y) x:=by
 constructor
 .rintro ⟨w,a,e,hx⟩;have e:w.1=y:=e;rw [<-e,nD h a];exact hx
 .intro hx;by_cases d:∃w∈r,w.1=y
  .obtain ⟨w,a,e⟩:=d;rw [<-e,nD h a] at hx;exact ⟨w,a,e,hx⟩
  .rw [nL (λw a e=>d ⟨w,a,e⟩)] at hx;obtain ⟨u,f,_⟩:=hx;cases f
theorem mM{r:AQ}(h:AJ r)(y:AI):AO (-4096) 4096 (EK r y):=by
 by_cases d:∃w∈r,w.1=y
 .obtain ⟨w,a,e⟩:=d;rw [<-e,nD h a];exact h.rs w a
 .rw [nL (λw a e=>d ⟨w,a,e⟩)];exact ⟨by simp,.nil⟩
theorem lQ{r:AQ}(h:AJ r){i j:AM}{a b:Row}(m:r[i]?=AC a)(l:r[j]?=AC b)(d:i<j):a.1<b.1:=by obtain ⟨g,rfl⟩:=Aa.1 m;obtain ⟨f,rfl⟩:=Aa.1 l;exact Ai.1 h.pw i j g f d
theorem lT{r:AQ}(h:AJ r){i j:AM}{a b:Row}(g:r[i]?=AC a)(f:r[j]?=AC b)(d:i<=j):a.1<=b.1:=by
 rcases Nat.lt_or_eq_of_le d with l|rfl
 .have:=lQ h g f l;omega
 .rw [g] at f;injection f with e;subst e;omega
theorem J2o{r:AQ}(h:AJ r){i:AM}{w:Row}(d:r[i]?=AC w) :
  EK r (w.1 - 1)=(if 0<i then (match r[i - 1]? with|some v=>if v.1=w.1 - 1 then v.2 else []|none=>[]) else []):=by
 by_cases hi:0<i
 .rw [AS hi];have l:=(Aa.1 d).1;have g:r[i - 1]?=AC r[i - 1]:=Ab (by omega);rw [g];dsimp only;by_cases y:r[i - 1].1=w.1 - 1
  .rw [AS y,<-y,nD h (Av _)]
  .rw [AR y];refine nL λv a e=>?_;obtain ⟨j,f⟩:=Ag a;have A:=lQ h g d (by omega);rcases Nat.lt_or_ge (i - 1) j with l|m
   .have:=lT h d f (by omega);omega
   .have:=lT h f g m;omega
 .rw [AR hi];refine nL λv a e=>?_;obtain ⟨j,f⟩:=Ag a;have:=lT h d f (by omega);omega
theorem PN{r:AQ}(h:AJ r){i:AM}{w:Row}(f:r[i]?=AC w) :
  EK r (w.1+1)=(match r[i+1]? with|some v=>if v.1=w.1+1 then v.2 else []|none=>[]):=by
 cases d:r[i+1]? with
 | none=>
  dsimp only;refine nL λv g e=>?_;obtain ⟨j,a⟩:=Ag g;have B:=(Aa.1 a).1;have E:=Bs.1 d;have:=lT h a f (by omega);omega
 | some v=>
  dsimp only;by_cases m:v.1=w.1+1
  .rw [AS m,<-m,nD h (Ae d)]
  .rw [AR m];refine nL λu y e=>?_;obtain ⟨j,a⟩:=Ag y;have B:=lQ h f d (by omega);rcases Nat.lt_or_ge i j with A|l
   .have:=lT h d a (by omega);omega
   .have:=lT h a f l;omega
theorem J7y(r:AQ)(h:AJ r)(hl:r.length<=1000000000){i:AM}{w:Row}(f:r[i]?=AC w) :
  @zh wv (r,(i:AI))=AC (EK r (w.1 - 1),EK r (w.1+1)):=by
 have hi:=(Aa.1 f).1;have E:=h.y w (Ae f);have l:@W.ar wv .sub .i64 w.1 1=w.1 - 1:=by rw [Yc,wr (by omega) (by omega)]
 have B:@W.ar wv .add .i64 w.1 1=w.1+1:=by rw [J6,wr (by omega) (by omega)]
 have A:@W.ar wv .add .i64 (i:AI) 1=((i+1:AM):AI):=by rw [J6,wr (by omega) (by omega)];omega
 have tail:∀up:AG Run,
   (@W.br wv (AG Run×AG Run) (@W.cm wv .lss (@W.ar wv .add .i64 (i:AI) 1) (@W.ln wv Row r)) (@W.ge wv (AG Run×AG Run) Row r (@W.ar wv .add .i64 (i:AI) 1) λv3=>
    @W.br wv (AG Run×AG Run) (@W.cm wv .eql v3.1 (@W.ar wv .add .i64 w.1 1)) (@W.ge wv (AG Run×AG Run) Row r (@W.ar wv .add .i64 (i:AI) 1) λv4=>AC (up,v4.2)) (AC (up,[]))) (AC (up,[])))=AC (up,EK r (w.1+1)):=by
  intro up;rw [PN h f,A,AZ,B];cases d:r[i+1]? with
  | none=>
   have m:=Bs.1 d;rw [J2 (by omega)]
  | some v=>
   have m:=(Aa.1 d).1;rw [Ky (by omega),BH (fg d)];dsimp only;by_cases a:v.1=w.1+1
   .rw [BF (by rw [Q3];simpa using a),BH (fg d),AS a]
   .rw [BA (by rw [Q3];simpa using a),AR a]
 unfold zh;dsimp only;rw [BH (fg f)];by_cases g:0<i
 .have d:r[i - 1]?=AC r[i - 1]:=Ab (by omega);have y:@W.ar wv .sub .i64 (i:AI) 1=((i - 1:AM):AI):=by rw [Yc,wr (by omega) (by omega)];omega
  rw [BF (by rw [jm];exact AW (by omega)),y,BH (fg d),J2o h f,AS g,d];dsimp only;by_cases a:r[i - 1].1=w.1 - 1
  .rw [BF (by rw [Q3,l];simpa using a),BH (fg d),AS a];exact tail _
  .rw [BA (by rw [Q3,l];simpa using a),AR a];exact tail _
 .rw [BA (by rw [jm];exact B0 (by omega)),J2o h f,AR g];exact tail _
theorem QF{α:Type}{r:AQ}(h:AJ r)(hl:r.length<=1000000000){i:AM}{w:Row}(a:r[i]?=AC w)(k:AG (AI×AI)×AG (AI×AI)->AH α):@W.call wv α Xt ((r,(i:AI)):AG (AI×AG (AI×AI))×AI) k=k (EK r (w.1 - 1),EK r (w.1+1)):=BM (c:=Xt) (J7y r h hl a)
def X7(h:AI)(p:Cell):Cell:=if h=0 then (p.1+1,p.2) else if h=1 then (p.1,p.2+1) else if h=2 then (p.1 - 1,p.2) else (p.1,p.2 - 1)
def jc(p:Cell):Prop:=(-1000000000<=p.1/\p.1<=1000000000)/\-1000000000<=p.2/\p.2<=1000000000
theorem Wp(h:AI)(p:Cell)(a:jc p):@Xr wv (h,p)=AC (X7 h p):=by
 obtain ⟨⟨l,g⟩,f,d⟩:=a;unfold Xr X7;dsimp only;simp only [J6,Yc,ET,Q3,beq_iff_eq];rw [wr (n:=p.1+1) (by omega) (by omega),wr (n:=p.2+1) (by omega) (by omega),wr (n:=p.1 - 1) (by omega) (by omega),wr (n:=p.2 - 1) (by omega) (by omega)];split
 .rfl
 split
 .rfl
 split<;>rfl
theorem fu{α:Type}{h:AI}{p:Cell}(a:jc p)(k:AI×AI->AH α):@W.call wv α Kn ((h,p):AI×(AI×AI)) k=k (X7 h p):=BM (c:=Kn) (Wp h p a)
theorem WK(h:AI)(d:0<=h)(a:h<=3):@Xp wv h=AC ((h+1) % 4):=by unfold Xp;rw [Cy (by rfl),oO,J6,wr (by omega) (by omega),Bd (by omega)]
theorem fU{α:Type}{h:AI}(d:0<=h)(a:h<=3)(k:AI->AH α):@W.call wv α Kk (h:AI) k=k ((h+1) % 4):=BM (c:=Kk) (WK h d a)
theorem OU(h:AI)(d:0<=h)(a:h<=3):@Xi wv h=AC ((h+3) % 4):=by unfold Xi;rw [Cy (by rfl),oO,J6,wr (by omega) (by omega),Bd (by omega)]
theorem WR{α:Type}{h:AI}(d:0<=h)(a:h<=3)(k:AI->AH α):@W.call wv α Ke (h:AI) k=k ((h+3) % 4):=BM (c:=Ke) (OU h d a)
theorem QS(l:AG AI)(x:AI)(hl:l.length<=1000000000):∃e,@Jp wv (l,x)=AC e/\((e=-1/\x∉l)\/∃i:AM,l[i]?=AC x/\e=(i:AI)):=by
 obtain ⟨e,d,f⟩:=Po (b:=@Jw wv) l (by omega) (λi=>⟨l,x,(l.length:AI),(i:AI),()⟩) (λy=>x=y) (λi _=>.inl ⟨(i:AI),()⟩) (.inr ()) (λi y hi a=>by
  have v:@W.ar wv .add .i64 (i:AI) 1=((i+1:AM):AI):=by rw [J6,wr (by omega) (by omega)];omega
  unfold Jw;dsimp only;rw [Ky (by omega),BH (fg a)];refine ⟨λh=>?_,λh=>?_⟩
  .rw [BF (by rw [Q3];simpa using h)]
  .rw [BA (by rw [Q3];simpa using h),v]) (by unfold Jw;dsimp only;rw [J2 (by omega)])
 unfold Jp;dsimp only;rw [AZ];rcases f with ⟨rfl,m⟩|⟨i,y,a,g,rfl⟩
 .exact ⟨-1,BN d,.inl ⟨rfl,λr=>m x r rfl⟩⟩
 .exact ⟨(i:AI),BN d,.inr ⟨i,by rw [a,g],rfl⟩⟩
theorem Kbj{l:AG AI}(x:AI)(hl:l.length<=1000000000):∃e:AI,(∀ {α:Type} (k:AI->AH α),@W.call wv α Jf ((l,x):AG AI×AI) k=k e)/\((e=-1/\x∉l)\/∃i:AM,l[i]?=AC x/\e=(i:AI)):=by obtain ⟨e,d,a⟩:=QS l x hl;exact ⟨e,λk=>BM (c:=Jf) d,a⟩
theorem Jzt(l:AG AI)(x:AI)(hl:l.length<=1000000000):@Jx wv (l,x)=AC (decide (x∈l)):=by
 obtain ⟨e,f,a⟩:=Kbj x hl;unfold Jx;dsimp only;rw [f];refine AT AC ?_;rw [MR];refine decide_eq_decide.2 ?_;rcases a with ⟨rfl,d⟩|⟨i,hi,rfl⟩
 .exact ⟨λh=>by omega,λh=>(d h).elim⟩
 .exact ⟨λ_=>Ae hi,λ_=>by omega⟩
theorem J6f{α:Type}{l:AG AI}{x:AI}(hl:l.length<=1000000000)(k:AN->AH α):@W.call wv α Jb ((l,x):AG AI×AI) k=k (decide (x∈l)):=BM (c:=Jb) (Jzt l x hl)
abbrev Cr:=AG ((AI×AI)×AG AI)
def Cq:Cr->Cell->AG AI
 | [],_=>[]
 | e::r,p=>if p=e.1 then e.2 else Cq r p
def Ed:Cr->Cell->AG AI->Cr
 | [],p,v=>[(p,v)]
 | e::r,p,v=>if p=e.1 then (p,v)::r else e::Ed r p v
def Fg:Cr->Cell->Cr
 | [],p=>[]
 | e::r,p=>if p=e.1 then r else e::Fg r p
theorem jH(p q:Cell):Ty.FE (.p I I) p q=decide (p=q):=by show ((p.1==q.1)&&(p.2==q.2))=_;rw [Db,Bool.and_eq_true,beq_iff_eq,beq_iff_eq,decide_eq_true_eq,Prod.ext_iff]
theorem vP(m:Cr)(p:Cell):@W.mg wv (.p I I) (.ls I) m p []=Cq m p:=by
 show (zu (a:=.p I I) (b:=.ls I) p m).getD []=_
 induction m with
 | nil=>rfl
 | cons e r d=>
  show _=if p=e.1 then e.2 else Cq r p;by_cases h:p=e.1
  .have hd:Ty.FE (.p I I) p e.1=AE:=by rw [jH];exact AW h
   rw [AS h];exact AT (λo:AH (AG AI)=>o.getD []) (show zu (a:=.p I I) (b:=.ls I) p (e::r)=AC e.2 from AS hd)
  .have hd:¬Ty.FE (.p I I) p e.1=AE:=by rw [jH];exact λf=>h (of_decide_eq_true f)
   rw [AR h,<-d];exact AT (λo:AH (AG AI)=>o.getD []) (show zu (a:=.p I I) (b:=.ls I) p (e::r)=zu (a:=.p I I) (b:=.ls I) p r from AR hd)
theorem PU(m:Cr)(p:Cell)(v:AG AI):@W.ms wv (.p I I) (.ls I) m p v=Ed m p v:=by
 show F7 (a:=.p I I) (b:=.ls I) p v m=_
 induction m with
 | nil=>rfl
 | cons e r d=>
  show (if Ty.FE (.p I I) p e.1=AE then (p,v)::r else e::F7 (a:=.p I I) (b:=.ls I) p v r)=if p=e.1 then (p,v)::r else e::Ed r p v;rw [jH];by_cases h:p=e.1
  .rw [AS (AW h),AS h]
  .rw [AR (λf=>h (of_decide_eq_true f)),AR h,d]
theorem fK(m:Cr)(p:Cell):@W.md wv (.p I I) (.ls I) m p=Fg m p:=by
 show I7 (a:=.p I I) (b:=.ls I) p m=_
 induction m with
 | nil=>rfl
 | cons e r d=>
  show (if Ty.FE (.p I I) p e.1=AE then r else e::I7 (a:=.p I I) (b:=.ls I) p r)=if p=e.1 then r else e::Fg r p;rw [jH];by_cases h:p=e.1
  .rw [AS (AW h),AS h]
  .rw [AR (λf=>h (of_decide_eq_true f)),AR h,d]
theorem J3z(m:Cr)(p q:Cell)(v:AG AI):Cq (Ed m p v) q=if q=p then v else Cq m q:=by
 induction m with
 | nil=>rfl
 | cons e r d=>
  unfold Ed;by_cases h:p=e.1
  .rw [AS h];show (if q=p then v else Cq r q)=if q=p then v else (if q=e.1 then e.2 else Cq r q);by_cases a:q=p
   .rw [AS a,AS a]
   .rw [AR a,AR a,AR (by rw [<-h];exact a)]
  .rw [AR h];show (if q=e.1 then e.2 else Cq (Ed r p v) q)=if q=p then v else (if q=e.1 then e.2 else Cq r q);rw [d];by_cases a:q=e.1
   .rw [AS a,AR (by rw [a];exact λe=>h e.symm),AS a]
   .rw [AR a,AR a]
theorem J1z{m:Cr}{p:Cell}(h:p∉m.map (·.1)):Cq m p=[]:=by
 induction m with
 | nil=>rfl
 | cons e r a=>
  simp only [Aq,Af,not_or] at h;unfold Cq;rw [AR h.1,a h.2]
theorem Pz(m:Cr)(p:Cell)(v:AG AI):(Ed m p v).map (·.1)=if p∈m.map (·.1) then m.map (·.1) else m.map (·.1)++[p]:=by
 induction m with
 | nil=>simp [Ed]
 | cons e r d=>
  unfold Ed;by_cases h:p=e.1
  .rw [AS h,AS (by simp [h])];simp [h]
  .rw [AR h,Aq,d];by_cases a:p∈r.map (·.1)
   .rw [AS a,AS (by rw [Aq];exact Aj _ a),Aq]
   .rw [AR a,AR (by rw [Aq,Af];exact λf=>f.elim h a),Aq,List.cons_append]
theorem Jx5{m:Cr}(h:(m.map (·.1)).Nodup)(p:Cell)(v:AG AI):((Ed m p v).map (·.1)).Nodup:=by
 rw [Pz];split
 .exact h
 .next f=>exact Bt.2 ⟨h,Ax.2 ⟨by simp,.nil⟩,λa g b d e=>by rw [Ac] at d;exact f (by rw [<-d,<-e];exact g)⟩
theorem P6(m:Cr)(p:Cell):((Fg m p).map (·.1)).Sublist (m.map (·.1)):=by
 induction m with
 | nil=>exact .slnil
 | cons e r a=>
  unfold Fg;split
  .exact .cons _ (List.Sublist.refl _)
  .rw [Aq,Aq];exact .cons_cons _ a
theorem SH{m:Cr}(h:(m.map (·.1)).Nodup)(p q:Cell):Cq (Fg m p) q=if q=p then [] else Cq m q:=by
 induction m with
 | nil=>simp [Fg,Cq]
 | cons e r f=>
  obtain ⟨l,g⟩:=Ax.1 (by rw [Aq] at h;exact h);unfold Fg;by_cases d:p=e.1
  .rw [AS d];show Cq r q=if q=p then [] else (if q=e.1 then e.2 else Cq r q);by_cases a:q=p
   .rw [AS a];exact J1z (by rw [a,d];exact l)
   .rw [AR a,AR (by rw [<-d];exact a)]
  .rw [AR d];show (if q=e.1 then e.2 else Cq (Fg r p) q)=if q=p then [] else (if q=e.1 then e.2 else Cq r q);rw [f g];by_cases a:q=e.1
   .rw [AS a,AR (by rw [a];exact λe=>d e.symm),AS a]
   .rw [AR a,AR a]
theorem Kbk{m:Cr}(h:(m.map (·.1)).Nodup)(p:Cell):((Fg m p).map (·.1)).Nodup:=h.sublist (P6 m p)
structure BL (m:Cr) (S:Cell->AI->Prop):Prop where
 nd:(m.map (·.1)).Nodup
 mem:∀p h,h∈Cq m p↔S p h
 one:∀p,(Cq m p).Nodup
 ne:∀e∈m,e.2≠[]
theorem BL.nil:BL [] λ_ _=>False:=⟨.nil,λp h=>⟨λh=>(Ak h).elim,False.elim⟩,λp=>.nil,λe a=>(Ak a).elim⟩
theorem BL.congr{m:Cr}{S T:Cell->AI->Prop}(h:BL m S)(e:∀p x,S p x↔T p x):BL m T:=⟨h.nd,λp x=>(h.mem p x).trans (e p x),h.one,h.ne⟩
theorem PS{m:Cr}(h:∀e∈m,e.2≠[])(p:Cell){v:AG AI}(d:v≠[]):∀e∈Ed m p v,e.2≠[]:=by
 induction m with
 | nil=>
  intro e a;rw [Ed,Ac] at a;rw [a];exact d
 | cons x r f=>
  intro e a;unfold Ed at a;split at a
  .rcases Af.1 a with rfl|a
   .exact d
   .exact h e (Aj _ a)
  .rcases Af.1 a with rfl|a
   .exact h _ (Ah ..)
   .exact f (λe a=>h e (Aj _ a)) e a
theorem fD{m:Cr}(h:∀e∈m,e.2≠[])(p:Cell):∀e∈Fg m p,e.2≠[]:=by
 induction m with
 | nil=>exact h
 | cons x r d=>
  intro e a;unfold Fg at a;split at a
  .exact h e (Aj _ a)
  .rcases Af.1 a with rfl|a
   .exact h _ (Ah ..)
   .exact d (λe a=>h e (Aj _ a)) e a
theorem J5q{m:Cr}(h:(m.map (·.1)).Nodup){e:(AI×AI)×AG AI}(a:e∈m):Cq m e.1=e.2:=by
 induction m with
 | nil=>exact (Ak a).elim
 | cons x r d=>
  obtain ⟨g,f⟩:=Ax.1 (by rw [Aq] at h;exact h);unfold Cq;rcases Af.1 a with rfl|a
  .rw [AS rfl]
  .rw [AR (λl=>g (by rw [<-l];exact List.mem_map_of_mem a)),d f a]
theorem BL.key{m:Cr}{S:Cell->AI->Prop}(h:BL m S)(p:Cell):p∈m.map (·.1)↔∃x,S p x:=by
 constructor
 .intro a;obtain ⟨e,g,rfl⟩:=Dm.1 a;have d:=h.ne e g;have f:=J5q h.nd g;cases hl:e.2 with
  | nil=>exact (d hl).elim
  | cons x l=>exact ⟨x,(h.mem e.1 x).1 (by rw [f,hl];exact Ah ..)⟩
 .rintro ⟨x,hx⟩;by_cases a:p∈m.map (·.1)
  .exact a
  .have:=(h.mem p x).2 hx;rw [J1z a] at this;exact (Ak this).elim
theorem BL.add{m:Cr}{S:Cell->AI->Prop}(h:BL m S){p:Cell}{x:AI}(g:¬S p x):BL (Ed m p (Cq m p++[x])) λq y=>S q y\/(q=p/\y=x):=by
 refine ⟨Jx5 h.nd _ _,λq y=>?_,λq=>?_,PS h.ne _ (by simp)⟩
 .rw [J3z];by_cases d:q=p
  .subst d;rw [AS rfl,Ad,Ac,h.mem];exact ⟨λh=>h.imp id λe=>⟨rfl,e⟩,λh=>h.imp id And.right⟩
  .rw [AR d,h.mem];exact ⟨.inl,λh=>h.elim id λe=>(d e.1).elim⟩
 .rw [J3z];split
  .refine Bt.2 ⟨h.one p,Ax.2 ⟨by simp,.nil⟩,λa l b f e=>?_⟩;rw [Ac] at f;exact g ((h.mem p x).1 (by rw [<-f,<-e];exact l))
  .exact h.one q
theorem WH{l:AG AI}(h:l.Nodup){i:AM}{x y:AI}(hx:l[i]?=AC x):y∈l.take i++l.drop (i+1)↔y∈l/\y≠x:=by
 obtain ⟨hi,e⟩:=Aa.1 hx;have hl:l=l.take i++x::l.drop (i+1):=by
  conv=>lhs;rw [<-Bm i l,Bu hi,e]
 have d:=h;rw [hl] at d;obtain ⟨w,r,m⟩:=Bt.1 d;obtain ⟨g,v⟩:=Ax.1 r;constructor
 .intro a;rcases Ad.1 a with a|a
  .exact ⟨List.mem_of_mem_take a,λe=>m y a x (Ah ..) e⟩
  .exact ⟨List.mem_of_mem_drop a,λe=>g (by rw [<-e];exact a)⟩
 .rintro ⟨a,f⟩;rw [hl] at a;rcases Ad.1 a with a|a
  .exact Ad.2 (.inl a)
  .rcases Af.1 a with e|a
   .exact (f e).elim
   .exact Ad.2 (.inr a)
theorem BL.cut{m:Cr}{S:Cell->AI->Prop}(h:BL m S){p:Cell}{x:AI}{i:AM}(hx:(Cq m p)[i]?=AC x)(d:(Cq m p).length≠1) :
  BL (Ed m p ((Cq m p).take i++(Cq m p).drop (i+1))) λq y=>S q y/\¬(q=p/\y=x):=by
 have hi:=(Aa.1 hx).1;refine ⟨Jx5 h.nd _ _,λq y=>?_,λq=>?_,PS h.ne _ λe=>?_⟩
 .rw [J3z];by_cases a:q=p
  .subst a;rw [AS rfl,WH (h.one q) hx,h.mem];exact ⟨λh=>⟨h.1,λe=>h.2 e.2⟩,λh=>⟨h.1,λe=>h.2 ⟨rfl,e⟩⟩⟩
  .rw [AR a,h.mem];exact ⟨λh=>⟨h,λe=>a e.1⟩,And.left⟩
 .rw [J3z];split
  .have:=h.one p;rw [<-Bm i (Cq m p),Bu hi] at this;exact this.sublist (.append (List.Sublist.refl _) (.cons _ (List.Sublist.refl _)))
  .exact h.one q
 .have:=AT List.length e;rw [Ao,Bn,List.length_drop,List.length_nil] at this;omega
theorem BL.del{m:Cr}{S:Cell->AI->Prop}(h:BL m S){p:Cell}{x:AI}(hx:Cq m p=[x]) :
  BL (Fg m p) λq y=>S q y/\¬(q=p/\y=x):=by
 refine ⟨Kbk h.nd _,λq y=>?_,λq=>?_,fD h.ne _⟩
 .rw [SH h.nd];by_cases a:q=p
  .subst a;rw [AS rfl,<-h.mem,hx,Ac];exact ⟨λh=>(Ak h).elim,λh=>(h.2 ⟨rfl,h.1⟩).elim⟩
  .rw [AR a,h.mem];exact ⟨λh=>⟨h,λe=>a e.1⟩,And.left⟩
 .rw [SH h.nd];split
  .exact .nil
  .exact h.one q
theorem J1y:∀ {l k:AG AI},l.Nodup->(∀x∈l,x∈k)->l.length<=k.length
 | [],k,_,_=>Nat.zero_le _
 | x::l,k,h,hs=>by obtain ⟨f,d⟩:=Ax.1 h;have hx:=hs x (Ah ..);have:=J1y (l:=l) (k:=k.erase x) d λy a=>(Di (λe=>f (by rw [<-e];exact a))).2 (hs y (Aj _ a));rw [Bz hx] at this;have:0<k.length:=Bj hx;rw [Az];omega
def FU(S:Cell->AI->Prop):Prop:=∀p h,S p h->h=0\/h=1\/h=2\/h=3
theorem BL.le4{m:Cr}{S:Cell->AI->Prop}(h:BL m S)(hd:FU S)(p:Cell):(Cq m p).length<=4:=
 J1y (k:=[0,1,2,3]) (h.one p) λx hx=>by rcases hd p x ((h.mem p x).1 hx) with rfl|rfl|rfl|rfl<;>simp
theorem xE{α:Type}{m:Cr}{S:Cell->AI->Prop}(h:BL m S)(hd:FU S)(p:Cell)(x:AH α):@W.gd wv α (@W.ft wv 8 (@W.pl wv (@W.ln wv AI (@W.mg wv (.p I I) (.ls I) m p [])) 1)) x=x:=by have a:=h.le4 hd p;rw [vP,BZ,AZ];exact KJ (by omega) (by omega) (by decide)
theorem ja{A B:Type}{x y:A}{r t:B}(h:x=y)(a:r=t):(⟨x,r⟩:HP A B)=⟨y,t⟩:=by rw [h,a]
theorem J32(m:Cr)(p:Cell)(x:AI):@W.ms wv (.p I I) (.ls I) m p (@W.ap wv AI (@W.mg wv (.p I I) (.ls I) m p []) [x])=Ed m p (Cq m p++[x]):=by rw [vP,PU,DL]
theorem rD(a:AQ)(s0:AG Run)(w:AQ)(r l:AI)(s5:AG Run)(s6 g:AI)(s8:AQ)(y:AI)(s10:AG Run)(u v:AI)(m:Cr){S:Cell->AI->Prop}
  (h:BL m S) (hd:FU S) (L:∀x,u<=x->x<v->¬S (x,y) 0) (P:-4096<=u/\u<=v/\v<=4096) :
  ∃f,Qm (@X6 wv a) CK ⟨s0,u,w,r,l,s5,s6,g,s8,y,s10,u,v,m,()⟩=AC ⟨s0,w,r,l,s5,s6,g,s8,y,s10,f,()⟩ /\
   BL f (λp x=>S p x\/(p.2=y/\u<=p.1/\p.1<v/\x=0)):=by
 obtain ⟨e,M,f,rfl,F⟩:=jh (b:=@X6 wv a)
  (λi s=>∃f,s=⟨s0,u+(i:AI),w,r,l,s5,s6,g,s8,y,s10,u,v,f,()⟩/\BL f (λp x=>S p x\/(p.2=y/\u<=p.1/\p.1<u+i/\x=0)))
  (λe=>∃f,e=⟨s0,w,r,l,s5,s6,g,s8,y,s10,f,()⟩/\BL f (λp x=>S p x\/(p.2=y/\u<=p.1/\p.1<v/\x=0)))
  (v - u).toNat (by omega) (s0:=⟨s0,u,w,r,l,s5,s6,g,s8,y,s10,u,v,m,()⟩)
  ⟨m,by simp,h.congr λp x=>⟨.inl,λh=>h.elim id λh=>by omega⟩⟩
  (λi s hi=>by
   rintro ⟨A,rfl,E⟩;have N:@W.ar wv .add .i64 (u+(i:AI)) 1=u+((i+1:AM):AI):=by rw [J6,wr (by omega) (by omega)];omega
   have G:FU (λp x=>S p x\/(p.2=y/\u<=p.1/\p.1<u+i/\x=0)):=λp x d=>d.elim (hd p x) λd=>.inl d.2.2.2;refine ⟨_,?_,Ed A (u+(i:AI),y) (Cq A (u+(i:AI),y)++[0]),rfl,?_⟩
   .unfold X6;dsimp only;rw [Ky (by omega)];refine (xE E G (u+(i:AI),y) _).trans ?_;refine AT AC (AT Nx.go ?_);rw [N];refine ja rfl (ja rfl (ja rfl (ja rfl (ja rfl (ja rfl (ja rfl (ja rfl (ja rfl (ja rfl (ja rfl (ja rfl (ja rfl (ja ?_ rfl)))))))))))));exact J32 A (u+(i:AI),y) 0
   .refine (E.add (p:=(u+(i:AI),y)) (x:=0) λB=>?_).congr λp x=>?_
    .rcases B with B|B
     .exact L _ (by omega) (by omega) B
     .have:=B.2.2.1;dsimp only at this;omega
    .constructor
     .rintro ((d|d)|⟨rfl,rfl⟩)
      .exact .inl d
      .exact .inr ⟨d.1,d.2.1,by have:=d.2.2.1;omega,d.2.2.2⟩
      .exact .inr ⟨rfl,by dsimp only;omega,by dsimp only;omega,rfl⟩
     .rintro (d|⟨H,J,O,rfl⟩)
      .exact .inl (.inl d)
      .by_cases K:p.1<u+(i:AI)
       .exact .inl (.inr ⟨H,J,K,rfl⟩)
       .exact .inr ⟨Prod.ext (by dsimp only;omega) H,rfl⟩)
  (by
   rintro s ⟨A,rfl,E⟩;refine ⟨_,?_,A,rfl,E.congr λp x=>?_⟩
   .unfold X6;dsimp only;rw [J2 (by omega)]
   .have:u+(((v - u).toNat:AM):AI)=v:=by omega
    rw [this])
 exact ⟨f,M,F⟩
theorem rA(a:AQ)(A:AQ)(w r:AI)(l:AG Run)(s5 s6:AI)(g:AQ)(y:AI)(s9:AG Run)(u v:AI)(m:Cr){S:Cell->AI->Prop}
  (h:BL m S) (hd:FU S) (M:∀x,u<=x->x<v->¬S (x+1,y+1) 2) (X:-4096<=u/\u<=v/\v<=4096) (R:-4096<=y/\y<4096) :
  ∃f,Qm (@X5 wv a) CK ⟨u,A,w,r,l,s5,s6,g,y,s9,u,v,m,()⟩=AC ⟨A,w,r,l,s5,s6,g,y,s9,f,()⟩ /\
   BL f (λp x=>S p x\/(p.2=y+1/\u<p.1/\p.1<=v/\x=2)):=by
 obtain ⟨e,N,f,rfl,G⟩:=jh (b:=@X5 wv a)
  (λi s=>∃f,s=⟨u+(i:AI),A,w,r,l,s5,s6,g,y,s9,u,v,f,()⟩/\BL f (λp x=>S p x\/(p.2=y+1/\u<p.1/\p.1<=u+i/\x=2)))
  (λe=>∃f,e=⟨A,w,r,l,s5,s6,g,y,s9,f,()⟩/\BL f (λp x=>S p x\/(p.2=y+1/\u<p.1/\p.1<=v/\x=2)))
  (v - u).toNat (by omega) (s0:=⟨u,A,w,r,l,s5,s6,g,y,s9,u,v,m,()⟩)
  ⟨m,by simp,h.congr λp x=>⟨.inl,λh=>h.elim id λh=>by omega⟩⟩
  (λi s hi=>by
   rintro ⟨B,rfl,F⟩;have P:@W.ar wv .add .i64 (u+(i:AI)) 1=u+((i+1:AM):AI):=by rw [J6,wr (by omega) (by omega)];omega
   have O:@W.ar wv .add .i64 y 1=y+1:=by rw [J6,wr (by omega) (by omega)]
   have H:FU (λp x=>S p x\/(p.2=y+1/\u<p.1/\p.1<=u+i/\x=2)):=λp x d=>d.elim (hd p x) λd=>.inr (.inr (.inl d.2.2.2));refine ⟨_,?_,Ed B (u+((i+1:AM):AI),y+1) (Cq B (u+((i+1:AM):AI),y+1)++[2]),rfl,?_⟩
   .unfold X5;dsimp only;rw [Ky (by omega),P,O];refine (xE F H (u+((i+1:AM):AI),y+1) _).trans ?_;refine AT AC (AT Nx.go ?_);refine ja rfl (ja rfl (ja rfl (ja rfl (ja rfl (ja rfl (ja rfl (ja rfl (ja rfl (ja rfl (ja rfl (ja rfl (ja ?_ rfl))))))))))));exact J32 B (u+((i+1:AM):AI),y+1) 2
   .refine (F.add (p:=(u+((i+1:AM):AI),y+1)) (x:=2) λE=>?_).congr λp x=>?_
    .rcases E with E|E
     .have:=M (u+(i:AI)) (by omega) (by omega);refine this ?_;have e:u+((i+1:AM):AI)=u+(i:AI)+1:=by omega
      rw [<-e];exact E
     .have:=E.2.2.1;dsimp only at this;omega
    .constructor
     .rintro ((d|d)|⟨rfl,rfl⟩)
      .exact .inl d
      .exact .inr ⟨d.1,d.2.1,by have:=d.2.2.1;omega,d.2.2.2⟩
      .exact .inr ⟨rfl,by dsimp only;omega,by dsimp only;omega,rfl⟩
     .rintro (d|⟨J,K,Q,rfl⟩)
      .exact .inl (.inl d)
      .by_cases L:p.1<=u+(i:AI)
       .exact .inl (.inr ⟨J,K,L,rfl⟩)
       .exact .inr ⟨Prod.ext (by dsimp only;omega) J,rfl⟩)
  (by
   rintro s ⟨B,rfl,F⟩;refine ⟨_,?_,B,rfl,F.congr λp x=>?_⟩
   .unfold X5;dsimp only;rw [J2 (by omega)]
   .have:u+(((v - u).toNat:AM):AI)=v:=by omega
    rw [this])
 exact ⟨f,N,G⟩
theorem Jpt{l:AG Run}{i:AM}{w:Run}(h:l[i]?=AC w)(x:AI):Jl (l.take (i+1)) x↔Jl (l.take i) x\/(w.1<=x/\x<w.2):=by
 rw [Ki h];unfold Jl;constructor
 .rintro ⟨u,a,hx⟩;rcases Ad.1 a with a|a
  .exact .inl ⟨u,a,hx⟩
  .rw [Ac] at a;subst a;exact .inr hx
 .rintro (⟨u,a,hx⟩|hx)
  .exact ⟨u,Ad.2 (.inl a),hx⟩
  .exact ⟨w,Ad.2 (.inr (Ac.2 rfl)),hx⟩
theorem Jtk{lo hi:AI}{l:AG Run}(hl:AO lo hi l){i:AM}{w:Run}(h:l[i]?=AC w){x:AI}(hx:Jl (l.take i) x):x<w.1:=by obtain ⟨u,f,v,r⟩:=hx;obtain ⟨j,g⟩:=Ag f;obtain ⟨a,e⟩:=Aa.1 g;rw [Bn] at a;rw [Bv] at e;obtain ⟨d,m⟩:=Aa.1 h;have:=Ai.1 hl.pw j i (by omega) d (by omega);rw [e,m] at this;omega
theorem rF(a:AQ)(s0:AG Run)(w:AQ)(v r:AI)(l:AG Run)(g:AQ)(y:AI)(s9:AG Run)(m:Cr){S:Cell->AI->Prop}
  (h:BL m S) (hd:FU S) (hl:AO (-4096) 4096 l) (hn:l.length<=1000000000) (Q:∀x,Jl l x->¬S (x,y) 0) :
  ∃f,Qm (@X2 wv a) CK ⟨s0,w,v,r,l,(l.length:AI),0,g,y,s9,m,()⟩=AC ⟨s0,w,v,r,g,y,s9,f,()⟩ /\
   BL f (λp x=>S p x\/(p.2=y/\Jl l p.1/\x=0)):=by
 obtain ⟨e,R,f,rfl,J⟩:=jh (b:=@X2 wv a)
  (λi s=>∃f,s=⟨s0,w,v,r,l,(l.length:AI),(i:AI),g,y,s9,f,()⟩/\BL f (λp x=>S p x\/(p.2=y/\Jl (l.take i) p.1/\x=0)))
  (λe=>∃f,e=⟨s0,w,v,r,g,y,s9,f,()⟩/\BL f (λp x=>S p x\/(p.2=y/\Jl l p.1/\x=0)))
  l.length (by omega) (s0:=⟨s0,w,v,r,l,(l.length:AI),0,g,y,s9,m,()⟩)
  ⟨m,rfl,h.congr λp x=>⟨.inl,λh=>h.elim id λh=>by obtain ⟨_,⟨u,O,_⟩,_⟩:=h;rw [Bf] at O;exact (Ak O).elim⟩⟩
  (λi s hi=>by
   rintro ⟨E,rfl,L⟩;have Y:@W.ar wv .add .i64 (i:AI) 1=((i+1:AM):AI):=by rw [J6,wr (by omega) (by omega)];omega
   have K:FU (λp x=>S p x\/(p.2=y/\Jl (l.take i) p.1/\x=0)):=λp x d=>d.elim (hd p x) λd=>.inl d.2.2;have H:l[i]?=AC l[i]:=Ab hi;have hb:=hl.bd l[i] (Av _);obtain ⟨P,Z,X⟩:=rD a s0 w v r l (l.length:AI) (i:AI) g y s9 l[i].1 l[i].2 E L K (λx G F A=>by
    rcases A with A|A
    .exact Q x ⟨l[i],Av _,G,F⟩ A
    .have:=Jtk hl H A.2.1;dsimp only at this;omega) (by omega)
   refine ⟨_,?_,P,rfl,X.congr λp x=>?_⟩
   .unfold X2;dsimp only;rw [Ky (by omega),BH (fg H)];refine (BN Z).trans ?_;dsimp only;rw [Y]
   .rw [Jpt H];constructor
    .rintro ((d|d)|d)
     .exact .inl d
     .exact .inr ⟨d.1,.inl d.2.1,d.2.2⟩
     .exact .inr ⟨d.1,.inr ⟨d.2.1,d.2.2.1⟩,d.2.2.2⟩
    .rintro (d|⟨N,B|B,M⟩)
     .exact .inl (.inl d)
     .exact .inl (.inr ⟨N,B,M⟩)
     .exact .inr ⟨N,B.1,B.2,M⟩)
  (by
   rintro s ⟨E,rfl,L⟩;refine ⟨_,?_,E,rfl,L.congr λp x=>?_⟩
   .unfold X2;dsimp only;rw [J2 (by omega)]
   .rw [Bo])
 exact ⟨f,R,J⟩
theorem rC(a:AQ)(s0:AQ)(r g:AI)(l:AG Run)(s6:AQ)(y:AI)(s8:AG Run)(m:Cr){S:Cell->AI->Prop}
  (h:BL m S) (hd:FU S) (hl:AO (-4096) 4096 l) (Z:l.length<=1000000000) (O:-4096<=y/\y<4096) (P:∀x,Jl l x->¬S (x+1,y+1) 2) :
  ∃f,Qm (@X3 wv a) CK ⟨s0,r,g,l,(l.length:AI),0,s6,y,s8,m,()⟩=AC ⟨s0,r,g,s6,y,s8,f,()⟩ /\
   BL f (λp x=>S p x\/(p.2=y+1/\Jl l (p.1 - 1)/\x=2)):=by
 obtain ⟨e,Q,f,rfl,F⟩:=jh (b:=@X3 wv a)
  (λi s=>∃f,s=⟨s0,r,g,l,(l.length:AI),(i:AI),s6,y,s8,f,()⟩/\BL f (λp x=>S p x\/(p.2=y+1/\Jl (l.take i) (p.1 - 1)/\x=2)))
  (λe=>∃f,e=⟨s0,r,g,s6,y,s8,f,()⟩/\BL f (λp x=>S p x\/(p.2=y+1/\Jl l (p.1 - 1)/\x=2)))
  l.length (by omega) (s0:=⟨s0,r,g,l,(l.length:AI),0,s6,y,s8,m,()⟩)
  ⟨m,rfl,h.congr λp x=>⟨.inl,λh=>h.elim id λh=>by obtain ⟨_,⟨u,M,_⟩,_⟩:=h;rw [Bf] at M;exact (Ak M).elim⟩⟩
  (λi s hi=>by
   rintro ⟨w,rfl,H⟩;have X:@W.ar wv .add .i64 (i:AI) 1=((i+1:AM):AI):=by rw [J6,wr (by omega) (by omega)];omega
   have G:FU (λp x=>S p x\/(p.2=y+1/\Jl (l.take i) (p.1 - 1)/\x=2)):=λp x d=>d.elim (hd p x) λd=>.inr (.inr (.inl d.2.2));have E:l[i]?=AC l[i]:=Ab hi;have hb:=hl.bd l[i] (Av _);obtain ⟨N,Y,R⟩:=rA a s0 r g l (l.length:AI) (i:AI) s6 y s8 l[i].1 l[i].2 w H G (λx B A v=>by
    rcases v with v|v
    .exact P x ⟨l[i],Av _,B,A⟩ v
    .have:=Jtk hl E v.2.1;dsimp only at this;omega) (by omega) O
   refine ⟨_,?_,N,rfl,R.congr λp x=>?_⟩
   .unfold X3;dsimp only;rw [Ky (by omega),BH (fg E)];refine (BN Y).trans ?_;dsimp only;rw [X]
   .rw [Jpt E];constructor
    .rintro ((d|d)|d)
     .exact .inl d
     .exact .inr ⟨d.1,.inl d.2.1,d.2.2⟩
     .exact .inr ⟨d.1,.inr ⟨by omega,by omega⟩,d.2.2.2⟩
    .rintro (d|⟨L,K|K,J⟩)
     .exact .inl (.inl d)
     .exact .inl (.inr ⟨L,K,J⟩)
     .exact .inr ⟨L,by omega,by omega,J⟩)
  (by
   rintro s ⟨w,rfl,H⟩;refine ⟨_,?_,w,rfl,H.congr λp x=>?_⟩
   .unfold X3;dsimp only;rw [J2 (by omega)]
   .rw [Bo])
 exact ⟨f,Q,F⟩
theorem qz(a:AQ)(s0:AQ)(H G:AI)(l:AG Run)(s6:AQ)(y:AI)(s8:AG Run)(m:Cr){S:Cell->AI->Prop}
  (h:BL m S) (hd:FU S) (hl:AO (-4096) 4096 l) (hn:l.length<=1000000000) (hy:-4096<=y/\y<4096) (P:∀w∈l,¬S (w.2,y) 1) (O:∀w∈l,¬S (w.1,y+1) 3) :
  ∃r,Qm (@X4 wv a) CK ⟨s0,H,G,l,(l.length:AI),0,s6,y,s8,m,()⟩=AC ⟨s0,H,G,s6,r,()⟩/\BL r (λp x=>S p x\/(p.2=y/\(∃w∈l,p.1=w.2)/\x=1)\/(p.2=y+1/\(∃w∈l,p.1=w.1)/\x=3)):=by
 have hS:∀i,FU (λp x=>S p x\/(p.2=y/\(∃w∈l.take i,p.1=w.2)/\x=1)\/(p.2=y+1/\(∃w∈l.take i,p.1=w.1)/\x=3)):=λi p x f=>by
  rcases f with f|f|f
  .exact hd p x f
  .exact .inr (.inl f.2.2)
  .exact .inr (.inr (.inr f.2.2))
 obtain ⟨e,Y,r,rfl,L⟩:=jh (b:=@X4 wv a)
  (λi s=>∃r,s=⟨s0,H,G,l,(l.length:AI),(i:AI),s6,y,s8,r,()⟩/\BL r (λp x=>S p x\/(p.2=y/\(∃w∈(l.take i),p.1=w.2)/\x=1)\/(p.2=y+1/\(∃w∈(l.take i),p.1=w.1)/\x=3)))
  (λe=>∃r,e=⟨s0,H,G,s6,r,()⟩/\BL r (λp x=>S p x\/(p.2=y/\(∃w∈l,p.1=w.2)/\x=1)\/(p.2=y+1/\(∃w∈l,p.1=w.1)/\x=3)))
  l.length (by omega) (s0:=⟨s0,H,G,l,(l.length:AI),0,s6,y,s8,m,()⟩)
  ⟨m,rfl,h.congr λp x=>⟨.inl,λh=>by
   rcases h with h|⟨_,⟨w,E,_⟩,_⟩|⟨_,⟨w,E,_⟩,_⟩
   .exact h
   .rw [Bf] at E;exact (Ak E).elim
   .rw [Bf] at E;exact (Ak E).elim⟩⟩
  (λi s hi=>by
   rintro ⟨J,rfl,F⟩;have e3:@W.ar wv .add .i64 (i:AI) 1=((i+1:AM):AI):=by rw [J6,wr (by omega) (by omega)];omega
   have e4:@W.ar wv .add .i64 y 1=y+1:=by rw [J6,wr (by omega) (by omega)]
   have E:l[i]?=AC l[i]:=Ab hi;have M:l[i]∈l:=Av _;have old:∀w∈l.take i,w.2<l[i].1/\w.1<w.2:=λw d=>by obtain ⟨j,X⟩:=Ag d;obtain ⟨N,e⟩:=Aa.1 X;rw [Bn] at N;rw [Bv] at e;have F:=Ai.1 hl.pw j i (by omega) hi (by omega);have K:=hl.bd _ (Av (l:=l) (n:=j) (by omega));rw [e] at F K;omega
   have Z:=hl.bd l[i] M;have K:=F.add (p:=(l[i].2,y)) (x:=1) (λB=>by
    rcases B with B|⟨_,⟨w,d,e⟩,_⟩|⟨_,_,e⟩
    .exact P _ M B
    .have:=old w d;dsimp only at e;omega
    .omega)
   have Q:FU (λp x=>(S p x\/(p.2=y/\(∃w∈l.take i,p.1=w.2)/\x=1)\/(p.2=y+1/\(∃w∈l.take i,p.1=w.1)/\x=3))\/(p=(l[i].2,y)/\x=1)):=λp x f=>f.elim (hS i p x) λf=>.inr (.inl f.2);have h3:=K.add (p:=(l[i].1,y+1)) (x:=3) (λB=>by
    rcases B with (B|⟨_,_,e⟩|⟨_,⟨w,d,e⟩,_⟩)|B
    .exact O _ M B
    .omega
    .have:=old w d;dsimp only at e;omega
    .have:=B.2;omega)
   refine ⟨_,?_,_,rfl,h3.congr λp x=>?_⟩
   .unfold X4;dsimp only;rw [Ky (by omega),BH (fg E),e3,e4];refine (xE F (hS i) (l[i].2,y) _).trans ?_;have q:=J32 J (l[i].2,y) 1;have g:=xE (α:=Nx (HP AQ (HP AI (HP AI (HP (AG Run) (HP AI (HP AI (HP AQ (HP AI (HP (AG Run) (HP Cr Unit)))))))))) (HP AQ (HP AI (HP AI (HP AQ (HP Cr Unit)))))) K Q (l[i].1,y+1);rw [<-q] at g;refine (g _).trans ?_;refine AT AC (AT Nx.go ?_);refine ja rfl (ja rfl (ja rfl (ja rfl (ja rfl (ja rfl (ja rfl (ja rfl (ja rfl (ja ?_ rfl)))))))));have R:=J32 (Ed J (l[i].2,y) (Cq J (l[i].2,y)++[1])) (l[i].1,y+1) 3;rw [<-q] at R ⊢;exact R
   .rw [Ki E];constructor
    .rintro (((f|⟨A,⟨w,d,e⟩,v⟩|⟨A,⟨w,d,e⟩,v⟩)|⟨rfl,rfl⟩)|⟨rfl,rfl⟩)
     .exact .inl f
     .exact .inr (.inl ⟨A,⟨w,Ad.2 (.inl d),e⟩,v⟩)
     .exact .inr (.inr ⟨A,⟨w,Ad.2 (.inl d),e⟩,v⟩)
     .exact .inr (.inl ⟨rfl,⟨l[i],Ad.2 (.inr (Ac.2 rfl)),rfl⟩,rfl⟩)
     .exact .inr (.inr ⟨rfl,⟨l[i],Ad.2 (.inr (Ac.2 rfl)),rfl⟩,rfl⟩)
    .rintro (f|⟨A,⟨w,d,e⟩,v⟩|⟨A,⟨w,d,e⟩,v⟩)
     .exact .inl (.inl (.inl f))
     .rcases Ad.1 d with d|d
      .exact .inl (.inl (.inr (.inl ⟨A,⟨w,d,e⟩,v⟩)))
      .rw [Ac] at d;subst d;exact .inl (.inr ⟨Prod.ext e A,v⟩)
     .rcases Ad.1 d with d|d
      .exact .inl (.inl (.inr (.inr ⟨A,⟨w,d,e⟩,v⟩)))
      .rw [Ac] at d;subst d;exact .inr ⟨Prod.ext e A,v⟩)
  (by
   rintro s ⟨J,rfl,F⟩;refine ⟨_,?_,J,rfl,F.congr λp x=>?_⟩
   .unfold X4;dsimp only;rw [J2 (by omega)]
   .rw [Bo])
 exact ⟨r,Y,L⟩
theorem J36{hi:AI}:∀ {l:AG Run} {lo:AI},lo<=hi->AO lo hi l->(l.length:AI)<=hi - lo
 | [],lo,g,_=>by simp;omega
 | u::l,lo,g,h=>by
  obtain ⟨f,d⟩:=Am.1 h.pw;have m:=h.bd u (Ah ..);have:=J36 (l:=l) (lo:=u.2) (hi:=hi) (by omega) ⟨λx hx=>by have a:=h.bd x (Aj _ hx);have r:=f x hx;exact ⟨by omega,a.2.1,a.2.2⟩,d⟩
  rw [Az];omega
theorem Jzl{lo hi lo' a:AI}{l:AG Run}(h:AO lo hi l)(f:lo'<=lo)(d:hi<=a):AO lo' a l:=
 ⟨λx hx=>by have:=h.bd x hx;exact ⟨by omega,this.2.1,by omega⟩,h.pw⟩
theorem uF{l:AG Run}(h:AO (-4096) 4096 l):l.length<=8192:=by have:=J36 (by omega) h;omega
theorem Jte{a b:AG Run}(d:AO (-4096) 4096 a)(f:AO (-4096) 4096 b) :
  ∃l:AG Run,(∀ {α:Type} (k:AG (AI×AI)->AH α),@W.call wv α J4 ((a,b):AG (AI×AI)×AG (AI×AI)) k=k l)/\AO (-4096) 4096 l/\∀x,Jl l x↔Jl a x/\¬Jl b x:=by have la:=uF d;have lb:=uF f;obtain ⟨l,hl,m,hx⟩:=Jkd a b (by omega) (by omega) (Jzl d (by omega) (by omega)) (Jzl f (by omega) (by omega));refine ⟨l,λk=>BM (c:=J4) hl,nH m λx h=>?_,hx⟩;obtain ⟨u,g,v,r⟩:=((hx x).1 h).1;have:=d.bd u g;omega
def YR(r:AQ)(w:Row)(p:Cell)(x:AI):Prop:=
 (p.2=w.1/\(Jl w.2 p.1/\¬Jl (EK r (w.1 - 1)) p.1)/\x=0)\/(p.2=w.1+1/\(Jl w.2 (p.1 - 1)/\¬Jl (EK r (w.1+1)) (p.1 - 1))/\x=2) \/
 (p.2=w.1/\(∃u∈w.2,p.1=u.2)/\x=1)\/(p.2=w.1+1/\(∃u∈w.2,p.1=u.1)/\x=3)
theorem YL(a r:AQ)(hr:AJ r)(v:r.length<=1000000000){i:AM}{w:Row}(B:r[i]?=AC w)(m:Cr){S:Cell->AI->Prop}(h:BL m S)(hd:FU S)(E:∀p x,YR r w p x->¬S p x) :
  ∃G,@Xc wv a ⟨r,(r.length:AI),(i:AI),r,m,()⟩=AC (.go ⟨r,(r.length:AI),((i+1:AM):AI),r,G,()⟩) /\
   BL G (λp x=>S p x\/YR r w p x):=by
 have hi:=(Aa.1 B).1;have K:=Ae B;have H:=hr.y w K;have g:=hr.rs w K;have Z:@W.ar wv .add .i64 (i:AI) 1=((i+1:AM):AI):=by rw [J6,wr (by omega) (by omega)];omega
 obtain ⟨up,ku,J,xu⟩:=Jte g (mM hr (w.1 - 1));obtain ⟨dn,kd,y,xd⟩:=Jte g (mM hr (w.1+1));obtain ⟨Q,N,Y⟩:=rF a (EK r (w.1+1)) r (r.length:AI) (i:AI) up r w.1 w.2 m h hd J (by have:=uF J;omega) (λx hx=>E _ _ (.inl ⟨rfl,(xu x).1 hx,rfl⟩));have A:FU (λp x=>S p x\/(p.2=w.1/\Jl up p.1/\x=0)):=λp x d=>d.elim (hd p x) λd=>.inl d.2.2;obtain ⟨P,M,X⟩:=rC a r (r.length:AI) (i:AI) dn r w.1 w.2 Q Y A y (by have:=uF y;omega) H (λx hx f=>by
  rcases f with f|f
  .exact E _ _ (.inr (.inl ⟨rfl,by dsimp only;rw [show x+1 - 1=x by omega];exact (xd x).1 hx,rfl⟩)) f
  .have:=f.2.2;omega)
 have F:FU (λp x=>(S p x\/(p.2=w.1/\Jl up p.1/\x=0))\/(p.2=w.1+1/\Jl dn (p.1 - 1)/\x=2)):=λp x d=>d.elim (A p x) λd=>.inr (.inr (.inl d.2.2));obtain ⟨O,L,R⟩:=qz a r (r.length:AI) (i:AI) w.2 r w.1 w.2 P X F g (by have:=uF g;omega) H (λu l f=>by
  rcases f with (f|f)|f
  .exact E (u.2,w.1) 1 (.inr (.inr (.inl ⟨rfl,⟨u,l,rfl⟩,rfl⟩))) f
  .have:=f.2.2;omega
  .have:=f.2.2;omega) (λu l f=>by
  rcases f with (f|f)|f
  .exact E (u.1,w.1+1) 3 (.inr (.inr (.inr ⟨rfl,⟨u,l,rfl⟩,rfl⟩))) f
  .have:=f.2.2;omega
  .have:=f.2.2;omega)
 refine ⟨O,?_,R.congr λp x=>?_⟩
 .unfold Xc;dsimp only;rw [Ky (by omega),BH (fg B),QF hr v B];dsimp only;rw [ku];refine (BN N).trans ?_;dsimp only;rw [kd];refine (BN M).trans ?_;dsimp only;refine (BN L).trans ?_;dsimp only;rw [Z]
 .unfold YR;rw [xu,xd];constructor
  .rintro (((d|d)|d)|d|d)
   .exact .inl d
   .exact .inr (.inl d)
   .exact .inr (.inr (.inl d))
   .exact .inr (.inr (.inr (.inl d)))
   .exact .inr (.inr (.inr (.inr d)))
  .rintro (d|d|d|d|d)
   .exact .inl (.inl (.inl d))
   .exact .inl (.inl (.inr d))
   .exact .inl (.inr d)
   .exact .inr (.inl d)
   .exact .inr (.inr d)
def K6(p:Cell)(x:AI):Cell:=if x=0 then p else if x=1 then (p.1 - 1,p.2) else if x=2 then (p.1 - 1,p.2 - 1) else (p.1,p.2 - 1)
theorem Kbu{r:AQ}{w:Row}{p:Cell}{x:AI}(h:YR r w p x):w.1=(K6 p x).2:=by
 unfold K6;rcases h with ⟨a,_,rfl⟩|⟨a,_,rfl⟩|⟨a,_,rfl⟩|⟨a,_,rfl⟩
 .rw [AS rfl];omega
 .rw [AR (by decide),AR (by decide),AS rfl];dsimp only;omega
 .rw [AR (by decide),AS rfl];dsimp only;omega
 .rw [AR (by decide),AR (by decide),AR (by decide)];dsimp only;omega
theorem OM{r:AQ}{w:Row}{p:Cell}{x:AI}(h:YR r w p x):x=0\/x=1\/x=2\/x=3:=by rcases h with ⟨_,_,rfl⟩|⟨_,_,rfl⟩|⟨_,_,rfl⟩|⟨_,_,rfl⟩<;>simp
theorem J4q(a r:AQ)(hr:AJ r)(h:r.length<=1000000000) :
  ∃m,Qm (@Xc wv a) CK ⟨r,(r.length:AI),0,r,[],()⟩=AC ⟨m,()⟩/\BL m (λp x=>∃w∈r,YR r w p x):=by
 obtain ⟨e,H,m,rfl,F⟩:=jh (b:=@Xc wv a)
  (λi s=>∃m,s=⟨r,(r.length:AI),(i:AI),r,m,()⟩/\BL m (λp x=>∃w∈r.take i,YR r w p x))
  (λe=>∃m,e=⟨m,()⟩/\BL m (λp x=>∃w∈r,YR r w p x))
  r.length (by omega) (s0:=⟨r,(r.length:AI),0,r,[],()⟩)
  ⟨[],rfl,BL.nil.congr λp x=>⟨False.elim,λ⟨w,g,_⟩=>by rw [Bf] at g;exact (Ak g).elim⟩⟩
  (λi s hi=>by
   rintro ⟨v,rfl,B⟩;have g:r[i]?=AC r[i]:=Ab hi;obtain ⟨E,q,K⟩:=YL a r hr h g v B (λp x ⟨w,_,f⟩=>OM f) (λp x f ⟨w,d,A⟩=>by obtain ⟨j,G⟩:=Ag d;obtain ⟨y,e⟩:=Aa.1 G;rw [Bn] at y;rw [Bv] at e;have J:=lQ hr (Ab (l:=r) (i:=j) (by omega)) g (by omega);rw [e,Kbu f,Kbu A] at J;omega)
   refine ⟨_,q,E,rfl,K.congr λp x=>?_⟩;rw [Ki g];constructor
   .rintro (⟨w,d,f⟩|f)
    .exact ⟨w,Ad.2 (.inl d),f⟩
    .exact ⟨_,Ad.2 (.inr (Ac.2 rfl)),f⟩
   .rintro ⟨w,d,f⟩;rcases Ad.1 d with d|d
    .exact .inl ⟨w,d,f⟩
    .rw [Ac] at d;subst d;exact .inr f)
  (by
   rintro s ⟨v,rfl,B⟩;refine ⟨_,?_,v,rfl,B.congr λp x=>?_⟩
   .unfold Xc;dsimp only;rw [J2 (by omega)]
   .rw [Bo])
 exact ⟨m,H,F⟩
def DX(r:AQ)(p:Cell)(x:AI):Prop:=
 (x=0/\J1 r (p.1,p.2)/\¬J1 r (p.1,p.2 - 1))\/(x=1/\J1 r (p.1 - 1,p.2)/\¬J1 r (p.1,p.2)) \/
 (x=2/\J1 r (p.1 - 1,p.2 - 1)/\¬J1 r (p.1 - 1,p.2))\/(x=3/\J1 r (p.1,p.2 - 1)/\¬J1 r (p.1 - 1,p.2 - 1))
theorem J1e{lo hi:AI}{l:AG Run}(h:AO lo hi l)(x:AI):(∃u∈l,x=u.2)↔Jl l (x - 1)/\¬Jl l x:=by
 constructor
 .rintro ⟨u,d,rfl⟩;have F:=h.bd u d;refine ⟨⟨u,d,by omega,by omega⟩,?_⟩;rintro ⟨v,w,E,B⟩;obtain ⟨i,hi⟩:=Ag d;obtain ⟨j,A⟩:=Ag w;obtain ⟨r,g⟩:=Aa.1 hi;obtain ⟨m,f⟩:=Aa.1 A;have pw:=Ai.1 h.pw;rcases Bc i j with a|a|a
  .have:=pw i j r m a;rw [g,f] at this;omega
  .subst a;rw [g] at f;subst f;omega
  .have:=pw j i m r a;rw [g,f] at this;omega
 .rintro ⟨⟨u,d,E,B⟩,y⟩;refine ⟨u,d,?_⟩;by_cases hx:x<u.2
  .exact (y ⟨u,d,by omega,hx⟩).elim
  .omega
theorem J7o{lo hi:AI}{l:AG Run}(h:AO lo hi l)(x:AI):(∃u∈l,x=u.1)↔Jl l x/\¬Jl l (x - 1):=by
 constructor
 .rintro ⟨u,d,rfl⟩;have F:=h.bd u d;refine ⟨⟨u,d,by omega,by omega⟩,?_⟩;rintro ⟨v,w,E,B⟩;obtain ⟨i,hi⟩:=Ag d;obtain ⟨j,A⟩:=Ag w;obtain ⟨r,g⟩:=Aa.1 hi;obtain ⟨m,f⟩:=Aa.1 A;have pw:=Ai.1 h.pw;rcases Bc i j with a|a|a
  .have:=pw i j r m a;rw [g,f] at this;omega
  .subst a;rw [g] at f;subst f;omega
  .have:=pw j i m r a;rw [g,f] at this;omega
 .rintro ⟨⟨u,d,E,B⟩,y⟩;refine ⟨u,d,?_⟩;by_cases hx:u.1<=x - 1
  .exact (y ⟨u,d,hx,by omega⟩).elim
  .omega
theorem DV{r:AQ}(hr:AJ r){w:Row}(a:w∈r){x y:AI}(e:y=w.1):J1 r (x,y)↔Jl w.2 x:=by rw [jS hr,e,nD hr a]
theorem XE{r:AQ}(hr:AJ r)(p:Cell)(x:AI):(∃w∈r,YR r w p x)↔DX r p x:=by
 constructor
 .rintro ⟨w,d,h⟩;have m:=hr.rs w d;rcases h with ⟨f,g,rfl⟩|⟨f,g,rfl⟩|⟨f,g,rfl⟩|⟨f,g,rfl⟩
  .exact .inl ⟨rfl,(DV hr d f).2 g.1,by rw [jS hr,f];exact g.2⟩
  .exact .inr (.inr (.inl ⟨rfl,(DV hr d (by omega)).2 g.1,by rw [jS hr,f];exact g.2⟩))
  .have:=(J1e m p.1).1 g;exact .inr (.inl ⟨rfl,(DV hr d f).2 this.1,λl=>this.2 ((DV hr d f).1 l)⟩)
  .have:=(J7o m p.1).1 g;exact .inr (.inr (.inr ⟨rfl,(DV hr d (by omega)).2 this.1,λl=>this.2 ((DV hr d (by omega)).1 l)⟩))
 .have key:∀ {a b:AI},J1 r (a,b)->∃w∈r,w.1=b:=λ⟨w,d,e,_⟩=>⟨w,d,e⟩;rintro (⟨rfl,f,g⟩|⟨rfl,f,g⟩|⟨rfl,f,g⟩|⟨rfl,f,g⟩)
  .obtain ⟨w,d,e⟩:=key f;exact ⟨w,d,.inl ⟨e.symm,⟨(DV hr d e.symm).1 f,λl=>g (by rw [jS hr,<-e];exact l)⟩,rfl⟩⟩
  .obtain ⟨w,d,e⟩:=key f;exact ⟨w,d,.inr (.inr (.inl ⟨e.symm,(J1e (hr.rs w d) p.1).2 ⟨(DV hr d e.symm).1 f,λl=>g ((DV hr d e.symm).2 l)⟩,rfl⟩))⟩
  .obtain ⟨w,d,e⟩:=key f;exact ⟨w,d,.inr (.inl ⟨by omega,⟨(DV hr d e.symm).1 f,λl=>g (by rw [jS hr,show p.2=w.1+1 by omega];exact l)⟩,rfl⟩)⟩
  .obtain ⟨w,d,e⟩:=key f;exact ⟨w,d,.inr (.inr (.inr ⟨by omega,(J7o (hr.rs w d) p.1).2 ⟨(DV hr d e.symm).1 f,λl=>g ((DV hr d e.symm).2 l)⟩,rfl⟩))⟩
theorem DX.e{r:AQ}{p:Cell}{x:AI}(h:DX r p x):x=0\/x=1\/x=2\/x=3:=by rcases h with ⟨h,_⟩|⟨h,_⟩|⟨h,_⟩|⟨h,_⟩<;>simp [h]
theorem DX.opp{r:AQ}{p:Cell}{x y:AI}(h:DX r p x)(h':DX r p y)(l:x≠y):(x+2) % 4=y:=by
 rcases h with ⟨rfl,g,f⟩|⟨rfl,g,f⟩|⟨rfl,g,f⟩|⟨rfl,g,f⟩ <;>
 rcases h' with ⟨rfl,d,a⟩|⟨rfl,d,a⟩|⟨rfl,d,a⟩|⟨rfl,d,a⟩ <;>
 first|rfl|exact (l rfl).elim|exact (f d).elim|exact (a g).elim
open Classical in
noncomputable def Ee(r:AQ)(p:Cell)(x:AI):AI:=
 let q:=X7 x p
 if DX r q ((x+1) % 4) then (x+1) % 4 else if DX r q x then x else (x+3) % 4
open Classical in
theorem J6i{r:AQ}{p:Cell}{x:AI}(h:DX r p x):DX r (X7 x p) (Ee r p x):=by
 unfold Ee;dsimp only;split
 .assumption
 split
 .assumption
 .next g f=>
  rcases h with ⟨rfl,d,a⟩|⟨rfl,d,a⟩|⟨rfl,d,a⟩|⟨rfl,d,a⟩<;>simp [X7,DX] at *<;>grind
open Classical in
theorem VO{r:AQ}{p q:Cell}{x y:AI}(v:DX r p x)(w:DX r q y)(a:X7 x p=X7 y q)(m:Ee r p x=Ee r q y):p=q/\x=y:=by
 by_cases d:x=y
 .subst d;refine ⟨?_,rfl⟩;unfold X7 at a;rw [Prod.ext_iff] at a ⊢;split at a
  .dsimp only at a;omega
  split at a
  .dsimp only at a;omega
  split at a<;>(dsimp only at a;omega)
 .exfalso;unfold Ee at m;dsimp only at m;rw [<-a] at m;have A:=v;obtain ⟨G,F⟩:=p;obtain ⟨E,B⟩:=q;rcases v with ⟨rfl,l,h⟩|⟨rfl,l,h⟩|⟨rfl,l,h⟩|⟨rfl,l,h⟩ <;>
  rcases w with ⟨rfl,g,f⟩|⟨rfl,g,f⟩|⟨rfl,g,f⟩|⟨rfl,g,f⟩ <;>
  first
   | exact (d rfl).elim
   | (simp [X7,DX] at *<;>grind)
section
variable {α:Type}
def CS(f:α->α):AM->α->α
 | 0,c=>c
 | k+1,c=>f (CS f k c)
theorem NK(f:α->α)(c:α)(j:AM):∀k,CS f (k+j) c=CS f k (CS f j c)
 | 0=>by rw [Nat.zero_add];rfl
 | k+1=>by rw [Nat.add_right_comm];exact AT f (NK f c j k)
theorem jV:∀ {l m:AG α},l.Nodup->(∀x∈l,x∈m)->l.length<=m.length
 | [],_,_,_=>Nat.zero_le _
 | x::l,m,h,hs=>by
  classical
  obtain ⟨f,d⟩:=Ax.1 h;have hx:=hs x (Ah ..);have:=jV (m:=m.erase x) d λy a=>(Di (λe=>f (by rw [<-e];exact a))).2 (hs y (Aj _ a));rw [Bz hx] at this;have:=Bj hx;rw [Az];omega
structure Ring (f:α->α) (cl:AG α):Prop where
 mem:∀c∈cl,f c∈cl
 inj:∀c∈cl,∀d∈cl,f c=f d->c=d
variable {f:α->α} {cl:AG α}
theorem Ring.EM(h:Ring f cl){c:α}(a:c∈cl):∀k,CS f k c∈cl
 | 0=>a
 | k+1=>h.mem _ (h.EM a k)
theorem Ring.F9(h:Ring f cl){c d:α}(a:c∈cl)(hd:d∈cl):∀k,CS f k c=CS f k d->c=d
 | 0,e=>e
 | k+1,e=>h.F9 a hd k (h.inj _ (h.EM a k) _ (h.EM hd k) e)
structure FK (f:α->α) (c:α) (N:AM):Prop where
 pos:0<N
 back:CS f N c=c
 ne:∀i,0<i->i<N->CS f i c≠c
theorem Ring.rnd(h:Ring f cl){c:α}(y:c∈cl):∃N,FK f c N/\N<=cl.length:=by
 classical
 have w:∃n,0<n/\n<=cl.length/\CS f n c=c:=by
  apply Ar;intro l;have r:((Bk (cl.length+1)).map λi=>CS f i c).Nodup:=by
   refine List.pairwise_map.2 ?_;refine List.Pairwise.imp_of_mem (R:=(·<·)) (λ{i j} hi E F e=>?_) Dc;rw [Bg] at hi E;refine l ⟨j - i,by omega,by omega,?_⟩;have H:CS f j c=CS f i (CS f (j - i) c):=by rw [<-NK,show i+(j - i)=j by omega]
   exact (h.F9 y (h.EM y _) i (by rw [<-H];exact e)).symm
  have:=jV r λx hx=>by obtain ⟨i,_,rfl⟩:=Dm.1 hx;exact h.EM y i
  rw [List.length_map,List.length_range] at this;omega
 have v:∃N,(0<N/\N<=cl.length/\CS f N c=c)/\∀i,0<i->i<N->CS f i c≠c:=by
  obtain ⟨n,B⟩:=w
  induction n using Nat.strongRecOn with
  | _ n A=>
   by_cases hx:∃m,m<n/\0<m/\CS f m c=c
   .obtain ⟨m,g,d,a⟩:=hx;exact A m g ⟨d,by omega,a⟩
   .exact ⟨n,B,λi g d a=>hx ⟨i,d,g,a⟩⟩
 obtain ⟨N,⟨g,d,a⟩,G⟩:=v;exact ⟨N,⟨g,a,G⟩,d⟩
theorem FK.per{c:α}{N:AM}(h:FK f c N)(k:AM):CS f (k+N) c=CS f k c:=by rw [NK,h.back]
theorem FK.from(hr:Ring f cl){c:α}{N:AM}(h:FK f c N)(a:c∈cl)(j:AM):FK f (CS f j c) N:=by
 have e:∀i,CS f i (CS f j c)=CS f j (CS f i c):=λi=>by rw [<-NK,<-NK,Nat.add_comm]
 refine ⟨h.pos,by rw [e,h.back],λi l g d=>h.ne i l g ?_⟩;rw [e] at d;exact hr.F9 (hr.EM a i) a j d
theorem FK.qA{c:α}{N:AM}(h:FK f c N):∀k,∃i,i<N/\CS f k c=CS f i c
 | 0=>⟨0,h.pos,rfl⟩
 | k+1=>by
  obtain ⟨i,g,a⟩:=h.qA k;by_cases d:i+1<N
  .exact ⟨i+1,d,AT f a⟩
  .refine ⟨0,h.pos,(AT f a).trans ?_⟩;have:i+1=N:=by omega
   rw [show f (CS f i c)=CS f (i+1) c from rfl,this,h.back];rfl
theorem FK.to(c:α){N:AM}(h:FK f c N)(k:AM):∃j,CS f j (CS f k c)=c:=by
 refine ⟨N * k - k,?_⟩;have d:k<=N * k:=Nat.le_mul_of_pos_left _ h.pos;rw [<-NK,show N * k - k+k=N * k by omega];clear d
 induction k with
 | zero=>rfl
 | succ k a=>rw [Nat.mul_succ,h.per,a]
theorem Ring.dist(h:Ring f cl){c:α}(d:c∈cl){N:AM}(hN:FK f c N){i j:AM}(hi:i<N)(l:j<N)(e:CS f i c=CS f j c):i=j:=by
 rcases Bc i j with a|a|a
 .have g:CS f j c=CS f i (CS f (j - i) c):=by rw [<-NK,show i+(j - i)=j by omega]
  exact (hN.ne (j - i) (by omega) (by omega) (h.F9 d (h.EM d _) i (by rw [<-g];exact e)).symm).elim
 .exact a
 .have g:CS f i c=CS f j (CS f (i - j) c):=by rw [<-NK,show j+(i - j)=i by omega]
  exact (hN.ne (i - j) (by omega) (by omega) (h.F9 d (h.EM d _) j (by rw [<-g];exact e.symm)).symm).elim
end
abbrev Ck:=Cell×AI
open Classical in
noncomputable def bN(r:AQ)(c:Cell):AG Ck:=
 (if J1 r (c.1,c.2 - 1) then [] else [((c.1,c.2),0)])++(if J1 r (c.1+1,c.2) then [] else [((c.1+1,c.2),1)]) ++
 (if J1 r (c.1,c.2+1) then [] else [((c.1+1,c.2+1),2)])++(if J1 r (c.1 - 1,c.2) then [] else [((c.1,c.2+1),3)])
noncomputable def Ia(r:AQ):AG Ck:=(Jq r).flatMap (bN r)
theorem nX{r:AQ}{c:Cell}{k:Ck}:k∈bN r c↔(¬J1 r (c.1,c.2 - 1)/\k=((c.1,c.2),0))\/(¬J1 r (c.1+1,c.2)/\k=((c.1+1,c.2),1)) \/
  (¬J1 r (c.1,c.2+1)/\k=((c.1+1,c.2+1),2))\/(¬J1 r (c.1 - 1,c.2)/\k=((c.1,c.2+1),3)):=by
 classical
 have h:∀(p:Prop) (x:Ck),k∈(if p then [] else [x])↔¬p/\k=x:=λp x=>by by_cases a:p<;>simp [a]
 unfold bN;simp only [Ad,h,or_assoc]
theorem M4{r:AQ}{k:Ck}:k∈Ia r↔DX r k.1 k.2:=by
 unfold Ia;rw [Bl];obtain ⟨⟨x,y⟩,h⟩:=k;constructor
 .rintro ⟨⟨a,b⟩,g,l⟩;rw [Q5] at g;rcases nX.1 l with ⟨d,f⟩|⟨d,f⟩|⟨d,f⟩|⟨d,f⟩<;>simp only [Prod.mk.injEq] at f<;>obtain ⟨⟨rfl,rfl⟩,rfl⟩:=f
  .exact .inl ⟨rfl,g,d⟩
  .exact .inr (.inl ⟨rfl,by simpa using g,d⟩)
  .exact .inr (.inr (.inl ⟨rfl,by simpa using g,by simpa using d⟩))
  .exact .inr (.inr (.inr ⟨rfl,by simpa using g,by simpa using d⟩))
 .rintro (⟨e,d,f⟩|⟨e,d,f⟩|⟨e,d,f⟩|⟨e,d,f⟩)<;>have e:h=_:=e<;>subst e
  .exact ⟨_,Q5.2 d,nX.2 (.inl ⟨f,rfl⟩)⟩
  .exact ⟨_,Q5.2 d,nX.2 (.inr (.inl ⟨by simpa using f,by simp⟩))⟩
  .exact ⟨_,Q5.2 d,nX.2 (.inr (.inr (.inl ⟨by simpa using f,by simp⟩)))⟩
  .exact ⟨_,Q5.2 d,nX.2 (.inr (.inr (.inr ⟨by simpa using f,by simp⟩)))⟩
noncomputable def nx(r:AQ)(c:Ck):Ck:=(X7 c.2 c.1,Ee r c.1 c.2)
theorem ring(r:AQ):Ring (nx r) (Ia r):=
 ⟨λc a=>M4.2 (J6i (M4.1 a)),λc a d hd e=>by obtain ⟨l,h⟩:=Prod.mk.injEq ..▸e;obtain ⟨g,f⟩:=VO (M4.1 a) (M4.1 hd) l h;exact Prod.ext g f⟩
def CX(r:AQ)(c:Ck):Prop:=DX r c.1 c.2/\∀k,¬yx (CS (nx r) k c).1 c.1
theorem J09(p:Cell){h:AI}(a:h=2\/h=3):yx (X7 h p) p:=by unfold yx X7;rcases a with rfl|rfl<;>simp<;>omega
theorem Kbv(p:Cell){h:AI}(a:h=0\/h=1):yx p (X7 h p):=by unfold yx X7;rcases a with rfl|rfl<;>simp<;>omega
theorem CX.e{r:AQ}{c:Ck}(h:CX r c):c.2=0\/c.2=1:=by
 rcases h.1.e with e|e|e|e
 .exact .inl e
 .exact .inr e
 .exact (h.2 1 (J09 c.1 (.inl e))).elim
 .exact (h.2 1 (J09 c.1 (.inr e))).elim
theorem CX.mem{r:AQ}{c:Ck}(h:CX r c):c∈Ia r:=M4.2 h.1
theorem zd{r:AQ}{c:Ck}(h:DX r c.1 c.2)(k:AM):DX r (CS (nx r) k c).1 (CS (nx r) k c).2:=M4.1 ((ring r).EM (M4.2 h) k)
theorem CX.prev{r:AQ}{c:Ck}(h:CX r c){k:AM}(d:CS (nx r) (k+1) c=c):(CS (nx r) k c).2=2\/(CS (nx r) k c).2=3:=by
 have e:nx r (CS (nx r) k c)=c:=d;have a:X7 (CS (nx r) k c).2 (CS (nx r) k c).1=c.1:=AT Prod.fst e;rcases (zd h.1 k).e with e|e|e|e
 .exact (h.2 k (by have:=Kbv (CS (nx r) k c).1 (.inl e);rwa [a] at this)).elim
 .exact (h.2 k (by have:=Kbv (CS (nx r) k c).1 (.inr e);rwa [a] at this)).elim
 .exact .inl e
 .exact .inr e
theorem CX.only{r:AQ}{c d:Ck}(h:CX r c)(hd:DX r d.1 d.2)(e:d.1=c.1)(g:¬yx (nx r d).1 c.1):d=c:=by
 refine Prod.ext e ?_;apply Ar;intro a;have f:=h.1.opp (y:=d.2) (by rw [<-e];exact hd) (λe=>a e.symm);have l:d.2=2\/d.2=3:=by rcases h.e with e|e<;>rw [e] at f<;>omega
 exact g (by rw [<-e];exact J09 d.1 l)
theorem CX.ne{r:AQ}{c:Ck}(h:CX r c){N:AM}(hN:FK (nx r) c N){k:AM}(d:0<k)(a:k<N):(CS (nx r) k c).1≠c.1:=λe=>
 hN.ne k d a (h.only (zd h.1 k) e (h.2 (k+1)))
theorem CX.uniq{r:AQ}{c d:Ck}(h:CX r c)(h':CX r d)(e:d.1=c.1):d=c:=
 h.only h'.1 e (by rw [<-e];exact h'.2 1)
theorem Kaz(a b:Cell):yx a b\/a=b\/yx b a:=by
 unfold yx;by_cases h:a=b
 .exact .inr (.inl h)
 .have:¬(a.1=b.1/\a.2=b.2):=λe=>h (Prod.ext e.1 e.2);omega
noncomputable def JU(r:AQ)(c:Ck)(k:AM):AH Cell:=if (CS (nx r) (k+1) c).2=(CS (nx r) k c).2 then AD else AC (CS (nx r) (k+1) c).1
noncomputable def seg(r:AQ)(c:Ck)(a n:AM):AG Cell:=(Bk n).filterMap λi=>JU r c (a+i)
noncomputable def poly(r:AQ)(c:Ck)(N:AM):AG Cell:=c.1::seg r c 0 (N - 1)
theorem xK(r:AQ)(c:Ck)(a n:AM):seg r c a (n+1)=seg r c a n++(JU r c (a+n)).toList:=by unfold seg;rw [Dd,Dg];cases h:JU r c (a+n)<;>simp [h]
theorem rz(r:AQ)(c:Ck)(a m:AM):∀n,seg r c a (m+n)=seg r c a m++seg r c (a+m) n
 | 0=>by simp [seg]
 | n+1=>by rw [<-Dl,xK,rz r c a m n,xK,List.append_assoc,Dl]
theorem J9t(r:AQ)(c:Ck)(a:AM):seg r c a 1=(JU r c a).toList:=by rw [show (1:AM)=0+1 from rfl,xK];simp [seg]
theorem Jyq(r:AQ)(c:Ck)(j k:AM):JU r (CS (nx r) j c) k=JU r c (k+j):=by unfold JU;rw [<-NK,<-NK,show k+1+j=k+j+1 by omega]
theorem Ni{r:AQ}{c:Ck}{N:AM}(h:FK (nx r) c N)(k:AM):JU r c (k+N)=JU r c k:=by unfold JU;rw [show k+N+1=k+1+N by omega,h.per,h.per]
theorem OD(r:AQ)(c:Ck)(j a n:AM):seg r (CS (nx r) j c) a n=seg r c (a+j) n:=by
 unfold seg
 congr 1
 funext i;rw [Jyq,show a+i+j=a+j+i by omega]
theorem Ka9{r:AQ}{c:Ck}{N:AM}(h:FK (nx r) c N)(a n:AM):seg r c (a+N) n=seg r c a n:=by
 unfold seg
 congr 1
 funext i;rw [show a+N+i=a+i+N by omega,Ni h]
theorem J60{r:AQ}{c:Ck}{a n:AM}{x:Cell}(h:x∈seg r c a n):∃i,i<n/\x=(CS (nx r) (a+i+1) c).1:=by
 unfold seg at h;obtain ⟨i,hi,e⟩:=List.mem_filterMap.1 h;refine ⟨i,Bg.1 hi,?_⟩;unfold JU at e;split at e
 .cases e
 .injection e with e;exact e.symm
theorem CX.turn{r:AQ}{s:Ck}(h:CX r s){N:AM}(hN:FK (nx r) s N):JU r s (N - 1)=AC s.1:=by
 have a:=hN.pos;unfold JU;have e:CS (nx r) (N - 1+1) s=s:=by rw [show N - 1+1=N by omega,hN.back]
 rw [e,AR];have f:=h.e;have d:=h.prev e;omega
theorem Ot{r:AQ}{s:Ck}(h:CX r s){N:AM}(hN:FK (nx r) s N):poly r s N=seg r s (N - 1) N:=by
 have a:=hN.pos;have e:seg r s (N - 1) (1+(N - 1))=seg r s (N - 1) N:=by rw [show 1+(N - 1)=N by omega]
 rw [<-e,rz,J9t,h.turn hN,show N - 1+1=0+N by omega,Ka9 hN];rfl
theorem CX.above{r:AQ}{s:Ck}(h:CX r s){N:AM}(hN:FK (nx r) s N){k:AM}(d:0<k)(a:k<N):yx s.1 (CS (nx r) k s).1:=by
 rcases Kaz s.1 (CS (nx r) k s).1 with e|e|e
 .exact e
 .exact (h.ne hN d a e.symm).elim
 .exact (h.2 k e).elim
theorem J9y{r:AQ}{c:Ck}(d:DX r c.1 c.2){N j:AM}(hN:FK (nx r) c N)(g:j<N)(h:CX r (CS (nx r) j c)) :
  ∃A B,seg r c (N - 1) N=A++(CS (nx r) j c).1::B/\poly r (CS (nx r) j c) N=(CS (nx r) j c).1::B++A/\∀x∈A++B,yx (CS (nx r) j c).1 x:=by
 have hs:FK (nx r) (CS (nx r) j c) N:=hN.from (ring r) (M4.2 d) j
 have f:=hN.pos;have a:=h.turn hs;rw [Jyq] at a;have eB:seg r c (N - 1+j) (N - j)=(CS (nx r) j c).1::seg r c (N+j) (N - j - 1):=by
  conv=>lhs;rw [show N - j=1+(N - j - 1) by omega]
  rw [rz,J9t,a,show N - 1+j+1=N+j by omega];rfl
 refine ⟨seg r c (N - 1) j,seg r c (N+j) (N - j - 1),?_,?_,?_⟩
 .rw [<-eB,<-rz,show j+(N - j)=N by omega]
 .rw [Ot h hs,OD,<-eB];have e:seg r c (N - 1+j) ((N - j)+j)=seg r c (N - 1+j) N:=by rw [show N - j+j=N by omega]
  rw [<-e,rz,show N - 1+j+(N - j)=N - 1+N by omega,Ka9 hN]
 .intro x hx;rcases Ad.1 hx with hx|hx
  .obtain ⟨i,hi,rfl⟩:=J60 hx;have:=h.above hs (k:=i+N - j) (by omega) (by omega);rwa [<-NK,show i+N - j+j=N - 1+i+1 by omega] at this
  .obtain ⟨i,hi,rfl⟩:=J60 hx;have:=h.above hs (k:=i+1) (by omega) (by omega);rwa [<-NK,<-hN.per (i+1+j),show i+1+j+N=N+j+i+1 by omega] at this
theorem FK.uniq{α:Type}{f:α->α}{c:α}{N M:AM}(h:FK f c N)(h':FK f c M):N=M:=by
 rcases Bc N M with e|e|e
 .exact (h'.ne N h.pos e h.back).elim
 .exact e
 .exact (h.ne M h'.pos e h'.back).elim
open Classical in
noncomputable def E9(r:AQ)(c:Ck):AM:=if h:∃N,FK (nx r) c N then h.choose else 0
theorem nN{r:AQ}{c:Ck}(h:DX r c.1 c.2):FK (nx r) c (E9 r c):=by have hx:∃N,FK (nx r) c N:=(ring r).rnd (M4.2 h) |>.imp λN h=>h.1;unfold E9;rw [dif_pos hx];exact hx.choose_spec
theorem Kbo{r:AQ}{c:Ck}{N:AM}(h:DX r c.1 c.2)(hN:FK (nx r) c N):E9 r c=N:=(nN h).uniq hN
theorem J1n{r:AQ}{c:Ck}(h:DX r c.1 c.2):E9 r c<=(Ia r).length:=by obtain ⟨N,d,a⟩:=(ring r).rnd (M4.2 h);rw [Kbo h d];exact a
noncomputable def pol(r:AQ)(c:Ck):AG Cell:=poly r c (E9 r c)
structure Starts (r:AQ) (l:AG Ck):Prop where
 pw:l.Pairwise λa b=>yx a.1 b.1
 mem:∀c,c∈l↔CX r c
theorem Starts.uniq{r:AQ}{l m:AG Ck}(h:Starts r l)(h':Starts r m):l=m:=
 Jo1 (λa b h=>J31 h) h.pw h'.pw λx=>(h.mem x).trans (h'.mem x).symm
def Closed(r:AQ)(S:Ck->Prop):Prop:=(∀c,S c->DX r c.1 c.2)/\∀c,S c->S (nx r c)
theorem Closed.CS{r:AQ}{S:Ck->Prop}(h:Closed r S){c:Ck}(a:S c):∀k,S (CS (nx r) k c)
 | 0=>a
 | k+1=>h.2 _ (h.CS a k)
theorem Closed.sub{r:AQ}{S:Ck->Prop}(h:Closed r S){c:Ck}(a:DX r c.1 c.2):Closed r λd=>S d/\¬ ∃k,d=Go.Proofs.YtmfagdfkpjgeiaaGreat.CS (nx r) k c:=by
 refine ⟨λd hd=>h.1 d hd.1,λd hd=>⟨h.2 d hd.1,?_⟩⟩;rintro ⟨k,f⟩;refine hd.2 ?_;have hN:=nN a;have e:nx r d=nx r (Go.Proofs.YtmfagdfkpjgeiaaGreat.CS (nx r) (k+E9 r c - 1) c):=by have g:=hN.pos;rw [f,show nx r (Go.Proofs.YtmfagdfkpjgeiaaGreat.CS (nx r) (k+E9 r c - 1) c)=Go.Proofs.YtmfagdfkpjgeiaaGreat.CS (nx r) (k+E9 r c - 1+1) c from rfl,show k+E9 r c - 1+1=k+E9 r c by omega,hN.per]
 exact ⟨_,(ring r).inj _ (M4.2 (h.1 d hd.1)) _ (M4.2 (zd a _)) e⟩
def BS(h:AI):Cell:=if h=0 then (1,0) else if h=1 then (0,1) else if h=2 then (-1,0) else (0,-1)
def EC(p d:Cell):Cell:=(p.1+d.1,p.2+d.2)
def fwd(p:Cell)(h:AI)(n:AM):Cell:=(p.1+(n:AI) * (BS h).1,p.2+(n:AI) * (BS h).2)
theorem Jo0(h:AI)(p:Cell):X7 h p=EC p (BS h):=by
 unfold X7 EC BS;split
 .simp
 split
 .simp
 split
 .simp [Int.sub_eq_add_neg]
 .simp [Int.sub_eq_add_neg]
theorem J1w(p:Cell)(h:AI):fwd p h 0=p:=by unfold fwd;simp
theorem Jwb(p:Cell)(h:AI)(n:AM):fwd p h (n+1)=X7 h (fwd p h n):=by rw [Jo0];unfold fwd EC;dsimp only;rw [show ((n+1:AM):AI)=(n:AI)+1 by omega,Int.add_mul,Int.add_mul,Int.one_mul,Int.one_mul,Int.add_assoc,Int.add_assoc]
section
variable (r:AQ) (s:Ck)
noncomputable def Ce(k:AM):AI:=(CS (nx r) k s).2
noncomputable def EB(k:AM):Cell:=(CS (nx r) k s).1
theorem xH(k:AM):EB r s (k+1)=X7 (Ce r s k) (EB r s k):=rfl
noncomputable def EJ(N:AM):AG AM:=(Bk N).filter λk=>decide (k=0\/Ce r s k≠Ce r s (k - 1))
theorem J0e{N k:AM}:k∈EJ r s N↔k<N/\(k=0\/Ce r s k≠Ce r s (k - 1)):=by unfold EJ;rw [List.mem_filter,Bg,decide_eq_true_eq]
theorem Nn(N:AM):(EJ r s N).Pairwise (·<·):=List.Pairwise.filter _ Dc
theorem Jup{N:AM}(h:0<N):EJ r s N=0::((Bk (N - 1)).filter λk=>decide (Ce r s (k+1)≠Ce r s k)).map (·+1):=by
 unfold EJ;obtain ⟨M,rfl⟩:∃M,N=M+1:=⟨N - 1,by omega⟩;rw [List.range_succ_eq_map,List.filter_cons_of_pos (by simp),List.filter_map,Nat.add_sub_cancel]
 congr 2
 refine List.filter_congr λk _=>?_;simp
theorem Jvc{N:AM}(h:0<N):poly r s N=(EJ r s N).map (EB r s):=by
 rw [Jup r s h,Aq,poly]
 congr 1
 unfold seg;generalize N - 1=M;clear h
 induction M with
 | zero=>rfl
 | succ M f=>
  rw [Dd,Dg,List.filter_append,Da,Da,f]
  congr 1
  have d:(0:AM)+M=M:=Nat.zero_add M;by_cases a:Ce r s (M+1)=Ce r s M
  .have:JU r s M=AD:=AS a;simp [a,this,d]
  .have:JU r s M=AC (EB r s (M+1)):=AR a;simp [a,this,d]
noncomputable def tpN(N i:AM):AM:=(EJ r s N)[i]?.getD N
theorem xG{N:AM}(h:0<N):tpN r s N 0=0:=by unfold tpN;rw [Jup r s h];rfl
theorem sN{N i:AM}(h:(EJ r s N).length<=i):tpN r s N i=N:=by unfold tpN;rw [Aw h];rfl
theorem mQ{N i:AM}(h:i<(EJ r s N).length):(EJ r s N)[i]?=AC (tpN r s N i):=by unfold tpN;rw [Ab h];rfl
theorem mI{N i:AM}(h:i<(EJ r s N).length):tpN r s N i<tpN r s N (i+1):=by
 have a:=mQ r s h;by_cases d:i+1<(EJ r s N).length
 .exact J25 (Nn r s N) a (mQ r s d)
 .rw [sN r s (i:=i+1) (by omega)];exact (J0e r s).1 (Ae a) |>.1
theorem J15{N i:AM}:tpN r s N i<=N:=by
 by_cases h:i<(EJ r s N).length
 .exact Nat.le_of_lt ((J0e r s).1 (Ae (mQ r s h)) |>.1)
 .rw [sN r s (by omega)];exact Ba _
theorem between{N i:AM}(h:i<(EJ r s N).length){k:AM}(K:tpN r s N i<k)(G:k<tpN r s N (i+1)):Ce r s k=Ce r s (k - 1):=by
 apply Ar;intro f;have B:k∈EJ r s N:=(J0e r s).2 ⟨Nat.lt_of_lt_of_le G (J15 r s),.inr f⟩;obtain ⟨j,w⟩:=Ag B;have g:=(Aa.1 w).1;have e:tpN r s N j=k:=by unfold tpN;rw [w];rfl
 have mono:∀ {a b:AM},a<b->b<(EJ r s N).length->tpN r s N a<tpN r s N b:=λ{a b} v E=>by have F:=mQ r s (N:=N) (i:=a) (by omega);have m:=mQ r s E;obtain ⟨A,J⟩:=Aa.1 F;obtain ⟨y,H⟩:=Aa.1 m;rw [<-J,<-H];exact Ai.1 (Nn r s N) a b A y v
 rcases Bc j i with d|d|d
 .have:=mono d h;omega
 .subst d;omega
 .by_cases l:j=i+1
  .subst l;omega
  .have:=mono (a:=i+1) (b:=j) (by omega) g;omega
theorem sK{N i:AM}(h:i<(EJ r s N).length):∀j,tpN r s N i+j<tpN r s N (i+1)->Ce r s (tpN r s N i+j)=Ce r s (tpN r s N i)
 | 0,_=>rfl
 | j+1,a=>by rw [between r s h (k:=tpN r s N i+(j+1)) (by omega) a,show tpN r s N i+(j+1) - 1=tpN r s N i+j by omega];exact sK h j (by omega)
theorem edge{N i:AM}(h:i<(EJ r s N).length):∀j,tpN r s N i+j<=tpN r s N (i+1)->EB r s (tpN r s N i+j)=fwd (EB r s (tpN r s N i)) (Ce r s (tpN r s N i)) j
 | 0,_=>(J1w _ _).symm
 | j+1,a=>by rw [<-Dl,xH,sK r s h j (by omega),edge h j (by omega),Jwb]
def ZY(h h':AI):Prop:=h'=(h+3) % 4
instance (h h':AI):Decidable (ZY h h'):=inferInstanceAs (Decidable (_=_))
noncomputable def Ec(k:AM):AG Cell:=K6 (EB r s k) (Ce r s k)::if ZY (Ce r s k) (Ce r s (k+1)) then [EC (K6 (EB r s k) (Ce r s k)) (BS (Ce r s k))] else []
noncomputable def raw(n:AM):AG Cell:=(Bk n).flatMap (Ec r s)
theorem jT(n:AM):raw r s (n+1)=raw r s n++Ec r s n:=by unfold raw;rw [Dd,Dk];simp
end
def aF(a b:Cell):Prop:=((a.1 - b.1=1\/a.1 - b.1=-1)/\a.2=b.2)\/(a.1=b.1/\(a.2 - b.2=1\/a.2 - b.2=-1))
def near(a b:Cell):Prop:=a=b\/aF a b
def H7(R:Cell->Cell->Prop)(l:AG Cell):Prop:=∀i a b,l[i]?=AC a->l[i+1]?=AC b->R a b
theorem H7.nil(R:Cell->Cell->Prop):H7 R []:=λi a b h=>by simp at h
theorem H7.snoc{R:Cell->Cell->Prop}{l:AG Cell}{c:Cell}(h:H7 R l)(hl:∀a,l.getLast?=AC a->R a c):H7 R (l++[c]):=by
 intro i a b f d;have hi:i+1<(l++[c]).length:=(Aa.1 d).1;rw [Ao,Dh] at hi;by_cases g:i+1<l.length
 .rw [As (by omega)] at f d;exact h i a b f d
 .have e:i+1=l.length:=by omega
  rw [As (by omega)] at f;rw [Br (by omega),show i+1 - l.length=0 by omega] at d;simp at d;subst d;exact hl a (by rw [Bw,show l.length - 1=i by omega];exact f)
theorem H7.left{R:Cell->Cell->Prop}{l m:AG Cell}(h:H7 R (l++m)):H7 R l:=λi a b f d=>by have g:=(Aa.1 d).1;exact h i a b (by rw [As (by omega)];exact f) (by rw [As (by omega)];exact d)
theorem H7.last{R:Cell->Cell->Prop}{l:AG Cell}{c a:Cell}(h:H7 R (l++[c]))(f:l.getLast?=AC a):R a c:=by
 have d:l≠[]:=λe=>by subst e;simp at f
 have g:=Bp.2 d;rw [Bw] at f;exact h (l.length - 1) a c (by rw [As (by omega)];exact f) (by rw [show l.length - 1+1=l.length by omega,Br (by omega)];simp)
def JO(out:AG Cell)(c:Cell):AG Cell:=if out.getLast?=AC c then out else out++[c]
def dd(l:AG Cell):AG Cell:=l.foldl JO []
theorem mK(l:AG Cell)(c:Cell):dd (l++[c])=JO (dd l) c:=by unfold dd;rw [List.foldl_append];rfl
theorem Rn(l m:AG Cell):dd (l++m)=m.foldl JO (dd l):=by unfold dd;rw [List.foldl_append]
theorem tJ{P:AG Cell->Prop}(f:P [])(d:∀l c,P l->P (l++[c]))(l:AG Cell):P l:=by
 have key:∀m:AG Cell,P m.reverse:=λm=>by
  induction m with
  | nil=>exact f
  | cons c m a=>rw [List.reverse_cons];exact d _ _ a
 have:=key l.reverse;rwa [List.reverse_reverse] at this
theorem Kab(l:AG Cell):(dd l).getLast?=l.getLast?:=by
 refine tJ (P:=λl=>(dd l).getLast?=l.getLast?) rfl (λl c a=>?_) l;rw [mK,Ay];unfold JO;split
 .assumption
 .exact Ay ..
theorem XA(l:AG Cell):(dd l).head?=l.head?:=by
 refine tJ (P:=λl=>(dd l).head?=l.head?) rfl (λl c d=>?_) l;rw [mK];have a:∀m:AG Cell,(m++[c]).head?=m.head?.or (AC c):=λm=>by cases m<;>rfl
 rw [a l,<-d];unfold JO;split
 .rename_i h;cases hd:dd l with
  | nil=>rw [hd] at h;simp at h
  | cons x m=>rfl
 .rw [a]
theorem iB(l:AG Cell)(x:Cell):x∈dd l↔x∈l:=by
 refine tJ (P:=λl=>x∈dd l↔x∈l) Iff.rfl (λl c a=>?_) l;rw [mK,Ad,Ac,<-a];unfold JO;split
 .rename_i h;refine ⟨.inl,λhx=>hx.elim id λe=>?_⟩;subst e;exact List.mem_of_getLast? h
 .rw [Ad,Ac]
theorem Ka1(l:AG Cell):(dd l).length<=l.length:=by
 refine tJ (P:=λl=>(dd l).length<=l.length) (Ba _) (λl c a=>?_) l;rw [mK,Ao];unfold JO;split
 .omega
 .rw [Ao];simp only [Dh];omega
theorem iC{l:AG Cell}(h:H7 near l):H7 aF (dd l):=by
 revert h;refine tJ (P:=λl=>H7 near l->H7 aF (dd l)) (λ_=>H7.nil _) (λl c f h=>?_) l;rw [mK];unfold JO;split
 .exact f h.left
 .rename_i d;refine (f h.left).snoc λa g=>?_;rcases h.last (by rw [<-Kab];exact g) with e|m
  .exact (d (by rw [g,e])).elim
  .exact m
def trim(l:AG Cell):AG Cell:=if 1<l.length/\l.head?=l.getLast? then l.dropLast else l
def NH(l:AG Cell):AG Cell:=trim (dd l)
structure dD (l:AG Cell):Prop where
 ne:l≠[]
 adj:H7 aF l
 cl:l.length=1\/∀a b,l.getLast?=AC a->l.head?=AC b->aF a b
theorem Jz9{l:AG Cell}(m:l≠[])(h:H7 near l)(B:∀a b,l.getLast?=AC a->l.head?=AC b->near a b):dD (NH l):=by
 have hD:=iC h;have v:=Kab l;have E:=XA l;have hneD:dd l≠[]:=λe=>by rw [e] at v;exact m (By.1 v.symm)
 unfold NH trim;generalize dd l=D at *
 split
 .rename_i hx;obtain ⟨r,g⟩:=hx;obtain ⟨M,x,rfl⟩:∃M x,D=M++[x]:=⟨D.dropLast,D.getLast hneD,(Bq hneD).symm⟩;rw [Dj];rw [Ay] at g;have hM:M≠[]:=λe=>by subst e;simp at r
  have A:M.head?=AC x:=by
   cases M with
   | nil=>exact (hM rfl).elim
   | cons y M=>simpa using g
  refine ⟨hM,hD.left,.inr λa b f d=>?_⟩;rw [A] at d;injection d with d;subst d;exact hD.last f
 .rename_i hx;refine ⟨hneD,hD,?_⟩;by_cases r:D.length=1
  .exact .inl r
  .refine .inr λa b f d=>?_;have g:1<D.length:=by have:=Bp.2 hneD;omega
   rcases B a b (by rw [<-v];exact f) (by rw [<-E];exact d) with e|w
   .exact (hx ⟨g,by rw [f,d,e]⟩).elim
   .exact w
theorem J2x{l:AG Cell}(x:Cell):x∈NH l↔x∈l:=by
 rw [<-iB l];unfold NH trim;generalize dd l=D;split
 .rename_i hx;obtain ⟨g,f⟩:=hx;refine ⟨λh=>(List.dropLast_sublist _).subset h,λa=>?_⟩;have d:D≠[]:=λe=>by subst e;simp at g
  obtain ⟨M,y,rfl⟩:∃M y,D=M++[y]:=⟨D.dropLast,D.getLast d,(Bq d).symm⟩;rw [Dj];rw [Ay] at f;rcases Ad.1 a with a|a
  .exact a
  .rw [Ac] at a;subst a;cases M with
   | nil=>simp at g
   | cons y M=>
    have:y=x:=by simpa using f
    subst this;exact Ah ..
 .exact Iff.rfl
theorem O1(l:AG Cell):(NH l).length<=l.length:=by
 have:=Ka1 l;unfold NH trim;split
 .rw [List.length_dropLast];omega
 .exact this
theorem H7.app{R:Cell->Cell->Prop}{l:AG Cell}(h:H7 R l):∀ {m:AG Cell},H7 R m->(∀a b,l.getLast?=AC a->m.head?=AC b->R a b)->H7 R (l++m):=by
 intro m
 induction m generalizing l with
 | nil=>intro _ _;rw [List.append_nil];exact h
 | cons c m r=>
  intro g hl;have e:l++c::m=(l++[c])++m:=by simp
  rw [e];refine r (h.snoc λa d=>hl a c d rfl) (λi a b d f=>g (i+1) a b (by simpa using d) (by simpa using f)) λa b d f=>?_;rw [Ay] at d;injection d with d;subst d;exact g 0 c b rfl (by rw [<-f];cases m<;>rfl)
theorem fA(r:AQ)(p:Cell)(x:AI):Ee r p x=(x+1) % 4\/Ee r p x=x\/Ee r p x=(x+3) % 4:=by
 unfold Ee;dsimp only;split
 .exact .inl rfl
 split
 .exact .inr (.inl rfl)
 .exact .inr (.inr rfl)
theorem Jx2{r:AQ}{s:Ck}(hs:DX r s.1 s.2)(k:AM):∀a,(Ec r s k).getLast?=AC a->near a (K6 (EB r s (k+1)) (Ce r s (k+1))):=by
 have h:=zd hs k;intro a d;have f:=fA r (EB r s k) (Ce r s k);rw [show Ee r (EB r s k) (Ce r s k)=Ce r s (k+1) from rfl] at f;have hx:Ce r s k=0\/Ce r s k=1\/Ce r s k=2\/Ce r s k=3:=h.e;rw [xH];unfold Ec at d;generalize Ce r s k=x at *
 generalize Ce r s (k+1)=y at *
 generalize EB r s k=p at *
 rcases hx with rfl|rfl|rfl|rfl<;>rcases f with rfl|rfl|rfl<;>simp [ZY,List.getLast?] at d<;>subst d<;>simp [near,aF,K6,X7,EC,BS]<;>omega
theorem J9s(r:AQ)(s:Ck)(hs:DX r s.1 s.2)(k:AM):H7 near (Ec r s k):=by
 have hx:Ce r s k=0\/Ce r s k=1\/Ce r s k=2\/Ce r s k=3:=(zd hs k).e;unfold Ec;split
 .intro i a b f d;cases i with
  | zero=>
   simp at f d;subst f;subst d;refine .inr ?_;generalize Ce r s k=x at *
   rcases hx with rfl|rfl|rfl|rfl<;>simp [aF,EC,BS]<;>omega
  | succ i=>simp at d
 .intro i a b f d;simp at d
theorem J7l(r:AQ)(s:Ck)(k:AM):(Ec r s k).head?=AC (K6 (EB r s k) (Ce r s k)):=rfl
theorem VG(r:AQ)(s:Ck)(k:AM):Ec r s k≠[]:=λe=>by cases e
theorem J2n(r:AQ)(s:Ck){n:AM}:(raw r s (n+1)).getLast?=(Ec r s n).getLast?:=by
 rw [jT,List.getLast?_append];cases h:(Ec r s n).getLast? with
 | none=>exact (VG r s n (By.1 h)).elim
 | some a=>rfl
theorem J97{r:AQ}{s:Ck}(hs:DX r s.1 s.2):∀n,H7 near (raw r s n)
 | 0=>H7.nil _
 | n+1=>by
  rw [jT];refine (J97 hs n).app (J9s r s hs n) λa b f d=>?_;cases n with
  | zero=>simp [raw] at f
  | succ n=>
   rw [J2n] at f;rw [J7l] at d;injection d with d;subst d;exact Jx2 hs n a f
theorem Jv8(r:AQ)(s:Ck):∀ {n:AM},0<n->(raw r s n).head?=AC (K6 s.1 s.2)
 | 1,_=>by rw [jT];rfl
 | n+2,_=>by
  rw [jT];have:=Jv8 r s (n:=n+1) (by omega);cases h:raw r s (n+1) with
  | nil=>rw [h] at this;cases this
  | cons x l=>rw [h] at this;exact this
theorem eH(r:AQ)(s:Ck){n:AM}(h:0<n):raw r s n≠[]:=λe=>by have:=Jv8 r s h;rw [e] at this;cases this
theorem J1c{r:AQ}{s:Ck}(hs:DX r s.1 s.2){N:AM}(hN:FK (nx r) s N):dD (NH (raw r s N)):=by have f:=hN.pos;obtain ⟨M,rfl⟩:∃M,N=M+1:=⟨N - 1,by omega⟩;refine Jz9 (eH r s f) (J97 hs _) λa b g d=>?_;rw [J2n] at g;rw [Jv8 r s f] at d;injection d with d;subst d;have:=Jx2 hs M a g;have e:CS (nx r) (M+1) s=s:=hN.back;have l:EB r s (M+1)=s.1:=AT Prod.fst e;have h:Ce r s (M+1)=s.2:=AT Prod.snd e;rwa [l,h] at this
theorem Kai{r:AQ}{p:Cell}{x:AI}(h:DX r p x):J1 r (K6 p x):=by rcases h with ⟨rfl,a,d⟩|⟨rfl,a,d⟩|⟨rfl,a,d⟩|⟨rfl,a,d⟩<;>simpa [K6] using a
theorem Kbi{r:AQ}{p:Cell}{x:AI}(h:DX r p x)(a:Ee r p x=(x+3) % 4):J1 r (EC (K6 p x) (BS x)):=by
 unfold Ee at a;dsimp only at a;split at a
 .rcases h.e with rfl|rfl|rfl|rfl<;>simp at a
 split at a
 .rcases h.e with rfl|rfl|rfl|rfl<;>simp at a
 .next v m=>
  obtain ⟨l,g⟩:=p;rcases h with ⟨rfl,f,d⟩|⟨rfl,f,d⟩|⟨rfl,f,d⟩|⟨rfl,f,d⟩<;>simp [X7,DX,K6,EC,BS] at *<;>grind
theorem J7e{r:AQ}{s:Ck}{n:AM}{x:Cell}(h:x∈raw r s n):∃k,k<n/\x∈Ec r s k:=by obtain ⟨k,a,hx⟩:=Bl.1 h;exact ⟨k,Bg.1 a,hx⟩
theorem Od{r:AQ}{s:Ck}(hs:DX r s.1 s.2){n:AM}{x:Cell}(h:x∈raw r s n):J1 r x:=by
 obtain ⟨k,d,hx⟩:=J7e h;have a:=zd hs k;unfold Ec at hx;rcases Af.1 hx with rfl|hx
 .exact Kai a
 .split at hx
  .rename_i hr;rw [Ac] at hx;subst hx;exact Kbi a hr
  .exact (Ak hx).elim
theorem Og(r:AQ)(s:Ck)(k:AM):(Ec r s k).length<=2:=by unfold Ec;split<;>simp
theorem wT(r:AQ)(s:Ck):∀n,(raw r s n).length<=2 * n
 | 0=>Ba _
 | n+1=>by rw [jT,Ao];have:=wT r s n;have:=Og r s n;omega
theorem J5w(r:AQ)(c:Cell):(bN r c).length<=4:=by unfold bN;split<;>split<;>split<;>split<;>simp
theorem J0q(r:AQ):(Ia r).length<=4 * (Jq r).length:=by
 unfold Ia;generalize Jq r=l
 induction l with
 | nil=>exact Ba _
 | cons c l a=>
  rw [List.flatMap_cons,Ao,Az];have:=J5w r c;omega
theorem Tx(r:AQ)(s:Ck)(N:AM):(EJ r s N).length<=N:=by have:=List.length_filter_le (λk=>decide (k=0\/Ce r s k≠Ce r s (k - 1))) (Bk N);rw [List.length_range] at this;exact this
theorem Tw{r:AQ}{s:Ck}(h:CX r s){N:AM}(hN:FK (nx r) s N):2<=(EJ r s N).length:=by
 have l:=hN.pos;rw [Jup r s l,Az,List.length_map];have v:Ce r s 0=0\/Ce r s 0=1:=h.e;have m:Ce r s (N - 1)=2\/Ce r s (N - 1)=3:=h.prev (k:=N - 1) (by rw [show N - 1+1=N by omega,hN.back])
 suffices hs:∃k,k<N - 1/\Ce r s (k+1)≠Ce r s k by obtain ⟨k,f,a⟩:=hs;have:k∈(Bk (N - 1)).filter λk=>decide (Ce r s (k+1)≠Ce r s k):=List.mem_filter.2 ⟨Bg.2 f,AW a⟩;have:=Bj this;omega
 apply Ar;intro d;have key:∀k,k<=N - 1->Ce r s k=Ce r s 0:=by
  intro k
  induction k with
  | zero=>intro _;rfl
  | succ k g=>
   intro f;rw [<-g (by omega)];apply Ar;intro a;exact d ⟨k,by omega,a⟩
 have:=key (N - 1) (Ba _);omega
def qW(r:AQ)(c:Cell):Prop:=J1 r c/\∃dx dy:AI,-1<=dx/\dx<=1/\-1<=dy/\dy<=1/\¬J1 r (c.1+dx,c.2+dy)
theorem Jzs{r:AQ}{s:Ck}(hs:DX r s.1 s.2){n:AM}{x:Cell}(h:x∈raw r s n):qW r x:=by
 refine ⟨Od hs h,?_⟩;obtain ⟨k,l,hx⟩:=J7e h;have d:=zd hs k;rw [show CS (nx r) k s=(EB r s k,Ce r s k) from rfl] at d;unfold Ec at hx;dsimp only at d;generalize EB r s k=p at *
 generalize Ce r s k=y at *
 have a:¬J1 r (K6 (EC p (BS ((y+3) % 4))) y):=by rcases d with ⟨rfl,g,f⟩|⟨rfl,g,f⟩|⟨rfl,g,f⟩|⟨rfl,g,f⟩<;>simp [K6,EC,BS]<;>grind
 rcases Af.1 hx with rfl|hx
 .rcases d.e with rfl|rfl|rfl|rfl
  .exact ⟨0,-1,by omega,by omega,by omega,by omega,by simp [K6,EC,BS] at a ⊢;grind⟩
  .exact ⟨1,0,by omega,by omega,by omega,by omega,by simp [K6,EC,BS] at a ⊢;grind⟩
  .exact ⟨0,1,by omega,by omega,by omega,by omega,by simp [K6,EC,BS] at a ⊢;grind⟩
  .exact ⟨-1,0,by omega,by omega,by omega,by omega,by simp [K6,EC,BS] at a ⊢;grind⟩
 .split at hx
  .rw [Ac] at hx;subst hx;rcases d.e with rfl|rfl|rfl|rfl
   .exact ⟨-1,-1,by omega,by omega,by omega,by omega,by simp [K6,EC,BS] at a ⊢;grind⟩
   .exact ⟨1,-1,by omega,by omega,by omega,by omega,by simp [K6,EC,BS] at a ⊢;grind⟩
   .exact ⟨1,1,by omega,by omega,by omega,by omega,by simp [K6,EC,BS] at a ⊢;grind⟩
   .exact ⟨-1,1,by omega,by omega,by omega,by omega,by simp [K6,EC,BS] at a ⊢;grind⟩
  .exact (Ak hx).elim
end Go.Proofs.YtmfagdfkpjgeiaaGreat
