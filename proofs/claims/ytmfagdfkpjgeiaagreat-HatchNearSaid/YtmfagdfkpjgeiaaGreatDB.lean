/- Calls by contract: values up to nil slices. Conditions: none. -/
import Derived.Test.YtmfagdfkpjgeiaaGreatDA
open Option renaming some -> AC, none -> AD
open Bool renaming true -> AE, false -> AF
open _root_ renaming List -> AG, Option -> AH, Nat -> AM, Bool -> AN, if_pos -> AS, Int -> AI, if_neg -> AR, congrArg -> AT
set_option linter.unusedVariables false
set_option linter.unusedSimpArgs false
namespace Go.Dn
open Go Go.Vv
open List renaming mem_singleton -> Aa, mem_cons_of_mem -> Ab, getElem?_eq_some_iff -> Ad, mem_cons_self -> Ae, mem_append_right -> Af, getElem?_eq_getElem -> Ag, all_eq_true -> Ah, mem_cons -> Ai, append_nil -> Aj, mem_filter -> Ak, mem_append_left -> Am, mem_flatMap -> Ao, mem_map -> Ar, map_cons -> Au, mem_of_getElem? -> Av, flatMap_cons -> Aw, flatMap_append -> Ax, length_append -> Ay, length_eq_zero_iff -> Az, mem_append -> Bb, getElem?_map -> Bc, map_nil -> Bg, getElem?_of_mem -> Bh, length_map -> Bj, getElem?_cons_zero -> Bl, map_map -> Bm, append_assoc -> Bo, not_mem_nil -> Bp, isEmpty_iff -> Br, set_append_right -> Bs, eq_nil_iff_forall_not_mem -> Bt, nodup_cons -> Bu, map_congr_left -> Bv, getElem?_drop -> Bw, getElem?_append_right -> Db, getElem?_append_left -> Dc, mem_or_eq_of_mem_set -> Dd, length_cons -> De, cons_append -> Df, flatMap_nil -> Dg, getElem?_cons_succ -> Di, flatMap -> Dj, map_append -> Dk, length_eq_one_iff -> Dl, filter -> Do, mapM_cons -> Dq, all_cons -> Dr
open Bool renaming and_eq_true -> Ac, not_eq_true' -> As, false_ne_true -> Bz, or_eq_true -> Dm
open Option.some renaming injEq -> Ap, inj -> Bf
open Option renaming bind_some -> Aq, map_some -> Be
open Nat renaming le_refl -> Ba, eq_of_beq_eq_true -> Bd, zero_lt_one -> Bk, add_sub_cancel_left -> Bn, mul_div_cancel -> By, zero_add -> Dh, zero_le -> Dp, zero_div -> Ds, add_mul -> Dt
open Prod.mk renaming injEq -> Bq
open _root_.Array renaming getElem?_eq_some_iff -> Da
inductive Up:AV->AV->Prop
 | refl (v:AV):Up v v
 | BK:Up .BK (.CF 0 [])
 | CF (n:AM) (l l':AG AV) (hl:l.length=l'.length) (h:∀(i:AM) (x y:AV),l[i]?=AC x->l'[i]?=AC y->Up x y):Up (.CF n l) (.CF n l')
 | CP (l l':AG AV) (hl:l.length=l'.length) (h:∀(i:AM) (x y:AV),l[i]?=AC x->l'[i]?=AC y->Up x y):Up (.CP l) (.CP l')
 | agg (l l':AG AV) (hl:l.length=l'.length) (h:∀(i:AM) (x y:AV),l[i]?=AC x->l'[i]?=AC y->Up x y):Up (.agg l) (.agg l')
structure DW (l l':AG AV):Prop where
 len:l.length=l'.length
 at':∀(i:AM) (x y:AV),l[i]?=AC x->l'[i]?=AC y->Up x y
theorem DW.back{l d:AG AV}(h:DW l d){i:AM}{y:AV}(f:d[i]?=AC y):∃x,l[i]?=AC x/\Up x y:=by
 have a:i<l.length:=by rw [h.len];exact (Ad.1 f).1
 exact ⟨l[i],Ag a,h.at' i _ y (Ag a) f⟩
theorem DW.refl(l:AG AV):DW l l:=⟨rfl,λi x y hx a=>by rw [hx] at a;injection a with a;subst a;exact .refl x⟩
theorem DW.nil:DW [] []:=.refl []
theorem DW.cons{x y:AV}{l f:AG AV}(h:Up x y)(t:DW l f):DW (x::l) (y::f):=
 ⟨by simp [t.len],λi u v d a=>by
  cases i with
  | zero=>simp only [Bl,Ap] at d a;subst d;subst a;exact h
  | succ i=>exact t.at' i u v d a⟩
theorem DW.VW{l:AG AV}(h:DW l []):l=[]:=Az.1 h.len
theorem DW.cons_inv{l a:AG AV}{y:AV}(h:DW l (y::a)):∃x m,l=x::m/\Up x y/\DW m a:=by
 cases l with
 | nil=>exact absurd h.len (by simp)
 | cons x m=>exact ⟨x,m,rfl,h.at' 0 x y rfl rfl,by simpa using h.len,λi u v f d=>h.at' (i+1) u v f d⟩
theorem DW.append{a b c d:AG AV}(h:DW a c)(k:DW b d):DW (a++b) (c++d):=by
 induction c generalizing a with
 | nil=>rw [h.VW];exact k
 | cons y c f=>obtain ⟨x,m,rfl,l,g⟩:=h.cons_inv;exact .cons l (f g)
theorem DW.Em{l c d:AG AV}(h:DW l (c++d)):∃a b,l=a++b/\DW a c/\DW b d:=by
 induction c generalizing l with
 | nil=>exact ⟨[],l,rfl,.nil,h⟩
 | cons y c f=>
  obtain ⟨x,m,rfl,w,v⟩:=h.cons_inv;obtain ⟨a,b,rfl,r,g⟩:=f v;exact ⟨x::a,b,rfl,.cons w r,g⟩
theorem DW.drop{l c:AG AV}(h:DW l c)(k:AM):DW (l.drop k) (c.drop k):=
 ⟨by simp [h.len],λi x y hx a=>h.at' (k+i) x y (by simpa [Bw] using hx) (by simpa [Bw] using a)⟩
theorem DW.take{l c:AG AV}(h:DW l c)(k:AM):DW (l.take k) (c.take k):=
 ⟨by simp [h.len],λi x y hx a=>by
  rw [List.getElem?_take] at hx a;split at hx
  .rename_i hi;rw [AS hi] at a;exact h.at' i x y hx a
  .cases hx⟩
theorem DW.Pf{l a:AG AV}{n:AM}(h:DW l a):Up (.CF n l) (.CF n a):=.CF n l a h.len h.at'
theorem DW.PZ{l a:AG AV}(h:DW l a):Up (.CP l) (.CP a):=.CP l a h.len h.at'
theorem DW.Pg{l a:AG AV}(h:DW l a):Up (.agg l) (.agg a):=.agg l a h.len h.at'
theorem Up.I9{v:AV}{n:AM}{a:AG AV}(h:Up v (.CF n a)):(v=.BK/\n=0/\a=[])\/∃l,v=.CF n l/\DW l a:=by
 generalize d:AV.CF n a=u at h;cases h with
 | refl=>subst d;exact .inr ⟨a,rfl,.refl a⟩
 | BK=>injection d with g f;exact .inl ⟨rfl,g,f⟩
 | CF m l r hl h=>injection d with g f;subst g;subst f;exact .inr ⟨l,rfl,hl,h⟩
 | CP=>cases d
 | agg=>cases d
theorem Up.KC{v:AV}{a:AG AV}(h:Up v (.CP a)):∃l,v=.CP l/\DW l a:=by
 generalize d:AV.CP a=u at h;cases h with
 | refl=>subst d;exact ⟨a,rfl,.refl a⟩
 | BK=>cases d
 | CF=>cases d
 | CP l g hl h=>injection d with f;subst f;exact ⟨l,rfl,hl,h⟩
 | agg=>cases d
theorem Up.CB{v:AV}{a:AG AV}(h:Up v (.agg a)):∃l,v=.agg l/\DW l a:=by
 generalize d:AV.agg a=u at h;cases h with
 | refl=>subst d;exact ⟨a,rfl,.refl a⟩
 | BK=>cases d
 | CF=>cases d
 | CP=>cases d
 | agg l g hl h=>injection d with f;subst f;exact ⟨l,rfl,hl,h⟩
theorem Up.same{v a:AV}(h:Up v a)(d:∀n l,a≠.CF n l)(g:∀l,a≠.CP l)(f:∀l,a≠.agg l):v=a:=by
 cases h with
 | refl=>rfl
 | BK=>exact absurd rfl (d _ _)
 | CF=>exact absurd rfl (d _ _)
 | CP=>exact absurd rfl (g _)
 | agg=>exact absurd rfl (f _)
theorem Up.rep{w:World}{S:AM->Prop}{v F:AV}(h:Up v F):∀ {c:Value},AY w S v c->AY w S F c:=by
 induction h with
 | refl=>exact λh=>h
 | BK=>intro c h;cases h;exact .FQ
 | CF n l f hl r m=>
  have bk:DW l f:=⟨hl,r⟩;intro c h;cases h with
  | FQ=>rw [Az.1 (hl.symm.trans rfl)];exact .FQ
  | CF _ _ a cap cv hs G E A hr=>
   refine .CF n f a cap cv (λg=>hs ?_) G (λi y d=>?_) (λi y d=>?_) (λi y d=>?_)
   .rintro rfl;exact g (Az.1 (hl.symm.trans rfl))
   .obtain ⟨x,hx,-⟩:=bk.back d;exact E i x hx
   .obtain ⟨x,hx,-⟩:=bk.back d;exact A i x hx
   .obtain ⟨x,hx,-⟩:=bk.back d;exact m i x y hx d (hr i x hx)
 | CP l f hl r m=>
  have bk:DW l f:=⟨hl,r⟩;intro c h;cases h with
  | CP _ a cv hs E A hr=>
   refine .CP f a cv (λg=>hs ?_) (λi y d=>?_) (λi y d=>?_) (λi y d=>?_)
   .rintro rfl;exact g (Az.1 (hl.symm.trans rfl))
   .obtain ⟨x,hx,-⟩:=bk.back d;exact E i x hx
   .obtain ⟨x,hx,-⟩:=bk.back d;exact A i x hx
   .obtain ⟨x,hx,-⟩:=bk.back d;exact m i x y hx d (hr i x hx)
 | agg l f hl r m=>
  have bk:DW l f:=⟨hl,r⟩;intro c h;cases h with
  | agg _ cs B A hr=>
   refine .agg f cs (hl.symm.trans B) (λi y d=>?_) (λi y d=>?_)
   .obtain ⟨x,hx,-⟩:=bk.back d;exact A i x hx
   .obtain ⟨x,hx,-⟩:=bk.back d;exact m i x y hx d (hr i x hx)
theorem jC:∀(t:Ty) {l:AG AV} {x y:t.T},DW l (t.cs x)->DW l (t.cs y)->x=y
 | .u,_,_,_,_,_=>rfl
 | .int k,l,x,y,r,g=>by obtain ⟨u,m,rfl,a,-⟩:=r.cons_inv;obtain ⟨G,H,e,b,-⟩:=g.cons_inv;injection e with w A;subst w;have a:=a.same (λ_ _ h=>by cases h) (λ_ h=>by cases h) (λ_ h=>by cases h);have b:=b.same (λ_ _ h=>by cases h) (λ_ h=>by cases h) (λ_ h=>by cases h);rw [a] at b;injection b
 | .bool,l,x,y,r,g=>by obtain ⟨u,m,rfl,a,-⟩:=r.cons_inv;obtain ⟨G,H,e,b,-⟩:=g.cons_inv;injection e with w A;subst w;have a:=a.same (λ_ _ h=>by cases h) (λ_ h=>by cases h) (λ_ h=>by cases h);have b:=b.same (λ_ _ h=>by cases h) (λ_ h=>by cases h) (λ_ h=>by cases h);rw [a] at b;injection b
 | .str,l,x,y,r,g=>by obtain ⟨u,m,rfl,a,-⟩:=r.cons_inv;obtain ⟨G,H,e,b,-⟩:=g.cons_inv;injection e with w A;subst w;have a:=a.same (λ_ _ h=>by cases h) (λ_ h=>by cases h) (λ_ h=>by cases h);have b:=b.same (λ_ _ h=>by cases h) (λ_ h=>by cases h) (λ_ h=>by cases h);rw [a] at b;injection b
 | .p a b,l,(x1,x2),(R,Q),r,g=>by obtain ⟨l1,N,rfl,F,M⟩:=DW.Em (c:=a.cs x1) (d:=b.cs x2) r;obtain ⟨m1,Z,e,E,L⟩:=DW.Em (c:=a.cs R) (d:=b.cs Q) g;obtain ⟨w,A⟩:=List.append_inj e (by rw [F.len,E.len,zy,zy]);subst w;subst A;rw [jC a F E,jC b M L]
 | .ls t,l,x,y,r,g=>by
  have go:∀(x y:AG t.T) (l:AG AV),x.length=y.length->DW l (x.flatMap t.cs)->DW l (y.flatMap t.cs)->x=y:=by
   intro x
   induction x with
   | nil=>intro y l hl _ _;cases y with|nil=>rfl|cons=>simp at hl
   | cons u x ih=>
    intro y l hl r g;cases y with
    | nil=>simp at hl
    | cons v y=>
     rw [Aw] at r g;obtain ⟨l1,N,rfl,F,M⟩:=r.Em;obtain ⟨m1,Z,e,E,L⟩:=g.Em;obtain ⟨w,A⟩:=List.append_inj e (by rw [F.len,E.len,zy,zy]);subst w;subst A;rw [jC t F E,ih y N (by simpa using hl) M L]
  obtain ⟨u,m,rfl,a,-⟩:=r.cons_inv;obtain ⟨G,H,e,b,-⟩:=g.cons_inv;injection e with w A;subst w;rcases a.I9 with ⟨rfl,J,P⟩|⟨q,rfl,P⟩
  .rcases b.I9 with ⟨-,K,O⟩|⟨q,B,-⟩
   .have J:x=[]:=Az.1 J;have K:y=[]:=Az.1 K;rw [J,K]
   .cases B
  .rcases b.I9 with ⟨B,-,-⟩|⟨q',B,O⟩
   .cases B
   .injection B with Y X;subst X;exact go x y q Y P O
 | .bf f t,l,x,y,r,g=>by obtain ⟨u,m,rfl,a,-⟩:=r.cons_inv;obtain ⟨G,H,e,b,-⟩:=g.cons_inv;injection e with w A;subst w;have a:=a.same (λ_ _ h=>by cases h) (λ_ h=>by cases h) (λ_ h=>by cases h);have b:=b.same (λ_ _ h=>by cases h) (λ_ h=>by cases h) (λ_ h=>by cases h);rw [a] at b;injection b with _ b;exact jC t (l:=t.cs x) (.refl _) (by rw [b];exact .refl _)
def FX(h:Heap)(k:AM)(L U:AG AV)(N:AG AM):Prop:=∃ps,L.mapM (snap h k)=AC ps/\DW (ps.map (·.1)) U/\∀g,g∈ps.flatMap (·.2)↔g∈N
section
variable {h:Heap} {k:AM}
theorem FX.nil:FX h k [] [] []:=⟨[],rfl,.nil,λg=>by simp⟩
theorem FX.cons{v u y:AV}{ns N M:AG AM}{L U:AG AV}(hx:snap h k v=AC (u,ns))(a:Up u y)(f:∀g,g∈ns↔g∈N)(d:FX h k L U M):FX h k (v::L) (y::U) (N++M):=by
 obtain ⟨ps,r,m,l⟩:=d;refine ⟨(u,ns)::ps,by simp [Dq,hx,r],?_,λg=>?_⟩
 .simp only [Au];exact .cons a m
 .simp only [Aw,Bb,f,l]
theorem FX.append{A B U V:AG AV}{N M:AG AM}(d:FX h k A U N)(a:FX h k B V M):FX h k (A++B) (U++V) (N++M):=by
 obtain ⟨p,v,r,a3⟩:=d;obtain ⟨q,m,l,f⟩:=a;refine ⟨p++q,by simp [List.mapM_append,v,m],?_,λg=>?_⟩
 .simp only [Dk];exact r.append l
 .simp only [Ax,Bb,a3,f]
theorem Jq9:∀ {L:AG AV},L.all AV.flat=AE->L.mapM (snap h (k+1))=AC (L.map λv=>(v,[]))
 | [],_=>rfl
 | v::L,a=>by simp only [Dr,Ac] at a;simp [Dq,yP h k v a.1,Jq9 a.2]
theorem FX.flat{L:AG AV}(f:L.all AV.flat=AE):FX h (k+1) L L []:=by
 refine ⟨_,Jq9 f,?_,λg=>?_⟩
 .rw [Bm];rw [show L.map ((·.1) ∘ λv=>((v,[]):AV×AG AM))=L from List.map_id' L];exact .refl L
 .simp only [Ao,Ar,Bp,iff_false];rintro ⟨a,⟨b,l,rfl⟩,d⟩;cases d
theorem FX.La{L U:AG AV}{N:AG AM}(m:L.all AV.flat=AE)(hs:FX h (k+1) L U N):DW L U/\∀g,g∉N:=by
 obtain ⟨ps,d,l,r⟩:=hs;rw [Jq9 m] at d;injection d with d;subst d;rw [Bm,show L.map ((·.1) ∘ λv=>((v,[]):AV×AG AM))=L from List.map_id' L] at l;exact ⟨l,λg f=>by have:=(r g).2 f;simp only [Ao,Ar] at this;obtain ⟨a,⟨b,w,rfl⟩,f⟩:=this;cases f⟩
theorem Yk(t:Ty)(l:AG t.T):(l.flatMap t.cs).all AV.flat=AE:=by
 induction l with
 | nil=>rfl
 | cons x l a=>rw [Aw,List.all_append,Sn,a];rfl
theorem Jwc{g ver esz len off:AM}{el:TypeId}{cells U:AG AV}{z:AN}{N:AG AM}(l:h g=AC (.arr ver esz el cells z))(hs:FX h (k+1) (Vv.cut cells (off * esz) (len * esz)) U N)(hl:(off+len) * esz<=cells.length) :
  ∃u ns,snap h (k+2) (.arr g ver off len)=AC (u,ns)/\Up u (.CF len U)/\∀d,d∈ns↔d∈g::N:=by
 by_cases f:(Vv.cut cells (off * esz) (len * esz)).all AV.flat=AE
 .obtain ⟨a,b⟩:=hs.La f;refine ⟨.CF len (Vv.cut cells (off * esz) (len * esz)),[g],?_,a.Pf,λd=>?_⟩
  .rw [snap];simp only [l];rw [AS ⟨trivial,hl⟩];simp only [f,if_true]
  .simp [b]
 .obtain ⟨ps,v,r,m⟩:=hs;refine ⟨.CF len (ps.map (·.1)),g::ps.flatMap (·.2),?_,r.Pf,λd=>?_⟩
  .rw [snap];simp only [l];rw [AS ⟨trivial,hl⟩];simp only [f,v];simp
  .rw [Ai,Ai,m]
end
section
variable {s:S Ty.T}
def oI(s:S Ty.T)(k:AM)(lw:(t:Ty)->C Ty.T->AH t.T)(N:C Ty.T->AG AM):Prop:=
 ∀(t:Ty) (c:C Ty.T) (x:t.T),t.one=AE->lw t c=AC x->∃u ns,snap (AA s) k (AB s c)=AC (u,ns)/\DW [u] (t.cs x)/\∀g,g∈ns↔g∈N c
theorem sj{k:AM}{lw:(t:Ty)->C Ty.T->AH t.T}{N:C Ty.T->AG AM}(f:oI s k lw N){t:Ty}(w:t.one=AE){c:C Ty.T}{l r:AG (C Ty.T)}{x:t.T}(h:(lw t c).map (·,l)=AC (x,r)) :
  ∃d,c::l=d++r/\FX (AA s) k (d.map (AB s)) (t.cs x) (d.flatMap N):=by
 cases g:lw t c with
 | none=>rw [g] at h;cases h
 | some y=>
  rw [g] at h;simp only [Be,Ap,Bq] at h;obtain ⟨rfl,rfl⟩:=h;obtain ⟨u,ns,a,b,c'⟩:=f t c y w g;refine ⟨[c],rfl,?_⟩;obtain ⟨v,m⟩:∃v,t.cs y=[v]:=Dl.1 b.len.symm;rw [m] at b ⊢;have:=FX.cons a (b.at' 0 u v rfl rfl) c' FX.nil;simpa using this
theorem uE{k:AM}{lw:(t:Ty)->C Ty.T->AH t.T}{N:C Ty.T->AG AM}(d:oI s k lw N):∀(t:Ty) {l r:AG (C Ty.T)} {x:t.T},impl val lw t l=AC (x,r) ->
  ∃g,l=g++r/\FX (AA s) k (g.map (AB s)) (t.cs x) (g.flatMap N)
 | .u,l,r,x,h=>by simp only [impl] at h;injection h with h;simp only [Bq] at h;obtain ⟨-,rfl⟩:=h;exact ⟨[],rfl,.nil⟩
 | .p a b,l,r,x,h=>by
  simp only [impl] at h;cases y:impl val lw a l with
  | none=>rw [y] at h;cases h
  | some p=>
   obtain ⟨u,g⟩:=p;rw [y] at h;simp only [Aq] at h;cases w:impl val lw b g with
   | none=>rw [w] at h;cases h
   | some q=>
    obtain ⟨v,G⟩:=q;rw [w] at h;simp only [Be,Ap,Bq] at h;obtain ⟨hx,rfl⟩:=h;subst hx;obtain ⟨F,rfl,B⟩:=uE d a y;obtain ⟨E,rfl,A⟩:=uE d b w;refine ⟨F++E,by rw [Bo],?_⟩;rw [Dk,Ax];exact B.append A
 | .int kk,l,r,x,h=>by
  cases l with
  | nil=>simp only [impl] at h;cases h
  | cons c m=>simp only [impl] at h;exact sj d rfl h
 | .bool,l,r,x,h=>by
  cases l with
  | nil=>simp only [impl] at h;cases h
  | cons c m=>simp only [impl] at h;exact sj d rfl h
 | .str,l,r,x,h=>by
  cases l with
  | nil=>simp only [impl] at h;cases h
  | cons c m=>simp only [impl] at h;exact sj d rfl h
 | .ls t,l,r,x,h=>by
  cases l with
  | nil=>simp only [impl] at h;cases h
  | cons c m=>simp only [impl] at h;exact sj d rfl h
 | .bf f t,l,r,x,h=>by
  cases l with
  | nil=>simp only [impl] at h;cases h
  | cons c m=>simp only [impl] at h;exact sj d rfl h
theorem yJ{k:AM}{lw:(t:Ty)->C Ty.T->AH t.T}{N:C Ty.T->AG AM}(a:oI s k lw N)(t:Ty):∀(n:AM) {l:AG (C Ty.T)} {x:AG t.T},JH val lw t n l=AC x ->
  FX (AA s) k (l.map (AB s)) (x.flatMap t.cs) (l.flatMap N)
 | 0,l,x,h=>by cases h
 | n+1,l,x,h=>by
  cases l with
  | nil=>simp only [JH] at h;injection h with h;subst h;exact .nil
  | cons c l=>
   simp only [JH] at h;cases f:impl val lw t (c::l) with
   | none=>rw [f] at h;cases h
   | some p=>
    obtain ⟨u,r⟩:=p;rw [f] at h;simp only [Aq] at h;cases d:JH val lw t n r with
    | none=>rw [d] at h;cases h
    | some y=>
     rw [d] at h;have:=Bf h;subst this;obtain ⟨m,e,g⟩:=uE a t f;rw [e,Dk,Ax];exact g.append (yJ a t n d)
theorem Jnw(k:AM)(N:C Ty.T->AG AM)(l:∀t v,N (.lf t v)=[])(f:∀b,N (.kb b)=[]):oI s (k+1) (jj val) N:=λt c x d h=>by
 have e:=nV (s:=s) d h;have hN:N c=[]:=by
  unfold jj at h;split at h
  .exact l _ _
  .exact f _
  .cases h
 have a:=Sn t x;rw [e] at a;refine ⟨AB s c,[],yP _ k _ (by simpa using a),by rw [e];exact .refl _,λg=>by rw [hN]⟩
end
section
variable {s:S Ty.T}
theorem jW(ob:AG (AM×Ob Ty.T))(n:AM)(t:Ty)(v:t.T):Kq ob n (.lf t v)=[]:=by cases n<;>rfl
theorem Jyp(ob:AG (AM×Ob Ty.T))(n:AM)(b:AN):Kq ob n (.kb b)=[]:=by cases n<;>rfl
theorem J1g(ob:AG (AM×Ob Ty.T))(n:AM):Kq ob n (.k .BK)=[]:=by cases n<;>rfl
theorem Jzf{l:AG AV}{n:AM}(h:l.length=n):Vv.cut l 0 n=l:=by subst h;simp [Vv.cut]
theorem J2i{α β:Type}{f:α->AH β}:∀ {l:AG α} {ps:AG β},l.mapM f=AC ps->ps.length=l.length
 | [],ps,h=>by rw [List.mapM_nil] at h;injection h with h;subst h;rfl
 | x::l,ps,h=>by
  rw [Dq] at h;cases hx:f x with
  | none=>rw [hx] at h;cases h
  | some y=>
   cases hl:l.mapM f with
   | none=>rw [hx,hl] at h;cases h
   | some q=>
    rw [hx,hl] at h;injection h with h;subst h;simp [J2i hl]
theorem FX.len{h:Heap}{k:AM}{L U:AG AV}{N:AG AM}(hs:FX h k L U N):L.length=U.length:=by obtain ⟨ps,d,a,-⟩:=hs;have:=a.len;rw [Bj,J2i d] at this;exact this
theorem Jv{t:Ty}(l:AG t.T):(l.flatMap t.cs).length=l.length * t.sz:=by
 induction l with
 | nil=>simp
 | cons x l a=>rw [Aw,Ay,a,zy,De,Nat.succ_mul,Nat.add_comm]
theorem J5e{n k:AM}(H:oI s (k+1) (Zg val s.ob n) (Kq s.ob n)){t:Ty}{g:AM}{o:Ob Ty.T}(A:look g s.ob=AC o){x:AG t.T}(h:DT val (Zg val s.ob n) t o=AC x) :
  ∃u ns,snap (AA s) (k+2) (.arr g o.ver 0 o.CJ)=AC (u,ns)/\Up u (.CF x.length (x.flatMap t.cs))/\∀B,B∈ns↔B∈Kq s.ob (n+1) (.own g o.ver):=by
 cases o with
 | mp v kt vt es=>simp only [DT] at h;cases h
 | em v kt vt el=>simp only [DT] at h;cases h
 | box v cs=>simp only [DT] at h;cases h
 | lit v e el xs z=>
  simp only [DT] at h;split at h
  .rename_i r;obtain ⟨rfl,r⟩:=r;have hs:=yJ H t _ h;have hl:(xs.map (AB s)).length=x.length * t.sz:=by rw [hs.len,Jv]
   have m:(Ob.lit v t.sz el xs z).CJ=x.length:=by show xs.length / t.sz=x.length;rw [Bj] at hl;rw [hl,By _ r]
   rw [m];have:=Jwc (h:=AA s) (k:=k) (g:=g) (ver:=v) (esz:=t.sz) (len:=x.length) (off:=0) (el:=el) (cells:=xs.map (AB s)) (U:=x.flatMap t.cs) (z:=z) (N:=xs.flatMap (Kq s.ob n)) (Jj A) (by rw [Nat.zero_mul,Jzf hl];exact hs) (by rw [Dh,hl];exact Ba _);obtain ⟨u,ns,a,b,c⟩:=this;exact ⟨u,ns,a,b,λB=>by rw [c];simp only [Kq,A]⟩
  .cases h
 | row v e el d l xs nest z=>
  cases nest with
  | some p=>simp only [DT] at h;cases h
  | none=>
   simp only [DT] at h;split at h
   .rename_i r;obtain ⟨rfl,r⟩:=r;cases F:cast? (ι:=Ty.T) (.ls d) (.ls t) l with
    | none=>rw [F] at h;cases h
    | some K=>
     rw [F] at h;obtain ⟨G,rfl⟩:=Xo F;injection G with G;subst G;simp only [Aq] at h;obtain ⟨L,rfl⟩:∃L:AG d.T,(show Ty.T (.ls d) from L)=l:=⟨l,rfl⟩;have key:∃y:AG d.T,x=L++y/\FX (AA s) (k+1) (xs.map (AB s)) (y.flatMap d.cs) (xs.flatMap (Kq s.ob n)):=by
      split at h
      .have:=Bf h;subst this;exact ⟨[],(Aj L).symm,.nil⟩
      .rename_i J;cases E:JH val (Zg val s.ob n) d (xs.length+1) xs with
       | none=>rw [E] at h;cases h
       | some y=>
        rw [E] at h;have:=Bf h;subst this;exact ⟨y,rfl,yJ H d _ E⟩
     obtain ⟨y,rfl,hs⟩:=key;have hl:(xs.map (AB s)).length=y.length * d.sz:=by rw [hs.len,Jv]
     have m:(Ob.row v d.sz el d L xs AD z).CJ=(L++y).length:=by show L.length+xs.length / d.sz=_;rw [Bj] at hl;rw [hl,By _ r,Ay]
     rw [m];have f:=(FX.flat (h:=AA s) (k:=k) (Yk d L)).append hs;rw [<-Ax,List.nil_append] at f;have w:(L.flatMap d.cs++xs.map (AB s)).length=(L++y).length * d.sz:=by rw [Ay,Jv,hl,Ay,Dt]
     obtain ⟨u,ns,a,b,c⟩:=Jwc (h:=AA s) (k:=k) (g:=g) (ver:=v) (esz:=d.sz) (len:=(L++y).length) (off:=0) (el:=el) (cells:=L.flatMap d.cs++xs.map (AB s)) (U:=(L++y).flatMap d.cs) (z:=z) (N:=xs.flatMap (Kq s.ob n)) (Jj A) (by rw [Nat.zero_mul,Jzf w];exact f) (by rw [Dh,w];exact Ba _);exact ⟨u,ns,a,b,λB=>by rw [c];simp only [Kq,A,Aj]⟩
   .cases h
theorem nY:∀(n k:AM),n+1<=k->oI s k (Zg val s.ob n) (Kq s.ob n)
 | 0,0,h=>by omega
 | 0,k+1,_=>Jnw k _ (jW _ _) (Jyp _ _)
 | n+1,0,h=>by omega
 | n+1,1,h=>by omega
 | n+1,k+2,r=>by
  have f:=nY n (k+1) (by omega);have lf:=Jnw (s:=s) (k+1) (Kq s.ob (n+1)) (jW _ _) (Jyp _ _);intro t c x m h;simp only [Zg] at h;split at h
  .split at h
   .have:=Bf h;subst this;exact ⟨.BK,[],rfl,.cons .BK .nil,λg=>by rw [J1g]⟩
   .cases h
  .rename_i g ver;split at h
   .rename_i t;cases d:look g s.ob with
    | none=>rw [d] at h;cases h
    | some o=>
     rw [d] at h;simp only at h;split at h
     .rename_i l;subst l;obtain ⟨u,ns,a,b,c⟩:=J5e f d h;refine ⟨u,ns,?_,.cons b .nil,c⟩;have:Q4 s g o.ver=o.CJ:=by simp [Q4,d]
      simp only [AB,this];exact a
     .cases h
   .cases h
  .exact lf t _ x m h
end
def FR(a:AK×Ty)(x:a.2.T):AV:=
 match a.1 with
 | .one|.fr|.ow _=>Yb (a.2.cs x)
 | .ag=>.agg (a.2.cs x)
 | .rp=>.CP (a.2.cs x)
def Fq:(as:AG (AK×Ty))->(Y3 (as.map (·.2))).T->AG AV
 | [],_=>[]
 | [a],x=>[FR a x]
 | a::b::r,(x,y)=>FR a x::Fq (b::r) y
def GH(a:AK×Ty):AN:=match a.1 with|.one|.fr|.ow _=>a.2.one|_=>AE
def BQ.ok(c:BQ):AN:=c.as.all GH
theorem lK{t:Ty}(h:t.one=AE)(x:t.T):∃v,t.cs x=[v]:=by cases t<;>first|exact ⟨_,rfl⟩|cases h
theorem J3p{a:AK×Ty}(d:GH a=AE){v:AV}{x y:a.2.T}(g:Up v (FR a x))(f:Up v (FR a y)):x=y:=by
 obtain ⟨k,t⟩:=a;have one:t.one=AE->Up v (Yb (t.cs x))->Up v (Yb (t.cs y))->x=y:=λd g f=>by obtain ⟨u,m⟩:=lK d x;obtain ⟨w,h⟩:=lK d y;rw [m] at g;rw [h] at f;exact jC t (l:=[v]) (by rw [m];exact .cons g .nil) (by rw [h];exact .cons f .nil)
 cases k with
 | one=>exact one d g f
 | fr=>exact one d g f
 | ow el=>exact one d g f
 | ag=>
  obtain ⟨l,rfl,a⟩:=Up.CB g;obtain ⟨r,e,b⟩:=Up.CB f;injection e with e;subst e;exact jC t a b
 | rp=>
  obtain ⟨l,rfl,a⟩:=Up.KC g;obtain ⟨r,e,b⟩:=Up.KC f;injection e with e;subst e;exact jC t a b
theorem Jw3:∀ {as:AG (AK×Ty)} (d:as.all GH=AE) {l:AG AV} {x y:(Y3 (as.map (·.2))).T},DW l (Fq as x)->DW l (Fq as y)->x=y
 | [],_,_,_,_,_,_=>rfl
 | [a],d,l,x,y,g,f=>by simp only [Fq] at g f;obtain ⟨u,m,rfl,A,-⟩:=g.cons_inv;obtain ⟨F,G,e,w,-⟩:=f.cons_inv;injection e with h v;subst h;exact J3p (by simpa using d) A w
 | a::b::r,d,l,(x1,x2),(E,B),g,f=>by simp only [Fq] at g f;obtain ⟨u,m,rfl,A,J⟩:=g.cons_inv;obtain ⟨F,G,e,w,H⟩:=f.cons_inv;injection e with h v;subst h;subst v;rw [Dr,Ac] at d;have h:x1=E:=J3p d.1 A w;have v:x2=B:=Jw3 d.2 J H;rw [h,v]
noncomputable def E8(rs:AG (AN×Ty))(r:(Y3 (rs.map (·.2))).T):AV:=AL ⟨[],[],[],[],AD⟩ (MU val rs r)
open Classical in
noncomputable def kM(Γ:FuncId->AH BQ):Vv.Call:=λf vs m=>
 match Γ f with
 | some c=>if h:ko c m=AE/\∃x r,DW vs (Fq c.as x)/\c.fn x=AC r then AC (E8 c.rs h.2.choose_spec.choose,λ_=>AD) else AD
 | none=>AD
theorem tK{Γ:FuncId->AH BQ}{f:FuncId}{c:BQ}{m:AH (Heap×AM)}(hΓ:Γ f=AC c)(a:c.ok=AE)(l:ko c m=AE){vs:AG AV}{x:(Y3 (c.as.map (·.2))).T}{r:(Y3 (c.rs.map (·.2))).T}(d:DW vs (Fq c.as x))(hr:c.fn x=AC r) :
  kM Γ f vs m=AC (E8 c.rs r,λ_=>AD):=by
 have h:ko c m=AE/\∃x r,DW vs (Fq c.as x)/\c.fn x=AC r:=⟨l,x,r,d,hr⟩;simp only [kM,hΓ];rw [dif_pos h];have key:∀y q,DW vs (Fq c.as y)->c.fn y=AC q->q=r:=λy q v g=>by rw [Jw3 a v d,hr] at g;exact (Bf g).symm
 rw [key _ _ h.2.choose_spec.choose_spec.1 h.2.choose_spec.choose_spec.2]
theorem uI{Γ:FuncId->AH BQ}{f:FuncId}{vs:AG AV}{m:AH (Heap×AM)}{v:AV}{h':Heap}(h:kM Γ f vs m=AC (v,h')) :
  ∃c x r,Γ f=AC c/\ko c m=AE/\DW vs (Fq c.as x)/\c.fn x=AC r/\v=E8 c.rs r:=by
 unfold kM at h;split at h
 .rename_i c hΓ;split at h
  .rename_i hx;injection h with h;injection h with a d;exact ⟨c,hx.2.choose,hx.2.choose_spec.choose,hΓ,hx.1,hx.2.choose_spec.choose_spec.1,hx.2.choose_spec.choose_spec.2,a.symm⟩
  .cases h
 .cases h
section
variable {s:S Ty.T} {α:Type} {r:α}
theorem J6t{t:Ty}(m:t.one=AE){c:C Ty.T}{k:t.T->AH α}(h:LU val s.ob t c k=AC r):∃x,k x=AC r/\∃u ns,snap (AA s) depth (AB s c)=AC (u,ns)/\Up u (Yb (t.cs x))/\∀g,g∈ns↔g∈Kq s.ob 4 c:=by
 unfold LU at h;split at h
 .rename_i g ver off len;split at h
  .rename_i v e el d l z w;split at h
   .rename_i K;obtain ⟨rfl,rfl,O⟩:=K;obtain ⟨y,H,h⟩:=Ji h;obtain ⟨N,rfl⟩:=Xo H;subst N;obtain ⟨A,rfl⟩:∃A:AI,(show Ty.T I from A)=off:=⟨off,rfl⟩;obtain ⟨B,rfl⟩:∃B:AI,(show Ty.T I from B)=len:=⟨len,rfl⟩;obtain ⟨L,rfl⟩:∃L:AG d.T,(show Ty.T (.ls d) from L)=l:=⟨l,rfl⟩;obtain ⟨G,h⟩:=Kl h;obtain ⟨F,h⟩:=Kl h;obtain ⟨E,h⟩:=Kl h;have G:(0:AI)<=A:=Lj G;have F:(0:AI)<=B:=Lj F;have E:A+B<=(L.length:AI):=Lj E;refine ⟨val.ct (show Ty.T (.ls d) from L) A B,h,?_⟩;have hl:(A.toNat+B.toNat) * d.sz<=(L.flatMap d.cs).length:=by rw [Jv];exact Nat.mul_le_mul_right _ (by omega)
    have f:Vv.cut (L.flatMap d.cs) (A.toNat * d.sz) (B.toNat * d.sz)=((L.drop A.toNat).take B.toNat).flatMap d.cs:=(Jp0 L _ _).symm;have hs:FX (AA s) (6+1) (Vv.cut (L.flatMap d.cs) (A.toNat * d.sz) (B.toNat * d.sz)) (((L.drop A.toNat).take B.toNat).flatMap d.cs) []:=by rw [f];exact .flat (Yk _ _)
    obtain ⟨u,ns,a,b,c⟩:=Jwc (h:=AA s) (k:=6) (g:=g) (ver:=v) (esz:=d.sz) (len:=B.toNat) (off:=A.toNat) (el:=el) (cells:=L.flatMap d.cs) (z:=z) (by rw [Jj w];simp [BD,Xm]) hs hl;refine ⟨u,ns,a,?_,λP=>?_⟩
    .have M:((L.drop A.toNat).take B.toNat).length=B.toNat:=by simp;omega
     have:Yb ((Ty.ls d).cs (val.ct (show Ty.T (.ls d) from L) A B))=.CF B.toNat (((L.drop A.toNat).take B.toNat).flatMap d.cs):=by show AV.CF ((L.drop A.toNat).take B.toNat).length _=_;rw [M];rfl
     rw [this];exact b
    .rw [c];simp [Kq,w]
   .cases h
  .cases h
 .obtain ⟨x,hx,h⟩:=Ji h;obtain ⟨u,ns,a,b,c⟩:=nY (s:=s) 4 depth (by decide) t _ x m hx;obtain ⟨v,J⟩:=lK m x;refine ⟨x,h,u,ns,a,?_,c⟩;rw [J] at b ⊢;exact b.at' 0 u v rfl rfl
end
section
variable {s:S Ty.T} {α:Type} {r:α}
theorem Jxz{h:Heap}{v u:AV}{ns:AG AM}(hs:snap h depth v=AC (u,ns))(a:∀f l,v≠.fn f l):Hr h v=AC (u,ns):=by
 cases v with
 | fn f l=>exact absurd rfl (a f l)
 | ptr g ver off=>cases hs
 | _=>exact hs
theorem Jz1{h:Heap}{f:FuncId}{l:AG AV}{k:AM}{u:AV}{ns:AG AM}(hs:snap h (k+1) (.fn f l)=AC (u,ns)):∃a,u=.fn f a:=by
 simp only [snap] at hs;split at hs
 .injection hs with hs;injection hs with d g;exact ⟨_,d.symm⟩
 .cases hs
theorem Tq{u y:AV}(h:Up u y)(a:y.flat=AE){f:FuncId}{l:AG AV}:u≠.fn f l:=by
 rintro rfl;cases h with
 | refl=>cases a
theorem Jx8{t:Ty}{l:AG (C Ty.T)}{k:AM}(d:5<=k){x:t.T}(h:XY val s.ob t l=AC x):FX (AA s) k (l.map (AB s)) (t.cs x) (l.flatMap (Kq s.ob 4)):=by
 unfold XY at h;cases hi:impl val (Zg val s.ob 4) t l with
 | none=>rw [hi] at h;cases h
 | some p=>
  obtain ⟨y,q⟩:=p;rw [hi] at h;simp only [Aq] at h;split at h
  .rename_i a;have:=Bf h;subst this;obtain ⟨f,e,hs⟩:=uE (nY (s:=s) 4 k d) t hi;rw [Br.1 a,Aj] at e;subst e;exact hs
  .cases h
theorem FX.agg{h:Heap}{k:AM}{L U:AG AV}{N:AG AM}(hs:FX h (k+1) L U N):∃u ns,snap h (k+2) (.agg L)=AC (u,ns)/\Up u (.agg U)/\∀g,g∈ns↔g∈N:=by
 by_cases d:L.all AV.flat=AE
 .obtain ⟨a,b⟩:=hs.La d;exact ⟨.agg L,[],by rw [snap];simp only [d,if_true],a.Pg,λg=>by simp [b]⟩
 .obtain ⟨ps,m,l,f⟩:=hs;exact ⟨.agg (ps.map (·.1)),ps.flatMap (·.2),by rw [snap];simp only [d,m];simp,l.Pg,f⟩
theorem xX{a:AK×Ty}(m:GH a=AE){v:V Ty.T}{k:a.2.T->AH α}(h:IV val s.ob a v k=AC r):∃x,k x=AC r/\∃u ns,Hr (AA s) (AL s v)=AC (u,ns)/\Up u (FR a x) /\
  (YS v=AF->snap (AA s) depth (AL s v)=AC (u,ns)/\∀g,g∈ns↔g∈v.cells.flatMap (Kq s.ob 4)):=by
 obtain ⟨ak,t⟩:=a;have one:∀c,t.one=AE->LU val s.ob t c k=AC r->∃x,k x=AC r/\∃u ns,Hr (AA s) (AB s c)=AC (u,ns)/\Up u (Yb (t.cs x)) /\
   (YS (V.c c)=AF->snap (AA s) depth (AB s c)=AC (u,ns)/\∀g,g∈ns↔g∈(V.c c).cells.flatMap (Kq s.ob 4)):=λc m h=>by obtain ⟨x,hx,u,ns,a,b,c'⟩:=J6t m h;refine ⟨x,hx,u,ns,Jxz a λf l e=>?_,b,λ_=>⟨a,λg=>by rw [c'];simp [V.cells]⟩⟩;have e:AB s c=.fn f l:=e;rw [e] at a;obtain ⟨O,rfl⟩:=Jz1 (k:=7) a;obtain ⟨w,H⟩:=lK m x;have A:=Sn t x;rw [H] at b A;exact Tq (y:=w) b (by simpa using A) rfl
 unfold IV at h;split at h
 .rename_i c d;simp only at d;subst d;exact one c m h
 .rename_i c d;simp only at d;subst d;exact one c m h
 .rename_i el c d;simp only at d;subst d;exact one c m h
 .rename_i l d;simp only at d;subst d;obtain ⟨x,hx,h⟩:=Ji h;obtain ⟨u,ns,a,b,c⟩:=(Jx8 (k:=6+1) (by decide) hx).agg;exact ⟨x,h,u,ns,Jxz a (λ_ _ e=>by cases e),b,λ_=>⟨a,c⟩⟩
 .rename_i F v d;simp only at d;subst d;obtain ⟨x,hx,E⟩:=Ji h;obtain ⟨e,B⟩:=Xo hx;clear hx h;have N:F=t:=e;subst N;subst B;exact ⟨x,E,.CP ((F.cs x).drop 0),[],rfl,.refl _,λ_=>⟨rfl,λg=>by simp [V.cells,Kq]⟩⟩
 .rename_i g ver d;simp only at d;subst d;split at h
  .rename_i v cs K;split at h
   .rename_i J;subst J;obtain ⟨x,hx,h⟩:=Ji h;have hs:=Jx8 (k:=7+1) (by decide) hx;have G:Hr (AA s) (AL s (.c (.ptr g v 0)))=Iz (AA s) g v 0 (AC (.box v (cs.map (AB s)))):=by show Iz (AA s) g v 0 (AA s g)=_;rw [Jj K];rfl
    by_cases A:(cs.map (AB s)).all AV.flat=AE
    .refine ⟨x,h,.CP (cs.map (AB s)),[g],?_,(hs.La A).1.PZ,λe=>by cases e⟩;rw [G];simp only [Iz,if_true,A,List.drop_zero]
    .obtain ⟨ps,M,L,P⟩:=hs;refine ⟨x,h,.CP (ps.map (·.1)),g::ps.flatMap (·.2),?_,L.PZ,λe=>by cases e⟩;rw [G];simp only [Iz,if_true];rw [AR A,show depth=7+1 from rfl,M];simp [vJ]
   .cases h
  .cases h
 .cases h
theorem yH:∀ {as:AG (AK×Ty)} (d:as.all GH=AE) {vs:AG (V Ty.T)} {k:(Y3 (as.map (·.2))).T->AH α},oK val s.ob as vs k=AC r->∃x,k x=AC r /\
  (∃us ns,Si (AA s) (vs.map (AL s))=AC (us,ns)/\DW us (Fq as x))/\(vs.any YS=AF->FX (AA s) depth (vs.map (AL s)) (Fq as x) (vs.flatMap λv=>v.cells.flatMap (Kq s.ob 4)))
 | [],_,[],k,h=>⟨(),h,⟨[],[],rfl,.nil⟩,λ_=>.nil⟩
 | [a],d,[v],k,h=>by obtain ⟨x,hx,u,ns,q,b,c⟩:=xX (by simpa using d) h;refine ⟨x,hx,⟨[u],ns++[],by simp only [Au,Bg,Si,q,YQ],.cons b .nil⟩,λf=>?_⟩;obtain ⟨F,g⟩:=c (by simpa using f);exact FX.cons F b g .nil
 | a::b::r',d,v::w,k,h=>by simp only [oK] at h;rw [Dr,Ac] at d;obtain ⟨x,hx,u,ns,q,ub,c⟩:=xX d.1 h;obtain ⟨y,A,⟨us,ms,m,l⟩,g⟩:=yH d.2 hx;refine ⟨(x,y),A,⟨u::us,ns++ms,by simp only [Au,Si,q,m,YQ],.cons ub l⟩,λf=>?_⟩;rw [List.any_cons,Bool.or_eq_false_iff] at f;obtain ⟨E,B⟩:=c f.1;exact FX.cons E ub B (g f.2)
 | [],_,_::_,k,h=>by cases h
 | [_],_,[],k,h=>by cases h
 | [_],_,_::_::_,k,h=>by cases h
 | _::_::_,_,[],k,h=>by cases h
end
section
variable {s:S Ty.T}
theorem Jj5(h:Heap)(g:AM)(r:AG AM):Jh (Jh h [g]) r=Jh h (g::r):=by
 funext x;simp only [Jh,Ai,Bp,or_false];by_cases hr:x∈r
 .by_cases hx:x=g
  .subst hx;simp only [hr,or_true,if_true];cases h x with
   | none=>rfl
   | some o=>cases o<;>rfl
  .simp [hr,hx]
 .by_cases hx:x=g
  .subst hx;simp [hr]
  .simp [hr,hx]
theorem Jnb{h:Heap}{a b:AG AM}(d:∀g,g∈a↔g∈b):Jh h a=Jh h b:=by funext x;simp only [Jh,d]
theorem Jtw{g:AM}{o o':Ob Ty.T}(hi:Inv s)(d:look g s.ob=AC o)(m:o.ver=o'.ver)(hl:o.CJ=o'.CJ)(r:o'.kids=o.kids)(v:∀s:S Ty.T,Dn.BD s o'=(Dn.BD s o).freeze) :
  CQ s (s.obj g o')/\Inv (s.obj g o')/\AA (s.obj g o')=Jh (AA s) [g]:=by
 have hs:CQ s (s.obj g o'):=Zh λy h=>by rw [d] at h;injection h with h;subst h;exact ⟨m,hl⟩
 have a:CZ s o.kids:=hi.ob g o d;have f:CZ (s.obj g o') o'.kids:=by rw [r];exact λc w=>(hs.ok c (a c w)).1
 refine ⟨hs,MV hi hs (λl=>Qb g l o') f (hi.free d),?_⟩;rw [jf hi hs (λl=>Qb g l o'),v,hs.BD a];funext x;simp only [upd,Jh,Aa];by_cases hx:x=g
 .subst hx;simp [Jj d]
 .simp [hx]
theorem Jwp(hi:Inv s):∀(n:AM) {c:C Ty.T},FV s c->∀g∈Kq s.ob n c,∃o,look g s.ob=AC o:=by
 intro n
 induction n with
 | zero=>
  intro c m g a;cases c<;>simp only [Kq,Aa,Bp] at a
  all_goals
   subst a;obtain ⟨o,h,-⟩:=m (_,_) (Aa.2 rfl);exact ⟨o,h⟩
 | succ n l=>
  intro c m g a;cases c<;>simp only [Kq,Bp] at a
  all_goals
   rcases Ai.1 a with rfl|a
   .obtain ⟨o,h,-⟩:=m (_,_) (Aa.2 rfl);exact ⟨o,h⟩
   .split at a
    .rename_i nest _ f;rcases Bb.1 a with a|a
     .obtain ⟨c',d,a⟩:=Ao.1 a;exact l (hi.ob _ _ f c' (Af _ d)) g a
     .cases nest with
      | none=>cases a
      | some q=>exact l (hi.ob _ _ f q.2 (Am _ (Aa.2 rfl))) g a
    .rename_i f;obtain ⟨c',d,a⟩:=Ao.1 a;exact l (hi.ob _ _ f c' d) g a
    .cases a
theorem Jqo(hi:Inv s){n:AM}{l:AG (C Ty.T)}(hl:CZ s l):∀g∈l.flatMap (Kq s.ob n),∃o,look g s.ob=AC o:=λg a=>by obtain ⟨c,d,a⟩:=Ao.1 a;exact Jwp hi n (hl c d) g a
theorem Jq4(hi:Inv s){n:AM}{vs:AG (V Ty.T)}(hl:∀v∈vs,okV s v):∀g∈vs.flatMap (λv=>v.cells.flatMap (Kq s.ob n)),∃o,look g s.ob=AC o:=λg a=>by obtain ⟨v,d,a⟩:=Ao.1 a;exact Jqo hi (λc f=>hl v d c (wu c f)) g a
theorem yM:∀(ns:AG AM) (s:S Ty.T),(J8 s ns).mo=s.mo
 | [],_=>rfl
 | g::r,s=>by simp only [J8];split<;>rw [yM r]<;>rfl
theorem kJ:∀(ns:AG AM) {s:S Ty.T},Inv s->(∀g∈ns,∃o,look g s.ob=AC o)->CQ s (J8 s ns)/\Inv (J8 s ns)/\AA (J8 s ns)=Jh (AA s) ns
 | [],s,hi,_=>⟨.refl s,hi,by funext x;simp [J8,Jh]⟩
 | g::r,s,hi,A=>by
  have nx:∀o',∀m∈r,∃o,look m (s.obj g o').ob=AC o:=λo' m f=>by
   rw [Qb];split
   .exact ⟨_,rfl⟩
   .exact A m (Ab _ f)
  simp only [J8];split
  .rename_i v e el t l x nest z d;obtain ⟨a,b,c⟩:=Jtw (o':=.row v e el t l x nest AE) hi d rfl rfl rfl (λ_=>rfl);obtain ⟨a',w,c'⟩:=kJ r b (nx _);exact ⟨a.trans a',w,by rw [c',c,Jj5]⟩
  .rename_i v e el x z d;obtain ⟨a,b,c⟩:=Jtw (o':=.lit v e el x AE) hi d rfl rfl rfl (λ_=>rfl);obtain ⟨a',w,c'⟩:=kJ r b (nx _);exact ⟨a.trans a',w,by rw [c',c,Jj5]⟩
  .rename_i E B;obtain ⟨a',w,c'⟩:=kJ r hi λm f=>A m (Ab _ f);refine ⟨a',w,?_⟩;rw [c',<-Jj5]
   congr 1
   funext x;simp only [Jh,Aa];by_cases hx:x=g
   .subst hx;rw [AS rfl];cases d:look x s.ob with
    | none=>obtain ⟨o,h⟩:=A x Ae;rw [d] at h;cases h
    | some o=>
     rw [Jj d];cases o with
     | box v cs=>rfl
     | mp v kt vt es=>rfl
     | em v kt vt el=>rfl
     | row v e el t l y nest z=>exact absurd d (E v e el t l y nest z)
     | lit v e el y z=>exact absurd d (B v e el y z)
   .rw [AR hx]
def FN(r:AN×Ty):AN:=r.1 || r.2.one
theorem Jrg(s:S Ty.T):∀(rs:AG (AN×Ty)) (q:(Y3 (rs.map (·.2))).T),(z8 val rs q).map (λp=>if p.1 then AV.agg (p.2.map (AB s)) else Yb (p.2.map (AB s)))=(z8 val rs q).map (λp=>if p.1 then AV.agg (p.2.map (AB ⟨[],[],[],[],AD⟩)) else Yb (p.2.map (AB ⟨[],[],[],[],AD⟩)))
 | [],_=>rfl
 | [a],q=>by have e:(expl val a.2 q).map (AB s)=(expl val a.2 q).map (AB ⟨[],[],[],[],AD⟩):=(Xh s a.2 q).trans (Xh _ a.2 q).symm;simp only [z8,TG,Au,Bg];rw [e]
 | a::b::r,q=>by simp only [z8,TG,Au,Xh,Jrg s (b::r)]
theorem Jmf(s:S Ty.T):∀(rs:AG (AN×Ty)) (q:(Y3 (rs.map (·.2))).T),∀p∈z8 val rs q,CZ s p.2
 | [],_,p,d=>by cases d
 | [a],q,p,d=>by simp only [z8,TG,Aa] at d;subst d;exact Sr s _ _
 | a::b::r,q,p,d=>by
  simp only [z8,TG,Ai] at d;rcases d with rfl|d
  .exact Sr s _ _
  .exact Jmf s (b::r) _ p d
theorem J0u(s s':S Ty.T){p:AN×AG (C Ty.T)}(h:p.2.map (AB s)=p.2.map (AB s')):AL s (Sq p)=AL s' (Sq p):=by
 obtain ⟨b,l⟩:=p;cases b with
 | true=>simp only [Sq,AL];rw [h]
 | false=>
  match l,h with
  | [c],h=>simpa [Sq,AL] using h
  | [],_=>rfl
  | _::_::_,_=>rfl
theorem yN(s:S Ty.T)(rs:AG (AN×Ty))(q:(Y3 (rs.map (·.2))).T):AL s (MU val rs q)=E8 rs q:=by
 unfold E8 MU
 match rs,q with
 | [],q=>rfl
 | [a],q=>exact J0u _ _ ((Xh s a.2 q).trans (Xh _ a.2 q).symm)
 | a::b::r,q=>
  have e:=Jrg s (a::b::r) q;cases r<;>exact AT AV.Cb e
theorem xg(s:S Ty.T)(rs:AG (AN×Ty))(q:(Y3 (rs.map (·.2))).T):okV s (MU val rs q):=by
 unfold MU;split
 .rename_i p d;have:=Jmf s rs q p (by rw [d];exact Aa.2 rfl);obtain ⟨b,l⟩:=p;cases b with
  | true=>exact this
  | false=>
   match l,this with
   | [c],h=>exact h
   | [],_=>exact λc a=>by simp [Sq,V.all] at a;subst a;exact Ka s rfl
   | _::_::_,_=>exact λc a=>by simp [Sq,V.all] at a;subst a;exact Ka s rfl
 .intro c a;simp only [V.all,Ao] at a;obtain ⟨p,d,a⟩:=a;exact Jmf s rs q p d c a
end
def Mj(v:AV):Prop:=(∃b,v=.bool b)\/(∃k n,v=.int k n)\/∃x,v=.str x
theorem UM{v:AV}(h:Mj v):v.scalar=AE:=by rcases h with ⟨b,rfl⟩|⟨k,n,rfl⟩|⟨x,rfl⟩<;>rfl
theorem UN{l:AG AV}(h:∀v∈l,Mj v):(AV.agg l).scalar=AE:=by simp only [AV.scalar,Ah];intro v a;rcases h v a with ⟨b,rfl⟩|⟨k,n,rfl⟩|⟨x,rfl⟩<;>rfl
theorem UL{l:AG AV}(h:∀v∈l,Mj v\/∃m,v=.agg m/\∀u∈m,Mj u):(AV.Cb l).scalar=AE:=by
 simp only [AV.scalar,Ah];intro v a;rcases h v a with (⟨b,rfl⟩|⟨k,n,rfl⟩|⟨x,rfl⟩)|⟨m,rfl,f⟩
 .rfl
 .rfl
 .rfl
 .simp only [Ah];intro u d;rcases f u d with ⟨b,rfl⟩|⟨k,n,rfl⟩|⟨x,rfl⟩<;>rfl
theorem Sw:∀ {t:Ty} (h:t.flat=AE) (x:t.T),∀v∈t.cs x,Mj v
 | .int k,_,x,v,d=>by have d:v∈[AV.int k x]:=d;rw [Aa] at d;exact .inr (.inl ⟨_,_,d⟩)
 | .bool,_,x,v,d=>by have d:v∈[AV.bool x]:=d;rw [Aa] at d;exact .inl ⟨_,d⟩
 | .str,_,x,v,d=>by have d:v∈[AV.str x]:=d;rw [Aa] at d;exact .inr (.inr ⟨_,d⟩)
 | .u,_,x,v,d=>by cases d
 | .ls _,h,_,_,_=>by cases h
 | .bf _ _,h,_,_,_=>by cases h
 | .p a b,h,(x,y),v,d=>by
  have d:v∈a.cs x++b.cs y:=d;simp only [Ty.flat,Ac] at h;rcases Bb.1 d with d|d
  .exact Sw h.1 x v d
  .exact Sw h.2 y v d
theorem Jqs:∀ {rs:AG (AN×Ty)} {q:(Y3 (rs.map (·.2))).T},∀p∈z8 val rs q,∃a∈rs,∃x:a.2.T,p=(a.1,expl val a.2 x)
 | [],_,p,d=>by cases d
 | [a],q,p,d=>by simp only [z8,TG,Aa] at d;exact ⟨a,Aa.2 rfl,q,d⟩
 | a::b::r,q,p,d=>by
  simp only [z8,TG,Ai] at d;rcases d with rfl|d
  .exact ⟨a,Ae,_,rfl⟩
  .obtain ⟨a',g,x,f⟩:=Jqs p d;exact ⟨a',Ab _ g,x,f⟩
theorem J3u(s:S Ty.T){a:AN×Ty}(h:FN a=AE)(l:a.2.flat=AE)(x:a.2.T) :
  (a.1=AE/\∀v∈(expl val a.2 x).map (AB s),Mj v)\/(a.1=AF/\∃c,expl val a.2 x=[c]/\Mj (AB s c)):=by
 have hs:=Sw l x;rw [<-Xh s] at hs;obtain ⟨b,t⟩:=a;cases b with
 | true=>exact .inl ⟨rfl,hs⟩
 | false=>
  have g:t.one=AE:=by simpa [FN] using h
  obtain ⟨v,f⟩:=lK g x;have hl:(expl val t x).length=1:=by rw [TY];have:=zy t x;rw [f] at this;exact this.symm
  obtain ⟨c,d⟩:=Dl.1 hl;refine .inr ⟨rfl,c,d,?_⟩;have hs:∀v∈(expl val t x).map (AB s),Mj v:=hs;rw [d] at hs;exact hs _ (Aa.2 rfl)
theorem Jtl{rs:AG (AN×Ty)}(f:rs.all FN=AE)(g:(rs.all λr=>r.2.flat)=AE)(q:(Y3 (rs.map (·.2))).T):(E8 rs q).scalar=AE:=by
 have f:=Ah.1 f;have g:=Ah.1 g;have w:=Jqs (rs:=rs) (q:=q);unfold E8 MU;split
 .rename_i p l;obtain ⟨a,d,x,rfl⟩:=w p (by rw [l];exact Aa.2 rfl);rcases J3u ⟨[],[],[],[],AD⟩ (f a d) (g a d) x with ⟨e,h⟩|⟨e,c,m,h⟩
  .rw [e];exact UN h
  .rw [e,m];exact UM h
 .refine UL λv y=>?_;obtain ⟨p,l,rfl⟩:=Ar.1 y;obtain ⟨a,d,x,rfl⟩:=w p l;rcases J3u ⟨[],[],[],[],AD⟩ (f a d) (g a d) x with ⟨e,h⟩|⟨e,c,m,h⟩
  .exact .inr ⟨_,by simp only [e,if_true],h⟩
  .refine .inl ?_;simp only [e,m,Au,Bg,Yb];exact h
theorem R6{Γ:FuncId->AH BQ}(hΓ:∀f c,Γ f=AC c->c.ok=AE/\c.rs.all FN=AE):j6 (kM Γ) Γ:=by
 intro α base g0 s r c f args k hi B h;obtain ⟨ok1,ok2⟩:=hΓ f c B;obtain ⟨x,hx,⟨us,ns,Y,q2⟩,d⟩:=yH ok1 h;have F:(args.map (ev val s)).map (AL s)=args.map (enc s).ev:=by rw [Bm];exact Bv λy _=>(Ko s y).symm
 rw [F] at Y d;simp only at hx;have a:∀ {K:c.rT.T->AH α},val.call c x K=AC r->∃q,c.fn x=AC q/\K q=AC r:=λ{K} e=>by
  have e:Hz (c.fn x) K=AC r:=e;cases w:c.fn x with
  | none=>rw [w] at e;cases e
  | some q=>rw [w] at e;exact ⟨q,rfl,e⟩
 split at hx
 .rename_i el J;split at hx
  .cases hx
  rename_i Q;split at hx
  case isFalse=>cases hx
  rename_i A;obtain ⟨q,w,hx⟩:=a hx;split at hx
  case h_2=>cases hx
  rename_i t l P;split at hx
  case isFalse=>cases hx
  rename_i hz;obtain ⟨hz1,O⟩:=hz;obtain ⟨L,rfl⟩:∃L:AG t.T,(show Ty.T (.ls t) from L)=l:=⟨l,rfl⟩;obtain ⟨ps,N,G,M⟩:=d (by simpa using Q);have R:ps.flatMap (·.2)=[]:=Bt.2 λg X=>by have:=(M g).1 X;rw [Br.1 A.1] at this;cases this
  have hs:Hg (AA s) (args.map (enc s).ev)=AC (ps.map (·.1),[]):=by simp only [Hg,N,R]
  have Z:s.has g0=AF:=by simpa using A.2
  have H:E8 c.rs q=.CF L.length (L.flatMap t.cs):=by unfold E8;rw [P];rfl
  refine ⟨_,_,_,.inr ⟨f,args,rfl,.inr (.inr ⟨t.sz,el,rfl⟩)⟩,jJ hi Z (av:=.arr g0 0 0 L.length) (ao:=.arr 0 t.sz el (L.flatMap t.cs) AF) ?_ ?_ ?_ (λc B=>by cases B) (Xe (bO rfl)),hx⟩
  .simp only [Ja];rw [show (enc s).h=AA s from rfl,hs];simp only;rw [tK (m:=AC (oH t.sz el)) B ok1 (by simp [ko,oH,J,<-O]) G w,H];simp only [Mc,nO Z]
  .simp only [AL,AB];rw [show Q4 (s.obj g0 (.row 0 t.sz el t L [] AD AF)) g0 0=L.length+0 / t.sz from uK (o:=.row 0 t.sz el t L [] AD AF),Ds,Nat.add_zero]
  .simp only [Dn.BD,Xm,Bg,Aj]
 split at hx
 .split at hx
  .rename_i hf;obtain ⟨q,w,hx⟩:=a hx;refine ⟨_,_,_,.inr ⟨f,args,rfl,.inl rfl⟩,.same hi ?_ (xg s c.rs q),hx⟩;simp only [Ja];rw [show (enc s).h=AA s from rfl,Y];simp only [Mg];rw [tK B ok1 rfl q2 w];simp only [OV,Jtl ok2 hf q,if_true,yN]
  .cases hx
 .rename_i Q;have d:=d (by simpa using Q);obtain ⟨ps,N,G,M⟩:=d;have hs:Hg (AA s) (args.map (enc s).ev)=AC (ps.map (·.1),ps.flatMap (·.2)):=by simp only [Hg,N]
  split at hx
  .rename_i E;obtain ⟨q,w,hx⟩:=a hx;refine ⟨_,_,_,.inl rfl,.same hi ?_ (xg s c.rs q),hx⟩;simp only [Ja];rw [show (enc s).h=AA s from rfl,hs];simp only;rw [tK B ok1 rfl G w];simp only [yN];rw [AS];rw [Dm,Dm] at E;rcases E with (E|E)|E
   .refine .inl (Bt.2 λg X=>?_);have:=(M g).1 X;rw [Br.1 E] at this;cases this
   .exact .inr (.inl (Jtl ok2 E q))
   .exact .inr (.inr (by rw [tK (m:=AC (λ_=>AD,0)) B ok1 E G w];rfl))
  .obtain ⟨q,w,hx⟩:=a hx;obtain ⟨f1,f2,f3⟩:=kJ ((args.map (ev val s)).flatMap λv=>v.cells.flatMap (Kq s.ob 4)) hi (Jq4 hi λv hv=>by obtain ⟨x,-,rfl⟩:=Ar.1 hv;exact Lh hi x);refine ⟨_,_,_,.inr ⟨f,args,rfl,.inr (.inl rfl)⟩,⟨?_,f1,f2,xg _ c.rs q⟩,hx⟩;simp only [Ja];rw [show (enc s).h=AA s from rfl,hs];simp only;rw [tK B ok1 rfl G w];simp only [yN,f3];rw [Jnb M]
structure On (s s':S Ty.T):Prop where
 lo:s'.lo=s.lo
 ok:∀c,FV s c->FV s' c/\AB s' c=AB s c
theorem On.refl(s:S Ty.T):On s s:=⟨rfl,λ_ h=>⟨h,rfl⟩⟩
theorem On.trans{a b c:S Ty.T}(h:On a b)(k:On b c):On a c:=
 ⟨k.lo.trans h.lo,λx hx=>⟨(k.ok x (h.ok x hx).1).1,((k.ok x (h.ok x hx).1).2).trans (h.ok x hx).2⟩⟩
theorem CQ.on{s s':S Ty.T}(h:CQ s s'):On s s':=⟨h.lo,h.ok⟩
theorem On.put(s:S Ty.T)(d:AH AM)(v:V Ty.T):On s (s.put d v):=by
 cases d with
 | none=>exact .refl s
 | some d=>exact ⟨rfl,λc a=>⟨a,Jux s (AC d) v c⟩⟩
section
variable {call:Vv.Call} {base g0:AM} {s:S Ty.T} {α:Type} {r:α}
theorem jR{g:AM}{b:AN}(h:(enc s).f g=.bool b):enc (s.put (AC g) (.c (.kb b)))=enc s:=by
 rw [wD];show (⟨upd (enc s).f g (.bool b),AA s⟩:St)=⟨(enc s).f,AA s⟩
 congr 1
 funext x;simp only [upd];split
 .rename_i hx;rw [hx,h]
 .rfl
theorem LV{s:S Ty.T}{b:AN}:okV s (.c (.kb b)):=Xe (Ka s rfl)
theorem okTp{s:S Ty.T}:okV s (.tp []):=λc a=>by cases a
def En(call:Vv.Call)(base:AM)(s:S Ty.T)(o:AP)(k:CO->S Ty.T->AH α)(r:α):Prop:=
 ∃op' s',Alt o.op op'/\jp call base { o with op:=op' } (enc s)=AC (enc s')/\Inv s'/\On s s'/\k op' s'=AC r
theorem En.of{o:AP}{k:CO->S Ty.T->AH α}{f:S Ty.T}(l:enc f=enc s)(g:On s f)(h:En call base f o k r):En call base s o k r:=by obtain ⟨op',s',a,b,c,d,e⟩:=h;exact ⟨op',s',a,by rw [<-l];exact b,c,g.trans d,e⟩
theorem J6r{cx:Cx}{o:AP}{k:CO->S Ty.T->AH α}(hC:j6 call cx.ct)(hi:Inv s)
  (m:∀g want,o.guard=AC (g,want)->(enc s).f g=.bool want) (h:eX val cx.ct cx.ty s (base+o.dst.getD 0) o.op (λop v s'=>k op (s'.put o.dst v))=AC r):En call base s o k r:=by
 obtain ⟨op',v,s',a,⟨l,f,y,w⟩,c⟩:=eT (call:=call) (base:=base) hC hi h;refine ⟨op',s'.put o.dst v,a,?_,y.put w o.dst,f.on.trans (.put s' o.dst v),c⟩;have e:enc (s'.put o.dst v)=(enc s).put o.dst (AL s' v) (AA s'):=by rw [wD,NM hi f];cases o.dst<;>rfl
 rw [e];unfold jp;cases d:o.guard with
 | none=>simp only;rw [l]
 | some p=>
  obtain ⟨g,want⟩:=p;simp only;rw [m g want d];simp only [if_true];rw [l]
theorem wm{o:AP}{k:CO->S Ty.T->AH α}(hi:Inv s){g:AM}{want:AN}(d:o.guard=AC (g,want))(a:(enc s).f g=.bool (!want)\/(enc s).f g=.Cb [])(h:k o.op (s.put o.dst (.tp []))=AC r):En call base s o k r:=by
 refine ⟨o.op,s.put o.dst (.tp []),.inl rfl,?_,hi.put okTp o.dst,.put s o.dst _,h⟩;have e:enc (s.put o.dst (.tp []))=(enc s).put o.dst (.Cb []) (enc s).h:=by rw [wD];rfl
 rw [e];unfold jp;rw [d];rcases a with a|a
 .simp only [a];rw [AR (by cases want<;>simp)]
 .simp only [a]
theorem Ox{o:CO}{run:S Ty.T->AH α}(hi:Inv s)(h:vG val s o run=AC r):∃d,enc d=enc s/\On s d/\Inv d/\run d=AC r:=by
 have same:run s=AC r->∃d,enc d=enc s/\On s d/\Inv d/\run d=AC r:=λh=>⟨s,rfl,.refl s,hi,h⟩;unfold vG at h;split at h
 .rename_i n a b;split at h
  .rename_i t g;have f:∀q:AN,(t:AN)=q->(enc s).f n=.bool q:=λq e=>by show AL s (s.at n)=_;rw [g,<-e];rfl
   rcases Sv h with ⟨e,h⟩|⟨e,h⟩
   .exact ⟨_,jR (f _ e),.put s _ _,hi.put LV _,h⟩
   .exact ⟨_,jR (f _ e),.put s _ _,hi.put LV _,h⟩
  .exact same h
 .exact same h
theorem J21{cx:Cx}{o:AP}{k:CO->S Ty.T->AH α}(hC:j6 call cx.ct)(hi:Inv s)(h:vK val cx base s o k=AC r):En call base s o k r:=by
 have go:∀ {s:S Ty.T},Inv s->(∀g want,o.guard=AC (g,want)->(enc s).f g=.bool want)->vG val s o.op (λs=>eX val cx.ct cx.ty s (base+o.dst.getD 0) o.op λop v s'=>k op (s'.put o.dst v))=AC r->En call base s o k r:=λ{s} hi d h=>by obtain ⟨K,a,B,E,h⟩:=Ox hi h;exact .of a B (J6r hC E (λg w e=>by rw [a];exact d g w e) h)
 unfold vK rW at h;split at h
 .rename_i d;exact go hi (λg w e=>by rw [d] at e;cases e) h
 .rename_i g want d;split at h
  .rename_i b F;have l:(enc s).f g=.bool b:=by show AL s (s.at g)=_;rw [F];rfl
   split at h
   .rename_i e;subst e;exact go hi (λG w e=>by rw [d] at e;injection e with e;injection e with a m;subst a;subst m;exact l) h
   .rename_i e;exact wm hi d (.inl (by rw [l];cases b<;>cases want<;>simp_all)) h
  .rename_i t A;have l:∀q:AN,(t:AN)=q->(enc s).f g=.bool q:=λq e=>by show AL s (s.at g)=_;rw [A,<-e];rfl
   have run:∀q:AN,(t:AN)=q->want=q->vG val (s.put (AC g) (.c (.kb q))) o.op (λs=>eX val cx.ct cx.ty s (base+o.dst.getD 0) o.op λop v s'=>k op (s'.put o.dst v))=AC r->En call base s o k r:=λq a m h=>by have e:=jR (l q a);refine .of e (.put s _ _) (go (hi.put LV _) (λG w y=>?_) h);rw [d] at y;injection y with y;injection y with J H;subst J;subst H;rw [e,l q a,m]
   have skp:∀q:AN,(t:AN)=q->want=!q->k o.op ((s.put (AC g) (.c (.kb q))).put o.dst (.tp []))=AC r->En call base s o k r:=λq a m h=>by have e:=jR (l q a);exact .of e (.put s _ _) (wm (hi.put LV _) d (.inl (by rw [e,l q a,m,Bool.not_not])) h)
   split at h
   .rename_i f;rcases Sv h with ⟨e,h⟩|⟨e,h⟩
    .exact run AE e f h
    .exact skp AF e f h
   .rename_i f;have f:want=AF:=by simpa using f
    rcases Sv h with ⟨e,h⟩|⟨e,h⟩
    .exact skp AE e f h
    .exact run AF e f h
  .rename_i A;exact wm hi d (.inr (by show AL s (s.at g)=_;rw [A];rfl)) h
  .cases h
end
def KU:AG (AM×AP)->AG (AM×AP)->Prop
 | [],[]=>True
 | p::l,q::m=>q.1=p.1/\(∃op',Alt p.2.op op'/\q.2={ p.2 with op:=op' })/\KU l m
 | _,_=>False
theorem Alt.BX{a b:CO}(h:Alt a b)(d:b.BX=AE):(a.BX || qM a)=AE:=by
 rcases h with rfl|⟨f,args,rfl,rfl|rfl|⟨esz,el,rfl⟩⟩
 .rw [d];rfl
 all_goals rfl
section
variable {call:Vv.Call} {base:AM}
def lM:AV->AH AM
 | .ptr g _ _=>AC g
 | .arr g _ _ _=>AC g
 | .map g _=>AC g
 | _=>AD
theorem mW{ds:AG AM}{h:Heap}{g:AM}(e:Cc base ds g=AF):Xb base ds h g=h g:=by simp [Xb,e]
variable {ds:AG AM} {h:Heap} {x:AV} (hx:∀g,lM x=AC g->Cc base ds g=AF)
include hx
theorem Kal(ag:AN)(n:AM):IY (Xb base ds h) ag n x=IY h ag n x:=by
 have e:JL (Xb base ds h) x=JL h x:=by
  cases x<;>try rfl
  unfold JL;dsimp only;rw [mW (hx _ rfl)]
 unfold IY;rw [e]
theorem J5i(o:AM):KZ (Xb base ds h) o x=KZ h o x:=by
 cases x<;>try rfl
 rename_i g ver off;have e:cur (Xb base ds h) g ver=cur h g ver:=by unfold cur;rw [mW (hx _ rfl)]
 simp only [KZ,e]
theorem J5m(e:AM)(i:AV):JW (Xb base ds h) e x i=JW h e x i:=by
 cases x<;>cases i<;>try rfl
 rename_i g ver off len k i;have a:Ei (Xb base ds h) g ver e=Ei h g ver e:=by unfold Ei;rw [mW (hx _ rfl)]
 simp only [JW,a]
theorem J59(e:AM)(lo hi:AH AV):Ir (Xb base ds h) e x lo hi=Ir h e x lo hi:=by
 cases x<;>try rfl
 rename_i g ver off len;have a:Ei (Xb base ds h) g ver e=Ei h g ver e:=by unfold Ei;rw [mW (hx _ rfl)]
 simp only [Ir,a]
theorem Pw:Cw (Xb base ds h) x=Cw h x:=by
 cases x<;>try rfl
 rename_i g ver off len;have a:Zq (Xb base ds h) g ver=Zq h g ver:=by unfold Zq;rw [mW (hx _ rfl)]
 simp only [Cw,a]
end
theorem O5{base:AM}{ds:AG AM}{v:V Ty.T}(f:I4 base ds v=AE)(s:S Ty.T):∀g,lM (AL s v)=AC g->Cc base ds g=AF:=by
 intro g d;unfold I4 at f;split at f
 .simp only [AL,AB,lM,Ap] at d;subst d;simpa using f
 .simp only [AL,AB,lM,Ap] at d;subst d;simpa using f
 .rename_i t x;have h:=Sn t x;simp only [AL,AB] at d;generalize t.cs x=l at h d
  match l,h,d with
  | [],_,d=>cases d
  | [a],h,d=>cases a<;>simp [AV.flat] at h<;>cases d
  | _::_::_,_,d=>cases d
 .cases d
 .simp only [AL,AB,lM,Ap] at d;subst d;simpa using f
 .cases f
section
variable {call:Vv.Call} {base:AM}
theorem nG{σ:St}{g0:AM}{ds:AG AM}{op:CO}{f:Heap->AH AV}{r:AV×Heap}(l:op.cls=1)(d:∀h,Ja call base ⟨σ.f,h⟩ g0 op=match f h with|some v=>AC (v,h)|none=>AD)(g:f (Xb base ds σ.h)=f σ.h)(h:Ja call base σ g0 op=AC r):Ja call base σ g0 (.GY ds op)=AC r:=by
 have m:Ja call base σ g0 op=match f σ.h with|some v=>AC (v,σ.h)|none=>AD:=d σ.h
 rw [m] at h;show (if op.cls=1 then fF σ.h (Ja call base ⟨σ.f,Xb base ds σ.h⟩ g0 op) else AD)=_;rw [AS l,d,g];cases a:f σ.h with
 | none=>rw [a] at h;cases h
 | some v=>rw [a] at h;exact h
theorem Ka5{s:S Ty.T}{dst:AH AM}{ds:AG AM}{op:CO}{r:AV×Heap}(h:Ja call base (enc s) (base+dst.getD 0) op=AC r):Ja call base (enc s) (base+dst.getD 0) (TU val s base dst op ds)=AC r:=by
 have off:∀ {x:LO},I4 base ds (ev val s x)=AE->∀g,lM ((enc s).ev x)=AC g->Cc base ds g=AF:=λhx=>by rw [Ko];exact O5 hx s
 have evf:∀(x:LO) (h:Heap),(St.mk (enc s).f h).ev x=(enc s).ev x:=λx h=>by cases x<;>rfl
 unfold TU;split
 .rename_i ag n x;split
  .rename_i hx;exact nG (f:=λh=>IY h ag n ((enc s).ev x)) rfl (λh=>by simp only [Ja,evf];cases IY h ag n ((enc s).ev x)<;>rfl) (Kal (off hx) ag n) h
  .exact h
 .rename_i o x;split
  .rename_i hx;exact nG (f:=λh=>KZ h o ((enc s).ev x)) rfl (λh=>by simp only [Ja,evf];cases KZ h o ((enc s).ev x)<;>rfl) (J5i (off hx) o) h
  .exact h
 .rename_i e x i;split
  .rename_i hx;exact nG (f:=λh=>JW h e ((enc s).ev x) ((enc s).ev i)) rfl (λh=>by simp only [Ja,evf];cases JW h e ((enc s).ev x) ((enc s).ev i)<;>rfl) (J5m (off hx) e _) h
  .exact h
 .rename_i x;split
  .rename_i hx;exact nG (f:=λh=>(Cw h ((enc s).ev x)).map λn=>AV.int .i64 n) rfl (λh=>by simp only [Ja,evf];cases Cw h ((enc s).ev x)<;>rfl) (by rw [Pw (off hx)]) h
  .exact h
 .rename_i n x y;split
  .rename_i hx;have a:VP base ds (base+dst.getD 0) ((enc s).ev x)=AE:=by
    rw [Ko];unfold onV at hx;split at hx
    .rename_i g ver o e;rw [e];exact hx
    .cases hx
   simp only [Ja] at h ⊢;rw [AS a];exact h
  .exact h
 .rename_i x;split
  .rename_i hx;refine nG (f:=λh=>match (enc s).ev x with
    | .ptr g v o=>if cur h g v then AC (.ptr g v o) else AD
    | .CP l=>AC (.CP l)
    | .fn f caps=>AC (.fn f caps)
    | .Ld f l=>AC (.Ld f l)
    | _=>AD) rfl (λh=>?_) ?_ h
   .simp only [Ja,evf];cases (enc s).ev x<;>try rfl
    rename_i g v o;simp only;cases cur h g v<;>rfl
   .have d:=off hx;cases m:(enc s).ev x<;>try rfl
    rename_i g v o;rw [m] at d;have e:cur (Xb base ds (enc s).h) g v=cur (enc s).h g v:=by unfold cur;rw [mW (d _ rfl)]
    simp only [e]
  .exact h
 .rename_i e b t z x y;split
  .rename_i hx;have a:VP base ds (base+dst.getD 0) ((enc s).ev x)=AE:=by
    rw [Ko];unfold onA at hx;split at hx
    .rename_i g ver e;rw [e];exact hx
    .rename_i e;rw [e];exact hx
    .cases hx
   simp only [Ja] at h ⊢;unfold Mh;rw [AS a];exact h
  .exact h
 .rename_i e x lo hi;split
  .rename_i hx;exact nG (f:=λh=>Ir h e ((enc s).ev x) (lo.map (enc s).ev) (hi.map (enc s).ev)) rfl (λh=>by
    have w:∀l:AH LO,l.map (St.mk (enc s).f h).ev=l.map (enc s).ev:=λl=>by cases l<;>simp [evf]
    simp only [Ja,evf,w];cases Ir h e ((enc s).ev x) (lo.map (enc s).ev) (hi.map (enc s).ev)<;>rfl) (J59 (off hx) e _ _) h
  .exact h
 .exact h
theorem J0h{s:S Ty.T}{σ:St}{g0:AM}{dst:AH AM}{ds:AG AM}{op:CO}{r:AV×Heap}(h:Ja call base σ g0 (TU val s base dst op ds)=AC r):Ja call base σ g0 op=AC r:=by
 obtain ⟨v,a⟩:=r;unfold TU at h;split at h
 .split at h
  .exact lW h
  .exact h
 .split at h
  .exact lW h
  .exact h
 .split at h
  .exact lW h
  .exact h
 .split at h
  .exact lW h
  .exact h
 .split at h
  .exact UC h
  .exact h
 .split at h
  .exact lW h
  .exact h
 .split at h
  .simp only [Ja] at h ⊢;unfold Mh at h;split at h
   .exact h
   .cases h
  .exact h
 .split at h
  .exact lW h
  .exact h
 .exact h
theorem J44(s:S Ty.T)(dst:AH AM)(ds:AG AM)(op:CO):(TU val s base dst op ds).BX=op.BX:=by unfold TU;split<;>(try split)<;>rfl
theorem Kar{o:AP}{σ σ':St}{op:CO}(d:∀r,Ja call base σ (base+o.dst.getD 0) o.op=AC r->Ja call base σ (base+o.dst.getD 0) op=AC r)(h:jp call base o σ=AC σ'):jp call base { o with op:=op } σ=AC σ':=by
 unfold jp at h ⊢;have key:(match Ja call base σ (base+o.dst.getD 0) o.op with|some (v,h)=>AC (σ.put o.dst v h)|none=>AD)=AC σ'->(match Ja call base σ (base+o.dst.getD 0) op with|some (v,h)=>AC (σ.put o.dst v h)|none=>AD)=AC σ':=λh=>by
  cases hr:Ja call base σ (base+o.dst.getD 0) o.op with
  | none=>rw [hr] at h;cases h
  | some r=>rw [hr] at h;rw [d r hr];exact h
 dsimp only at h ⊢;split at h
 .exact key h
 .split at h
  .split at h
   .rename_i a;rw [AS a];exact key h
   .rename_i a;rw [AR a];exact h
  .exact h
  .cases h
def Mk(call:Vv.Call)(base:AM):AG (AM×AP)->AG (AM×AP)->Prop
 | [],[]=>True
 | p::l,q::m=>q.1=p.1/\(∀σ σ',jp call base q.2 σ=AC σ'->jp call base p.2 σ=AC σ')/\Mk call base l m
 | _,_=>False
theorem Mk.mem:∀ {l m:AG (AM×AP)},Mk call base l m->∀q∈m,∃p∈l,q.1=p.1/\∀σ σ',jp call base q.2 σ=AC σ'->jp call base p.2 σ=AC σ'
 | [],[],_,q,d=>by cases d
 | p::l,w::m,h,q,d=>by
  obtain ⟨v,r,g⟩:=h;rcases Ai.1 d with rfl|d
  .exact ⟨p,Ae,v,r⟩
  .obtain ⟨f,a,b⟩:=Mk.mem g q d;exact ⟨f,Ab _ a,b⟩
 | [],_::_,h,_,_=>h.elim
 | _::_,[],h,_,_=>h.elim
variable {α:Type} {r:α}
theorem J2u{cx:Cx}(hC:j6 call cx.ct):∀ {L acc:AG (AM×AP)} {acc2:AG (AG AM->AM×AP)} {ds:AG AM} {s:S Ty.T} {k:AG (AM×AP)->AG (AM×AP)->S Ty.T->AH α},Inv s->bX val cx base L acc acc2 ds s k=AC r ->
  ∃(L':AG (AM×AP)) (M:AG (AG AM->AM×AP)) (ds':AG AM) (s':S Ty.T),KU L L'/\(∀ds,Mk call base L' (M.map λf=>f ds))/\je call base (L'.map (·.2)) (enc s)=AC (enc s')/\(∀ds,je call base ((M.map λf=>f ds).map (·.2)) (enc s)=AC (enc s'))/\Inv s'/\On s s'/\k (acc.reverse++L') ((acc2.reverse++M).map λf=>f ds') s'=AC r
 | [],acc,acc2,ds,s,k,hi,h=>⟨[],[],ds,s,trivial,λ_=>trivial,rfl,λ_=>rfl,hi,.refl s,by rw [Aj,Aj];exact h⟩
 | p::L,acc,acc2,ds,s,k,hi,h=>by
  simp only [bX] at h;split at h
  .cases h
  .rename_i w;obtain ⟨op',l,a,b,c,d,e⟩:=J21 (call:=call) hC hi h;obtain ⟨L',M,ds',s',a',m,B,g,c',A,y⟩:=J2u hC c e;refine ⟨(p.1,{ p.2 with op:=op' })::L',(λds=>(p.1,{ p.2 with op:=TU val s base p.2.dst op' ds }))::M,ds',s',⟨rfl,⟨op',a,rfl⟩,a'⟩,λds=>⟨rfl,λσ σ' hσ=>?_,m ds⟩,?_,λds=>?_,c',d.trans A,by simpa using y⟩
   .exact Kar (o:={ p.2 with op:=TU val s base p.2.dst op' ds }) (op:=op') (λr hr=>J0h hr) hσ
   all_goals
    have hx:∀op'':CO,op''.BX=op'.BX->¬(op''.BX=AE/\((enc s).h (base+p.2.dst.getD 0)).isSome=AE):=λop'' v hx=>by
     apply w;simp only [Kad,Ac];rw [v] at hx;refine ⟨a.BX hx.1,?_⟩;have hx:=hx.2;cases hl:s.has (base+p.2.dst.getD 0) with
     | true=>rfl
     | false=>
      have:(enc s).h (base+p.2.dst.getD 0)=AD:=nO hl;rw [this] at hx;simp at hx
    simp only [Au,je]
   .have hD:jb call base { p.2 with op:=op' } (enc s)=AC (enc l):=by unfold jb;rw [AR (hx op' rfl)];exact b
    rw [hD];exact B
   .have hD:jb call base { p.2 with op:=TU val s base p.2.dst op' ds } (enc s)=AC (enc l):=by unfold jb;rw [AR (hx _ (J44 s p.2.dst ds op'))];exact Kar (o:={ p.2 with op:=op' }) (λr hr=>Ka5 hr) b
    rw [hD];exact g ds
theorem J11{cx:Cx}(hC:j6 call cx.ct){L:AG (AM×AP)}{ds:AG AM}{s:S Ty.T}{k:AG (AM×AP)->AG (AM×AP)->S Ty.T->AH α}(hi:Inv s)(h:bX val cx base L [] [] ds s k=AC r) :
  ∃L' L2 s',KU L L'/\Mk call base L' L2/\je call base (L'.map (·.2)) (enc s)=AC (enc s')/\je call base (L2.map (·.2)) (enc s)=AC (enc s')/\Inv s'/\On s s'/\k L' L2 s'=AC r:=by obtain ⟨L',M,ds',s',a,b,c,d,e,f,g⟩:=J2u hC hi h;exact ⟨L',_,s',a,b ds',c,d ds',e,f,g⟩
end
theorem On.okV{s s':S Ty.T}(h:On s s'){v:V Ty.T}(a:Dn.okV s v):Dn.okV s' v:=λc d=>(h.ok c (a c d)).1
theorem On.AL{s s':S Ty.T}(h:On s s'){v:V Ty.T}(a:Dn.okV s v):Dn.AL s' v=Dn.AL s v:=by
 have e:∀l:AG (C Ty.T),(∀c∈l,FV s c)->l.map (AB s')=l.map (AB s):=λl hl=>Bv λc d=>(h.ok c (hl c d)).2;cases v with
 | c x=>exact (h.ok x (a x (Aa.2 rfl))).2
 | ag l=>exact AT AV.agg (e l a)
 | tp l=>
  refine AT AV.Cb (Bv λp f=>?_);rw [e p.2 λc d=>a c (Ao.2 ⟨p,f,d⟩)]
structure Fm where
 nt:AM
 act:Act
 lo:AH (AM×Loop)
 d:AM
def MD:AG Deferred->AG Fm->Prop
 | _,[]=>True
 | ds,f::r=>(∀d∈ds,∃q,d={ target:=.collected q,args:=#[] }/\f.d<=q)/\(∀q,{ target:=.collected q,args:=#[] }∈f.act.defers->q<f.d)/\(∀p∈r,p.d<=f.d)/\MD f.act.defers r
theorem MD.lt:∀ {ds:AG Deferred} {f:Fm} {r:AG Fm},MD ds (f::r)->∀p∈f::r,∀q,({ target:=.collected q,args:=#[] }:Deferred)∈p.act.defers->q<f.d
 | ds,f,[],h,p,a,q,d=>by have:=Aa.1 a;subst this;exact h.2.1 q d
 | ds,f,g::r,h,p,a,q,d=>by
  rcases Ai.1 a with rfl|a
  .exact h.2.1 q d
  .exact Nat.lt_of_lt_of_le (MD.lt h.2.2.2 p a q d) (h.2.2.1 g Ae)
structure BG (nt:AM) (w:World) (S:AM->Prop) (s:Dn.S Ty.T) (μ:Gh) (a:Act) (fs:AG Fm):Prop where
 fr:DN nt w S (enc s) μ a
 len:fs.length=s.lo.length
 lo:∀(i:AM) (l:AG (AM×V Ty.T)) (b:Fm),s.lo[i]?=AC l->fs[i]?=AC b->∀d v,look d l=AC v->AX w S (AA s) μ (AL s v) (b.act.tmps.getD d undef)
 sz:∀p∈fs,Marks w S p.act.defers/\p.nt<=p.act.tmps.size/\p.d<=w.heap.size
 md:MD a.defers fs
 lp:∀p∈fs,∀j r,p.lo=AC (j,r)->w.heap[μ.l j]?=AC (.loop r)/\¬S (μ.l j)/\∀p'∈fs,∀i q,p'.lo=AC (i,q)->i≠j->μ.l i≠μ.l j
 iv:Inv s
theorem BG.under{nt:AM}{w w':World}{S S':AM->Prop}{s:Dn.S Ty.T}{h':Heap}{μ μ':Gh}{a:Act}{fs:AG Fm}(h:BG nt w S s μ a fs)(ev:CY w S (AA s) μ w' S' h' μ') :
  (∀p∈fs,Marks w' S' p.act.defers/\p.nt<=p.act.tmps.size/\p.d<=w'.heap.size)/\∀p∈fs,∀j r,p.lo=AC (j,r)->w'.heap[μ'.l j]?=AC (.loop r)/\¬S' (μ'.l j)/\∀p'∈fs,∀i q,p'.lo=AC (i,q)->i≠j->μ'.l i≠μ'.l j:=by
 refine ⟨λp d=>⟨h.fr.hp.marks (h.sz p d).1 ev,(h.sz p d).2.1,Nat.le_trans (h.sz p d).2.2 ev.size⟩,λp d j r hl=>?_⟩;obtain ⟨g,v,m⟩:=h.lp p d j r hl;have l:=h.fr.hp.GX g (by intros;simp) (by intros;simp);have f:=(Da.1 g).1;rw [ev.lp];refine ⟨(ev.keep _ f l).trans g,λhs=>?_,m⟩;rcases ev.st2 _ hs with q|q|q
 .exact v q
 .omega
 .exact l q
theorem BG.step{nt:AM}{w w':World}{S S':AM->Prop}{s s':Dn.S Ty.T}{μ μ':Gh}{a a':Act}{fs:AG Fm}(h:BG nt w S s μ a fs)(ed:a'.defers=a.defers)(hs:DN nt w' S' (enc s') μ' a')(on:On s s')(iv:Inv s')
  (ev:CY w S (AA s) μ w' S' (AA s') μ') (vv:Cg (AA s) μ (AA s') μ'):BG nt w' S' s' μ' a' fs:=
 ⟨hs,by rw [on.lo];exact h.len,λi l b hl g d v f=>by rw [on.lo] at hl;have ok:=h.iv.lo l (Av hl) (d,v) (Xq f);rw [on.AL ok];exact (h.lo i l b hl g d v f).Cz h.fr.hp ev vv,(h.under ev).1,by rw [ed];exact h.md,(h.under ev).2,iv⟩
theorem yD{d:AM}{v:V Ty.T}{sl:AG (AM×V Ty.T)}:∀ {n:AG AM},look d (kept sl n)=AC v->look d sl=AC v
 | [],h=>by cases h
 | k::r,h=>by
  simp only [kept] at h;split at h
  .rename_i u a;rw [Kp] at h;split at h
   .rename_i f;injection h with h;subst h;subst f;exact a
   .exact yD h
  .exact yD h
theorem Jwd{sl:AG (AM×V Ty.T)}:∀ {n:AG AM} {p:AM×V Ty.T},p∈kept sl n->p∈sl
 | [],p,h=>by cases h
 | k::r,p,h=>by
  simp only [kept] at h;split at h
  .rename_i u a;rcases Ai.1 h with rfl|h
   .exact Xq a
   .exact Jwd h
  .exact Jwd h
theorem BG.push{nt nt':AM}{w:World}{S:AM->Prop}{s:Dn.S Ty.T}{μ:Gh}{a a':Act}{fs:AG Fm}(h:BG nt w S s μ a fs){n:AG AM}{sl:AG (AM×V Ty.T)}(ok:∀p∈sl,okV s p.2)
  {lo:AH (AM×Loop)} (B:∀j r,lo=AC (j,r)->w.heap[μ.l j]?=AC (.loop r)/\¬S (μ.l j)/\∀E∈fs,∀i q,E.lo=AC (i,q)->i≠j->μ.l i≠μ.l j)
  (hs:DN nt' w S (enc ⟨sl,kept s.sl n::s.lo,s.ob,s.ln,s.mo⟩) μ a') (hd:a'.defers=[]):BG nt' w S ⟨sl,kept s.sl n::s.lo,s.ob,s.ln,s.mo⟩ μ a' (⟨nt,a,lo,w.heap.size⟩::fs) where
 fr:=hs
 len:=by simp [h.len]
 lo i l b hl F d v G:=by
  have e:∀v,Dn.AL ⟨sl,kept s.sl n::s.lo,s.ob,s.ln,s.mo⟩ v=Dn.AL s v:=λv=>by
   have e:AB ⟨sl,kept s.sl n::s.lo,s.ob,s.ln,s.mo⟩=AB s:=by funext c;cases c<;>rfl
   cases v<;>simp only [Dn.AL,e]
  have eh:AA ⟨sl,kept s.sl n::s.lo,s.ob,s.ln,s.mo⟩=AA s:=by
   have e:AB ⟨sl,kept s.sl n::s.lo,s.ob,s.ln,s.mo⟩=AB s:=by funext c;cases c<;>rfl
   funext g;simp only [AA];cases look g s.ob with
   | none=>rfl
   | some o=>cases o<;>simp only [Be,Dn.BD,e]
  rw [e,eh];cases i with
  | zero=>
   simp only [Bl,Ap] at hl F;subst hl;subst F;have:=h.fr.fr d;have hd:=yD G;have H:(enc s).f d=Dn.AL s v:=by show Dn.AL s (s.at d)=_;rw [show s.at d=v by simp [Dn.S.at,hd]]
   rw [H] at this;exact this
  | succ i=>exact h.lo i l b (by simpa using hl) (by simpa using F) d v G
 sz p m:=by
  rcases Ai.1 m with rfl|m
  .exact ⟨h.fr.df,h.fr.sz,Ba _⟩
  .exact h.sz p m
 md:=⟨by rw [hd];exact λd hd=>(by cases hd),λq A=>(by obtain ⟨K,e,F,-⟩:=h.fr.df.2 _ A;injection e with e;injection e with e;subst e;exact (Da.1 F).1),λp m=>(h.sz p m).2.2,h.md⟩
 lp p m j r hl:=by
  rcases Ai.1 m with rfl|m
  .refine ⟨(B j r hl).1,(B j r hl).2.1,λE f i q A y=>?_⟩;rcases Ai.1 f with rfl|f
   .rw [hl] at A;injection A with A;injection A with J H;exact (y J.symm).elim
   .exact (B j r hl).2.2 E f i q A y
  .refine ⟨(h.lp p m j r hl).1,(h.lp p m j r hl).2.1,λE f i q A y=>?_⟩;rcases Ai.1 f with rfl|f
   .exact ((B i q A).2.2 p m j r hl (Ne.symm y)).symm
   .exact (h.lp p m j r hl).2.2 E f i q A y
 iv:=by
  refine ⟨ok,λl hl p m=>?_,h.iv.ob,h.iv.mo⟩;rcases Ai.1 hl with rfl|hl
  .exact h.iv.sl p (Jwd m)
  .exact h.iv.lo l hl p m
theorem BG.pop{nt nt':AM}{w:World}{S:AM->Prop}{s:Dn.S Ty.T}{μ:Gh}{a a':Act}{lo0:AH (AM×Loop)}{d0:AM}{fs:AG Fm}(h:BG nt' w S s μ a' (⟨nt,a,lo0,d0⟩::fs)):BG nt w S s.pop μ a fs:=by
 obtain ⟨sl,lo,ob,ln,mo⟩:=s;have hl:=h.len;cases lo with
 | nil=>simp at hl
 | cons l r=>
  have ec:AB ⟨sl,l::r,ob,ln,mo⟩=AB ⟨l,r,ob,ln,mo⟩:=by funext c;cases c<;>rfl
  have e:∀v,Dn.AL ⟨sl,l::r,ob,ln,mo⟩ v=Dn.AL ⟨l,r,ob,ln,mo⟩ v:=λv=>by cases v<;>simp only [Dn.AL,ec]
  have eh:AA ⟨sl,l::r,ob,ln,mo⟩=AA ⟨l,r,ob,ln,mo⟩:=by
   funext g;simp only [AA];cases look g ob with
   | none=>rfl
   | some o=>cases o<;>simp only [Be,Dn.BD,ec]
  have m:BJ w S (AA ⟨l,r,ob,ln,mo⟩) μ:=eh▸h.fr.hp;refine ⟨⟨λd=>?_,m,(h.sz _ Ae).1,(h.sz _ Ae).2.1⟩,(by simpa using hl:fs.length=r.length),λi y b f F d v E=>?_,λp m=>h.sz p (Ab _ m),h.md.2.2.2,λp m j r hl=>⟨(h.lp p (Ab _ m) j r hl).1,(h.lp p (Ab _ m) j r hl).2.1,λB A=>(h.lp p (Ab _ m) j r hl).2.2 B (Ab _ A)⟩,λp m=>h.iv.lo l Ae p m,λy f=>h.iv.lo y (Ab _ f),h.iv.ob,h.iv.mo⟩
  .show AX w S (AA ⟨l,r,ob,ln,mo⟩) μ (Dn.AL ⟨l,r,ob,ln,mo⟩ (Dn.S.at ⟨l,r,ob,ln,mo⟩ d)) _;unfold Dn.S.at;cases hd:look d l with
   | none=>exact .any _
   | some v=>
    have:=h.lo 0 l ⟨nt,a,lo0,d0⟩ rfl rfl d v hd;rw [e,eh] at this;exact this
  .have f:r[i]?=AC y:=f;have:=h.lo (i+1) y b (by simpa using f) (by simpa using F) d v E;rw [e,eh] at this;exact this
theorem PW(m:CM)(d:AH AM):lZ [(d.getD 0,m)] d=m:=by simp [lZ]
theorem J8c{P:Program}{dst:AH AM}{op:Op}{f:FuncId}{args:AG LO}(h:JK P [] dst op=AC (.Co f args))(m:CM) :
  JK P [(dst.getD 0,m)] dst op=AC (match m with|.p=>.Co f args|.z=>.Et f args|.q=>.FW f args|.o esz el=>.FH f args esz el):=by
 cases op
 case call c=>
  simp only [JK] at h ⊢;rw [PW]
  repeat' split at h
  all_goals first|(cases h;done)|(simp at h;done)|skip
  all_goals first|(simp only [*];done)|skip
  injection h with h;injection h with d a;subst d;subst a;rfl
 all_goals
  simp only [JK] at h
  repeat' split at h
  all_goals first|(cases h;done)|(simp at h;done)|contradiction
theorem tC{P:Program}{nt:AM}{ops:Array Oper}{o:Oper}{x:AP}(h:comp P [] nt ops o=AC x){op':CO}(a:Alt x.op op'):∃cm,comp P cm nt ops o=AC { x with op:=op' }:=by
 rcases a with rfl|⟨f,args,hx,w⟩
 .exact ⟨[],h⟩
 .obtain ⟨m,r⟩:∃m:CM,op'=(match m with|.p=>.Co f args|.z=>.Et f args|.q=>.FW f args|.o esz el=>.FH f args esz el):=by
   rcases w with rfl|rfl|⟨esz,el,rfl⟩
   .exact ⟨.q,rfl⟩
   .exact ⟨.z,rfl⟩
   .exact ⟨.o esz el,rfl⟩
  refine ⟨[(o.dst.getD 0,m)],?_⟩;unfold comp at h ⊢;cases l:JK P [] o.dst o.op with
  | none=>rw [l] at h;cases h
  | some lop=>
   rw [l] at h;simp only at h;have hl:lop=.Co f args:=by
    rw [<-hx];split at h
    .split at h
     .injection h with h;rw [<-h]
     .split at h
      .split at h
       .injection h with h;rw [<-h]
       .cases h
      .cases h
    .cases h
   rw [J8c (by rw [l,hl]) m,<-r];simp only;split at h
   .rename_i hd;rw [AS hd];split at h
    .rename_i v;injection h with h;rw [<-h]
    .rename_i j want v;split at h
     .rename_i d y;split at h
      .rename_i g;rw [AS g];injection h with h;rw [<-h]
      .cases h
     .cases h
   .cases h
theorem KU.mem:∀ {L L':AG (AM×AP)},KU L L'->∀q∈L',∃p∈L,q.1=p.1/\∃op',Alt p.2.op op'/\q.2={ p.2 with op:=op' }
 | [],[],_,q,d=>by cases d
 | p::l,w::m,h,q,d=>by
  obtain ⟨v,r,g⟩:=h;rcases Ai.1 d with rfl|d
  .exact ⟨p,Ae,v,r⟩
  .obtain ⟨f,a,b⟩:=KU.mem g q d;exact ⟨f,Ab _ a,b⟩
 | [],_::_,h,_,_=>h.elim
 | _::_,[],h,_,_=>h.elim
theorem Rl{ro:AH AM}{P:Program}{nt:AM}{ops:Array Oper}{call:Vv.Call}{base:AM}{Q:Exit->Act->World->Prop}{cx:Cx}{α:Type}{r:α}(hC:j6 call cx.ct)(d:JJ P call)(M:P.follows .mixedOrders=AE)
  {w:World} {S:AM->Prop} {s:Dn.S Ty.T} {μ:Gh} {a:Act} {fs:AG Fm} (h:BG nt w S s μ a fs) {id:AM} {l:AG AM} {L:AG (AM×AP)} (R:Iw P [] nt ops l=AC L) {ds:AG AM} {k:AG (AM×AP)->AG (AM×AP)->Dn.S Ty.T->AH α}
  (v:bX val cx base L [] [] ds s k=AC r) (N:∀L' L2 s',k L' L2 s'=AC r->mG ops L'=AE\/mG ops L2=AE)
  (hQ:∀a' w' S' μ' s' L' L2,BG nt w' S' s' μ' a' fs->CY w S (AA s) μ w' S' (AA s') μ'->k L' L2 s'=AC r->Q .normal a' w'):(Code.region id ops AE).wpIn (Fr ro) 0 P Q a w:=by
 obtain ⟨L',L2,s',aL,mL,O,J,iv,on,f⟩:=J11 (call:=call) hC h.iv v;have one:∀q∈L',∃(cm:AG (AM×CM)) (o:Oper),ops[q.1]?=AC o/\comp P cm nt ops o=AC q.2:=λq m=>by obtain ⟨p,H,K,op',al,Y⟩:=aL.mem q m;obtain ⟨o,A,y⟩:=Jpq R p H;obtain ⟨cm,X⟩:=tC y al;exact ⟨cm,o,by rw [K];exact A,by rw [Y];exact X⟩
 rcases N _ _ _ f with hd|hd
 .refine Kby d M h.fr (L:=L') (λq m=>?_) hd O λa' w' S' μ' F E g B=>hQ a' w' S' μ' s' L' L2 (h.step F E on iv g B) g f;obtain ⟨cm,o,A,y⟩:=one q m;exact ⟨cm,o,q.2,A,y,λ_ _ h=>h⟩
 .refine Kby d M h.fr (L:=L2) (λq m=>?_) hd J λa' w' S' μ' F E g B=>hQ a' w' S' μ' s' L' L2 (h.step F E on iv g B) g f;obtain ⟨p,H,K,G⟩:=mL.mem q m;obtain ⟨cm,o,A,y⟩:=one p H;exact ⟨cm,o,p.2,by rw [K];exact A,y,G⟩
theorem KU.idx:∀ {l m:AG (AM×AP)},KU l m->m.map (·.1)=l.map (·.1)
 | [],[],_=>rfl
 | p::l,q::m,h=>by simp only [Au,h.1,h.2.2.idx]
 | [],_::_,h=>h.elim
 | _::_,[],h=>h.elim
theorem Jj9{P:Program}{cm:AG (AM×CM)}{nt:AM}{ops:Array Oper}:∀ {l:AG AM} {A B:AG (AM×AP)},Iw P cm nt ops l=AC (A++B)->Iw P cm nt ops (A.map (·.1))=AC A/\Iw P cm nt ops (B.map (·.1))=AC B
 | [],A,B,h=>by simp only [Iw,Ap] at h;obtain ⟨rfl,rfl⟩:=List.append_eq_nil_iff.1 h.symm;exact ⟨rfl,rfl⟩
 | i::l,A,B,h=>by
  unfold Iw at h;split at h
  .rename_i o f;split at h
   .rename_i x m hx g;injection h with h;cases A with
    | nil=>
     simp only [List.nil_append] at h;subst h;have d:=Jj9 (A:=[]) (B:=m) g;refine ⟨rfl,?_⟩;simp only [Au,Iw,f,hx,d.2]
    | cons a A=>
     simp only [Df,List.cons.injEq] at h;obtain ⟨rfl,rfl⟩:=h;have d:=Jj9 g;refine ⟨?_,d.2⟩;simp only [Au,Iw,f,hx,d.1]
   .cases h
  .cases h
theorem Jxx{P:Program}{cm:AG (AM×CM)}{nt:AM}{ops:Array Oper}:∀ {l:AG AM} {L:AG (AM×AP)},Iw P cm nt ops l=AC L->∃os:AG Oper,l.map (λi=>ops[i]?)=os.map AC
 | [],L,h=>⟨[],rfl⟩
 | i::l,L,h=>by
  unfold Iw at h;split at h
  .rename_i o a;split at h
   .rename_i x m hx d;obtain ⟨os,e⟩:=Jxx d;exact ⟨o::os,by simp [a,e]⟩
   .cases h
  .cases h
theorem J7s{ro:AH AM}{P:Program}{nt:AM}{ops:Array Oper}{call:Vv.Call}{base:AM}{Q:Exit->Act->World->Prop}{cx:Cx}{α:Type}{r:α}(hC:j6 call cx.ct)(d:JJ P call)(N:P.follows .mixedOrders=AE)
  {w:World} {S:AM->Prop} {s:Dn.S Ty.T} {μ:Gh} {a:Act} {fs:AG Fm} (h:BG nt w S s μ a fs) {id:AM} {l:AG AM} {L R:AG (AM×AP)} (hc:Iw P [] nt ops l=AC (L++R)) {ds:AG AM} {k:AG (AM×AP)->AG (AM×AP)->Dn.S Ty.T->AH α}
  (A:bX val cx base L [] [] ds s k=AC r) (Z:∀L' L2 s',k L' L2 s'=AC r->mh ops L' (R.map (·.1))=AE\/mh ops L2 (R.map (·.1))=AE)
  (hQ:∀a' w' S' μ' s' L' L2 os,BG nt w' S' s' μ' a' fs->CY w S (AA s) μ w' S' (AA s') μ'->k L' L2 s'=AC r->Iw P [] nt ops (R.map (·.1))=AC R->(R.map (·.1)).map (λi=>ops[i]?)=os.map AC->wpListIn (Fr ro) 0 P ops Q os a' w'):(Code.region id ops AE).wpIn (Fr ro) 0 P Q a w:=by
 obtain ⟨L',L2,s',aL,mL,he,J,iv,on,y⟩:=J11 (call:=call) hC h.iv A;obtain ⟨hcL,hcR⟩:=Jj9 hc;obtain ⟨os,m⟩:=Jxx hcR;have B:∀q∈L',∃(cm:AG (AM×CM)) (o:Oper),ops[q.1]?=AC o/\comp P cm nt ops o=AC q.2:=λq v=>by obtain ⟨p,H,K,op',al,e2⟩:=aL.mem q v;obtain ⟨o,F,E⟩:=Jpq hcL p H;obtain ⟨cm,h3⟩:=tC E al;exact ⟨cm,o,by rw [K];exact F,by rw [e2];exact h3⟩
 have f:∀(a':Act) (w':World) (S':AM->Prop) (μ':Gh),a'.defers=a.defers->DN nt w' S' (enc s') μ' a'->CY w S (enc s).h μ w' S' (enc s').h μ'->Cg (enc s).h μ (enc s').h μ'->wpListIn (Fr ro) 0 P ops Q os a' w':=
  λa' w' S' μ' Y X M O=>hQ a' w' S' μ' s' L' L2 os (h.step Y X on iv M O) M y hcR m
 rcases Z _ _ _ y with g|g
 .refine J1t d N h.fr (λq v=>?_) g m he f;obtain ⟨cm,o,F,E⟩:=B q v;exact ⟨cm,o,q.2,F,E,λ_ _ h=>h⟩
 .refine J1t d N h.fr (λq v=>?_) g m J f;obtain ⟨p,H,K,G⟩:=mL.mem q v;obtain ⟨cm,o,F,E⟩:=B p H;exact ⟨cm,o,p.2,by rw [K];exact F,E,G⟩
theorem Nu{ro:AH AM}{P:Program}{nt:AM}{ops:Array Oper}{call:Vv.Call}{base:AM}{Q:Exit->Act->World->Prop}{K:Act->World->Prop}{cx:Cx}{α:Type}{r:α}(hC:j6 call cx.ct)(d:JJ P call)
  {w:World} {S:AM->Prop} {s:Dn.S Ty.T} {μ:Gh} {a:Act} {fs:AG Fm} (h:BG nt w S s μ a fs) {o:Oper} {lo:AP} (E:comp P [] nt ops o=AC lo) {k:CO->Dn.S Ty.T->AH α}
  (f:vK val cx base s lo k=AC r)
  (hK:∀a' w' S' μ' s' op',BG nt w' S' s' μ' a' fs->CY w S (AA s) μ w' S' (AA s') μ'->k op' s'=AC r->K a' w') :
  if Region.wanted o (yielded ops a.tmps)=AE then Ie ro P o a w K Q else K (a.put o.dst undef) w:=by obtain ⟨op',s',al,B,iv,on,g⟩:=J21 (call:=call) hC h.iv f;obtain ⟨cm,l⟩:=tC E al;exact wN d h.fr l B λa' w' S' μ' A y m v=>hK a' w' S' μ' s' op' (h.step A y on iv m v) m g
theorem Jy4{P:Program}{nt:AM}{ops:Array Oper}{cm:AG (AM×CM)}{w:World}{S:AM->Prop}{σ:St}{μ:Gh}{a:Act}{o:Oper}{lo:AP}(hs:DN nt w S σ μ a)(f:comp P cm nt ops o=AC lo) :
  lo.dst=o.dst/\(lo.guard=AD->Region.wanted o (yielded ops a.tmps)=AE)/\∀g want,lo.guard=AC (g,want) ->
   (∀b,σ.f g=.bool b->Region.wanted o (yielded ops a.tmps)=(b==want))/\(σ.f g=.Cb []->Region.wanted o (yielded ops a.tmps)=AF):=by
 unfold comp at f;split at f
 .cases f
 .split at f
  .split at f
   .rename_i m;injection f with f;subst f;exact ⟨rfl,(λ_=>by simp [Region.wanted,m]),λg want e=>by cases e⟩
   .rename_i j want m;split at f
    .rename_i d y;split at f
     .rename_i l;injection f with f;subst f;refine ⟨rfl,(λe=>by cases e),λg want' e=>?_⟩;injection e with e;injection e with B A;subst B;subst A;have h:=hs.fr d;refine ⟨λb v=>?_,λv=>?_⟩
      .rw [v] at h;have r:=yI hs y l h.Ca;simp [Region.wanted,m,r,Nh]
      .rw [v] at h;have r:=yI hs y l h.JX;simp [Region.wanted,m,r,Nh]
     .cases f
    .cases f
  .cases f
inductive GR (h h':Heap) (θ:AM->AH AM) (R:AG AM):AV->AV->Prop
 | any (x:AV):GR h h' θ R x .any
 | snap {x u y:AV} {ns:AG AM} (k:AM) (hs:Vv.snap h k x=AC (u,ns)) (hn:∀g∈ns,g∈R) (hu:Up u y):GR h h' θ R x y
 | arr {g v off len n v':AM} {o o':AU} (ho:h g=AC o) (ho':h' n=AC o') (hv:v'<=o'.ver) (hθ:θ n=AC g)
   (hc:v'=o'.ver->v=o.ver/\∀e el c z,o=.arr v e el c z->∃c' z',o'=.arr v' e el c' z'/\(c=[]↔c'=[])):GR h h' θ R (.arr g v off len) (.arr n v' off len)
 | ptr {g v off n v':AM} {o o':AU} (ho:h g=AC o) (ho':h' n=AC o') (hv:v'<=o'.ver) (hθ:θ n=AC g) (hc:v'=o'.ver->v=o.ver):GR h h' θ R (.ptr g v off) (.ptr n v' off)
 | map {g v n v':AM} {o o':AU} (ho:h g=AC o) (ho':h' n=AC o') (hv:v'<=o'.ver) (hθ:θ n=AC g) (hc:v'=o'.ver->v=o.ver):GR h h' θ R (.map g v) (.map n v')
 | same (x:AV) (hθ:θ=AC) (hk:∀g o,h g=AC o->∃o',h' g=AC o'/\o'.ver=o.ver/\o.like o'):GR h h' θ R x x
 | Fu (j:AM):GR h h' θ R (.Fu j) (.Fu j)
 | new {n v' e:AM} {el:TypeId} {z:AN} (ho':h' n=AC (.arr v' e el [] z)):GR h h' θ R .BK (.arr n v' 0 0)
 | fn (f:FuncId) (l l':AG AV) (hl:l.length=l'.length) (hg:∀(i:AM) (x y:AV),l[i]?=AC x->l'[i]?=AC y->GR h h' θ R x y):GR h h' θ R (.fn f l) (.fn f l')
 | agg (l l':AG AV) (hl:l.length=l'.length) (hg:∀(i:AM) (x y:AV),l[i]?=AC x->l'[i]?=AC y->GR h h' θ R x y):GR h h' θ R (.agg l) (.agg l')
 | Cb (l l':AG AV) (hl:l.length=l'.length) (hg:∀(i:AM) (x y:AV),l[i]?=AC x->l'[i]?=AC y->GR h h' θ R x y):GR h h' θ R (.Cb l) (.Cb l')
structure Eu (h h':Heap) (θ:AM->AH AM) (R:AG AM) (l l':AG AV):Prop where
 len:l.length=l'.length
 at':∀(i:AM) (x y:AV),l[i]?=AC x->l'[i]?=AC y->GR h h' θ R x y
section
variable {h h':Heap} {θ:AM->AH AM} {R:AG AM}
theorem GR.flat{x:AV}(d:x.flat=AE):GR h h' θ R x x:=.snap 1 (yP h 0 x d) (λg a=>by cases a) (.refl x)
theorem Eu.nil:Eu h h' θ R [] []:=⟨rfl,λi x y hx=>by simp at hx⟩
theorem Eu.cons{x y:AV}{l g:AG AV}(hx:GR h h' θ R x y)(m:Eu h h' θ R l g):Eu h h' θ R (x::l) (y::g):=
 ⟨by simp [m.len],λi a b f d=>by
  cases i with
  | zero=>simp at f d;subst f;subst d;exact hx
  | succ i=>exact m.at' i a b (by simpa using f) (by simpa using d)⟩
theorem Eu.append{a b c d:AG AV}(f:Eu h h' θ R a c)(l:Eu h h' θ R b d):Eu h h' θ R (a++b) (c++d):=by
 refine ⟨by simp [f.len,l.len],λi x y hx g=>?_⟩;by_cases hi:i<a.length
 .rw [Dc hi] at hx;rw [Dc (by rw [<-f.len];exact hi)] at g;exact f.at' i x y hx g
 .rw [Db (by omega)] at hx;rw [Db (by rw [<-f.len];omega)] at g;exact l.at' _ x y hx (by rw [f.len];exact g)
theorem Eu.set{a b:AG AV}{x y:AV}(hl:Eu h h' θ R a b)(hx:GR h h' θ R x y)(i:AM):Eu h h' θ R (a.set i x) (b.set i y):=by
 refine ⟨by simp [hl.len],λj u v f d=>?_⟩;rw [List.getElem?_set] at f d;by_cases g:i=j
 .rw [AS g] at f d;split at f
  .split at d
   .injection f with f;injection d with d;subst f;subst d;exact hx
   .cases d
  .cases f
 .rw [AR g] at f d;exact hl.at' j u v f d
theorem Eu.flat{l:AG AV}(d:l.all AV.flat=AE):Eu h h' θ R l l:=
 ⟨rfl,λi x y hx a=>by rw [hx] at a;injection a with a;subst a;exact .flat (Ah.1 d x (Av hx))⟩
theorem Eu.map{α:Type}{f f':α->AV}{l:AG α}(a:∀x∈l,GR h h' θ R (f x) (f' x)):Eu h h' θ R (l.map f) (l.map f'):=by
 induction l with
 | nil=>exact .nil
 | cons x l d=>exact .cons (a x Ae) (d λy g=>a y (Ab _ g))
theorem Eu.aC{k:AM}{L U:AG AV}{N:AG AM}(hs:FX h k L U N)(hN:∀g∈N,(∃o,h g=AC o/\o.freeze.fz=AE)->g∈R):Eu h h' θ R L U:=by obtain ⟨ps,A,l,w⟩:=hs;obtain ⟨r,m⟩:=TW A;refine ⟨by rw [<-l.len];simp [r],λi x y hx v=>?_⟩;obtain ⟨p,d,a⟩:=m i x hx;refine .snap k (u:=p.1) (ns:=p.2) a (λg f=>hN g ?_ (kF k (u:=p.1) (ns:=p.2) a g f)) (l.at' i p.1 y (by simp [d]) v);exact (w g).1 (Ao.2 ⟨p,Av d,f⟩)
end
inductive GO (h h':Heap) (θ:AM->AH AM) (R:AG AM) (g:AM):AU->AU->Prop
 | box {v v':AM} {c c':AG AV} (hc:Eu h h' θ R c c'):GO h h' θ R g (.box v c) (.box v' c')
 | arr {v v' e:AM} {el:TypeId} {z z':AN} {c c':AG AV} (hc:Eu h h' θ R c c') (hz:z'=AE->z=AE\/g∈R) (hz2:z=AE->z'=AE):GO h h' θ R g (.arr v e el c z) (.arr v' e el c' z')
 | map {v v':AM} {es es':AG (AV×AV)} (hl:es'.length=es.length) (hk:∀(i:AM) (p q:AV×AV),es[i]?=AC p->es'[i]?=AC q->q.1=p.1/\GR h h' θ R p.2 q.2):GO h h' θ R g (.map v es AF) (.map v' es' AF)
structure GS (h h':Heap) (θ:AM->AH AM) (R:AG AM):Prop where
 ob:∀n o',h' n=AC o'->(∃v e el z,o'=.arr v e el [] z)\/∃g o,θ n=AC g/\h g=AC o/\GO h h' θ R g o o'
 inj:∀n n' g,θ n=AC g->θ n'=AC g->(h' n).isSome=AE->(h' n').isSome=AE->n=n'
 own:∀n g o',θ n=AC g->h' n=AC o'->o'.fz=AF->o'.live=AE->g∉R
 nm:∀g∈R,∃o,h g=AC o/\o.freeze.fz=AE
theorem Yu{α:Type}{l a:AG α}(h:l.length=a.length):l=[]↔a=[]:=by cases l<;>cases a<;>simp at h ⊢
theorem GO.fz{h h':Heap}{θ:AM->AH AM}{R:AG AM}{x:AM}{o o':AU}(g:GO h h' θ R x o o'):(o'.fz=AF->o.fz=AF)/\o.live=o'.live:=by
 cases g with
 | box d=>exact ⟨λ_=>rfl,rfl⟩
 | map hl r=>exact ⟨λ_=>rfl,rfl⟩
 | @arr v l e el z f c c' d m a=>
  refine ⟨λq=>?_,?_⟩
  .simp only [AU.fz] at q ⊢;cases z with
   | false=>rfl
   | true=>rw [a rfl] at q;cases q
  have:=Yu d.len;cases c<;>cases c'<;>simp_all [AU.live]
def Gh.via(μ:Gh)(θ:AM->AH AM):Gh:=⟨λn=>match θ n with|some g=>μ.b g|none=>0,λn=>match θ n with|some g=>μ.o g|none=>0,μ.l⟩
theorem YV{μ:Gh}{θ:AM->AH AM}{n g:AM}(h:θ n=AC g):(Gh.via μ θ).b n=μ.b g:=by simp [Gh.via,h]
theorem Lu{μ:Gh}{θ:AM->AH AM}{n g:AM}(h:θ n=AC g):(Gh.via μ θ).o n=μ.o g:=by simp [Gh.via,h]
section
variable {w:World} {S:AM->Prop} {h h':Heap} {μ:Gh} {θ:AM->AH AM} {R:AG AM}
theorem GR.rep(E:BJ w S h μ){S':AM->Prop}(hS:∀b,S b->S' b)(hm:Met S' h μ R)(ev:CY w S h μ w S' h' (Gh.via μ θ)):∀ {x y:AV},GR h h' θ R x y->∀ {v:Value},AX w S h μ x v->AX w S' h' (Gh.via μ θ) y v:=by
 intro x y g
 induction g with
 | any x=>exact λ_=>.any _
 | snap k hs hn hu=>exact λhr=>.pure (hu.rep (kD E hS k hs hr λg X=>hm g (hn g X)))
 | @arr g v off len n H o o' J m N hθ O=>
  intro cv hr;cases hr with
  | pure E=>cases E
  | arr _ _ _ _ _ Z d M B A=>
   rw [J] at d;injection d with d;subst d;refine .arr n H off len cv o' m N B λe=>?_;obtain ⟨e1,Y⟩:=O e;obtain ⟨esz,el,cells,fz,eo,Q⟩:=A e1;obtain ⟨c',z',eo',G⟩:=Y esz el cells fz eo;refine ⟨esz,el,c',z',eo',?_⟩;rw [YV hθ,Lu hθ];exact ⟨λq=>Q.1 (G.2 q),λq=>Q.2 λp=>q (G.1 p)⟩
 | @ptr g v off n H o o' J m N hθ O=>
  intro cv hr;cases hr with
  | pure E=>cases E
  | ptr _ _ _ _ Z d M B A=>
   rw [J] at d;injection d with d;subst d;exact .ptr n H off cv o' m N B λe=>by rw [YV hθ,Lu hθ];exact A (O e)
 | @map g v n H o o' J m N hθ O=>
  intro cv hr;cases hr with
  | pure E=>cases E
  | map _ _ _ Z d M B A=>
   rw [J] at d;injection d with d;subst d;exact .map n H cv o' m N B λe=>by rw [YV hθ];exact A (O e)
 | Fu j=>
  intro cv hr;cases hr with
  | pure E=>cases E
  | Fu=>exact .Fu j
 | same x hθ Q=>
  intro cv hr;refine hr.Cz E ev λg o J=>?_;obtain ⟨o',a,b,c⟩:=Q g o J;exact ⟨o',a,by omega,λ_=>⟨⟨YV (by rw [hθ]),Lu (by rw [hθ])⟩,c⟩⟩
 | @new n H e el z m=>
  intro cv hr;have:=hr.CW;subst this;exact .arr n H 0 0 _ _ m (Ba _) rfl λ_=>⟨e,el,[],z,rfl,λ_=>⟨rfl,rfl,AD,rfl⟩,λq=>(q rfl).elim⟩
 | fn f l F hl X L=>
  intro cv hr;obtain ⟨cs,rfl,P,K⟩:=hr.EZ;refine .fn f F cs (by rw [<-hl];exact P) λi y r=>?_;obtain ⟨x,hx⟩:∃x,l[i]?=AC x:=by have:i<F.length:=(Ad.1 r).1;exact ⟨_,Ag (by omega)⟩
  exact L i x y hx r (K i x hx)
 | agg l F hl X L=>
  intro cv hr;obtain ⟨cs,rfl,P,K⟩:=hr.CB;have key:∀i y,F[i]?=AC y->∃x,l[i]?=AC x:=λi y r=>by have:i<F.length:=(Ad.1 r).1;exact ⟨_,Ag (by omega)⟩
  refine .agg F cs (by rw [<-hl];exact P) (λi y r=>?_) λi y r=>?_
  .obtain ⟨x,hx⟩:=key i y r;exact (K i x hx).2
  .obtain ⟨x,hx⟩:=key i y r;exact L i x y hx r (K i x hx).1
 | Cb l F hl X L=>
  intro cv hr;obtain ⟨cs,rfl,P,K⟩:=hr.FI;refine .Cb F cs (by rw [<-hl];exact P) λi y r=>?_;obtain ⟨x,hx⟩:∃x,l[i]?=AC x:=by have:i<F.length:=(Ad.1 r).1;exact ⟨_,Ag (by omega)⟩
  exact L i x y hx r (K i x hx)
theorem Eu.holds(f:BJ w S h μ){S':AM->Prop}(hS:∀b,S b->S' b)(l:Met S' h μ R)(ev:CY w S h μ w S' h' (Gh.via μ θ)){c c':AG AV}(g:Eu h h' θ R c c'){o:AM}{cs:Array Value}(d:Ct w S h μ o c cs):Ct w S' h' (Gh.via μ θ) o c' cs:=by
 intro i y a;obtain ⟨x,hx⟩:∃x,c[i]?=AC x:=by have:i<c'.length:=(Ad.1 a).1;exact ⟨_,Ag (by rw [g.len];omega)⟩
 exact ⟨(g.at' i x y hx a).rep f hS l ev (d i x hx).1,(d i x hx).2⟩
theorem J4e(d:BJ w S h μ)(gs:GS h h' θ R):∃S':AM->Prop,BJ w S' h' (Gh.via μ θ)/\CY w S h μ w S' h' (Gh.via μ θ)/\∀ {x y:AV},GR h h' θ R x y->∀ {v:Value},AX w S h μ x v->AX w S' h' (Gh.via μ θ) y v:=by
 obtain ⟨f1,f2,f3⟩:=tY d gs.nm;have hS:∀b,S b->(λb=>S b\/KQ h μ R b) b:=λb Y=>.inl Y;have G:Met (λb=>S b\/KQ h μ R b) h μ R:=λg K o a hl=>.inr ⟨g,K,o,a,hl,rfl⟩;have old:∀n o',h' n=AC o'->o'.live=AE->∃g o,θ n=AC g/\h g=AC o/\GO h h' θ R g o o':=λn o' a hl=>by
  rcases gs.ob n o' a with ⟨v,e,el,z,rfl⟩|hx
  .cases hl
  .exact hx
 have ev:CY w S h μ w (λb=>S b\/KQ h μ R b) h' (Gh.via μ θ):=by refine ⟨rfl,rfl,⟨rfl,Ba _⟩,Ba _,λ_ _ _=>rfl,λ_ cs _ _ l=>⟨cs,l,rfl⟩,λb Y=>.inl Y,f2.st2,?_,rfl⟩;rintro b ⟨n,o',a,B,hl,e⟩;obtain ⟨g,x,m,A,t3⟩:=old n o' a hl;exact .inl ⟨g,x,A,t3.fz.1 B,t3.fz.2▸hl,by rw [<-e,YV m]⟩
 refine ⟨λb=>S b\/KQ h μ R b,⟨λn o' a=>?_,λn n' o o' h1 h2 l1 l2 e=>?_,λn o' a B hl=>?_,f1.lt⟩,ev,λg _ hr=>g.rep d hS G ev hr⟩
 .rcases gs.ob n o' a with ⟨v,e,el,z,rfl⟩|⟨g,o,hθ,K,go⟩
  .exact λq=>(q rfl).elim
  .have r:=d.ob g o K;rw [YV hθ,Lu hθ];cases go with
   | box l=>
    obtain ⟨cs,el,J,E,L⟩:=r;exact ⟨cs,el,J,by rw [<-l.len];exact E,l.holds d hS G ev L⟩
   | @map v v' es es' hl hk=>
    obtain ⟨mes,clock,J,E,L,b4⟩:=r;refine ⟨mes,clock,J,⟨by rw [hl];exact E.1,E.2⟩,(λq=>by cases q),λi k v hi=>?_⟩;have H:i<es.length:=by have:=(Ad.1 hi).1;omega
    obtain ⟨Z,e2⟩:=hk i es[i] (k,v) (Ag H) hi;obtain ⟨e,c1,c2,c3⟩:=b4 i es[i].1 es[i].2 (Ag H);have Z:k=es[i].1:=Z;exact ⟨e,c1,by rw [Z];exact c2.mono hS (λ_ _=>rfl),e2.rep d hS G ev c3⟩
   | arr l B hz2=>
    intro P;have f:=λq=>P ((Yu l.len).1 q);obtain ⟨cs,J,E,L,b4⟩:=r f;refine ⟨cs,J,by rw [<-l.len];exact E,l.holds d hS G ev L,λq=>?_⟩;rcases B q with q|q
    .exact .inl (b4 q)
    .exact G g q _ K (Kz.2 f)
 .obtain ⟨g,x,m,A,t3⟩:=old n o h1 l1;obtain ⟨g',x',F,N,M⟩:=old n' o' h2 l2;rw [YV m,YV F] at e;have:=d.inj g g' x x' A N (t3.fz.2▸l1) (M.fz.2▸l2) e;subst this;exact gs.inj n n' g m F (by rw [h1];rfl) (by rw [h2];rfl)
 .obtain ⟨g,x,m,A,t3⟩:=old n o' a hl;rw [YV m];rintro (hs|⟨g2,X,o2,O,Q,e⟩)
  .exact d.own g x A (t3.fz.1 B) (t3.fz.2▸hl) hs
  .have:=d.inj g2 g o2 x O A Q (t3.fz.2▸hl) e;subst this;exact gs.own n _ o' m a B hl X
end
structure GF (s s':S Ty.T) (θ:AM->AH AM) (R:AG AM):Prop where
 gs:GS (AA s) (AA s') θ R
 sl:∀d v,look d s'.sl=AC v->GR (AA s) (AA s') θ R (AL s (s.at d)) (AL s' v)
 len:s'.lo.length=s.lo.length
 lo:∀(i:AM) (l l':AG (AM×V Ty.T)) (d:AM) (v':V Ty.T),s.lo[i]?=AC l->s'.lo[i]?=AC l'->look d l'=AC v'->GR (AA s) (AA s') θ R (AL s ((look d l).getD (.c .any))) (AL s' v')
 iv:Inv s'
theorem BG.ghost{nt:AM}{w:World}{S:AM->Prop}{s s':Dn.S Ty.T}{μ:Gh}{a:Act}{fs:AG Fm}{θ:AM->AH AM}{R:AG AM}(h:BG nt w S s μ a fs)(g:GF s s' θ R) :
  ∃S' μ',BG nt w S' s' μ' a fs/\CY w S (AA s) μ w S' (AA s') μ':=by
 obtain ⟨S',F,m,y⟩:=J4e h.fr.hp g.gs;refine ⟨S',_,⟨⟨λd=>?_,F,h.fr.hp.marks h.fr.df m,h.fr.sz⟩,by rw [g.len];exact h.len,λi G b f H d E A=>?_,(h.under m).1,h.md,(h.under m).2,g.iv⟩,m⟩
 .show AX _ _ _ _ (AL s' (s'.at d)) _;unfold Dn.S.at;cases hd:look d s'.sl with
  | none=>exact .any _
  | some v=>exact y (g.sl d v hd) (h.fr.fr d)
 .obtain ⟨l,hl⟩:∃l,s.lo[i]?=AC l:=by have:i<s'.lo.length:=(Ad.1 f).1;exact ⟨_,Ag (by rw [<-g.len];exact this)⟩
  have r:=g.lo i l G d E hl f A;cases B:look d l with
  | none=>rw [B] at r;exact y r (.any _)
  | some v=>rw [B] at r;exact y r (h.lo i l b hl H d v B)
section
variable {s:S Ty.T} {h':Heap} {θ:AM->AH AM} {R:AG AM}
theorem Jsl{l:AG AV}(h:l.all AV.flat=AE):Yb l=.any\/(Yb l).flat=AE:=by
 match l,h with
 | [],_=>exact .inl rfl
 | [x],h=>exact .inr (by simpa [Yb] using h)
 | _::_::_,_=>exact .inl rfl
theorem GR.one{h:Heap}{t:Ty}(x:t.T):GR h h' θ R (Yb (t.cs x)) (Yb (t.cs x)):=by
 rcases Jsl (Sn t x) with e|e
 .rw [e];exact .any _
 .exact .flat e
theorem Jti{t:Ty}{c:C Ty.T}{x:t.T}(h:jj val t c=AC x)(a:t.one=AF):c=.lf t x:=by
 unfold jj at h;split at h
 .obtain ⟨rfl,rfl⟩:=Xo h;rfl
 .obtain ⟨rfl,_⟩:=Xo h;cases a
 .cases h
theorem J86{n:AM}{t:Ty}{c:C Ty.T}{x:t.T}(h:Zg val s.ob n t c=AC x)(a:t.one=AF):c=.lf t x:=by
 cases n with
 | zero=>exact Jti h a
 | succ n=>
  simp only [Zg] at h;split at h
  .split at h
   .cases a
   .cases h
  .split at h
   .cases a
   .cases h
  .exact Jti h a
theorem J6s{n:AM}{t:Ty}{c:C Ty.T}{x:t.T}(h:Zg val s.ob n t c=AC x)(hN:∀g∈Kq s.ob n c,(∃o,AA s g=AC o/\o.freeze.fz=AE)->g∈R):GR (AA s) h' θ R (AB s c) (Yb (t.cs x)):=by
 cases f:t.one with
 | false=>
  have:=J86 h f;subst this;exact .one x
 | true=>
  obtain ⟨u,ns,a,b,d⟩:=nY n (n+1) (Ba _) t c x f h;refine .snap (n+1) a (λg l=>hN g ((d g).1 l) (kF _ (u:=u) (ns:=ns) a g l)) ?_;rw [lu f x] at b;exact b.at' 0 u _ rfl rfl
theorem Py{n:AM}{t:Ty}{v:t.T}:Zg val s.ob n t (.lf t v)=AC v:=by cases n<;>simp [Zg,jj,cast?]
theorem Jmv{ob:AG (AM×Ob Ty.T)}{n:AM}:∀(t:Ty) (v:t.T) (c:C Ty.T),c∈expl val t v->Kq ob n c=[]
 | .u,v,c,h=>by cases h
 | .p a b,v,c,h=>by
  simp only [expl] at h;rcases Bb.1 h with h|h
  .exact Jmv a _ c h
  .exact Jmv b _ c h
 | .int k,v,c,h=>by simp only [expl,Aa] at h;subst h;exact jW _ _ _ _
 | .bool,v,c,h=>by simp only [expl,Aa] at h;subst h;exact jW _ _ _ _
 | .str,v,c,h=>by simp only [expl,Aa] at h;subst h;exact jW _ _ _ _
 | .ls t,v,c,h=>by simp only [expl,Aa] at h;subst h;exact jW _ _ _ _
 | .bf f t,v,c,h=>by simp only [expl,Aa] at h;subst h;exact jW _ _ _ _
section
variable {lw:(t:Ty)->C Ty.T->AH t.T} (hl:∀(t:Ty) (v:t.T),lw t (.lf t v)=AC v)
include hl
theorem yG:∀(t:Ty) (v:t.T) (r:AG (C Ty.T)),impl val lw t (expl val t v++r)=AC (v,r)
 | .u,v,r=>rfl
 | .p a b,v,r=>by simp only [expl,impl,Bo];rw [yG a];simp only [Aq];rw [yG b];rfl
 | .int k,v,r=>by simp [expl,impl,hl]
 | .bool,v,r=>by simp [expl,impl,hl]
 | .str,v,r=>by simp [expl,impl,hl]
 | .ls t,v,r=>by simp [expl,impl,hl]
 | .bf f t,v,r=>by simp [expl,impl,hl]
theorem Jv4{l:Ty}{c:C Ty.T}{y:l.T}(g:lw l c=AC y):∀(t:Ty) (v:t.T) (off:AM),H8 t off=AC l->off<t.sz/\∃x,∀r,impl val lw t ((expl val t v).set off c++r)=AC (x,r)
 | .u,v,off,h=>by cases h
 | .p a b,v,off,h=>by
  simp only [H8] at h;split at h
  .rename_i m;obtain ⟨w,x,hx⟩:=Jv4 g a (val.fs v) off h;refine ⟨by simp only [Ty.sz];omega,val.pr x (val.sn v),λr=>?_⟩;simp only [expl];rw [List.set_append_left _ _ (by rw [TY];exact m),Bo];simp only [impl];rw [hx];simp only [Aq];rw [yG hl b];rfl
  .rename_i m;obtain ⟨w,x,hx⟩:=Jv4 g b (val.sn v) (off - a.sz) h;refine ⟨by simp only [Ty.sz];omega,val.pr (val.fs v) x,λr=>?_⟩;simp only [expl];rw [Bs _ _ (by rw [TY];omega),Bo,TY];simp only [impl];rw [yG hl a];simp only [Aq];rw [hx];rfl
 | .int k,v,off,h=>by
  simp only [H8] at h;split at h
  .rename_i d;subst d;injection h with h;subst h;exact ⟨Bk,y,λr=>by simp [expl,impl,g]⟩
  .cases h
 | .bool,v,off,h=>by
  simp only [H8] at h;split at h
  .rename_i d;subst d;injection h with h;subst h;exact ⟨Bk,y,λr=>by simp [expl,impl,g]⟩
  .cases h
 | .str,v,off,h=>by
  simp only [H8] at h;split at h
  .rename_i d;subst d;injection h with h;subst h;exact ⟨Bk,y,λr=>by simp [expl,impl,g]⟩
  .cases h
 | .ls t,v,off,h=>by
  simp only [H8] at h;split at h
  .rename_i d;subst d;injection h with h;subst h;exact ⟨Bk,y,λr=>by simp [expl,impl,g]⟩
  .cases h
 | .bf f t,v,off,h=>by
  simp only [H8] at h;split at h
  .rename_i d;subst d;injection h with h;subst h;exact ⟨Bk,y,λr=>by simp [expl,impl,g]⟩
  .cases h
end
theorem Jnu{α:Type}(f:α->α)(x:α):∀l:AG α,Qf (l++[x]) f=l++[f x]
 | []=>rfl
 | [y]=>rfl
 | y::z::l=>by have:=Jnu f x (z::l);simp only [Df] at this;simp only [Df,Qf];rw [this]
theorem Jra{α:Type}(f:α->α):∀l:AG α,(Qf l f).length=l.length
 | []=>rfl
 | [y]=>rfl
 | y::z::l=>by have:=Jra f (z::l);simp only [Qf,De] at this ⊢;omega
theorem J2w{n:AM}{t:Ty}{l l0:AG t.T}{nest:AH (AM×C Ty.T)}(h:Md val (Zg val s.ob n) t l nest=AC l0)(hN:∀p,nest=AC p->∀g∈Kq s.ob n p.2,(∃o,AA s g=AC o/\o.freeze.fz=AE)->g∈R) :
  l0.length=l.length/\Eu (AA s) h' θ R (Xm (l.flatMap t.cs) l.length t.sz (AB s) nest) (l0.flatMap t.cs):=by
 cases nest with
 | none=>
  injection h with h;subst h;exact ⟨rfl,.flat (Yk t l)⟩
 | some p=>
  obtain ⟨off,c⟩:=p;simp only [Md] at h;cases f:H8 t off with
  | none=>rw [f] at h;cases h
  | some E=>
   rw [f] at h;simp only [Aq] at h;cases r:Zg val s.ob n E c with
   | none=>rw [r] at h;cases h
   | some y=>
    rw [r] at h;simp only [Aq] at h;injection h with h;subst h;refine ⟨Jra _ l,?_⟩;rcases List.eq_nil_or_concat l with rfl|⟨i,x,rfl⟩
    .exact .nil
    .rw [List.concat_eq_append];obtain ⟨N,z,B⟩:=Jv4 (lw:=Zg val s.ob n) (λt v=>Py) r t x off f;have L:KA val (Zg val s.ob n) t off c x=z:=by have:=B [];rw [Aj] at this;simp only [KA,this]
     have K:(show AG t.T from val.ml (t:=t) (i++[x]) (KA val (Zg val s.ob n) t off c))=i++[z]:=by show Qf (i++[x]) _=_;rw [Jnu,L]
     rw [show val.ml (t:=t) (i++[x]) (KA val (Zg val s.ob n) t off c)=i++[z] from K];have J:Xm ((i++[x]).flatMap t.cs) (i++[x]).length t.sz (AB s) (AC (off,c))=i.flatMap t.cs++(t.cs x).set off (AB s c):=by simp only [Xm,Ax,Aw,Dg,Aj,Ay,De,List.length_nil,Dh,Nat.add_sub_cancel];rw [Bs _ _ (by rw [Jv];omega),Jv,Bn]
     rw [J,Ax];refine .append (.flat (Yk t i)) ?_;simp only [Aw,Dg,Aj];obtain ⟨M,A,w⟩:=uE (nY (s:=s) n (n+1) (Ba _)) t (B []);rw [Aj,Aj] at A;subst A;have H:((expl val t x).set off c).map (AB s)=(t.cs x).set off (AB s c):=by rw [List.map_set,Xh]
     rw [H] at w;refine .aC w λg G d=>?_;obtain ⟨c',m,a⟩:=Ao.1 G;rcases Dd m with F|e
     .rw [Jmv t x c' F] at a;cases a
     .rw [e] at a;exact hN _ rfl g a d
end
theorem J1k{h h':Heap}{θ:AM->AH AM}{R:AG AM}{kt vt:Ty}{es:AG (kt.T×vt.T)}{i:AM}{p:AV×AV}(a:(Cm kt vt es)[i]?=AC p):GR h h' θ R p.2 p.2:=by
 unfold Cm at a;rw [Bc] at a;obtain ⟨e,-,rfl⟩:=Option.map_eq_some_iff.1 a;show GR h h' θ R (EA vt e.2) (EA vt e.2);unfold EA;split
 .have:=Eu.flat (h:=h) (h':=h') (θ:=θ) (R:=R) (Yk vt [e.2]);simp only [Aw,Dg,Aj] at this;exact .agg _ _ this.len this.at'
 .exact .one e.2
def EX(h:Heap)(g:AM):AN:=match h g with
 | some o=>o.freeze.fz
 | none=>AF
theorem Sy{h:Heap}{g:AM}:EX h g=AE↔∃o,h g=AC o/\o.freeze.fz=AE:=by
 unfold EX;cases h g with
 | none=>simp
 | some o=>simp
theorem tF{x:AM}:∀ {l:AG AM},EY x l=AE↔x∈l
 | []=>by simp [EY]
 | y::r=>by
  simp only [EY];cases h:Nat.beq x y with
  | true=>have:=Bd h;subst this;simp
  | false=>
   have:x≠y:=λe=>by subst e;simp at h
   simp [tF,this]
theorem zO{g:AM}:∀ {ns:AG AM} {s:S Ty.T},g∉ns->look g (J8 s ns).ob=look g s.ob
 | [],s,_=>rfl
 | k::r,s,h=>by
  have a:g∉r:=λq=>h (Ab _ q);have d:k≠g:=λq=>h (q▸Ae);simp only [J8];split
  .rw [zO a,Qb,AR d]
  .rw [zO a,Qb,AR d]
  .exact zO a
section
variable {nt:AM} {w:World} {S:AM->Prop} {s:Dn.S Ty.T} {μ:Gh} {a:Act} {fs:AG Fm}
theorem J0o(h:BG nt w S s μ a fs){g v e:AM}{el:TypeId}{z:AN}{o o':Ob Ty.T}{ns:AG AM}{c c':AG AV}(L:look g s.ob=AC o)(hg:g∉ns)(Z:∀g∈ns,∃o,look g s.ob=AC o)(hv:o'.ver=o.ver)(hl:o'.CJ=o.CJ)
  (he:BD s o=.arr v e el c z) (he':∀s',CQ s s'->BD s' o'=.arr v e el c' z) (hk:CZ s o'.kids)
  (Q:∀h':Heap,(∀g o,AA s g=AC o->∃o',h' g=AC o'/\o'.ver=o.ver/\o.like o')->Eu (AA s) h' AC (ns.filter (EX (AA s))) c c') :
  ∃S' μ',BG nt w S' ((J8 s ns).obj g o') μ' a fs/\CY w S (AA s) μ w S' (AA ((J8 s ns).obj g o')) μ':=by
 obtain ⟨f1,f2,f3⟩:=kJ ns h.iv Z;have st2:CQ (J8 s ns) ((J8 s ns).obj g o'):=Zh λo0 R=>by rw [zO hg,L] at R;injection R with R;subst R;exact ⟨hv.symm,hl.symm⟩
 have st:=f1.trans st2;have M:∀F,look F ((J8 s ns).obj g o').ob=if g=F then AC o' else look F (J8 s ns).ob:=λF=>Qb g F o';have iv:=MV f2 st2 M (λx hx=>((st.ok x (hk x hx)).1)) (by rw [yM];exact h.iv.free L);have P:=jf f2 st2 M;rw [f3,he' _ st] at P;have N:AA s g=AC (.arr v e el c z):=by rw [Jj L,he]
 have lenc:∀h':Heap,(∀g o,AA s g=AC o->∃o',h' g=AC o'/\o'.ver=o.ver/\o.like o')->c.length=c'.length:=λh' q=>(Q h' q).len;have lenc:c.length=c'.length:=lenc (AA s) λg o L=>⟨o,L,rfl,.refl o⟩;have keep:∀J r,AA s J=AC r->∃B,AA ((J8 s ns).obj g o') J=AC B/\B.ver=r.ver/\r.like B:=λJ r f=>by
  rw [P];by_cases A:J=g
  .subst A;rw [N] at f;injection f with f;subst f;exact ⟨_,Jg _ _ _,rfl,rfl,rfl,Yu lenc⟩
  .rw [Jd _ _ _ _ A];unfold Jh;split
   .rw [f];exact ⟨r.freeze,rfl,Jsu r,Jqf r⟩
   .exact ⟨r,f,rfl,.refl r⟩
 have Q:=Q _ keep;have gs:GS (AA s) (AA ((J8 s ns).obj g o')) AC (ns.filter (EX (AA s))):=by
  refine ⟨λn r f=>?_,λn n' F f m _ _=>?_,λn F r f m h3 h4=>?_,λF hg'=>Sy.1 (Ak.1 hg').2⟩
  .right;have same:∀x,GR (AA s) (AA ((J8 s ns).obj g o')) AC (ns.filter (EX (AA s))) x x:=λx=>.same x rfl keep;have sameL:∀l,Eu (AA s) (AA ((J8 s ns).obj g o')) AC (ns.filter (EX (AA s))) l l:=λl=>⟨rfl,λi x y hx O=>by rw [hx] at O;injection O with O;subst O;exact same x⟩;rw [P] at f;by_cases A:n=g
   .subst A;rw [Jg] at f;injection f with f;subst f;exact ⟨n,_,rfl,N,.arr Q (λq=>.inl q) λq=>q⟩
   .rw [Jd _ _ _ _ A] at f;unfold Jh at f;split at f
    .rename_i H;cases m:AA s n with
     | none=>rw [m] at f;cases f
     | some B=>
      rw [m] at f;injection f with f;subst f;refine ⟨n,B,rfl,m,?_⟩;cases B with
      | box v1 G=>exact .box (sameL G)
      | arr v1 A t1 G K=>exact .arr (sameL G) (λ_=>.inr (Ak.2 ⟨H,Sy.2 ⟨_,m,rfl⟩⟩)) (λ_=>rfl)
      | map v1 A K=>
       have:K=AF:=J4d m;subst this;exact .map rfl λi p q Y E=>by rw [Y] at E;injection E with E;subst E;exact ⟨rfl,same _⟩
    .refine ⟨n,r,rfl,f,?_⟩;cases r with
     | box v1 G=>exact .box (sameL G)
     | arr v1 A t1 G K=>exact .arr (sameL G) (λq=>.inl q) (λq=>q)
     | map v1 A K=>
      have:K=AF:=J4d f;subst this;exact .map rfl λi p q Y E=>by rw [Y] at E;injection E with E;subst E;exact ⟨rfl,same _⟩
  .injection f with f;injection m with m;omega
  .injection f with f;subst f;intro H;obtain ⟨H,hr⟩:=Ak.1 H;rw [P] at m;by_cases A:n=g
   .subst A;exact hg H
   .rw [Jd _ _ _ _ A] at m;unfold Jh at m;rw [AS H] at m;obtain ⟨B,q1,q2⟩:=Sy.1 hr;rw [q1] at m;injection m with m;subst m;rw [q2] at h3;cases h3
 obtain ⟨S',r1,X,r3⟩:=J4e h.fr.hp gs;refine ⟨S',_,h.step rfl ⟨λd=>?_,r1,h.fr.hp.marks h.fr.df X,h.fr.sz⟩ st.on iv X λJ r f=>?_,X⟩
 .rw [NM h.iv st];exact r3 (.same _ rfl keep) (h.fr.fr d)
 .obtain ⟨B,a,b,c⟩:=keep J r f;exact ⟨B,a,by omega,λ_=>⟨⟨rfl,rfl⟩,c⟩⟩
theorem J67{ι:Ty->Type}:∀(l:AG (C ι)) (j:AM) {k:AM} {c:C ι},TT.go j l=AC (k,c)->j<=k/\l[k - j]?=AC c
 | [],j,k,c,h=>by simp [TT.go] at h
 | x::r,j,k,c,h=>by
  have next:TT.go (j+1) r=AC (k,c)->j<=k/\(x::r)[k - j]?=AC c:=λh=>by obtain ⟨a,b⟩:=J67 r (j+1) h;refine ⟨by omega,?_⟩;rw [show k - j=(k - (j+1))+1 by omega,Di];exact b
  cases x with
  | own g v=>
   simp only [TT.go,Ap,Bq] at h;obtain ⟨rfl,rfl⟩:=h;exact ⟨Ba _,by simp⟩
  | k v=>
   cases v with
   | BK=>
    simp only [TT.go,Ap,Bq] at h;obtain ⟨rfl,rfl⟩:=h;exact ⟨Ba _,by simp⟩
   | _=>exact next (by simpa only [TT.go] using h)
  | _=>exact next (by simpa only [TT.go] using h)
theorem Jyz{ι:Ty->Type}{e:AM}{x:AG (C ι)}{j:AM}{c:C ι}(h:TT e x=AC (j,c)):j<e/\x[x.length - e+j]?=AC c:=by obtain ⟨-,b⟩:=J67 _ _ h;rw [Nat.sub_zero,Bw] at b;have:=(Ad.1 b).1;exact ⟨by omega,b⟩
theorem Pt{h':Heap}{R:AG AM}{t:Ty}{e:AM}{keep:AN}{A A':AG AV}{x:AG (C Ty.T)}{l0 l:AG t.T}{m:AM}(hA:Eu (AA s) h' AC R A A')(hA':A'=l0.flatMap t.cs)(d:t.sz=e)(M:0<e)
  (hl:JH val (Zg val s.ob 4) t m (FD keep e x)=AC l)
  (hR:∀g∈(FD keep e x).flatMap (Kq s.ob 4),(∃o,AA s g=AC o/\o.freeze.fz=AE)->g∈R)
  (f:∀g o,AA s g=AC o->∃o',h' g=AC o'/\o'.ver=o.ver/\o.like o') (hx:x.length=0->(KV keep e x)=AD\/l0=[]) {ec:C Ty.T->AV} (w:∀c∈x,ec c=AB s c) :
  x.length=l.length * e/\Eu (AA s) h' AC R (A++x.map (AB s)) (Xm ((l0++l).flatMap t.cs) (l0++l).length t.sz ec (KV keep e x)):=by
 have hs:=yJ (nY (s:=s) 4 5 (by omega)) t m hl;have hB:=Eu.aC (h':=h') (θ:=AC) hs hR;have a:=hs.len;rw [Jv,Bj,d] at a;cases h:KV keep e x with
 | none=>
  simp only [FD,h] at hB a;refine ⟨a,?_⟩;simp only [Xm,Ax];rw [<-hA'];exact hA.append hB
 | some p=>
  obtain ⟨j,c⟩:=p;have r:TT e x=AC (j,c):=by
   unfold KV at h;split at h
   .exact h
   .cases h
  obtain ⟨L,y⟩:=Jyz r;simp only [FD,h] at hB a;have K:(iy x (x.length - e+j)).length=x.length:=by simp [iy]
  rw [K] at a;refine ⟨a,?_⟩;have E:x.length - e+j<x.length:=(Ad.1 y).1;have J:x.map (AB s)=((iy x (x.length - e+j)).map (AB s)).set (x.length - e+j) (AB s c):=by simp only [iy,List.map_set,List.set_set];symm;exact sV (by rw [Bc,y];rfl)
  have B:A.length=l0.length * e:=by rw [hA.len,hA',Jv,d]
  have H:Xm ((l0++l).flatMap t.cs) (l0++l).length t.sz ec (AC (j,c))=(A'++l.flatMap t.cs).set (A.length+(x.length - e+j)) (AB s c):=by
   simp only [Xm,Ax,<-hA'];rw [w c (Av y),B,a,d,Ay]
   congr 1
   obtain ⟨k,F⟩:∃k,l.length=k+1:=by
    cases v:l.length with
    | zero=>rw [v] at a;omega
    | succ k=>exact ⟨k,rfl⟩
   rw [F,show l0.length+(k+1) - 1=l0.length+k by omega,Dt,Dt,Nat.one_mul];omega
  rw [H,J];have G:A++((iy x (x.length - e+j)).map (AB s)).set (x.length - e+j) (AB s c)=(A++(iy x (x.length - e+j)).map (AB s)).set (A.length+(x.length - e+j)) (AB s c):=by rw [Bs _ _ (by omega),Bn]
  rw [G];exact (hA.append hB).set (.same _ rfl f) _
end
section
variable {nt:AM} {w:World} {S:AM->Prop} {s:Dn.S Ty.T} {μ:Gh} {a:Act} {fs:AG Fm}
theorem J9n{keep:AN}{e:AM}{x:AG (C Ty.T)}{p:AM×C Ty.T}(h:KV keep e x=AC p):p.2∈x:=by
 unfold KV at h;split at h
 .obtain ⟨j,c⟩:=p;exact Av (Jyz h).2
 .cases h
theorem Kaq{keep:AN}{e:AM}{x:AG (C Ty.T)}(h:CZ s x):CZ s (FD keep e x):=by
 unfold FD;split
 .intro c a;rcases Dd a with a|rfl
  .exact h c a
  .exact Ka s rfl
 .exact h
theorem Kbf(hi:Inv s){v e:AM}{el:TypeId}{t:Ty}{l:t.ls.T}{x:AG (C Ty.T)}{nst:AH (AM×C Ty.T)}{z:AN}(ok:CZ s (Ob.kids (.row v e el t l x nst z:Ob Ty.T))):∀g∈lN s.ob nst,∃o,look g s.ob=AC o:=λg a=>by
 cases nst with
 | none=>cases a
 | some p=>exact Jwp hi 4 (ok p.2 (by simp [Ob.kids])) g a
theorem Px{n e m:AM}(h:n=m * e)(a:0<e):n / e=m:=by rw [h];exact By _ a
def Goes(nt:AM)(w:World)(S:AM->Prop)(s:Dn.S Ty.T)(μ:Gh)(a:Act)(fs:AG Fm)(s':Dn.S Ty.T):Prop:=∃S' μ',BG nt w S' s' μ' a fs/\CY w S (AA s) μ w S' (AA s') μ'
theorem Goes.ite{c:Prop}[Decidable c]{x y:Dn.S Ty.T}(f:c->Goes nt w S s μ a fs x)(d:¬c->Goes nt w S s μ a fs y):Goes nt w S s μ a fs (if c then x else y):=by
 split
 .exact f (by assumption)
 .exact d (by assumption)
theorem J82(ty:TypeId->AH Ty)(keep:AN)(h:BG nt w S s μ a fs)(g:AM) :
  Goes nt w S s μ a fs (ru val ty keep s g):=by
 have same:Goes nt w S s μ a fs s:=⟨S,μ,h,.refl⟩;have kid:∀ {keep e} {x:AG (C Ty.T)} {c},c∈Ob.kids (.row 0 0 0 .u ([]:AG Unit) [] (KV keep e x) AF:Ob Ty.T)->c∈x:=λ{keep e x c} d=>by
  simp only [Ob.kids,Aj] at d;cases M:KV keep e x with
  | none=>rw [M] at d;cases d
  | some p=>rw [M] at d;rw [Aa] at d;subst d;exact J9n M
 have nest:∀ {keep e} {x:AG (C Ty.T)} {s'} (l:AG AV) (n sz:AM),CQ s s'->CZ s x->Xm l n sz (AB s') (KV keep e x)=Xm l n sz (AB s) (KV keep e x):=λ{keep e x s'} l n sz st ok=>by
  cases M:KV keep e x with
  | none=>rfl
  | some p=>simp only [Xm];rw [(st.ok p.2 (ok p.2 (J9n M))).2]
 unfold ru;split
 .rename_i v e el x z m;have okx:CZ s x:=λc d=>h.iv.ob g _ m c d;split
  .rename_i t ht;refine .ite (λd=>?_) λ_=>same;obtain ⟨r,H⟩:=d;split
   .rename_i l hl;refine .ite (λ_=>same) λf=>?_;have f:g∉(FD keep e x).flatMap (Kq s.ob 4):=λq=>f (tF.2 q);have key:=λ(h':Heap) (y:∀g o,AA s g=AC o->∃o',h' g=AC o'/\o'.ver=o.ver/\o.like o')=>
     Pt (s:=s) (h':=h') (R:=Do (EX (AA s)) ((FD keep e x).flatMap (Kq s.ob 4))) (A:=[]) (A':=[]) (l0:=[]) .nil rfl r H hl (λg f hr=>Ak.2 ⟨f,Sy.2 hr⟩) y (λ_=>.inr rfl) (ec:=AB s) (λ_ _=>rfl)
    have Q:=key (AA s) (λg o m=>⟨o,m,rfl,.refl o⟩);refine J0o h m f (Jqo h.iv (Kaq okx)) rfl ?_ (c:=x.map (AB s)) (c':=Xm (l.flatMap t.cs) l.length t.sz (AB s) (KV keep e x)) rfl (λs' st=>?_) (λc d=>okx c (kid d)) λh' y=>(key h' y).2
    .show List.length (α:=t.T) l+0 / e=x.length / e;rw [Ds,Px Q.1 H];rfl
    .simp only [BD,Bg,Aj];rw [nest _ _ _ st okx]
   .exact same
  .exact same
 .rename_i v e el t l x nst z m;have oks:CZ s (Ob.kids (.row v e el t l x nst z:Ob Ty.T)):=λc d=>h.iv.ob g _ m c d;have okx:CZ s x:=λc d=>oks c (by simp only [Ob.kids];exact Af _ d);refine .ite (λhx=>?_) λhx=>.ite (λd=>?_) λ_=>same
  .split
   .rename_i p;refine .ite (λd=>?_) λ_=>same;obtain ⟨r,H⟩:=d;split
    .rename_i l0 E;refine .ite (λ_=>same) λf=>?_;have f:g∉Kq s.ob 4 p.2:=λq=>f (tF.2 q);have K:=λ(h':Heap)=>J2w (s:=s) (h':=h') (θ:=AC) (R:=Do (EX (AA s)) (Kq s.ob 4 p.2)) E (λp' L g F hr=>Ak.2 ⟨by injection L with L;subst L;exact F,Sy.2 hr⟩);have B:List.length (α:=t.T) l0=List.length (α:=t.T) l:=(K (AA s)).1;have X:x=[]:=Br.1 hx;subst X;refine J0o h m f (λJ G=>Jwp h.iv 4 (oks p.2 (by simp [Ob.kids])) J G) rfl ?_ (c:=Xm (Dj (α:=t.T) t.cs l) (List.length (α:=t.T) l) t.sz (AB s) (AC p)++[]) (c':=Dj (α:=t.T) t.cs l0++[]) rfl (λs' st=>?_) (λc d=>(by cases d)) λh' y=>?_
     .show List.length (α:=t.T) l0+0 / e=List.length (α:=t.T) l+0 / e;rw [B]
     .simp only [BD,Xm,Bg]
     .rw [Aj,Aj];exact (K h').2
    .exact same
   .exact same
  obtain ⟨r,H⟩:=d;split
  .rename_i l0 O E hl;refine .ite (λ_=>same) λf=>?_;have f:g∉lN s.ob nst++(FD keep e x).flatMap (Kq s.ob 4):=λq=>f (tF.2 q);have K:=λ(h':Heap)=>J2w (s:=s) (h':=h') (θ:=AC) (R:=Do (EX (AA s)) (lN s.ob nst++(FD keep e x).flatMap (Kq s.ob 4))) E (λp L g F hr=>Ak.2 ⟨Am _ (by subst L;exact F),Sy.2 hr⟩);have B:List.length (α:=t.T) l0=List.length (α:=t.T) l:=(K (AA s)).1;have key:=λ(h':Heap) (y:∀g o,AA s g=AC o->∃o',h' g=AC o'/\o'.ver=o.ver/\o.like o')=>
    Pt (s:=s) (h':=h') (R:=Do (EX (AA s)) (lN s.ob nst++(FD keep e x).flatMap (Kq s.ob 4))) (K h').2 rfl r H hl (λg f hr=>Ak.2 ⟨Af _ f,Sy.2 hr⟩) y (λq=>by cases x<;>simp at hx q) (ec:=AB s) (λ_ _=>rfl)
   have Q:=key (AA s) (λg o m=>⟨o,m,rfl,.refl o⟩);refine J0o h m f (λJ G=>(Bb.1 G).elim (λq=>Kbf h.iv oks J q) λq=>Jqo h.iv (Kaq okx) J q) rfl ?_ (c:=Xm (Dj (α:=t.T) t.cs l) (List.length (α:=t.T) l) t.sz (AB s) nst++x.map (AB s)) (c':=Xm (Dj (α:=t.T) t.cs ((show AG t.T from l0)++(show AG t.T from O))) ((show AG t.T from l0)++(show AG t.T from O)).length t.sz (AB s) (KV keep e x)) rfl (λs' st=>?_) (λc d=>okx c (kid d)) λh' y=>(key h' y).2
   .show List.length (α:=t.T) (val.ap (t:=t) l0 O)+0 / e=List.length (α:=t.T) l+x.length / e;rw [Ds,Px Q.1 H];show List.length (α:=t.T) ((show AG t.T from l0)++(show AG t.T from O))+0=_;rw [Ay,<-B];rfl
   .simp only [BD,Bg,Aj];rw [nest _ _ _ st okx];rfl
  .exact same
 .rename_i v kt vt el m;have st:CQ s (s.obj g (.mp v kt vt (val.nl (.p kt vt)))):=Zh λo0 P=>by rw [m] at P;injection P with P;subst P;exact ⟨rfl,rfl⟩
  have N:=λJ=>Qb (s:=s) g J (.mp v kt vt (val.nl (.p kt vt)));have iv:=MV h.iv st N (λc d=>by cases d) (h.iv.free m);have eh:AA (s.obj g (.mp v kt vt (val.nl (.p kt vt))))=AA s:=by
   rw [jf h.iv st N];funext Z;by_cases Y:Z=g
   .subst Y;rw [Jg,Jj m];rfl
   .rw [Jd _ _ _ _ Y]
  refine ⟨S,μ,h.step rfl ?_ st.on iv (by rw [eh];exact .refl) (by rw [eh];exact .refl _ _),by rw [eh];exact .refl⟩;rw [NM h.iv st,eh];exact h.fr
 .exact same
theorem Jyj(ty:TypeId->AH Ty)(keep:AN):∀(l:AG AM) {S:AM->Prop} {s:Dn.S Ty.T} {μ:Gh},BG nt w S s μ a fs ->
  ∃S' μ',BG nt w S' (l.foldl (ru val ty keep) s) μ' a fs/\CY w S (AA s) μ w S' (AA (l.foldl (ru val ty keep) s)) μ'
 | [],S,s,μ,h=>⟨S,μ,h,.refl⟩
 | g::l,S,s,μ,h=>by obtain ⟨S1,μ1,f,r⟩:=J82 ty keep h g;obtain ⟨S2,μ2,d,m⟩:=Jyj ty keep l f;exact ⟨S2,μ2,d,r.trans m⟩
theorem J9o(ty:TypeId->AH Ty)(keep:AN)(n:AM)(h:BG nt w S s μ a fs) :
  ∃S' μ',BG nt w S' (mD val ty keep n s) μ' a fs/\CY w S (AA s) μ w S' (AA (mD val ty keep n s)) μ':=Jyj ty keep _ h
end
def inv(n:AM):AG (AM×AM)->AH AM
 | []=>AD
 | (g,k)::r=>if k=n then AC g else inv n r
theorem yL:∀ {l:AG AM},lY l=AE->l.Nodup
 | [],_=>List.nodup_nil
 | x::r,h=>by simp only [lY,Ac,As] at h;refine Bu.2 ⟨λq=>?_,yL h.2⟩;rw [tF.2 q] at h;cases h.1
theorem sH{n g:AM}:∀ {tb:AG (AM×AM)},inv n tb=AC g->(g,n)∈tb
 | [],h=>by cases h
 | (x,k)::r,h=>by
  simp only [inv] at h;split at h
  .rename_i e;injection h with h;subst h;subst e;exact Ae
  .exact Ab _ (sH h)
theorem J07{n g:AM}:∀ {tb:AG (AM×AM)},(tb.map (·.2)).Nodup->(g,n)∈tb->inv n tb=AC g
 | [],_,h=>by cases h
 | (x,k)::r,a,h=>by
  simp only [Au,Bu] at a;simp only [inv];rcases Ai.1 h with e|h
  .injection e with f d;subst f;subst d;rw [AS rfl]
  .rw [AR (λe=>a.1 (by subst e;exact Ar.2 ⟨(g,k),h,rfl⟩))];exact J07 a.2 h
theorem Ju8{α:Type}{g:AM}{n:α}:∀ {tb:AG (AM×α)},(tb.map (·.1)).Nodup->(g,n)∈tb->look g tb=AC n
 | [],_,h=>by cases h
 | (x,k)::r,a,h=>by
  simp only [Au,Bu] at a;rw [Kp];rcases Ai.1 h with e|h
  .injection e with f d;subst f;subst d;rw [AS rfl]
  .rw [AR (λe=>a.1 (by subst e;exact Ar.2 ⟨(x,n),h,rfl⟩))];exact Ju8 a.2 h
theorem J0s{α β:Type}{f:α->AH β}:∀ {l:AG α} {m:AG β},Fa f l=AC m->l.length=m.length/\∀(i:AM) (x:α) (y:β),l[i]?=AC x->m[i]?=AC y->f x=AC y
 | [],m,h=>by injection h with h;subst h;exact ⟨rfl,λi x y hx=>by simp at hx⟩
 | x::r,m,h=>by
  simp only [Fa] at h;cases hx:f x with
  | none=>rw [hx] at h;cases h
  | some y=>
   rw [hx] at h;simp only [Aq] at h;cases hr:Fa f r with
   | none=>rw [hr] at h;cases h
   | some w=>
    rw [hr] at h;injection h with h;subst h;obtain ⟨a,b⟩:=J0s hr;refine ⟨by simp [a],λi u v g d=>?_⟩;cases i with
    | zero=>simp at g d;subst g;subst d;exact hx
    | succ i=>exact b i u v (by simpa using g) (by simpa using d)
theorem Jma{s:S Ty.T}{tb:AG (AM×AM)}{d:AM}{v:V Ty.T}:∀ {l:AG (AM×V Ty.T)},look d (YO val s tb l)=AC v->∃v0,look d l=AC v0/\v=LQ val s tb v0
 | [],h=>by cases h
 | (k,x)::r,h=>by
  simp only [YO] at h;rw [Kp] at h ⊢;split
  .rename_i e;rw [AS e] at h;injection h with h;exact ⟨x,rfl,h.symm⟩
  .rename_i e;rw [AR e] at h;exact Jma h
theorem yK{s:S Ty.T}{tb0:AG (AM×AM)}{n:AM}{o':Ob Ty.T}:∀ {tb:AG (AM×AM)},look n (ND val s tb0 tb)=AC o'->∃g o,(g,n)∈tb/\look g s.ob=AC o/\frozen s g=AF/\o'=GQ val s tb0 o
 | [],h=>by cases h
 | (g,k)::r,h=>by
  have next:look n (ND val s tb0 r)=AC o'->∃d o,(d,n)∈(g,k)::r/\look d s.ob=AC o/\frozen s d=AF/\o'=GQ val s tb0 o:=λh=>by obtain ⟨d,o,a,b⟩:=yK h;exact ⟨d,o,Ab _ a,b⟩
  simp only [ND] at h;split at h
  .rename_i o f;split at h
   .exact next h
   .rename_i l;rw [Kp] at h;split at h
    .rename_i e;injection h with h;subst e;exact ⟨g,o,Ae,f,by simpa using l,h.symm⟩
    .exact next h
  .exact next h
theorem Jsh{s:S Ty.T}{tb0:AG (AM×AM)}{n g:AM}{o:Ob Ty.T}(f:look g s.ob=AC o)(l:frozen s g=AF):∀ {tb:AG (AM×AM)},(tb.map (·.2)).Nodup->(g,n)∈tb->look n (ND val s tb0 tb)=AC (GQ val s tb0 o)
 | [],_,h=>by cases h
 | (x,k)::r,d,h=>by
  simp only [Au,Bu] at d;rcases Ai.1 h with e|h
  .injection e with w v;subst w;subst v;simp only [ND,f,l];rw [AR (by decide),Kp,AS rfl]
  .have a:=Jsh (tb0:=tb0) f l d.2 h;have m:k≠n:=λe=>d.1 (by subst e;exact Ar.2 ⟨(g,k),h,rfl⟩);simp only [ND];split
   .split
    .exact a
    .rw [Kp,AR m];exact a
   .exact a
section
variable {s:S Ty.T} {tb:AG (AM×AM)}
theorem Oa(o:Ob Ty.T):(GQ val s tb o).CJ=o.CJ:=by cases o<;>simp [GQ,Ob.CJ]
theorem OZ(o:Ob Ty.T):(GQ val s tb o).ver=0:=by cases o<;>rfl
def IG(s:S Ty.T):AG AM:=(s.ob.map (·.1)).filter (frozen s)
theorem QY{g:AM}(h:frozen s g=AE):g∈IG s:=by
 refine Ak.2 ⟨?_,h⟩;unfold frozen at h;cases a:look g s.ob with
 | none=>rw [a] at h;cases h
 | some o=>exact Ar.2 ⟨(g,o),Xq a,rfl⟩
def JY(m:AH (Mo Ty.T))(tb:AG (AM×AM))(n:AM):AH AM:=if Ey m n=AE then AC n else inv n tb
structure HZ (s:S Ty.T) (tb:AG (AM×AM)) (s':S Ty.T):Prop where
 n1:(tb.map (·.1)).Nodup
 n2:(tb.map (·.2)).Nodup
 ob:s'.ob=ND val s tb tb
 mo:s'.mo=s.mo
 nm:∀p∈tb,Ey s.mo p.1=AF/\Ey s.mo p.2=AF
 iv:Inv s
theorem Rp{g v:AM}(h:s.cur g v=AE):∃o,look g s.ob=AC o/\o.ver=v:=by
 unfold S.cur at h;cases a:look g s.ob with
 | none=>rw [a] at h;cases h
 | some o=>rw [a] at h;exact ⟨o,rfl,by simpa using h⟩
variable {s':S Ty.T}
theorem HZ.at(t:HZ s tb s'){g v n:AM}(l:s.cur g v=AE)(h:frozen s g=AF)(f:look g tb=AC n):∃o,look g s.ob=AC o/\o.ver=v/\look n s'.ob=AC (GQ val s tb o)/\JY s.mo tb n=AC g:=by obtain ⟨o,d,m⟩:=Rp l;have a:=Xq f;exact ⟨o,d,m,by rw [t.ob];exact Jsh d h t.n2 a,by unfold JY;rw [AR (by rw [(t.nm _ a).2];exact Bz)];exact J07 t.n2 a⟩
theorem tq(hi:Inv s){g:AM}(h:Ey s.mo g=AE):look g s.ob=AD:=by
 cases hl:look g s.ob with
 | none=>rfl
 | some o=>rw [hi.free hl] at h;cases h
theorem HZ.Pq(t:HZ s tb s'){n:AM}{o:Ob Ty.T}(h:look n s'.ob=AC o):Ey s.mo n=AF:=by rw [t.ob] at h;obtain ⟨g,d,a,-⟩:=yK h;exact (t.nm _ a).2
theorem HZ.same(t:HZ s tb s'){n:AM}{o:AU}(h:Ef s.mo n=AC o):AA s n=AC o/\AA s' n=AC o/\JY s.mo tb n=AC n:=by
 have a:=(jZ h).1;refine ⟨?_,?_,by unfold JY;rw [AS a]⟩
 .simp only [AA,tq t.iv a];exact h
 .have:look n s'.ob=AD:=by
   cases hl:look n s'.ob with
   | none=>rfl
   | some o=>rw [t.Pq hl] at a;cases a
  simp only [AA,this,t.mo];exact h
theorem wH{kt vt:Ty}:∀ {l:AG (kt.T×AG vt.T)} {k i:AM} {p:AV×AV},(GZ kt vt k l)[i]?=AC p->∃e,I5 l i=AC e/\p=(EA kt e.1,.arr (mB+(k+i)) e.2.length 0 e.2.length)
 | [],k,i,p,h=>by simp [GZ] at h
 | e::r,k,0,p,h=>by simp only [GZ,Bl,Ap] at h;exact ⟨e,rfl,h.symm⟩
 | e::r,k,i+1,p,h=>by simp only [GZ,Di] at h;obtain ⟨f,d,a⟩:=wH h;exact ⟨f,d,by rw [a,show k+1+i=k+(i+1) by omega]⟩
theorem J2s{m:Mo Ty.T}(a:m.g<mB){i:AM}{e:m.kt.T×AG m.vt.T}(h:I5 (α:=m.kt.T×AG m.vt.T) m.es i=AC e):Ef (AC m) (mB+i)=AC (JI m.vt m.el e.2):=by show m.at (mB+i)=_;unfold Mo.at;rw [AR (by omega),AS (Nat.le_add_right _ _),Bn,h];rfl
theorem Jyy{θ:AM->AH AM}{R:AG AM}(iv:Inv s)(same:∀ {n o},Ef s.mo n=AC o->AA s n=AC o/\AA s' n=AC o/\θ n=AC n){n:AM}{o:AU}(h:Ef s.mo n=AC o):GO (AA s) (AA s') θ R n o o:=by
 obtain ⟨-,m,g,⟨-,rfl⟩|⟨-,-,e,-,rfl⟩⟩:=jZ h
 .refine .map rfl λi p q f d=>?_;rw [f] at d;injection d with d;subst d;obtain ⟨e,r,l⟩:=wH f;refine ⟨rfl,?_⟩;rw [l];rw [Dh];have hr:=J2s (iv.mo m g).1 r;rw [<-g] at hr;obtain ⟨a,b,c⟩:=same hr;exact .arr a b (Ba _) c λ_=>⟨rfl,λv el c z q=>⟨c,z,q,Iff.rfl⟩⟩
 .exact .arr (.flat (Yk _ _)) (λq=>by cases q) λq=>q
theorem wP(t:HZ s tb s')(c:C Ty.T):FV s' (DU val s tb c):=by
 have leaf:∀ {c:C Ty.T},refs c=[]->FV s' c:=λh=>Ka s' h;have rd:∀g c,FV s' (kX val s g c):=λg c=>by
  unfold kX;split
  .split
   .split
    .exact leaf rfl
    .exact leaf rfl
   .exact leaf rfl
  .exact leaf rfl
 have nm:∀ {g v n:AM} {c':C Ty.T},s.cur g v=AE->frozen s g=AF->look g tb=AC n->refs c'=[(n,0)]->FV s' c':=λd B w hr r A=>by rw [hr,Aa] at A;subst A;obtain ⟨o,-,-,h,-⟩:=t.at d B w;exact ⟨_,h,Dp _⟩
 cases c with
 | any=>exact leaf rfl
 | lf t v=>exact leaf rfl
 | kb b=>exact leaf rfl
 | k v=>simp only [DU];split<;>exact leaf rfl
 | rp t v o=>exact leaf rfl
 | map g v=>
  simp only [DU];split
  .rename_i d;simp only [Ac,As] at d;split
   .rename_i n w;exact nm (c':=.map n 0) d.1 d.2 w rfl
   .exact leaf rfl
  .exact leaf rfl
 | yl j=>exact leaf rfl
 | own g v=>
  simp only [DU];split
  .rename_i d;split
   .exact rd _ _
   .rename_i B;split
    .rename_i n w;exact nm d (by simpa using B) w rfl
    .exact leaf rfl
  .exact leaf rfl
 | part g v a b=>
  simp only [DU];split
  .rename_i d;split
   .exact rd _ _
   .rename_i B;split
    .rename_i n w;exact nm d (by simpa using B) w rfl
    .exact leaf rfl
  .exact leaf rfl
 | ptr g v o=>
  simp only [DU];split
  .rename_i d;simp only [Ac,As] at d;split
   .rename_i n w;exact nm d.1 d.2 w rfl
   .exact leaf rfl
  .exact leaf rfl
 | F5 g v e i o=>
  simp only [DU];split
  .rename_i d;simp only [Ac,As] at d;split
   .rename_i n w;exact nm d.1 d.2 w rfl
   .exact leaf rfl
  .exact leaf rfl
 | fn f l=>
  simp only [DU];split
  .rename_i m G;obtain ⟨hl,F⟩:=J0s G;intro r hr;simp only [refs,Ar] at hr;obtain ⟨x,hx,rfl⟩:=hr;obtain ⟨i,hi⟩:=Bh hx;obtain ⟨y,E⟩:∃y,l[i]?=AC y:=by have:=(Ad.1 hi).1;exact ⟨_,Ag (by omega)⟩
   have:=F i y x E hi;split at this
   .rename_i d;simp only [Ac,As] at d;cases w:look y.1 tb with
    | none=>rw [w] at this;cases this
    | some n=>
     rw [w] at this;injection this with this;subst this;exact nm (c':=.own n 0) d.1 d.2 w rfl (n,0) (Aa.2 rfl)
   .cases this
  .exact leaf rfl
theorem Rh{o:Ob Ty.T}{v e:AM}{el:TypeId}{c:AG AV}{z:AN}(h:BD s o=.arr v e el c z):∃c' d,BD s' (GQ val s tb o)=.arr 0 e el c' d/\(c=[]↔c'=[]):=by
 cases o with
 | box=>simp [BD] at h
 | mp=>simp [BD] at h
 | em=>simp [BD] at h
 | lit v1 f el1 cs a=>
  simp only [BD,AU.arr.injEq] at h;obtain ⟨rfl,rfl,rfl,rfl,rfl⟩:=h;exact ⟨_,_,rfl,Yu (by simp)⟩
 | row v1 f el1 g l x nest a=>
  simp only [BD,AU.arr.injEq] at h;obtain ⟨rfl,rfl,rfl,rfl,rfl⟩:=h;exact ⟨_,_,rfl,Yu (by simp [ZQ])⟩
theorem sM(t:HZ s tb s')(c:C Ty.T):GR (AA s) (AA s') (JY s.mo tb) (IG s) (AB s c) (AB s' (DU val s tb c)):=by
 have rd:∀g c,GR (AA s) (AA s') (JY s.mo tb) (IG s) (AB s c) (AB s' (kX val s g c)):=λg c=>by
  unfold kX;split
  .split
   .rename_i l hl;split
    .rename_i A;exact J6s hl λg P _=>QY (Ah.1 A g P)
    .exact .any _
   .exact .any _
  .exact .any _
 have ar:∀ {g v n off len:AM},s.cur g v=AE->frozen s g=AF->look g tb=AC n->GR (AA s) (AA s') (JY s.mo tb) (IG s) (.arr g v off len) (.arr n 0 off len):=λw d A=>by obtain ⟨o,J,H,G,L⟩:=t.at w d A;refine .arr (Jj J) (Jj G) (Dp _) L λ_=>⟨by rw [ji,H],λe el c z h=>Rh h⟩
 have pr:∀ {g v n off:AM},s.cur g v=AE->frozen s g=AF->look g tb=AC n->GR (AA s) (AA s') (JY s.mo tb) (IG s) (.ptr g v off) (.ptr n 0 off):=λw d A=>by obtain ⟨o,J,H,G,L⟩:=t.at w d A;exact .ptr (Jj J) (Jj G) (Dp _) L λ_=>by rw [ji,H]
 cases c with
 | any=>exact .any _
 | lf t v=>exact .one v
 | kb b=>exact .flat rfl
 | k v=>
  simp only [DU];split
  .rename_i d;rw [Dm] at d;rcases d with d|d
   .exact .flat d
   .cases v<;>try (cases d;done)
    rename_i g v;cases K:s.mo with
    | none=>rw [K] at d;cases d
    | some m=>
     rw [K] at d;simp only [qB,Ac] at d;have N:=Bd d.1;have M:=Bd d.2;subst N;subst M;have hr:Ef s.mo m.g=AC (.map 0 (GZ m.kt m.vt 0 m.es) AF):=by rw [K];show m.at m.g=_;unfold Mo.at;rw [AS rfl]
     obtain ⟨a,b,c⟩:=t.same hr;rw [K] at c;exact .map a b (Ba _) c λ_=>rfl
  .exact .any _
 | rp t v o=>exact .flat rfl
 | map g v=>
  simp only [DU];split
  .rename_i w;simp only [Ac,As] at w;split
   .rename_i n A;obtain ⟨o,J,H,G,L⟩:=t.at w.1 w.2 A;exact .map (Jj J) (Jj G) (Dp _) L λ_=>by rw [ji,H]
   .exact .any _
  .exact .any _
 | yl j=>exact .Fu j
 | own g v=>
  simp only [DU];split
  .rename_i w;split
   .exact rd _ _
   .rename_i d;have d:frozen s g=AF:=by simpa using d
    split
    .rename_i n A;obtain ⟨o,J,H,G,L⟩:=t.at w d A;have N:Q4 s g v=o.CJ:=by simp [Q4,J,H]
     have M:Q4 s' n 0=o.CJ:=by simp [Q4,G,OZ,Oa]
     simp only [AB,N,M];exact ar w d A
    .exact .any _
  .exact .any _
 | part g v a b=>
  simp only [DU];split
  .rename_i w;split
   .exact rd _ _
   .rename_i d;have d:frozen s g=AF:=by simpa using d
    split
    .rename_i n A;exact ar w d A
    .exact .any _
  .exact .any _
 | ptr g v o=>
  simp only [DU];split
  .rename_i w;simp only [Ac,As] at w;split
   .rename_i n A;exact pr w.1 w.2 A
   .exact .any _
  .exact .any _
 | F5 g v e i o=>
  simp only [DU];split
  .rename_i w;simp only [Ac,As] at w;split
   .rename_i n A;exact pr w.1 w.2 A
   .exact .any _
  .exact .any _
 | fn f l=>
  simp only [DU];split
  .rename_i m K;obtain ⟨hl,O⟩:=J0s K;simp only [AB];refine .fn f _ _ (by simp [hl]) λi x y hx B=>?_;rw [Bc] at hx B;cases F:l[i]? with
   | none=>rw [F] at hx;cases hx
   | some u=>
    cases E:m[i]? with
    | none=>rw [E] at B;cases B
    | some r=>
     rw [F] at hx;rw [E] at B;injection hx with hx;injection B with B;subst hx;subst B;have:=O i u r F E;split at this
     .rename_i w;simp only [Ac,As] at w;cases A:look u.1 tb with
      | none=>rw [A] at this;cases this
      | some n=>
       rw [A] at this;injection this with this;subst this;exact pr w.1 w.2 A
     .cases this
  .exact .any _
theorem Kbm(t:HZ s tb s')(v:V Ty.T):GR (AA s) (AA s') (JY s.mo tb) (IG s) (AL s v) (AL s' (LQ val s tb v)):=by
 have L:∀l:AG (C Ty.T),Eu (AA s) (AA s') (JY s.mo tb) (IG s) (l.map (AB s)) ((l.map (DU val s tb)).map (AB s')):=λl=>by rw [Bm];exact .map λc _=>sM t c
 cases v with
 | c x=>exact sM t x
 | ag l=>exact .agg _ _ (L l).len (L l).at'
 | tp l=>
  simp only [AL,LQ,Bm];have:=Eu.map (h:=AA s) (h':=AA s') (θ:=JY s.mo tb) (R:=IG s) (l:=l) (f:=λp=>if p.1 then AV.agg (p.2.map (AB s)) else Yb (p.2.map (AB s)))
   (f':=(λp:AN×AG (C Ty.T)=>if p.1 then AV.agg (p.2.map (AB s')) else Yb (p.2.map (AB s'))) ∘ λp:AN×AG (C Ty.T)=>(p.1,p.2.map (DU val s tb))) λp _=>?_
  .exact .Cb _ _ this.len this.at'
  .obtain ⟨b,q⟩:=p;cases b with
   | true=>exact .agg _ _ (L q).len (L q).at'
   | false=>
    show GR _ _ _ _ (Yb (q.map (AB s))) (Yb ((q.map (DU val s tb)).map (AB s')))
    match q with
    | []=>exact .any _
    | [c]=>exact sM t c
    | _::_::_=>exact .any _
theorem J8q(t:HZ s tb s')(v:V Ty.T):okV s' (LQ val s tb v):=by
 intro c a;have L:∀l:AG (C Ty.T),c∈l.map (DU val s tb)->FV s' c:=λl h=>by obtain ⟨x,-,rfl⟩:=Ar.1 h;exact wP t x
 cases v with
 | c x=>simp only [LQ,V.all,Aa] at a;subst a;exact wP t x
 | ag l=>exact L l a
 | tp l=>
  simp only [LQ,V.all,Ao,Ar] at a;obtain ⟨p,⟨q,-,rfl⟩,a⟩:=a;exact L _ a
theorem VF(t:HZ s tb s')(g:AM)(o:Ob Ty.T):GO (AA s) (AA s') (JY s.mo tb) (IG s) g (BD s o) (BD s' (GQ val s tb o)):=by
 have L:∀l:AG (C Ty.T),Eu (AA s) (AA s') (JY s.mo tb) (IG s) (l.map (AB s)) ((l.map (DU val s tb)).map (AB s')):=λl=>by rw [Bm];exact .map λc _=>sM t c
 cases o with
 | box v cs=>exact .box (L cs)
 | mp v kt vt es=>
  refine .map rfl λi p q d a=>?_;have d:(Cm kt vt es)[i]?=AC p:=d;have a:(Cm kt vt es)[i]?=AC q:=a;rw [d] at a;injection a with a;subst a;exact ⟨rfl,J1k d⟩
 | em v kt vt el=>exact .map rfl λi p q d a=>by simp at d
 | lit v e el cs z=>exact .arr (L cs) (λq=>.inl q) λq=>q
 | row v e el ty l x nest z=>
  refine .arr (.append ?_ (L x)) (λq=>.inl q) λq=>q;cases nest with
  | none=>exact .flat (Yk ty l)
  | some p=>exact (Eu.flat (Yk ty l)).set (sM t p.2) _
theorem Kaj(t:HZ s tb s')(o:Ob Ty.T):CZ s' (GQ val s tb o).kids:=by
 intro c a;have L:∀l:AG (C Ty.T),c∈l.map (DU val s tb)->FV s' c:=λl h=>by obtain ⟨x,-,rfl⟩:=Ar.1 h;exact wP t x
 cases o with
 | mp v kt vt es=>cases a
 | em v kt vt el=>cases a
 | box v cs=>exact L _ a
 | lit v e el cs z=>exact L _ a
 | row v e el ty l x nest z=>
  simp only [GQ,Ob.kids,Bb] at a;rcases a with a|a
  .cases nest with
   | none=>cases a
   | some p=>simp only [Be,Aa] at a;subst a;exact wP t _
  .exact L _ a
end
section
variable {nt:AM} {w:World} {S:AM->Prop} {s:Dn.S Ty.T} {μ:Gh} {a:Act} {fs:AG Fm}
theorem Jvf(keep:AG AM)(h:BG nt w S s μ a fs):Goes nt w S s μ a fs (Lf val keep s):=by
 unfold Lf R5;simp only;generalize vQ s 300 _ _=tb;split
 .rename_i L;simp only [Ac] at L;refine h.ghost (θ:=JY s.mo tb) (R:=IG s) ?_;generalize A:(⟨YO val s tb (kept s.sl keep),s.lo.map (YO val s tb),ND val s tb tb,[],s.mo⟩:Dn.S Ty.T)=s';have t:HZ s tb s':=⟨yL L.1.1,yL L.1.2,by rw [<-A],by rw [<-A],λp F=>by have:=Ah.1 L.2 p F;simp only [Ac,As] at this;exact this,h.iv⟩
  have look_of:∀n o',AA s' n=AC o'->(∃g o,inv n tb=AC g/\Ey s.mo n=AF/\look g s.ob=AC o/\frozen s g=AF/\o'=BD s' (GQ val s tb o))\/Ef s.mo n=AC o':=λn o' y=>by
   rcases tT y with ⟨o1,hl,y⟩|⟨-,y⟩
   .have N:=t.Pq hl;rw [t.ob] at hl;obtain ⟨g,o,a,b,c,rfl⟩:=yK hl;exact .inl ⟨g,o,J07 t.n2 a,N,b,c,y⟩
   .rw [t.mo] at y;exact .inr y
  refine ⟨⟨λn o' y=>?_,λn Z g f E _ _=>?_,λn g o' f E h3 h4=>?_,λg H=>?_⟩,λd v hd=>?_,by rw [<-A];simp,λi l l' d Y hl B hd=>?_,λp F=>?_,λl hl p F=>?_,λg o y=>?_,λm G=>?_⟩
  .rcases look_of n o' y with ⟨g,o,a,P,b,c,rfl⟩|G
   .exact .inr ⟨g,_,by unfold JY;rw [AR (by rw [P];exact Bz)];exact a,Jj b,VF t g o⟩
   .exact .inr ⟨n,o',(t.same G).2.2,(t.same G).1,Jyy t.iv (λh=>t.same h) G⟩
  .unfold JY at f E;split at f<;>split at E
   .injection f with f;injection E with E;omega
   .rename_i X Q;injection f with f;subst f;have:=(t.nm _ (sH E)).1;rw [X] at this;cases this
   .rename_i X Q;injection E with E;subst E;have:=(t.nm _ (sH f)).1;rw [Q] at this;cases this
   .have a:=Ju8 t.n1 (sH f);have b:=Ju8 t.n1 (sH E);rw [a] at b;injection b
  .rcases look_of n o' E with ⟨g',o,a,P,b,c,rfl⟩|G
   rotate_left
   .rw [(t.same G).2.2] at f;injection f with f;subst f;intro H;have:=(Ak.1 H).2;unfold frozen at this;rw [tq h.iv (jZ G).1] at this;cases this
   have f:inv n tb=AC g:=by unfold JY at f;rw [AR (by rw [P];exact Bz)] at f;exact f
   rw [a] at f;injection f with f;subst f;intro H;have:=(Ak.1 H).2;rw [c] at this;cases this
  .have K:=(Ak.1 H).2;unfold frozen at K;cases y:look g s.ob with
   | none=>rw [y] at K;cases K
   | some o=>
    rw [y] at K;refine ⟨_,Jj y,?_⟩;cases o with
    | box=>cases K
    | mp=>cases K
    | em=>cases K
    | lit=>rfl
    | row=>rfl
  .rw [<-A] at hd;obtain ⟨v0,O,rfl⟩:=Jma hd;have:s.at d=v0:=by simp [Dn.S.at,yD O]
   rw [this];exact Kbm t v0
  .rw [<-A] at B;simp only [Bc,hl,Be,Ap] at B;subst B;obtain ⟨v0,O,rfl⟩:=Jma hd;rw [O];exact Kbm t v0
  .rw [<-A] at F;have:∀l:AG (AM×V Ty.T),p∈YO val s tb l->okV s' p.2:=λl=>by
    induction l with
    | nil=>intro h;cases h
    | cons x r M=>
     intro h;rcases Ai.1 h with rfl|h
     .exact J8q t _
     .exact M h
   exact this _ F
  .rw [<-A] at hl;obtain ⟨l0,-,rfl⟩:=Ar.1 hl;have:∀l:AG (AM×V Ty.T),p∈YO val s tb l->okV s' p.2:=λl=>by
    induction l with
    | nil=>intro h;cases h
    | cons x r M=>
     intro h;rcases Ai.1 h with rfl|h
     .exact J8q t _
     .exact M h
   exact this _ F
  .rw [t.ob] at y;obtain ⟨g,o,a,b,c,rfl⟩:=yK y;exact Kaj t o
  .have J:=G;rw [t.mo] at J;exact ⟨(h.iv.mo m J).1,(h.iv.mo m J).2.1,λg o H=>by rw [t.mo];exact t.Pq H⟩
 .refine h.ghost (θ:=λ_=>AD) (R:=[]) ⟨⟨λn o' y=>?_,λn Z g f=>(by cases f),λn g o' f=>(by cases f),λg H=>(by cases H)⟩,λd v hd=>(by cases hd),by simp,λi l l' d Y hl B hd=>?_,λp F=>(by cases F),λl hl p F=>?_,λg o y=>(by cases y),λm G=>(by cases G)⟩
  .cases y
  .simp only [Bc,hl,Be,Ap] at B;subst B;cases hd
  .obtain ⟨l0,-,rfl⟩:=Ar.1 hl;cases F
end
theorem wE(lw:(t:Ty)->C Ty.T->AH t.T):∀(t:Ty) (l:AG (C Ty.T)),impl (dL wv) lw t l=impl val lw t l
 | .u,l=>rfl
 | .p a b,l=>by
  simp only [impl,wE lw a]
  congr 1
  funext x;obtain ⟨x,l⟩:=x;simp only [wE lw b];rfl
 | .int k,l=>rfl
 | .bool,l=>rfl
 | .str,l=>rfl
 | .ls t,l=>rfl
 | .bf f t,l=>rfl
theorem J29(lw:(t:Ty)->C Ty.T->AH t.T)(t:Ty):∀(n:AM) (l:AG (C Ty.T)),JH (dL wv) lw t n l=JH val lw t n l
 | 0,l=>rfl
 | n+1,l=>by
  cases l with
  | nil=>rfl
  | cons c l=>
   simp only [JH,wE]
   congr 1
   funext x;obtain ⟨x,l⟩:=x;simp only [J29 lw t n];rfl
theorem Juv(ob:AG (AM×Ob Ty.T)):∀(n:AM),@Zg Ty.T AH (dL wv) ob n=@Zg Ty.T AH val ob n
 | 0=>rfl
 | n+1=>by funext t c;simp only [Zg,DT,J29,Juv ob n];rfl
theorem Jzy:∀(t:Ty) (v:t.T),expl (dL wv) t v=expl val t v
 | .u,v=>rfl
 | .p a b,v=>by simp only [expl,Jzy a,Jzy b];rfl
 | .int k,v=>rfl
 | .bool,v=>rfl
 | .str,v=>rfl
 | .ls t,v=>rfl
 | .bf f t,v=>rfl
theorem fI(lw:(t:Ty)->C Ty.T->AH t.T)(t:Ty)(l:AG t.T)(n:AH (AM×C Ty.T)):Md (dL wv) lw t l n=Md val lw t l n:=by
 cases n with
 | none=>rfl
 | some p=>
  simp only [Md];have:KA (dL wv) lw t p.1 p.2=KA val lw t p.1 p.2:=by funext e;simp only [KA,wE,Jzy]
  rw [this];rfl
inductive Fx (s:S Ty.T) (sh:S U) (N:AG AM):C Ty.T->C Ty.T->Prop
 | any (x:C Ty.T):Fx s sh N x .any
 | lf {x:C Ty.T} {t:Ty} {v:t.T} (h:Zg val s.ob 4 t x=AC v) (hN:∀g∈Kq s.ob 4 x,g∈N):Fx s sh N x (.lf t v)
 | leaf {x:C Ty.T} (hr:refs x=[]) (he:∀s s',AB s' x=AB s x) (hf:(AB s x).flat=AE):Fx s sh N x x
 | ref {x:C Ty.T} (h:∀r∈refs x,∃o,look r.1 sh.ob=AC o/\o.ver=r.2) (hr:∃r,r∈refs x):Fx s sh N x x
 | fn {f:FuncId} {c:AG (AM×AM×AM)} (h:∀r∈refs (.fn f c:C Ty.T),∃o,look r.1 sh.ob=AC o/\o.ver=r.2):Fx s sh N (.fn f c) (.fn f c)
 | yl (j:AM):Fx s sh N (.yl j) (.yl j)
 | mo {g v:AM} (h:qB sh.mo (.map g v)=AE):Fx s sh N (.k (.map g v)) (.k (.map g v))
 | new {g v:AM} (h:∃o,look g sh.ob=AC o/\o.ver=v) (h0:look g s.ob=AD):Fx s sh N (.k .BK) (.own g v)
def GU(sh:S U)(c:C U):Prop:=S.shut.ok sh c=AE
theorem J17{sh:S U}{c:C U}(h:GU sh c):∀r∈refs c,∃o,look r.1 sh.ob=AC o/\o.ver=r.2:=by
 intro r hr;unfold GU S.shut.ok at h;rw [Ac] at h;have:=Ah.1 h.1 r hr;cases a:look r.1 sh.ob with
 | none=>rw [a] at this;cases this
 | some o=>rw [a] at this;exact ⟨o,rfl,by simpa using this⟩
section
variable {s:S Ty.T} {sh:S U} {N:AG AM} {r:AG Ty}
theorem Jz8{h:HL Ty.T r}{c:C U}{x:C Ty.T}{l:HL Ty.T (lD r c)}(a:RN (dL wv) s.ob h c x=AC l)(hs:GU sh c)(hN:∀g∈L9 s.ob c x,g∈N):∃y,vk c l=(y,h)/\Fx s sh N x y:=by
 have d:=J17 hs;unfold RN at a;split at a
 .injection a with a;subst a;exact ⟨_,rfl,.any _⟩
 .rename_i t u;rw [Juv] at a;cases hl:Zg val s.ob 4 t x with
  | none=>rw [hl] at a;cases a
  | some v=>rw [hl] at a;injection a with a;subst a;exact ⟨_,rfl,.lf hl hN⟩
 .split at a
  .rename_i e;subst e;injection a with a;subst a;exact ⟨_,rfl,.leaf rfl (λ_ _=>rfl) rfl⟩
  .cases a
 .injection a with a;subst a;exact ⟨_,rfl,.leaf rfl (λ_ _=>rfl) rfl⟩
 .injection a with a;subst a;exact ⟨_,rfl,.leaf rfl (λ_ _=>rfl) rfl⟩
 .injection a with a;subst a;exact ⟨_,rfl,.leaf rfl (λ_ _=>rfl) rfl⟩
 .injection a with a;subst a;exact ⟨_,rfl,.leaf rfl (λ_ _=>rfl) rfl⟩
 .split at a
  .rename_i e;obtain ⟨rfl,rfl⟩:=e;injection a with a;subst a;exact ⟨_,rfl,.ref d ⟨_,Aa.2 rfl⟩⟩
  .cases a
 .split at a
  .rename_i e;injection a with a;subst a;exact ⟨_,rfl,.new (d _ (Aa.2 rfl)) (by simpa using e)⟩
  .cases a
 .split at a
  .rename_i e;obtain ⟨rfl,rfl⟩:=e;injection a with a;subst a;exact ⟨_,rfl,.ref d ⟨_,Aa.2 rfl⟩⟩
  .cases a
 .split at a
  .rename_i e;obtain ⟨rfl,rfl,rfl⟩:=e;injection a with a;subst a;exact ⟨_,rfl,.ref d ⟨_,Aa.2 rfl⟩⟩
  .cases a
 .split at a
  .rename_i e;obtain ⟨rfl,rfl,rfl,rfl⟩:=e;injection a with a;subst a;exact ⟨_,rfl,.ref d ⟨_,Aa.2 rfl⟩⟩
  .cases a
 .split at a
  .rename_i t u o m v o' e;subst e;cases f:cast? m t v with
   | none=>rw [f] at a;cases a
   | some y=>
    rw [f] at a;injection a with a;subst a;obtain ⟨rfl,rfl⟩:=Xo f;exact ⟨_,rfl,.leaf rfl (λ_ _=>rfl) rfl⟩
  .cases a
 .split at a
  .rename_i e;obtain ⟨rfl,rfl⟩:=e;injection a with a;subst a;exact ⟨_,rfl,.fn d⟩
  .cases a
 .split at a
  .rename_i e;obtain ⟨rfl,rfl⟩:=e;injection a with a;subst a;exact ⟨_,rfl,.ref d ⟨_,Aa.2 rfl⟩⟩
  .cases a
 .split at a
  .rename_i e;subst e;injection a with a;subst a;exact ⟨_,rfl,.yl _⟩
  .cases a
 .split at a
  .rename_i g v A w e;obtain ⟨rfl,rfl⟩:=e;injection a with a;subst a;unfold GU S.shut.ok at hs;rw [Ac] at hs;exact ⟨_,rfl,.mo (by simpa [AV.flat] using hs.2)⟩
  .cases a
 .cases a
structure Lp (s:S Ty.T) (sh:S U) (N:AG AM) (l m:AG (C Ty.T)):Prop where
 len:l.length=m.length
 at':∀(i:AM) (x y:C Ty.T),l[i]?=AC x->m[i]?=AC y->Fx s sh N x y
theorem Lp.nil:Lp s sh N [] []:=⟨rfl,λi x y hx=>by simp at hx⟩
theorem Lp.cons{x y:C Ty.T}{l m:AG (C Ty.T)}(hx:Fx s sh N x y)(g:Lp s sh N l m):Lp s sh N (x::l) (y::m):=
 ⟨by simp [g.len],λi a b f d=>by
  cases i with
  | zero=>simp at f d;subst f;subst d;exact hx
  | succ i=>exact g.at' i a b (by simpa using f) (by simpa using d)⟩
theorem nI{h:HL Ty.T r}:∀ {l:AG (C U)} {m:AG (C Ty.T)} {v:HL Ty.T (IE r l)},TL (dL wv) s.ob h l m=AC v->(∀c∈l,GU sh c)->(∀g∈jG s.ob l m,g∈N)->∃ys,KE l v=(ys,h)/\Lp s sh N m ys
 | [],[],v,f,_,_=>by injection f with f;subst f;exact ⟨[],rfl,.nil⟩
 | c::l,x::m,v,f,hs,hN=>by
  simp only [TL] at f;cases A:TL (dL wv) s.ob h l m with
  | none=>rw [A] at f;cases f
  | some F=>
   rw [A] at f;obtain ⟨ys,a,b⟩:=nI A (λc B=>hs c (Ab _ B)) λg w=>hN g (Af _ w);obtain ⟨y,E,d⟩:=Jz8 (N:=N) (sh:=sh) f (hs c Ae) λg w=>hN g (Am _ w);exact ⟨y::ys,by simp only [KE,E,a],.cons d b⟩
 | [],_::_,v,f,_,_=>by cases f
 | _::_,[],v,f,_,_=>by cases f
end
structure FxP (s:S Ty.T) (sh:S U) (N:AG AM) (l m:AG (AN×AG (C Ty.T))):Prop where
 len:l.length=m.length
 at':∀(i:AM) (x y:AN×AG (C Ty.T)),l[i]?=AC x->m[i]?=AC y->x.1=y.1/\Lp s sh N x.2 y.2
inductive Fv (s:S Ty.T) (sh:S U) (N:AG AM):V Ty.T->V Ty.T->Prop
 | any (x:V Ty.T):Fv s sh N x (.c .any)
 | c {x y:C Ty.T} (h:Fx s sh N x y):Fv s sh N (.c x) (.c y)
 | ag {l m:AG (C Ty.T)} (h:Lp s sh N l m):Fv s sh N (.ag l) (.ag m)
 | tp {l m:AG (AN×AG (C Ty.T))} (h:FxP s sh N l m):Fv s sh N (.tp l) (.tp m)
inductive Fo (s:S Ty.T) (sh:S U) (N:AG AM):AH (Ob Ty.T)->AM->Ob Ty.T->Prop
 | box {v:AM} {cs ys:AG (C Ty.T)} (h:Lp s sh N cs ys):Fo s sh N (AC (.box v cs)) v (.box v ys)
 | lit {v e:AM} {el:TypeId} {cs ys:AG (C Ty.T)} {z:AN} (h:Lp s sh N cs ys):Fo s sh N (AC (.lit v e el cs z)) v (.lit v e el ys z)
 | row0 {v e:AM} {el:TypeId} {t:Ty} {l:AG t.T} {x ys:AG (C Ty.T)} {z:AN} (h:Lp s sh N x ys):Fo s sh N (AC (.row v e el t l x AD z)) v (.row v e el t l ys AD z)
 | UZ {v e:AM} {el:TypeId} {t:Ty} {l:AG t.T} {x ys:AG (C Ty.T)} {off:AM} {c y:C Ty.T} {z:AN} (h:Lp s sh N x ys) (hy:Fx s sh N c y):Fo s sh N (AC (.row v e el t l x (AC (off,c)) z)) v (.row v e el t l ys (AC (off,y)) z)
 | UY {v e:AM} {el:TypeId} {t:Ty} {l l':AG t.T} {x ys:AG (C Ty.T)} {off:AM} {c:C Ty.T} {z:AN} (h:Lp s sh N x ys) (hl:Md val (Zg val s.ob 4) t l (AC (off,c))=AC l') (hN:∀g∈Kq s.ob 4 c,g∈N) :
   Fo s sh N (AC (.row v e el t l x (AC (off,c)) z)) v (.row v e el t l' ys AD z)
 | VY {v e:AM} {el:TypeId} {t:Ty} {z:AN}:Fo s sh N AD v (.row v e el t ([]:AG t.T) [] AD z)
 | new1 {v e:AM} {el:TypeId} {t:Ty} {off g v':AM} {z:AN} (h:∃o,look g sh.ob=AC o/\o.ver=v'):Fo s sh N AD v (.row v e el t ([]:AG t.T) [] (AC (off,.own g v')) z)
 | mp {v:AM} {kt vt:Ty} {es:AG (kt.T×vt.T)}:Fo s sh N (AC (.mp v kt vt es)) v (.mp v kt vt es)
def MC(sh:S U):V U->Prop
 | .c x=>GU sh x
 | .ag l=>∀c∈l,GU sh c
 | .tp l=>∀q∈l,∀c∈q.2,GU sh c
section
variable {s:S Ty.T} {sh:S U} {N:AG AM} {r:AG Ty}
theorem J87{h:HL Ty.T r}:∀ {l:AG (AN×AG (C U))} {m:AG (AN×AG (C Ty.T))} {w:HL Ty.T (qD r l)},RI (dL wv) s.ob h l m=AC w->(∀q∈l,∀c∈q.2,GU sh c)->(∀g∈Oc s.ob l m,g∈N) ->
  ∃ys,vZ l w=(ys,h)/\FxP s sh N m ys
 | [],[],w,f,_,_=>by injection f with f;subst f;exact ⟨[],rfl,rfl,λi x y hx=>by simp at hx⟩
 | (a,p)::l,(b,x)::m,w,f,hs,hN=>by
  simp only [RI] at f;split at f
  .rename_i e;subst e;cases F:RI (dL wv) s.ob h l m with
   | none=>rw [F] at f;cases f
   | some L=>
    rw [F] at f;obtain ⟨ys,K,G⟩:=J87 F (λc H=>hs c (Ab _ H)) λg E=>hN g (Af _ E);obtain ⟨y,J,d⟩:=nI (N:=N) (sh:=sh) f (hs _ Ae) λg E=>hN g (Am _ E);refine ⟨(a,y)::ys,by simp only [vZ,J,K],by simp [G.len],λi u v B A=>?_⟩;cases i with
    | zero=>simp at B A;subst B;subst A;exact ⟨rfl,d⟩
    | succ i=>exact G.at' i u v (by simpa using B) (by simpa using A)
  .cases f
 | [],_::_,w,f,_,_=>by cases f
 | (_,_)::_,[],w,f,_,_=>by cases f
theorem Ws{h:HL Ty.T r}{v:V U}{x:V Ty.T}{f:HL Ty.T (vo r v)}(d:gQ (dL wv) s.ob h v x=AC f)(hs:MC sh v)(hN:∀g∈aA s.ob v x,g∈N):∃y,mkV v f=(y,h)/\Fv s sh N x y:=by
 cases v with
 | c c=>
  cases x with
  | c x=>
   obtain ⟨y,a,b⟩:=Jz8 (N:=N) (sh:=sh) d hs hN;exact ⟨.c y,by simp only [mkV,a],.c b⟩
  | ag l=>cases c<;>first|(injection d with d;subst d;exact ⟨_,rfl,.any _⟩)|cases d
  | tp l=>cases c<;>first|(injection d with d;subst d;exact ⟨_,rfl,.any _⟩)|cases d
 | ag l=>
  cases x with
  | ag m=>
   obtain ⟨y,a,b⟩:=nI (N:=N) (sh:=sh) d hs hN;exact ⟨.ag y,by simp only [mkV,a],.ag b⟩
  | _=>cases d
 | tp l=>
  cases x with
  | tp m=>
   obtain ⟨y,a,b⟩:=J87 (N:=N) (sh:=sh) d hs hN;exact ⟨.tp y,by simp only [mkV,a],.tp b⟩
  | _=>cases d
theorem TV{α:Type}{c:Prop}[Decidable c]{x:AH α}{y:α}(h:(if c then x else AD)=AC y):c/\x=AC y:=by
 split at h
 .exact ⟨by assumption,h⟩
 .cases h
theorem Wt{h:HL Ty.T r}{p:Ob U}{o:Ob Ty.T}{G:HL Ty.T (kr r p)}(f:gT (dL wv) s.ob h p o=AC G)(hs:∀c∈p.kids,GU sh c)(hN:∀g∈oN s.ob p o,g∈N):∃y,aG p G=(y,h)/\Fo s sh N (AC o) p.ver y:=by
 unfold gT at f;split at f
 .have m:=TV f;clear f;obtain ⟨e,f⟩:=m;subst e;obtain ⟨y,a,b⟩:=nI (N:=N) (sh:=sh) f hs hN;exact ⟨_,by simp only [aG,a],.box b⟩
 .have m:=TV f;clear f;obtain ⟨e,f⟩:=m;obtain ⟨rfl,rfl,rfl,rfl⟩:=e;obtain ⟨y,a,b⟩:=nI (N:=N) (sh:=sh) f hs hN;exact ⟨_,by simp only [aG,a],.lit b⟩
 .rename_i v e el t u x nest fz O e' el' A l M nest' fz';have m:=TV f;clear f;obtain ⟨e,f⟩:=m
  .obtain ⟨rfl,rfl,rfl,rfl⟩:=e;cases w:gU (dL wv) s.ob h nest nest' with
   | none=>rw [w] at f;cases f
   | some Q=>
    rw [w] at f;simp only [Aq] at f;cases hx:TL (dL wv) s.ob Q x M with
    | none=>rw [hx] at f;cases f
    | some J=>
     rw [hx] at f;simp only [Aq] at f;obtain ⟨ys,a,b⟩:=nI (N:=N) (sh:=sh) hx (λc m=>hs c (by simp only [Ob.kids];exact Af _ m)) (λg F=>hN g (by simp only [oN];exact Am _ F));have cst:∀ {L:AG A.T},((cast? (ι:=Ty.T) (.ls A) (.ls t) L:AH (Ty.ls t).T).map λl=>(⟨l,J⟩:HL Ty.T (.ls t::IE (qE r nest) x)))=AC G->∃e:A=t,G=⟨e▸L,J⟩:=λ{L} E=>by
      cases m:cast? (ι:=Ty.T) (.ls A) (.ls t) L with
      | none=>rw [m] at E;cases E
      | some P=>
       rw [m] at E;injection E with E;obtain ⟨B,K⟩:=Xo m;injection B with B;subst B;exact ⟨rfl,by rw [<-E,K]⟩
     cases nest with
     | none=>
      cases nest' with
      | none=>
       injection w with w;subst w;obtain ⟨rfl,rfl⟩:=cst f;exact ⟨_,by simp only [aG,a,vg],.row0 b⟩
      | some q=>
       obtain ⟨off,c⟩:=q;injection w with w;subst w;have X:Md (dL wv) (Zg (dL wv) s.ob 4) A l (AC (off,c))=Md val (Zg val s.ob 4) A l (AC (off,c)):=by rw [Juv];exact fI _ A l _
       have f:((Md (dL wv) (Zg (dL wv) s.ob 4) A l (AC (off,c))).bind λl=>Option.map (λl=>(⟨l,J⟩:HL Ty.T (.ls t::IE (qE r AD) x))) (cast? (ι:=Ty.T) (.ls A) (.ls t) l))=AC G:=f;rw [X] at f;cases H:Md val (Zg val s.ob 4) A l (AC (off,c)) with
       | none=>rw [H] at f;cases f
       | some Z=>
        rw [H] at f;obtain ⟨rfl,rfl⟩:=cst f;exact ⟨_,by simp only [aG,a,vg],.UY b H λg F=>hN g (by simp only [oN];exact Af _ F)⟩
     | some p=>
      obtain ⟨po,pc⟩:=p;cases nest' with
      | none=>simp at f
      | some q=>
       obtain ⟨off,c⟩:=q;simp only [gU] at w;have m:=TV w;clear w;obtain ⟨e,w⟩:=m
       .subst e;obtain ⟨y,Y,d⟩:=Jz8 (N:=N) (sh:=sh) w (hs pc (by simp [Ob.kids])) λg F=>hN g (by simp only [oN];exact Af _ F);obtain ⟨rfl,rfl⟩:=cst f;exact ⟨_,by simp only [aG,a,vg,Y],.UZ b d⟩
 .rename_i v kt vt u O kt' vt' es;have m:=TV f;clear f;obtain ⟨e,f⟩:=m;subst e;cases m:cast? (ι:=Ty.T) (.ls (.p kt' vt')) (.ls (.p kt vt)) es with
  | none=>rw [m] at f;cases f
  | some P=>
   rw [m] at f;injection f with f;obtain ⟨B,K⟩:=Xo m;injection B with B;injection B with B R;subst B;subst R;subst f;subst K;exact ⟨_,rfl,.mp⟩
 .cases f
theorem Kap{h:HL Ty.T r}{p:Ob U}{d:HL Ty.T (kr r p)}(a:J8b (dL wv) h p=AC d)(hs:∀c∈p.kids,GU sh c):∃y,aG p d=(y,h)/\Fo s sh N AD p.ver y:=by
 unfold J8b at a;split at a
 .injection a with a;subst a;exact ⟨_,rfl,.VY⟩
 .injection a with a;subst a;exact ⟨_,rfl,.new1 (J17 (hs _ (by simp [Ob.kids];rfl)) _ (Aa.2 rfl))⟩
 .cases a
def ZT(s:S Ty.T)(sh:S U)(N:AG AM):AG (AM×Ob U)->AG (AM×Ob Ty.T)->Prop
 | [],[]=>True
 | (a,p)::l,(b,o)::m=>b=a/\Fo s sh N (look a s.ob) p.ver o/\ZT s sh N l m
 | _,_=>False
theorem ZT.qZ{n:AM}:∀ {l:AG (AM×Ob U)} {m:AG (AM×Ob Ty.T)} {p:Ob U},ZT s sh N l m->look n l=AC p->∃o,look n m=AC o/\Fo s sh N (look n s.ob) p.ver o
 | [],_,p,_,h=>by cases h
 | (a,q)::l,[],p,d,h=>d.elim
 | (a,q)::l,(b,o)::m,p,d,h=>by
  obtain ⟨rfl,g,f⟩:=d;rw [Kp] at h ⊢;split at h
  .rename_i e;injection h with h;subst h;subst e;rw [AS rfl];exact ⟨o,rfl,g⟩
  .rename_i e;rw [AR e];exact ZT.qZ f h
theorem ZT.at2{n:AM}:∀ {l:AG (AM×Ob U)} {m:AG (AM×Ob Ty.T)} {o:Ob Ty.T},ZT s sh N l m->look n m=AC o->∃p,look n l=AC p
 | _,[],p,_,h=>by cases h
 | [],_::_,p,d,h=>d.elim
 | (a,q)::l,(b,g)::m,o,d,h=>by
  obtain ⟨rfl,r,f⟩:=d;rw [Kp] at h ⊢;split at h
  .rename_i e;rw [AS e];exact ⟨q,rfl⟩
  .rename_i e;rw [AR e];exact ZT.at2 f h
theorem J3v{h:HL Ty.T r}:∀ {l:AG (AM×Ob U)} {w:HL Ty.T (KF r l)},kP (dL wv) s.ob h l=AC w->(∀p∈l,∀c∈p.2.kids,GU sh c)->(∀p∈l,∀o,look p.1 s.ob=AC o->∀g∈oN s.ob p.2 o,g∈N) ->
  ∃ys,Pb l w=(ys,h)/\ZT s sh N l ys
 | [],w,f,_,_=>by injection f with f;subst f;exact ⟨[],rfl,trivial⟩
 | (a,p)::l,w,f,hs,hN=>by
  simp only [kP] at f;cases A:kP (dL wv) s.ob h l with
  | none=>rw [A] at f;cases f
  | some H=>
   rw [A] at f;obtain ⟨ys,E,B⟩:=J3v A (λc G=>hs c (Ab _ G)) λq F=>hN q (Ab _ F);have m:=hs _ Ae;cases v:look a s.ob with
   | none=>
    rw [v] at f;obtain ⟨y,c,d⟩:=Kap (s:=s) (N:=N) (sh:=sh) f m;exact ⟨(a,y)::ys,by simp only [Pb,c,E],rfl,by rw [v];exact d,B⟩
   | some o=>
    rw [v] at f;obtain ⟨y,c,d⟩:=Wt (N:=N) (sh:=sh) f m (hN _ Ae o v);exact ⟨(a,y)::ys,by simp only [Pb,c,E],rfl,by rw [v];exact d,B⟩
def ZR(s:S Ty.T)(sh:S U)(N:AG AM)(sl:AG (AM×V Ty.T)):AG (AM×V U)->AG (AM×V Ty.T)->Prop
 | [],[]=>True
 | (a,_)::l,(b,v)::m=>b=a/\Fv s sh N ((look a sl).getD (.c .any)) v/\ZR s sh N sl l m
 | _,_=>False
theorem ZR.mem{sl:AG (AM×V Ty.T)}:∀ {l:AG (AM×V U)} {m:AG (AM×V Ty.T)},ZR s sh N sl l m->∀p∈m,Fv s sh N ((look p.1 sl).getD (.c .any)) p.2
 | _,[],_,p,h=>by cases h
 | [],_::_,d,p,h=>d.elim
 | (a,q)::l,(b,v)::m,d,p,h=>by
  obtain ⟨rfl,g,f⟩:=d;rcases Ai.1 h with rfl|h
  .exact g
  .exact ZR.mem f p h
theorem Jvy{h:HL Ty.T r}{sl:AG (AM×V Ty.T)}:∀ {l:AG (AM×V U)} {m:HL Ty.T (I8 r l)},YT (dL wv) s.ob h sl l=AC m->(∀p∈l,MC sh p.2)->(∀g∈rO s.ob l sl,g∈N)->∃ys,PY l m=(ys,h)/\ZR s sh N sl l ys
 | [],m,f,_,_=>by injection f with f;subst f;exact ⟨[],rfl,trivial⟩
 | (a,p)::l,m,f,hs,hN=>by
  simp only [YT] at f;cases w:YT (dL wv) s.ob h sl l with
  | none=>rw [w] at f;cases f
  | some B=>
   rw [w] at f;obtain ⟨ys,F,E⟩:=Jvy w (λc A=>hs c (Ab _ A)) λg v=>hN g (by simp only [rO,Aw];exact Af _ v);have f:gQ (dL wv) s.ob B p ((look a sl).getD (.c .any))=AC m:=f;obtain ⟨y,c,d⟩:=Ws (N:=N) (sh:=sh) f (hs _ Ae) λg v=>hN g (by simp only [rO,Aw];exact Am _ v);exact ⟨(a,y)::ys,by simp only [PY,c,F],rfl,d,E⟩
def Tc(s:S Ty.T)(sh:S U)(N:AG AM):AG (AG (AM×V Ty.T))->AG (AG (AM×V U))->AG (AG (AM×V Ty.T))->Prop
 | [],[],[]=>True
 | q::m,l::ls,y::ys=>ZR s sh N q l y/\Tc s sh N m ls ys
 | _,_,_=>False
theorem Tc.at:∀ {m:AG (AG (AM×V Ty.T))} {l:AG (AG (AM×V U))} {ys:AG (AG (AM×V Ty.T))},Tc s sh N m l ys->ys.length=m.length/\∀(i:AM) (q y:AG (AM×V Ty.T)),m[i]?=AC q->ys[i]?=AC y->∃l,ZR s sh N q l y
 | [],[],[],_=>⟨rfl,λi q y h=>by simp at h⟩
 | q::m,l::ls,y::ys,h=>by
  obtain ⟨r,g⟩:=h;obtain ⟨a,b⟩:=Tc.at g;refine ⟨by simp [a],λi u v f d=>?_⟩;cases i with
  | zero=>simp at f d;subst f;subst d;exact ⟨l,r⟩
  | succ i=>exact b i u v (by simpa using f) (by simpa using d)
 | [],[],_::_,h=>h.elim
 | [],_::_,_,h=>h.elim
 | _::_,[],_,h=>h.elim
 | _::_,_::_,[],h=>h.elim
theorem J2h{h:HL Ty.T r}:∀ {l:AG (AG (AM×V U))} {m:AG (AG (AM×V Ty.T))} {f:HL Ty.T (KG r l)},ah (dL wv) s.ob h l m=AC f->(∀q∈l,∀p∈q,MC sh p.2)->(∀g∈J70 s.ob l m,g∈N)->∃ys,WE l f=(ys,h)/\Tc s sh N m l ys
 | [],[],f,a,_,_=>by injection a with a;subst a;exact ⟨[],rfl,trivial⟩
 | p::l,q::m,f,a,hs,hN=>by
  simp only [ah] at a;cases w:ah (dL wv) s.ob h l m with
  | none=>rw [w] at a;cases a
  | some F=>
   rw [w] at a;obtain ⟨ys,E,B⟩:=J2h w (λc A=>hs c (Ab _ A)) λg v=>hN g (Af _ v);obtain ⟨y,c,d⟩:=Jvy (N:=N) (sh:=sh) a (hs _ Ae) λg v=>hN g (Am _ v);exact ⟨y::ys,by simp only [WE,c,E],d,B⟩
 | [],_::_,f,a,_,_=>by cases a
 | _::_,[],f,a,_,_=>by cases a
structure Fit (s:S Ty.T) (sh:S U) (N:AG AM) (s':S Ty.T):Prop where
 sl:ZR s sh N s.sl sh.sl s'.sl
 lo:Tc s sh N s.lo sh.lo s'.lo
 ob:ZT s sh N sh.ob s'.ob
 out:∀g∈N,look g sh.ob=AD
 mo:s'.mo=s.mo
 mg:∀m,sh.mo=AC m->∃m',s.mo=AC m'/\m'.g=m.g
 nm:∀p∈sh.ob,Ey s.mo p.1=AF
 rd:∀g∈N,Ey s.mo g=AF
theorem RJ:∀ {m:AH (Mo U)} {d:AH (Mo Ty.T)} {h:HL Ty.T (LZ m)},RL (dL wv) m d=AC h->qC m h=d/\(∀x,m=AC x->∃y,d=AC y/\y.g=x.g)/\∀n,Ey d n=Ey m n
 | none,AD,h,a=>⟨rfl,λx hx=>by (cases hx),λn=>rfl⟩
 | some m,AC d,h,a=>by
  obtain ⟨g,kt,vt,el,es⟩:=m;obtain ⟨B,kt',vt',el',es'⟩:=d;have a:(if g=B/\el=el' then (cast? (ι:=Ty.T) (.ls (.p kt' (.ls vt'))) (.ls (.p kt (.ls vt))) es').map λl=>(⟨l,()⟩:HL Ty.T [.ls (.p kt (.ls vt))]) else AD)=AC h:=a;obtain ⟨⟨f,A⟩,r⟩:=TV a;clear a;subst f;subst A;cases v:cast? (ι:=Ty.T) (.ls (.p kt' (.ls vt'))) (.ls (.p kt (.ls vt))) es' with
  | none=>rw [v] at r;cases r
  | some E=>
   rw [v] at r;injection r with a;obtain ⟨f,A⟩:=Xo v;injection f with f;injection f with f w;injection w with w;subst f;subst w;subst a;subst A;exact ⟨rfl,λx hx=>⟨_,rfl,by injection hx with hx;subst hx;rfl⟩,λn=>rfl⟩
 | none,AC d,h,a=>by cases a
 | some m,AD,h,a=>by cases a
theorem RG{h:HL Ty.T sh.lt}(a:sh.fit (dL wv) s=AC h):Fit s sh (aj sh s) (sh.mk' h):=by
 unfold S.fit at a;split at a
 .rename_i m;obtain ⟨hs,hN,w⟩:=m;cases B:RL (dL wv) sh.mo s.mo with
  | none=>rw [B] at a;cases a
  | some a0=>
  rw [B] at a;have a:((kP (dL wv) s.ob a0 sh.ob).bind λh=>(ah (dL wv) s.ob h sh.lo s.lo).bind λh=>YT (dL wv) s.ob h s.sl sh.sl)=AC (show HL Ty.T (I8 (KG (KF (LZ sh.mo) sh.ob) sh.lo) sh.sl) from h):=a;obtain ⟨Y,X,R⟩:=RJ B;unfold S.shut at hs;simp only [Ac] at hs;have E:∀p∈sh.sl++sh.lo.flatten,MC sh p.2:=λp d=>by
   have:=Ah.1 hs.1 p d;cases hx:p.2 with
   | c x=>rw [hx] at this;exact this
   | ag l=>rw [hx] at this;exact λc m=>Ah.1 this c m
   | tp l=>rw [hx] at this;exact λq r c m=>Ah.1 (Ah.1 this q r) c m
  have v:∀p∈sh.ob,∀c∈p.2.kids,GU sh c:=λp d c m=>Ah.1 (Ah.1 hs.2 p d) c m;cases A:kP (dL wv) s.ob a0 sh.ob with
  | none=>rw [A] at a;cases a
  | some F=>
   rw [A] at a;have a:((ah (dL wv) s.ob F sh.lo s.lo).bind λh=>YT (dL wv) s.ob h s.sl sh.sl)=AC (show HL Ty.T (I8 (KG (KF (LZ sh.mo) sh.ob) sh.lo) sh.sl) from h):=a;cases y:ah (dL wv) s.ob F sh.lo s.lo with
   | none=>rw [y] at a;cases a
   | some Z=>
    rw [y] at a;have a:YT (dL wv) s.ob Z s.sl sh.sl=AC (show HL Ty.T (I8 (KG (KF (LZ sh.mo) sh.ob) sh.lo) sh.sl) from h):=a;obtain ⟨J,Q,M⟩:=J3v (N:=aj sh s) (sh:=sh) A v λp d o v g f=>by unfold aj;refine Af _ (Ao.2 ⟨p,d,?_⟩);rw [v];exact f
    obtain ⟨H,P,L⟩:=J2h (N:=aj sh s) (sh:=sh) y (λq r p d=>E p (Af _ (List.mem_flatten.2 ⟨q,r,d⟩))) λg f=>by unfold aj;exact Am _ (Af _ f)
    obtain ⟨G,O,K⟩:=Jvy (N:=aj sh s) (sh:=sh) a (λp d=>E p (Am _ d)) λg f=>by unfold aj;exact Am _ (Am _ f)
    have e:sh.mk' h=⟨G,H,J,[],s.mo⟩:=by simp only [S.mk',O,P,Q,Y]
    rw [e];refine ⟨K,L,M,λg f=>?_,rfl,X,λp d=>?_,λg f=>?_⟩
    .have:=Ah.1 hN g f;rw [Ac] at this;simpa using this.1
    .have:=Ah.1 w p d;rw [R];simpa using this
    .have:=Ah.1 hN g f;rw [Ac] at this;simpa using this.2
 .cases a
end
section
variable {s s':S Ty.T} {sh:S U} {N:AG AM}
structure Same (s s':S Ty.T) (o o':Ob Ty.T):Prop where
 ver:o.ver=o'.ver
 len:o.CJ=o'.CJ
 arr:∀v e el c z,BD s o=.arr v e el c z->∃c' z',BD s' o'=.arr v e el c' z'/\(c=[]↔c'=[])
theorem Fo.ver{src:AH (Ob Ty.T)}{v:AM}{o':Ob Ty.T}(h:Fo s sh N src v o'):o'.ver=v:=by cases h<;>rfl
theorem Fo.same{o o':Ob Ty.T}{v:AM}(h:Fo s sh N (AC o) v o'):Same s s' o o':=by
 cases h with
 | box h=>exact ⟨rfl,rfl,λv e el c z q=>by simp [BD] at q⟩
 | mp=>exact ⟨rfl,rfl,λv e el c z q=>by simp [BD] at q⟩
 | @lit v e el cs ys z h=>
  refine ⟨rfl,by simp [Ob.CJ,h.len],λv e el c z q=>?_⟩;simp only [BD,AU.arr.injEq] at q;obtain ⟨rfl,rfl,rfl,rfl,rfl⟩:=q;exact ⟨_,_,rfl,Yu (by simp [h.len])⟩
 | @row0 v e el t l x ys z h=>
  refine ⟨rfl,by simp [Ob.CJ,h.len],λv e el c z q=>?_⟩;simp only [BD,AU.arr.injEq] at q;obtain ⟨rfl,rfl,rfl,rfl,rfl⟩:=q;exact ⟨_,_,rfl,Yu (by simp [h.len,ZQ])⟩
 | @UZ v e el t l x ys off c y z h r=>
  refine ⟨rfl,by simp [Ob.CJ,h.len],λv e el c z q=>?_⟩;simp only [BD,AU.arr.injEq] at q;obtain ⟨rfl,rfl,rfl,rfl,rfl⟩:=q;exact ⟨_,_,rfl,Yu (by simp [h.len,ZQ])⟩
 | @UY v e el t l f x ys off c z h hl hN=>
  obtain ⟨d,-⟩:=J2w (s:=s) (h':=AA s) (θ:=AC) (R:=(Kq s.ob 4 c).filter (EX (AA s))) hl λp a g m hr=>by injection a with a;subst a;exact Ak.2 ⟨m,Sy.2 hr⟩
  refine ⟨rfl,?_,λv e el c z q=>?_⟩
  .show List.length (α:=t.T) l+x.length / e=List.length (α:=t.T) f+ys.length / e;rw [d,h.len]
  simp only [BD,AU.arr.injEq] at q;obtain ⟨rfl,rfl,rfl,rfl,rfl⟩:=q;refine ⟨_,_,rfl,Yu ?_⟩;simp only [Ay,Bj,ZQ,Jv];rw [d,h.len]
theorem Fit.at(F:Fit s sh N s'){g v:AM}(hs:∃o,look g sh.ob=AC o/\o.ver=v){o:Ob Ty.T}(d:look g s.ob=AC o):∃o',look g s'.ob=AC o'/\Same s s' o o'/\o'.ver=v:=by obtain ⟨p,l,h⟩:=hs;obtain ⟨o',f,a⟩:=F.ob.qZ l;rw [d] at a;exact ⟨o',f,a.same,by rw [a.ver,h]⟩
theorem Fit.has(F:Fit s sh N s'){g v:AM}(hs:∃o,look g sh.ob=AC o/\o.ver=v):∃o',look g s'.ob=AC o'/\o'.ver=v:=by obtain ⟨p,h,f⟩:=hs;obtain ⟨o',d,a⟩:=F.ob.qZ h;exact ⟨o',d,by rw [a.ver,f]⟩
theorem MN(F:Fit s sh N s'){x y:C Ty.T}(hx:Fx s sh N x y):FV s' y:=by
 have key:∀ {c:C Ty.T},(∀r∈refs c,∃o,look r.1 sh.ob=AC o/\o.ver=r.2)->FV s' c:=λh r hr=>by obtain ⟨o',a,b⟩:=F.has (h r hr);exact ⟨o',a,by omega⟩
 cases hx with
 | any=>exact Ka s' rfl
 | lf=>exact Ka s' rfl
 | leaf hr=>exact Ka s' hr
 | ref h=>exact key h
 | fn h=>exact key h
 | yl j=>exact Ka s' rfl
 | mo=>exact Ka s' rfl
 | new h d=>
  refine key λr hr=>?_;have:=Aa.1 hr;subst this;exact h
theorem Fit.qF(F:Fit s sh N s'){n:AM}(h:Ey s.mo n=AE):look n s'.ob=AD:=by
 cases hl:look n s'.ob with
 | none=>rfl
 | some o=>
  obtain ⟨p,a⟩:=F.ob.at2 hl;have:=F.nm _ (Xq a);rw [h] at this;cases this
theorem Fit.same(F:Fit s sh N s')(hi:Inv s){n:AM}{o:AU}(h:Ef s.mo n=AC o):AA s n=AC o/\AA s' n=AC o/\AC n=AC n:=by
 have a:=(jZ h).1;refine ⟨?_,?_,rfl⟩
 .simp only [AA,tq hi a];exact h
 .simp only [AA,F.qF a,F.mo];exact h
theorem QX(F:Fit s sh N s')(hi:Inv s){x y:C Ty.T}(ok:FV s x)(hx:Fx s sh N x y):GR (AA s) (AA s') AC (N.filter (EX (AA s))) (AB s x) (AB s' y):=by
 have ar:∀ {g v off len:AM},(∃o,look g sh.ob=AC o/\o.ver=v)->(∃o,look g s.ob=AC o/\v<=o.ver)->GR (AA s) (AA s') AC (N.filter (EX (AA s))) (.arr g v off len) (.arr g v off len):=λA d=>by obtain ⟨o,d,-⟩:=d;obtain ⟨o',E,w,G⟩:=F.at A d;refine .arr (Jj d) (Jj E) (by rw [ji];omega) rfl λ_=>⟨by rw [ji,w.ver,G],λe el c z q=>?_⟩;have K:(BD s o).ver=_:=AT AU.ver q;rw [ji,w.ver,G] at K;exact w.arr _ e el c z q
 have pr:∀ {g v off:AM},(∃o,look g sh.ob=AC o/\o.ver=v)->(∃o,look g s.ob=AC o/\v<=o.ver)->GR (AA s) (AA s') AC (N.filter (EX (AA s))) (.ptr g v off) (.ptr g v off):=λA d=>by obtain ⟨o,d,-⟩:=d;obtain ⟨o',E,w,G⟩:=F.at A d;exact .ptr (Jj d) (Jj E) (by rw [ji];omega) rfl λ_=>by rw [ji,w.ver,G]
 have fnc:∀ {f:FuncId} {c:AG (AM×AM×AM)},FV s (.fn f c)->(∀r∈refs (.fn f c:C Ty.T),∃o,look r.1 sh.ob=AC o/\o.ver=r.2)->GR (AA s) (AA s') AC (N.filter (EX (AA s))) (AB s (.fn f c)) (AB s' (.fn f c)):=λ{f c} ok h=>by have:=Eu.map (h:=AA s) (h':=AA s') (θ:=AC) (R:=N.filter (EX (AA s))) (l:=c) (f:=λx:AM×AM×AM=>AV.ptr x.1 x.2.1 x.2.2) (f':=λx:AM×AM×AM=>AV.ptr x.1 x.2.1 x.2.2) λx hx=>pr (h (x.1,x.2.1) (Ar.2 ⟨x,hx,rfl⟩)) (ok (x.1,x.2.1) (Ar.2 ⟨x,hx,rfl⟩));exact .fn f _ _ this.len this.at'
 cases hx with
 | any=>exact .any _
 | lf h hN=>exact J6s h λg X hr=>Ak.2 ⟨hN g X,Sy.2 hr⟩
 | leaf hr Z Y=>rw [Z s s'];exact .flat Y
 | fn h=>exact fnc ok h
 | yl j=>exact .Fu j
 | @mo g v h=>
  cases M:sh.mo with
  | none=>rw [M] at h;cases h
  | some m=>
   rw [M] at h;simp only [qB,Ac] at h;have P:=Bd h.1;have O:=Bd h.2;obtain ⟨H,A,d⟩:=F.mg m M;subst O;have hr:Ef s.mo g=AC (.map 0 (GZ H.kt H.vt 0 H.es) AF):=by rw [A,<-P,<-d];show H.at H.g=_;unfold Mo.at;rw [AS rfl]
   obtain ⟨a,b,c⟩:=F.same hi hr;exact .map a b (Ba _) rfl λ_=>rfl
 | new h h0=>
  obtain ⟨p,A,d⟩:=h;obtain ⟨o',E,w⟩:=F.ob.qZ A;rw [h0] at w;rename_i g v;have K:o'.ver=v:=by rw [w.ver,d]
  have J:Q4 s' g v=0:=by simp only [Q4,E,K,if_true];cases w<;>simp [Ob.CJ]
  simp only [AB,J];have B:∃e el z,BD s' o'=.arr v e el [] z:=by
   rw [<-K];cases w with
   | VY=>exact ⟨_,_,_,rfl⟩
   | new1 h=>exact ⟨_,_,_,rfl⟩
  obtain ⟨e,el,z,B⟩:=B;exact .new (by rw [Jj E,B])
 | ref h hr=>
  cases x with
  | own g v=>
   have A:=h (g,v) (Aa.2 rfl);have d:=ok (g,v) (Aa.2 rfl);obtain ⟨o,L,Q⟩:=d;obtain ⟨o',E,w,G⟩:=F.at A L;have P:Q4 s g v=o.CJ:=by have:=w.ver;simp [Q4,L,this,G]
   have O:Q4 s' g v=o.CJ:=by simp [Q4,E,G,w.len]
   simp only [AB,P,O];exact ar A ⟨o,L,Q⟩
  | part g v a b=>exact ar (h (g,v) (Aa.2 rfl)) (ok (g,v) (Aa.2 rfl))
  | ptr g v o=>exact pr (h (g,v) (Aa.2 rfl)) (ok (g,v) (Aa.2 rfl))
  | F5 g v e i o=>exact pr (h (g,v) (Aa.2 rfl)) (ok (g,v) (Aa.2 rfl))
  | fn f c=>exact fnc ok h
  | map g v=>
   have A:=h (g,v) (Aa.2 rfl);obtain ⟨o,d,-⟩:=ok (g,v) (Aa.2 rfl);obtain ⟨o',E,w,G⟩:=F.at A d;exact .map (Jj d) (Jj E) (by rw [ji];omega) rfl λ_=>by rw [ji,w.ver,G]
  | _=>obtain ⟨r,hr⟩:=hr;cases hr
theorem jE(F:Fit s sh N s')(hi:Inv s){l m:AG (C Ty.T)}(ok:CZ s l)(h:Lp s sh N l m):Eu (AA s) (AA s') AC (N.filter (EX (AA s))) (l.map (AB s)) (m.map (AB s')):=by
 refine ⟨by simp [h.len],λi x y hx d=>?_⟩;rw [Bc] at hx d;cases hl:l[i]? with
 | none=>rw [hl] at hx;cases hx
 | some a=>
  cases f:m[i]? with
  | none=>rw [f] at d;cases d
  | some b=>
   rw [hl] at hx;rw [f] at d;injection hx with hx;injection d with d;subst hx;subst d;exact QX F hi (ok a (Av hl)) (h.at' i a b hl f)
theorem jF(F:Fit s sh N s'){l m:AG (C Ty.T)}(h:Lp s sh N l m):CZ s' m:=by
 intro c a;obtain ⟨i,hi⟩:=Bh a;obtain ⟨x,hx⟩:∃x,l[i]?=AC x:=by have:=(Ad.1 hi).1;exact ⟨_,Ag (by rw [h.len];exact this)⟩
 exact MN F (h.at' i x c hx hi)
theorem qO(F:Fit s sh N s')(hi:Inv s){v w:V Ty.T}(ok:okV s v)(h:Fv s sh N v w):GR (AA s) (AA s') AC (N.filter (EX (AA s))) (AL s v) (AL s' w):=by
 cases h with
 | any=>exact .any _
 | c h=>exact QX F hi (ok _ (Aa.2 rfl)) h
 | ag h=>have:=jE F hi ok h;exact .agg _ _ this.len this.at'
 | @tp l m h=>
  refine .Cb _ _ (by simp [h.len]) λi x y hx d=>?_;rw [Bc] at hx d;cases hl:l[i]? with
  | none=>rw [hl] at hx;cases hx
  | some a=>
   cases f:m[i]? with
   | none=>rw [f] at d;cases d
   | some b=>
    rw [hl] at hx;rw [f] at d;injection hx with hx;injection d with d;subst hx;subst d;obtain ⟨e,q⟩:=h.at' i a b hl f;have:=jE F hi (λc G=>ok c (Ao.2 ⟨a,Av hl,G⟩)) q;obtain ⟨E,r⟩:=a;obtain ⟨H,g⟩:=b;have e:E=H:=e;subst e;cases E with
    | true=>exact .agg _ _ this.len this.at'
    | false=>
     show GR _ _ _ _ (Yb (r.map (AB s))) (Yb (g.map (AB s')));have this:Eu _ _ _ _ (r.map (AB s)) (g.map (AB s')):=this;generalize r.map (AB s)=A at this ⊢;generalize g.map (AB s')=B at this ⊢
     match A,B,this with
     | [],[],_=>exact .any _
     | [u],[v],t=>exact t.at' 0 u v rfl rfl
     | [],_::_,t=>exact absurd t.len (by simp)
     | _::_,[],t=>exact absurd t.len (by simp)
     | [_],_::_::_,t=>exact .any _
     | _::_::_,[_],t=>exact absurd t.len (by simp)
     | _::_::_,_::_::_,t=>exact .any _
theorem aO(F:Fit s sh N s'){v d:V Ty.T}(h:Fv s sh N v d):okV s' d:=by
 cases h with
 | any=>exact Xe (Ka s' rfl)
 | c h=>exact Xe (MN F h)
 | ag h=>exact jF F h
 | @tp l m h=>
  intro c a;obtain ⟨b,f,a⟩:=Ao.1 a;obtain ⟨i,hi⟩:=Bh f;obtain ⟨x,hx⟩:∃x,l[i]?=AC x:=by have:=(Ad.1 hi).1;exact ⟨_,Ag (by rw [h.len];exact this)⟩
  exact jF F (h.at' i x b hx hi).2 c a
theorem qQ(F:Fit s sh N s')(hi:Inv s){g v:AM}{o o':Ob Ty.T}(ok:CZ s o.kids)(h:Fo s sh N (AC o) v o'):GO (AA s) (AA s') AC (N.filter (EX (AA s))) g (BD s o) (BD s' o'):=by
 cases h with
 | box h=>exact .box (jE F hi ok h)
 | @mp v kt vt es=>
  refine .map rfl λi p q a d=>?_;have a:(Cm kt vt es)[i]?=AC p:=a;have d:(Cm kt vt es)[i]?=AC q:=d;rw [a] at d;injection d with d;subst d;exact ⟨rfl,J1k a⟩
 | lit h=>exact .arr (jE F hi ok h) (λq=>.inl q) λq=>q
 | row0 h=>exact .arr (.append (.flat (Yk _ _)) (jE F hi ok h)) (λq=>.inl q) λq=>q
 | @UZ v e el t l x ys off c y z h m=>
  refine .arr (.append ?_ (jE F hi (λc f=>ok c (Af _ f)) h)) (λq=>.inl q) λq=>q;exact (Eu.flat (Yk t l)).set (QX F hi (ok c (Am _ (Aa.2 rfl))) m) _
 | @UY v e el t l w x ys off c z h hl hN=>
  refine .arr (.append ?_ (jE F hi (λc f=>ok c (Af _ f)) h)) (λq=>.inl q) λq=>q;exact (J2w hl λp a g r hr=>by injection a with a;subst a;exact Ak.2 ⟨hN g r,Sy.2 hr⟩).2
theorem qP(F:Fit s sh N s'){src:AH (Ob Ty.T)}{v:AM}{o':Ob Ty.T}(h:Fo s sh N src v o'):CZ s' o'.kids:=by
 cases h with
 | box h=>exact jF F h
 | mp=>intro c a;cases a
 | lit h=>exact jF F h
 | row0 h=>exact jF F h
 | UZ h f=>
  intro c a;rcases Bb.1 a with a|a
  .rw [Aa] at a;subst a;exact MN F f
  .exact jF F h c a
 | UY h=>exact jF F h
 | VY=>intro c a;cases a
 | @new1 v e el t off g d z h=>
  intro c a;have:c=.own g d:=by simpa [Ob.kids] using a
  subst this;exact MN F (.ref (λr hr=>by have:=Aa.1 hr;subst this;exact h) ⟨_,Aa.2 rfl⟩)
end
section
variable {nt:AM} {w:World} {S:AM->Prop} {s:Dn.S Ty.T} {μ:Gh} {a:Act} {fs:AG Fm}
theorem RH{sh:Dn.S U}{N:AG AM}{s':Dn.S Ty.T}(h:BG nt w S s μ a fs)(F:Fit s sh N s'):Goes nt w S s μ a fs s':=by
 have src:∀n o',look n s'.ob=AC o'->∃v,Fo s sh N (look n s.ob) v o':=λn o' A=>by obtain ⟨p,y⟩:=F.ob.at2 A;obtain ⟨O,f,r⟩:=F.ob.qZ y;rw [A] at f;injection f with f;subst f;exact ⟨_,r⟩
 have enc_of:∀n o',AA s' n=AC o'->(∃ob,look n s'.ob=AC ob/\o'=BD s' ob)\/Ef s.mo n=AC o':=λn o' A=>by
  rcases tT A with f|⟨-,f⟩
  .exact .inl f
  .rw [F.mo] at f;exact .inr f
 have slots:∀ {sl:AG (AM×V Ty.T)} {l:AG (AM×V U)} {m:AG (AM×V Ty.T)},(∀p∈sl,okV s p.2)->ZR s sh N sl l m->∀ {d v},look d m=AC v->GR (AA s) (AA s') AC (N.filter (EX (AA s))) (AL s ((look d sl).getD (.c .any))) (AL s' v):=λ{sl l m} ok G d v hd=>by
  have:=G.mem (d,v) (Xq hd);refine qO F h.iv ?_ this;cases H:look d sl with
  | none=>exact Xe (Ka s rfl)
  | some u=>exact ok (d,u) (Xq H)
 refine h.ghost (θ:=AC) (R:=N.filter (EX (AA s))) ⟨⟨λn o' A=>?_,λn P g f r _ _=>?_,λn g o' f r X Q=>?_,λg E=>Sy.1 (Ak.1 E).2⟩,λd v hd=>?_,(Tc.at F.lo).1,λi l L d M hl J hd=>?_,λp y=>?_,λl hl p y=>?_,λg o A=>?_,λm B=>?_⟩
 .rcases enc_of n o' A with ⟨ob,f,rfl⟩|B
  rotate_left
  .exact .inr ⟨n,o',rfl,(F.same h.iv B).1,Jyy h.iv (λq=>F.same h.iv q) B⟩
  obtain ⟨v,r⟩:=src n ob f;cases hs:look n s.ob with
  | none=>
   rw [hs] at r;left;cases r with
   | VY=>exact ⟨_,_,_,_,rfl⟩
   | new1 h=>exact ⟨_,_,_,_,rfl⟩
  | some o=>
   rw [hs] at r;exact .inr ⟨n,_,rfl,Jj hs,qQ F h.iv (h.iv.ob n o hs) r⟩
 .injection f with f;injection r with r;omega
 .injection f with f;subst f;rcases enc_of n o' r with ⟨ob,K,rfl⟩|B
  rotate_left
  .intro E;have:=F.rd n (Ak.1 E).1;rw [(jZ B).1] at this;cases this
  obtain ⟨p,y⟩:=F.ob.at2 K;intro E;rw [F.out n (Ak.1 E).1] at y;cases y
 .have:=slots h.iv.sl F.sl hd;have e:s.at d=(look d s.sl).getD (.c .any):=by unfold Dn.S.at;cases look d s.sl<;>rfl
  rw [e];exact this
 .obtain ⟨l0,G⟩:=(Tc.at F.lo).2 i l L hl J;exact slots (h.iv.lo l (Av hl)) G hd
 .exact aO F (F.sl.mem p y)
 .obtain ⟨i,hi⟩:=Bh hl;obtain ⟨q,H⟩:∃q,s.lo[i]?=AC q:=by have:=(Ad.1 hi).1;exact ⟨_,Ag (by rw [<-(Tc.at F.lo).1];exact this)⟩
  obtain ⟨l0,G⟩:=(Tc.at F.lo).2 i q l H hi;exact aO F (G.mem p y)
 .obtain ⟨v,r⟩:=src g o A;exact qP F r
 .rw [F.mo] at B;refine ⟨(h.iv.mo m B).1,(h.iv.mo m B).2.1,λg o E=>?_⟩;obtain ⟨p,y⟩:=F.ob.at2 E;rw [F.mo];exact F.nm _ (Xq y)
theorem rY{sh:Dn.S U}{hl:HL Ty.T sh.lt}(h:BG nt w S s μ a fs)(d:sh.fit (dL wv) s=AC hl):Goes nt w S s μ a fs (sh.mk' hl):=RH h (RG d)
end
end Go.Dn
