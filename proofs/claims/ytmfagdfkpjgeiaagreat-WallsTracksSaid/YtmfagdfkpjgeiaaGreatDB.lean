/- Calls by contract: values up to nil slices. Conditions: none. -/
import Derived.Test.YtmfagdfkpjgeiaaGreatDA
set_option linter.unusedVariables false
set_option linter.unusedSimpArgs false
namespace Go.Dn
open Go Go.Vv
open List renaming mem_singleton -> Aa, mem_cons_of_mem -> Ab, getElem?_eq_some_iff -> Ad, mem_cons_self -> Ae, mem_append_right -> Af, getElem?_eq_getElem -> Ag, all_eq_true -> Ah, mem_cons -> Ai, mem_filter -> Aj, mem_append_left -> Ak, append_nil -> Am, mem_flatMap -> Ao, mem_map -> Ar, map_cons -> Au, mem_of_getElem? -> Av, flatMap_cons -> Aw, flatMap_append -> Ax, length_append -> Ay, length_eq_zero_iff -> Az, mem_append -> Bb, getElem?_map -> Bc, getElem?_of_mem -> Bg, length_map -> Bh, getElem?_cons_zero -> Bk, map_map -> Bl, map_nil -> Bm, append_assoc -> Bo, not_mem_nil -> Bp, set_append_right -> Br, nodup_cons -> Bs, map_congr_left -> Bt, getElem?_drop -> Bu, getElem?_append_right -> Bz, getElem?_append_left -> Da, mem_or_eq_of_mem_set -> Db, length_cons -> Dc, isEmpty_iff -> Dd, cons_append -> De, flatMap_nil -> Df, getElem?_cons_succ -> Dh, flatMap -> Di, map_append -> Dj, length_eq_one_iff -> Dk, filter -> Dl, mapM_cons -> Do, all_cons -> Dp
open Bool renaming and_eq_true -> Ac, not_eq_true' -> As, false_ne_true -> Bw
open Option.some renaming injEq -> Ap, inj -> Bf
open Option renaming bind_some -> Aq, map_some -> Be
open Nat renaming le_refl -> Ba, eq_of_beq_eq_true -> Bd, zero_lt_one -> Bj, add_sub_cancel_left -> Bn, mul_div_cancel -> Bv, zero_add -> Dg, zero_le -> Dm, add_mul -> Dq
open Prod.mk renaming injEq -> Bq
open _root_.Array renaming getElem?_eq_some_iff -> By
inductive Up:AV->AV->Prop
 | refl (v:AV):Up v v
 | BM:Up .BM (.CB 0 [])
 | CB (n:Nat) (l l':List AV) (hl:l.length=l'.length) (h:∀(i:Nat) (x y:AV),l[i]?=some x->l'[i]?=some y->Up x y):Up (.CB n l) (.CB n l')
 | CW (l l':List AV) (hl:l.length=l'.length) (h:∀(i:Nat) (x y:AV),l[i]?=some x->l'[i]?=some y->Up x y):Up (.CW l) (.CW l')
 | agg (l l':List AV) (hl:l.length=l'.length) (h:∀(i:Nat) (x y:AV),l[i]?=some x->l'[i]?=some y->Up x y):Up (.agg l) (.agg l')
structure DX (l l':List AV):Prop where
 len:l.length=l'.length
 at':∀(i:Nat) (x y:AV),l[i]?=some x->l'[i]?=some y->Up x y
theorem DX.back{l d:List AV}(h:DX l d){i:Nat}{y:AV}(f:d[i]?=some y):∃x,l[i]?=some x/\Up x y:=by
 have a:i<l.length:=by rw [h.len];exact (Ad.1 f).1
 exact ⟨l[i],Ag a,h.at' i _ y (Ag a) f⟩
theorem DX.refl(l:List AV):DX l l:=⟨rfl,λi x y hx a=>by rw [hx] at a;injection a with a;subst a;exact .refl x⟩
theorem DX.nil:DX [] []:=.refl []
theorem DX.cons{x y:AV}{l f:List AV}(h:Up x y)(t:DX l f):DX (x::l) (y::f):=
 ⟨by simp [t.len],λi u v d a=>by
  cases i with
  | zero=>simp only [Bk,Ap] at d a;subst d;subst a;exact h
  | succ i=>exact t.at' i u v d a⟩
theorem DX.VU{l:List AV}(h:DX l []):l=[]:=Az.1 h.len
theorem DX.cons_inv{l a:List AV}{y:AV}(h:DX l (y::a)):∃x m,l=x::m/\Up x y/\DX m a:=by
 cases l with
 | nil=>exact absurd h.len (by simp)
 | cons x m=>exact ⟨x,m,rfl,h.at' 0 x y rfl rfl,by simpa using h.len,λi u v f d=>h.at' (i+1) u v f d⟩
theorem DX.append{a b c d:List AV}(h:DX a c)(k:DX b d):DX (a++b) (c++d):=by
 induction c generalizing a with
 | nil=>rw [h.VU];exact k
 | cons y c f=>obtain ⟨x,m,rfl,l,g⟩:=h.cons_inv;exact .cons l (f g)
theorem DX.Ej{l c d:List AV}(h:DX l (c++d)):∃a b,l=a++b/\DX a c/\DX b d:=by
 induction c generalizing l with
 | nil=>exact ⟨[],l,rfl,.nil,h⟩
 | cons y c f=>
  obtain ⟨x,m,rfl,v,r⟩:=h.cons_inv;obtain ⟨a,b,rfl,o,g⟩:=f r;exact ⟨x::a,b,rfl,.cons v o,g⟩
theorem DX.drop{l c:List AV}(h:DX l c)(k:Nat):DX (l.drop k) (c.drop k):=
 ⟨by simp [h.len],λi x y hx a=>h.at' (k+i) x y (by simpa [Bu] using hx) (by simpa [Bu] using a)⟩
theorem DX.take{l c:List AV}(h:DX l c)(k:Nat):DX (l.take k) (c.take k):=
 ⟨by simp [h.len],λi x y hx a=>by
  rw [List.getElem?_take] at hx a;split at hx
  ·rename_i hi;rw [if_pos hi] at a;exact h.at' i x y hx a
  ·cases hx⟩
theorem DX.Pn{l a:List AV}{n:Nat}(h:DX l a):Up (.CB n l) (.CB n a):=.CB n l a h.len h.at'
theorem DX.Pk{l a:List AV}(h:DX l a):Up (.CW l) (.CW a):=.CW l a h.len h.at'
theorem DX.Po{l a:List AV}(h:DX l a):Up (.agg l) (.agg a):=.agg l a h.len h.at'
theorem Up.I5{v:AV}{n:Nat}{a:List AV}(h:Up v (.CB n a)):(v=.BM/\n=0/\a=[])\/∃l,v=.CB n l/\DX l a:=by
 generalize d:AV.CB n a=u at h;cases h with
 | refl=>subst d;exact .inr ⟨a,rfl,.refl a⟩
 | BM=>injection d with g f;exact .inl ⟨rfl,g,f⟩
 | CB m l o hl h=>injection d with g f;subst g;subst f;exact .inr ⟨l,rfl,hl,h⟩
 | CW=>cases d
 | agg=>cases d
theorem Up.KA{v:AV}{a:List AV}(h:Up v (.CW a)):∃l,v=.CW l/\DX l a:=by
 generalize d:AV.CW a=u at h;cases h with
 | refl=>subst d;exact ⟨a,rfl,.refl a⟩
 | BM=>cases d
 | CB=>cases d
 | CW l g hl h=>injection d with f;subst f;exact ⟨l,rfl,hl,h⟩
 | agg=>cases d
theorem Up.CP{v:AV}{a:List AV}(h:Up v (.agg a)):∃l,v=.agg l/\DX l a:=by
 generalize d:AV.agg a=u at h;cases h with
 | refl=>subst d;exact ⟨a,rfl,.refl a⟩
 | BM=>cases d
 | CB=>cases d
 | CW=>cases d
 | agg l g hl h=>injection d with f;subst f;exact ⟨l,rfl,hl,h⟩
theorem Up.same{v a:AV}(h:Up v a)(d:∀n l,a≠.CB n l)(g:∀l,a≠.CW l)(f:∀l,a≠.agg l):v=a:=by
 cases h with
 | refl=>rfl
 | BM=>exact absurd rfl (d _ _)
 | CB=>exact absurd rfl (d _ _)
 | CW=>exact absurd rfl (g _)
 | agg=>exact absurd rfl (f _)
theorem Up.rep{w:World}{S:Nat->Prop}{v E:AV}(h:Up v E):∀ {c:Value},BD w S v c->BD w S E c:=by
 induction h with
 | refl=>exact λh=>h
 | BM=>intro c h;cases h;exact .ER
 | CB n l f hl o m=>
  have bk:DX l f:=⟨hl,o⟩;intro c h;cases h with
  | ER=>rw [Az.1 (hl.symm.trans rfl)];exact .ER
  | CB _ _ a cap cv hs F B r hr=>
   refine .CB n f a cap cv (λg=>hs ?_) F (λi y d=>?_) (λi y d=>?_) (λi y d=>?_)
   ·rintro rfl;exact g (Az.1 (hl.symm.trans rfl))
   ·obtain ⟨x,hx,-⟩:=bk.back d;exact B i x hx
   ·obtain ⟨x,hx,-⟩:=bk.back d;exact r i x hx
   ·obtain ⟨x,hx,-⟩:=bk.back d;exact m i x y hx d (hr i x hx)
 | CW l f hl o m=>
  have bk:DX l f:=⟨hl,o⟩;intro c h;cases h with
  | CW _ a cv hs B r hr=>
   refine .CW f a cv (λg=>hs ?_) (λi y d=>?_) (λi y d=>?_) (λi y d=>?_)
   ·rintro rfl;exact g (Az.1 (hl.symm.trans rfl))
   ·obtain ⟨x,hx,-⟩:=bk.back d;exact B i x hx
   ·obtain ⟨x,hx,-⟩:=bk.back d;exact r i x hx
   ·obtain ⟨x,hx,-⟩:=bk.back d;exact m i x y hx d (hr i x hx)
 | agg l f hl o m=>
  have bk:DX l f:=⟨hl,o⟩;intro c h;cases h with
  | agg _ cs A r hr=>
   refine .agg f cs (hl.symm.trans A) (λi y d=>?_) (λi y d=>?_)
   ·obtain ⟨x,hx,-⟩:=bk.back d;exact r i x hx
   ·obtain ⟨x,hx,-⟩:=bk.back d;exact m i x y hx d (hr i x hx)
theorem gy:∀(t:Ty) {l:List AV} {x y:t.T},DX l (t.cs x)->DX l (t.cs y)->x=y
 | .u,_,_,_,_,_=>rfl
 | .int k,l,x,y,o,g=>by obtain ⟨u,m,rfl,a,-⟩:=o.cons_inv;obtain ⟨F,G,e,b,-⟩:=g.cons_inv;injection e with r w;subst r;have a:=a.same (λ_ _ h=>by cases h) (λ_ h=>by cases h) (λ_ h=>by cases h);have b:=b.same (λ_ _ h=>by cases h) (λ_ h=>by cases h) (λ_ h=>by cases h);rw [a] at b;injection b
 | .bool,l,x,y,o,g=>by obtain ⟨u,m,rfl,a,-⟩:=o.cons_inv;obtain ⟨F,G,e,b,-⟩:=g.cons_inv;injection e with r w;subst r;have a:=a.same (λ_ _ h=>by cases h) (λ_ h=>by cases h) (λ_ h=>by cases h);have b:=b.same (λ_ _ h=>by cases h) (λ_ h=>by cases h) (λ_ h=>by cases h);rw [a] at b;injection b
 | .str,l,x,y,o,g=>by obtain ⟨u,m,rfl,a,-⟩:=o.cons_inv;obtain ⟨F,G,e,b,-⟩:=g.cons_inv;injection e with r w;subst r;have a:=a.same (λ_ _ h=>by cases h) (λ_ h=>by cases h) (λ_ h=>by cases h);have b:=b.same (λ_ _ h=>by cases h) (λ_ h=>by cases h) (λ_ h=>by cases h);rw [a] at b;injection b
 | .p a b,l,(x1,x2),(Q,P),o,g=>by obtain ⟨l1,M,rfl,E,L⟩:=DX.Ej (c:=a.cs x1) (d:=b.cs x2) o;obtain ⟨Z,Y,e,B,K⟩:=DX.Ej (c:=a.cs Q) (d:=b.cs P) g;obtain ⟨r,w⟩:=List.append_inj e (by rw [E.len,B.len,IV,IV]);subst r;subst w;rw [gy a E B,gy b L K]
 | .ls t,l,x,y,o,g=>by
  have go:∀(x y:List t.T) (l:List AV),x.length=y.length->DX l (x.flatMap t.cs)->DX l (y.flatMap t.cs)->x=y:=by
   intro x
   induction x with
   | nil=>intro y l hl _ _;cases y with|nil=>rfl|cons=>simp at hl
   | cons u x ih=>
    intro y l hl o g;cases y with
    | nil=>simp at hl
    | cons v y=>
     rw [Aw] at o g;obtain ⟨l1,M,rfl,E,L⟩:=o.Ej;obtain ⟨Z,Y,e,B,K⟩:=g.Ej;obtain ⟨r,w⟩:=List.append_inj e (by rw [E.len,B.len,IV,IV]);subst r;subst w;rw [gy t E B,ih y M (by simpa using hl) L K]
  obtain ⟨u,m,rfl,a,-⟩:=o.cons_inv;obtain ⟨F,G,e,b,-⟩:=g.cons_inv;injection e with r w;subst r;rcases a.I5 with ⟨rfl,H,O⟩|⟨q,rfl,O⟩
  ·rcases b.I5 with ⟨-,J,N⟩|⟨q,A,-⟩
   ·have H:x=[]:=Az.1 H;have J:y=[]:=Az.1 J;rw [H,J]
   ·cases A
  ·rcases b.I5 with ⟨A,-,-⟩|⟨q',A,N⟩
   ·cases A
   ·injection A with X R;subst R;exact go x y q X O N
 | .bf f t,l,x,y,o,g=>by obtain ⟨u,m,rfl,a,-⟩:=o.cons_inv;obtain ⟨F,G,e,b,-⟩:=g.cons_inv;injection e with r w;subst r;have a:=a.same (λ_ _ h=>by cases h) (λ_ h=>by cases h) (λ_ h=>by cases h);have b:=b.same (λ_ _ h=>by cases h) (λ_ h=>by cases h) (λ_ h=>by cases h);rw [a] at b;injection b with _ b;exact gy t (l:=t.cs x) (.refl _) (by rw [b];exact .refl _)
def FP(h:Heap)(k:Nat)(L U:List AV)(N:List Nat):Prop:=∃ps,L.mapM (snap h k)=some ps/\DX (ps.map (·.1)) U/\∀g,g∈ps.flatMap (·.2)↔g∈N
section
variable {h:Heap} {k:Nat}
theorem FP.nil:FP h k [] [] []:=⟨[],rfl,.nil,λg=>by simp⟩
theorem FP.cons{v u y:AV}{ns N M:List Nat}{L U:List AV}(hx:snap h k v=some (u,ns))(a:Up u y)(f:∀g,g∈ns↔g∈N)(d:FP h k L U M):FP h k (v::L) (y::U) (N++M):=by
 obtain ⟨ps,o,m,l⟩:=d;refine ⟨(u,ns)::ps,by simp [Do,hx,o],?_,λg=>?_⟩
 ·simp only [Au];exact .cons a m
 ·simp only [Aw,Bb,f,l]
theorem FP.append{A B U V:List AV}{N M:List Nat}(d:FP h k A U N)(a:FP h k B V M):FP h k (A++B) (U++V) (N++M):=by
 obtain ⟨p,r,o,a3⟩:=d;obtain ⟨q,m,l,f⟩:=a;refine ⟨p++q,by simp [List.mapM_append,r,m],?_,λg=>?_⟩
 ·simp only [Dj];exact o.append l
 ·simp only [Ax,Bb,a3,f]
theorem Jql:∀ {L:List AV},L.all AV.flat=true->L.mapM (snap h (k+1))=some (L.map λv=>(v,[]))
 | [],_=>rfl
 | v::L,a=>by simp only [Dp,Ac] at a;simp [Do,wH h k v a.1,Jql a.2]
theorem FP.flat{L:List AV}(f:L.all AV.flat=true):FP h (k+1) L L []:=by
 refine ⟨_,Jql f,?_,λg=>?_⟩
 ·rw [Bl];rw [show L.map ((·.1) ∘ λv=>((v,[]):AV×List Nat))=L from List.map_id' L];exact .refl L
 ·simp only [Ao,Ar,Bp,iff_false];rintro ⟨a,⟨b,l,rfl⟩,d⟩;cases d
theorem FP.Ld{L U:List AV}{N:List Nat}(m:L.all AV.flat=true)(hs:FP h (k+1) L U N):DX L U/\∀g,g∉N:=by
 obtain ⟨ps,d,l,o⟩:=hs;rw [Jql m] at d;injection d with d;subst d;rw [Bl,show L.map ((·.1) ∘ λv=>((v,[]):AV×List Nat))=L from List.map_id' L] at l;exact ⟨l,λg f=>by have:=(o g).2 f;simp only [Ao,Ar] at this;obtain ⟨a,⟨b,r,rfl⟩,f⟩:=this;cases f⟩
theorem Mh(t:Ty)(l:List t.T):(l.flatMap t.cs).all AV.flat=true:=by
 induction l with
 | nil=>rfl
 | cons x l a=>rw [Aw,List.all_append,aP,a];rfl
theorem Ju5{g ver esz len off:Nat}{el:TypeId}{cells U:List AV}{z:Bool}{N:List Nat}(l:h g=some (.arr ver esz el cells z))(hs:FP h (k+1) (Vv.cut cells (off * esz) (len * esz)) U N)(hl:(off+len) * esz<=cells.length) :
  ∃u ns,snap h (k+2) (.arr g ver off len)=some (u,ns)/\Up u (.CB len U)/\∀d,d∈ns↔d∈g::N:=by
 by_cases f:(Vv.cut cells (off * esz) (len * esz)).all AV.flat=true
 ·obtain ⟨a,b⟩:=hs.Ld f;refine ⟨.CB len (Vv.cut cells (off * esz) (len * esz)),[g],?_,a.Pn,λd=>?_⟩
  ·rw [snap];simp only [l];rw [if_pos ⟨trivial,hl⟩];simp only [f,if_true]
  ·simp [b]
 ·obtain ⟨ps,r,o,m⟩:=hs;refine ⟨.CB len (ps.map (·.1)),g::ps.flatMap (·.2),?_,o.Pn,λd=>?_⟩
  ·rw [snap];simp only [l];rw [if_pos ⟨trivial,hl⟩];simp only [f,r];simp
  ·rw [Ai,Ai,m]
end
section
variable {s:S Ty.T}
def mW(s:S Ty.T)(k:Nat)(lw:(t:Ty)->C Ty.T->Option t.T)(N:C Ty.T->List Nat):Prop:=
 ∀(t:Ty) (c:C Ty.T) (x:t.T),t.one=true->lw t c=some x->∃u ns,snap (AA s) k (AB s c)=some (u,ns)/\DX [u] (t.cs x)/\∀g,g∈ns↔g∈N c
theorem qh{k:Nat}{lw:(t:Ty)->C Ty.T->Option t.T}{N:C Ty.T->List Nat}(f:mW s k lw N){t:Ty}(o:t.one=true){c:C Ty.T}{l r:List (C Ty.T)}{x:t.T}(h:(lw t c).map (·,l)=some (x,r)) :
  ∃d,c::l=d++r/\FP (AA s) k (d.map (AB s)) (t.cs x) (d.flatMap N):=by
 cases g:lw t c with
 | none=>rw [g] at h;cases h
 | some y=>
  rw [g] at h;simp only [Be,Ap,Bq] at h;obtain ⟨rfl,rfl⟩:=h;obtain ⟨u,ns,a,b,c'⟩:=f t c y o g;refine ⟨[c],rfl,?_⟩;obtain ⟨v,m⟩:∃v,t.cs y=[v]:=Dk.1 b.len.symm;rw [m] at b ⊢;have:=FP.cons a (b.at' 0 u v rfl rfl) c' FP.nil;simpa using this
theorem qz{k:Nat}{lw:(t:Ty)->C Ty.T->Option t.T}{N:C Ty.T->List Nat}(d:mW s k lw N):∀(t:Ty) {l r:List (C Ty.T)} {x:t.T},impl val lw t l=some (x,r) ->
  ∃g,l=g++r/\FP (AA s) k (g.map (AB s)) (t.cs x) (g.flatMap N)
 | .u,l,r,x,h=>by simp only [impl] at h;injection h with h;simp only [Bq] at h;obtain ⟨-,rfl⟩:=h;exact ⟨[],rfl,.nil⟩
 | .p a b,l,r,x,h=>by
  simp only [impl] at h;cases w:impl val lw a l with
  | none=>rw [w] at h;cases h
  | some p=>
   obtain ⟨u,g⟩:=p;rw [w] at h;simp only [Aq] at h;cases o:impl val lw b g with
   | none=>rw [o] at h;cases h
   | some q=>
    obtain ⟨v,F⟩:=q;rw [o] at h;simp only [Be,Ap,Bq] at h;obtain ⟨hx,rfl⟩:=h;subst hx;obtain ⟨E,rfl,A⟩:=qz d a w;obtain ⟨B,rfl,y⟩:=qz d b o;refine ⟨E++B,by rw [Bo],?_⟩;rw [Dj,Ax];exact A.append y
 | .int kk,l,r,x,h=>by
  cases l with
  | nil=>simp only [impl] at h;cases h
  | cons c m=>simp only [impl] at h;exact qh d rfl h
 | .bool,l,r,x,h=>by
  cases l with
  | nil=>simp only [impl] at h;cases h
  | cons c m=>simp only [impl] at h;exact qh d rfl h
 | .str,l,r,x,h=>by
  cases l with
  | nil=>simp only [impl] at h;cases h
  | cons c m=>simp only [impl] at h;exact qh d rfl h
 | .ls t,l,r,x,h=>by
  cases l with
  | nil=>simp only [impl] at h;cases h
  | cons c m=>simp only [impl] at h;exact qh d rfl h
 | .bf f t,l,r,x,h=>by
  cases l with
  | nil=>simp only [impl] at h;cases h
  | cons c m=>simp only [impl] at h;exact qh d rfl h
theorem wJ{k:Nat}{lw:(t:Ty)->C Ty.T->Option t.T}{N:C Ty.T->List Nat}(a:mW s k lw N)(t:Ty):∀(n:Nat) {l:List (C Ty.T)} {x:List t.T},JF val lw t n l=some x ->
  FP (AA s) k (l.map (AB s)) (x.flatMap t.cs) (l.flatMap N)
 | 0,l,x,h=>by cases h
 | n+1,l,x,h=>by
  cases l with
  | nil=>simp only [JF] at h;injection h with h;subst h;exact .nil
  | cons c l=>
   simp only [JF] at h;cases f:impl val lw t (c::l) with
   | none=>rw [f] at h;cases h
   | some p=>
    obtain ⟨u,r⟩:=p;rw [f] at h;simp only [Aq] at h;cases d:JF val lw t n r with
    | none=>rw [d] at h;cases h
    | some y=>
     rw [d] at h;have:=Bf h;subst this;obtain ⟨m,e,g⟩:=qz a t f;rw [e,Dj,Ax];exact g.append (wJ a t n d)
theorem Jph(k:Nat)(N:C Ty.T->List Nat)(l:∀t v,N (.lf t v)=[])(f:∀b,N (.kb b)=[]):mW s (k+1) (HV val) N:=λt c x d h=>by
 have e:=lM (s:=s) d h;have hN:N c=[]:=by
  unfold HV at h;split at h
  ·exact l _ _
  ·exact f _
  ·cases h
 have a:=aP t x;rw [e] at a;refine ⟨AB s c,[],wH _ k _ (by simpa using a),by rw [e];exact .refl _,λg=>by rw [hN]⟩
end
section
variable {s:S Ty.T}
theorem iX(ob:List (Nat×Ob Ty.T))(n:Nat)(t:Ty)(v:t.T):Kw ob n (.lf t v)=[]:=by cases n<;>rfl
theorem Jzc(ob:List (Nat×Ob Ty.T))(n:Nat)(b:Bool):Kw ob n (.kb b)=[]:=by cases n<;>rfl
theorem J2p(ob:List (Nat×Ob Ty.T))(n:Nat):Kw ob n (.k .BM)=[]:=by cases n<;>rfl
theorem Jyq{l:List AV}{n:Nat}(h:l.length=n):Vv.cut l 0 n=l:=by subst h;simp [Vv.cut]
theorem J3e{α β:Type}{f:α->Option β}:∀ {l:List α} {ps:List β},l.mapM f=some ps->ps.length=l.length
 | [],ps,h=>by rw [List.mapM_nil] at h;injection h with h;subst h;rfl
 | x::l,ps,h=>by
  rw [Do] at h;cases hx:f x with
  | none=>rw [hx] at h;cases h
  | some y=>
   cases hl:l.mapM f with
   | none=>rw [hx,hl] at h;cases h
   | some q=>
    rw [hx,hl] at h;injection h with h;subst h;simp [J3e hl]
theorem FP.len{h:Heap}{k:Nat}{L U:List AV}{N:List Nat}(hs:FP h k L U N):L.length=U.length:=by obtain ⟨ps,d,a,-⟩:=hs;have:=a.len;rw [Bh,J3e d] at this;exact this
theorem Kj{t:Ty}(l:List t.T):(l.flatMap t.cs).length=l.length * t.sz:=by
 induction l with
 | nil=>simp
 | cons x l a=>rw [Aw,Ay,a,IV,Dc,Nat.succ_mul,Nat.add_comm]
theorem J5z{n k:Nat}(H:mW s (k+1) (Eo val s.ob n) (Kw s.ob n)){t:Ty}{g:Nat}{o:Ob Ty.T}(A:look g s.ob=some o){x:List t.T}(h:Ir val (Eo val s.ob n) t o=some x) :
  ∃u ns,snap (AA s) (k+2) (.arr g o.ver 0 o.CO)=some (u,ns)/\Up u (.CB x.length (x.flatMap t.cs))/\∀B,B∈ns↔B∈Kw s.ob (n+1) (.own g o.ver):=by
 cases o with
 | mp v kt vt es=>simp only [Ir] at h;cases h
 | em v kt vt el=>simp only [Ir] at h;cases h
 | box v cs=>simp only [Ir] at h;cases h
 | lit v e el xs z=>
  simp only [Ir] at h;split at h
  ·rename_i r;obtain ⟨rfl,r⟩:=r;have hs:=wJ H t _ h;have hl:(xs.map (AB s)).length=x.length * t.sz:=by rw [hs.len,Kj]
   have m:(Ob.lit v t.sz el xs z).CO=x.length:=by show xs.length / t.sz=x.length;rw [Bh] at hl;rw [hl,Bv _ r]
   rw [m];have:=Ju5 (h:=AA s) (k:=k) (g:=g) (ver:=v) (esz:=t.sz) (len:=x.length) (off:=0) (el:=el) (cells:=xs.map (AB s)) (U:=x.flatMap t.cs) (z:=z) (N:=xs.flatMap (Kw s.ob n)) (Jn A) (by rw [Nat.zero_mul,Jyq hl];exact hs) (by rw [Dg,hl];exact Ba _);obtain ⟨u,ns,a,b,c⟩:=this;exact ⟨u,ns,a,b,λB=>by rw [c];simp only [Kw,A]⟩
  ·cases h
 | row v e el d l xs nest z=>
  cases nest with
  | some p=>simp only [Ir] at h;cases h
  | none=>
   simp only [Ir] at h;split at h
   ·rename_i r;obtain ⟨rfl,r⟩:=r;cases F:cast? (ι:=Ty.T) (.ls d) (.ls t) l with
    | none=>rw [F] at h;cases h
    | some K=>
     rw [F] at h;obtain ⟨G,rfl⟩:=Y7 F;injection G with G;subst G;simp only [Aq] at h;obtain ⟨L,rfl⟩:∃L:List d.T,(show Ty.T (.ls d) from L)=l:=⟨l,rfl⟩;have key:∃y:List d.T,x=L++y/\FP (AA s) (k+1) (xs.map (AB s)) (y.flatMap d.cs) (xs.flatMap (Kw s.ob n)):=by
      split at h
      ·have:=Bf h;subst this;exact ⟨[],(Am L).symm,.nil⟩
      ·rename_i J;cases E:JF val (Eo val s.ob n) d (xs.length+1) xs with
       | none=>rw [E] at h;cases h
       | some y=>
        rw [E] at h;have:=Bf h;subst this;exact ⟨y,rfl,wJ H d _ E⟩
     obtain ⟨y,rfl,hs⟩:=key;have hl:(xs.map (AB s)).length=y.length * d.sz:=by rw [hs.len,Kj]
     have m:(Ob.row v d.sz el d L xs none z).CO=(L++y).length:=by show L.length+xs.length / d.sz=_;rw [Bh] at hl;rw [hl,Bv _ r,Ay]
     rw [m];have f:=(FP.flat (h:=AA s) (k:=k) (Mh d L)).append hs;rw [<-Ax,List.nil_append] at f;have w:(L.flatMap d.cs++xs.map (AB s)).length=(L++y).length * d.sz:=by rw [Ay,Kj,hl,Ay,Dq]
     obtain ⟨u,ns,a,b,c⟩:=Ju5 (h:=AA s) (k:=k) (g:=g) (ver:=v) (esz:=d.sz) (len:=(L++y).length) (off:=0) (el:=el) (cells:=L.flatMap d.cs++xs.map (AB s)) (U:=(L++y).flatMap d.cs) (z:=z) (N:=xs.flatMap (Kw s.ob n)) (Jn A) (by rw [Nat.zero_mul,Jyq w];exact f) (by rw [Dg,w];exact Ba _);exact ⟨u,ns,a,b,λB=>by rw [c];simp only [Kw,A,Am]⟩
   ·cases h
theorem lX:∀(n k:Nat),n+1<=k->mW s k (Eo val s.ob n) (Kw s.ob n)
 | 0,0,h=>by omega
 | 0,k+1,_=>Jph k _ (iX _ _) (Jzc _ _)
 | n+1,0,h=>by omega
 | n+1,1,h=>by omega
 | n+1,k+2,r=>by
  have f:=lX n (k+1) (by omega);have lf:=Jph (s:=s) (k+1) (Kw s.ob (n+1)) (iX _ _) (Jzc _ _);intro t c x m h;simp only [Eo] at h;split at h
  ·split at h
   ·have:=Bf h;subst this;exact ⟨.BM,[],rfl,.cons .BM .nil,λg=>by rw [J2p]⟩
   ·cases h
  ·rename_i g ver;split at h
   ·rename_i t;cases d:look g s.ob with
    | none=>rw [d] at h;cases h
    | some o=>
     rw [d] at h;simp only at h;split at h
     ·rename_i l;subst l;obtain ⟨u,ns,a,b,c⟩:=J5z f d h;refine ⟨u,ns,?_,.cons b .nil,c⟩;have:Yk s g o.ver=o.CO:=by simp [Yk,d]
      simp only [AB,this];exact a
     ·cases h
   ·cases h
  ·exact lf t _ x m h
end
def FW(a:AK×Ty)(x:a.2.T):AV:=
 match a.1 with
 | .one=>zk (a.2.cs x)
 | .ag=>.agg (a.2.cs x)
 | .rp=>.CW (a.2.cs x)
def GY:(as:List (AK×Ty))->(Jan (as.map (·.2))).T->List AV
 | [],_=>[]
 | [a],x=>[FW a x]
 | a::b::r,(x,y)=>FW a x::GY (b::r) y
def Fq(a:AK×Ty):Bool:=match a.1 with|.one=>a.2.one|_=>true
def BS.ok(c:BS):Bool:=c.as.all Fq
theorem kK{t:Ty}(h:t.one=true)(x:t.T):∃v,t.cs x=[v]:=by cases t<;>first|exact ⟨_,rfl⟩|cases h
theorem J3v{a:AK×Ty}(h:Fq a=true){v:AV}{x y:a.2.T}(f:Up v (FW a x))(d:Up v (FW a y)):x=y:=by
 obtain ⟨k,t⟩:=a;cases k with
 | one=>
  obtain ⟨u,m⟩:=kK h x;obtain ⟨r,g⟩:=kK h y;have f:Up v (zk (t.cs x)):=f;have d:Up v (zk (t.cs y)):=d;rw [m] at f;rw [g] at d;exact gy t (l:=[v]) (by rw [m];exact .cons f .nil) (by rw [g];exact .cons d .nil)
 | ag=>
  obtain ⟨l,rfl,a⟩:=Up.CP f;obtain ⟨o,e,b⟩:=Up.CP d;injection e with e;subst e;exact gy t a b
 | rp=>
  obtain ⟨l,rfl,a⟩:=Up.KA f;obtain ⟨o,e,b⟩:=Up.KA d;injection e with e;subst e;exact gy t a b
theorem Jyi:∀ {as:List (AK×Ty)} (d:as.all Fq=true) {l:List AV} {x y:(Jan (as.map (·.2))).T},DX l (GY as x)->DX l (GY as y)->x=y
 | [],_,_,_,_,_,_=>rfl
 | [a],d,l,x,y,g,f=>by simp only [GY] at g f;obtain ⟨u,m,rfl,w,-⟩:=g.cons_inv;obtain ⟨E,F,e,v,-⟩:=f.cons_inv;injection e with h o;subst h;exact J3v (by simpa using d) w v
 | a::b::r,d,l,(x1,x2),(B,A),g,f=>by simp only [GY] at g f;obtain ⟨u,m,rfl,w,H⟩:=g.cons_inv;obtain ⟨E,F,e,v,G⟩:=f.cons_inv;injection e with h o;subst h;subst o;rw [Dp,Ac] at d;have h:x1=B:=J3v d.1 w v;have o:x2=A:=Jyi d.2 H G;rw [h,o]
noncomputable def GQ(rs:List (Bool×Ty))(r:(Jan (rs.map (·.2))).T):AV:=AQ ⟨[],[],[],[],none⟩ (NH val rs r)
open Classical in
noncomputable def jL(Γ:FuncId->Option BS):Vv.Call:=λf vs m=>
 match m,Γ f with
 | none,some c=>if h:∃x r,DX vs (GY c.as x)/\c.fn x=some r then some (GQ c.rs h.choose_spec.choose,λ_=>none) else none
 | _,_=>none
theorem Jxg{Γ:FuncId->Option BS}{f:FuncId}{c:BS}(hΓ:Γ f=some c)(a:c.ok=true){vs:List AV}{x:(Jan (c.as.map (·.2))).T}{r:(Jan (c.rs.map (·.2))).T}(d:DX vs (GY c.as x))(hr:c.fn x=some r) :
  jL Γ f vs none=some (GQ c.rs r,λ_=>none):=by
 have h:∃x r,DX vs (GY c.as x)/\c.fn x=some r:=⟨x,r,d,hr⟩;simp only [jL,hΓ];rw [dif_pos h];have key:∀y q,DX vs (GY c.as y)->c.fn y=some q->q=r:=λy q l g=>by rw [Jyi a l d,hr] at g;exact (Bf g).symm
 rw [key _ _ h.choose_spec.choose_spec.1 h.choose_spec.choose_spec.2]
theorem Jt6{Γ:FuncId->Option BS}{f:FuncId}{vs:List AV}{m:Option (Heap×Nat)}{v:AV}{h':Heap}(h:jL Γ f vs m=some (v,h')) :
  ∃c x r,Γ f=some c/\m=none/\DX vs (GY c.as x)/\c.fn x=some r/\v=GQ c.rs r:=by
 unfold jL at h;split at h
 ·rename_i c hΓ;split at h
  ·rename_i hx;injection h with h;injection h with a d;exact ⟨c,hx.choose,hx.choose_spec.choose,hΓ,rfl,hx.choose_spec.choose_spec.1,hx.choose_spec.choose_spec.2,a.symm⟩
  ·cases h
 ·cases h
section
variable {s:S Ty.T} {α:Type} {r:α}
theorem Kbl{t:Ty}(m:t.one=true){c:C Ty.T}{k:t.T->Option α}(h:VK val s.ob t c k=some r):∃x,k x=some r/\∃u ns,snap (AA s) depth (AB s c)=some (u,ns)/\Up u (zk (t.cs x))/\∀g,g∈ns↔g∈Kw s.ob 4 c:=by
 unfold VK at h;split at h
 ·rename_i g ver off len;split at h
  ·rename_i v e el d l z o;split at h
   ·rename_i J;obtain ⟨rfl,rfl,N⟩:=J;obtain ⟨y,G,h⟩:=Jk h;obtain ⟨M,rfl⟩:=Y7 G;subst M;obtain ⟨A,rfl⟩:∃A:Int,(show Ty.T I from A)=off:=⟨off,rfl⟩;obtain ⟨B,rfl⟩:∃B:Int,(show Ty.T I from B)=len:=⟨len,rfl⟩;obtain ⟨L,rfl⟩:∃L:List d.T,(show Ty.T (.ls d) from L)=l:=⟨l,rfl⟩;obtain ⟨F,h⟩:=Km h;obtain ⟨E,h⟩:=Km h;obtain ⟨w,h⟩:=Km h;have F:(0:Int)<=A:=Lr F;have E:(0:Int)<=B:=Lr E;have w:A+B<=(L.length:Int):=Lr w;refine ⟨val.ct (show Ty.T (.ls d) from L) A B,h,?_⟩;have hl:(A.toNat+B.toNat) * d.sz<=(L.flatMap d.cs).length:=by rw [Kj];exact Nat.mul_le_mul_right _ (by omega)
    have f:Vv.cut (L.flatMap d.cs) (A.toNat * d.sz) (B.toNat * d.sz)=((L.drop A.toNat).take B.toNat).flatMap d.cs:=(Jqt L _ _).symm;have hs:FP (AA s) (6+1) (Vv.cut (L.flatMap d.cs) (A.toNat * d.sz) (B.toNat * d.sz)) (((L.drop A.toNat).take B.toNat).flatMap d.cs) []:=by rw [f];exact .flat (Mh _ _)
    obtain ⟨u,ns,a,b,c⟩:=Ju5 (h:=AA s) (k:=6) (g:=g) (ver:=v) (esz:=d.sz) (len:=B.toNat) (off:=A.toNat) (el:=el) (cells:=L.flatMap d.cs) (z:=z) (by rw [Jn o];simp [BG,Zs]) hs hl;refine ⟨u,ns,a,?_,λO=>?_⟩
    ·have K:((L.drop A.toNat).take B.toNat).length=B.toNat:=by simp;omega
     have:zk ((Ty.ls d).cs (val.ct (show Ty.T (.ls d) from L) A B))=.CB B.toNat (((L.drop A.toNat).take B.toNat).flatMap d.cs):=by show AV.CB ((L.drop A.toNat).take B.toNat).length _=_;rw [K];rfl
     rw [this];exact b
    ·rw [c];simp [Kw,o]
   ·cases h
  ·cases h
 ·obtain ⟨x,hx,h⟩:=Jk h;obtain ⟨u,ns,a,b,c⟩:=lX (s:=s) 4 depth (by decide) t _ x m hx;obtain ⟨v,H⟩:=kK m x;refine ⟨x,h,u,ns,a,?_,c⟩;rw [H] at b ⊢;exact b.at' 0 u v rfl rfl
end
section
variable {s:S Ty.T} {α:Type} {r:α}
theorem Jzi{h:Heap}{v u:AV}{ns:List Nat}(hs:snap h depth v=some (u,ns))(a:∀f l,v≠.fn f l):Ho h v=some (u,ns):=by
 cases v with
 | fn f l=>exact absurd rfl (a f l)
 | ptr g ver off=>cases hs
 | _=>exact hs
theorem J1y{h:Heap}{f:FuncId}{l:List AV}{k:Nat}{u:AV}{ns:List Nat}(hs:snap h (k+1) (.fn f l)=some (u,ns)):∃a,u=.fn f a:=by
 simp only [snap] at hs;split at hs
 ·injection hs with hs;injection hs with d g;exact ⟨_,d.symm⟩
 ·cases hs
theorem T9{u y:AV}(h:Up u y)(a:y.flat=true){f:FuncId}{l:List AV}:u≠.fn f l:=by
 rintro rfl;cases h with
 | refl=>cases a
theorem J0c{t:Ty}{l:List (C Ty.T)}{k:Nat}(d:5<=k){x:t.T}(h:XC val s.ob t l=some x):FP (AA s) k (l.map (AB s)) (t.cs x) (l.flatMap (Kw s.ob 4)):=by
 unfold XC at h;cases hi:impl val (Eo val s.ob 4) t l with
 | none=>rw [hi] at h;cases h
 | some p=>
  obtain ⟨y,q⟩:=p;rw [hi] at h;simp only [Aq] at h;split at h
  ·rename_i a;have:=Bf h;subst this;obtain ⟨f,e,hs⟩:=qz (lX (s:=s) 4 k d) t hi;rw [Dd.1 a,Am] at e;subst e;exact hs
  ·cases h
theorem FP.agg{h:Heap}{k:Nat}{L U:List AV}{N:List Nat}(hs:FP h (k+1) L U N):∃u ns,snap h (k+2) (.agg L)=some (u,ns)/\Up u (.agg U)/\∀g,g∈ns↔g∈N:=by
 by_cases d:L.all AV.flat=true
 ·obtain ⟨a,b⟩:=hs.Ld d;exact ⟨.agg L,[],by rw [snap];simp only [d,if_true],a.Po,λg=>by simp [b]⟩
 ·obtain ⟨ps,m,l,f⟩:=hs;exact ⟨.agg (ps.map (·.1)),ps.flatMap (·.2),by rw [snap];simp only [d,m];simp,l.Po,f⟩
theorem wC{a:AK×Ty}(o:Fq a=true){v:V Ty.T}{k:a.2.T->Option α}(h:IJ val s.ob a v k=some r):∃x,k x=some r/\∃u ns,Ho (AA s) (AQ s v)=some (u,ns)/\Up u (FW a x) /\
  (jN v=false->snap (AA s) depth (AQ s v)=some (u,ns)/\∀g,g∈ns↔g∈v.cells.flatMap (Kw s.ob 4)):=by
 obtain ⟨ak,t⟩:=a;unfold IJ at h;split at h
 ·rename_i c d;simp only at d;subst d;obtain ⟨x,hx,u,ns,a,b,c'⟩:=Kbl (show t.one=true from o) h;refine ⟨x,hx,u,ns,Jzi a λf l e=>?_,b,λ_=>⟨a,λg=>by rw [c'];simp [V.cells]⟩⟩;have e:AB s c=.fn f l:=e;rw [e] at a;obtain ⟨N,rfl⟩:=J1y (k:=7) a;obtain ⟨w,G⟩:=kK (show t.one=true from o) x;have m:=aP t x;rw [G] at b m;exact T9 (y:=w) b (by simpa using m) rfl
 ·rename_i l d;simp only at d;subst d;obtain ⟨x,hx,h⟩:=Jk h;obtain ⟨u,ns,a,b,c⟩:=(J0c (k:=6+1) (by decide) hx).agg;exact ⟨x,h,u,ns,Jzi a (λ_ _ e=>by cases e),b,λ_=>⟨a,c⟩⟩
 ·rename_i E v d;simp only at d;subst d;obtain ⟨x,hx,B⟩:=Jk h;obtain ⟨e,A⟩:=Y7 hx;clear hx h;have M:E=t:=e;subst M;subst A;exact ⟨x,B,.CW ((E.cs x).drop 0),[],rfl,.refl _,λ_=>⟨rfl,λg=>by simp [V.cells,Kw]⟩⟩
 ·rename_i g ver d;simp only at d;subst d;split at h
  ·rename_i v cs J;split at h
   ·rename_i H;subst H;obtain ⟨x,hx,h⟩:=Jk h;have hs:=J0c (k:=7+1) (by decide) hx;have F:Ho (AA s) (AQ s (.c (.ptr g v 0)))=KE (AA s) g v 0 (some (.box v (cs.map (AB s)))):=by show KE (AA s) g v 0 (AA s g)=_;rw [Jn J];rfl
    by_cases m:(cs.map (AB s)).all AV.flat=true
    ·refine ⟨x,h,.CW (cs.map (AB s)),[g],?_,(hs.Ld m).1.Pk,λe=>by cases e⟩;rw [F];simp only [KE,if_true,m,List.drop_zero]
    ·obtain ⟨ps,L,K,O⟩:=hs;refine ⟨x,h,.CW (ps.map (·.1)),g::ps.flatMap (·.2),?_,K.Pk,λe=>by cases e⟩;rw [F];simp only [KE,if_true];rw [if_neg m,show depth=7+1 from rfl,L];simp [sO]
   ·cases h
  ·cases h
 ·cases h
theorem Joz:∀ {as:List (AK×Ty)} (d:as.all Fq=true) {vs:List (V Ty.T)} {k:(Jan (as.map (·.2))).T->Option α},mJ val s.ob as vs k=some r->∃x,k x=some r /\
  (∃us ns,Sl (AA s) (vs.map (AQ s))=some (us,ns)/\DX us (GY as x))/\(vs.any jN=false->FP (AA s) depth (vs.map (AQ s)) (GY as x) (vs.flatMap λv=>v.cells.flatMap (Kw s.ob 4)))
 | [],_,[],k,h=>⟨(),h,⟨[],[],rfl,.nil⟩,λ_=>.nil⟩
 | [a],d,[v],k,h=>by obtain ⟨x,hx,u,ns,q,b,c⟩:=wC (by simpa using d) h;refine ⟨x,hx,⟨[u],ns++[],by simp only [Au,Bm,Sl,q,YB],.cons b .nil⟩,λf=>?_⟩;obtain ⟨E,g⟩:=c (by simpa using f);exact FP.cons E b g .nil
 | a::b::r',d,v::w,k,h=>by simp only [mJ] at h;rw [Dp,Ac] at d;obtain ⟨x,hx,u,ns,q,ub,c⟩:=wC d.1 h;obtain ⟨y,o,⟨us,ms,m,l⟩,g⟩:=Joz d.2 hx;refine ⟨(x,y),o,⟨u::us,ns++ms,by simp only [Au,Sl,q,m,YB],.cons ub l⟩,λf=>?_⟩;rw [List.any_cons,Bool.or_eq_false_iff] at f;obtain ⟨B,A⟩:=c f.1;exact FP.cons B ub A (g f.2)
 | [],_,_::_,k,h=>by cases h
 | [_],_,[],k,h=>by cases h
 | [_],_,_::_::_,k,h=>by cases h
 | _::_::_,_,[],k,h=>by cases h
end
section
variable {s:S Ty.T}
theorem Jl4(h:Heap)(g:Nat)(r:List Nat):Jl (Jl h [g]) r=Jl h (g::r):=by
 funext x;simp only [Jl,Ai,Bp,or_false];by_cases hr:x∈r
 ·by_cases hx:x=g
  ·subst hx;simp only [hr,or_true,if_true];cases h x with
   | none=>rfl
   | some o=>cases o<;>rfl
  ·simp [hr,hx]
 ·by_cases hx:x=g
  ·subst hx;simp [hr]
  ·simp [hr,hx]
theorem Jud{h:Heap}{a b:List Nat}(d:∀g,g∈a↔g∈b):Jl h a=Jl h b:=by funext x;simp only [Jl,d]
theorem Jux{g:Nat}{o o':Ob Ty.T}(hi:Inv s)(d:look g s.ob=some o)(m:o.ver=o'.ver)(hl:o.CO=o'.CO)(r:o'.kids=o.kids)(v:∀s:S Ty.T,Dn.BG s o'=(Dn.BG s o).freeze) :
  CX s (s.obj g o')/\Inv (s.obj g o')/\AA (s.obj g o')=Jl (AA s) [g]:=by
 have hs:CX s (s.obj g o'):=Mf λy h=>by rw [d] at h;injection h with h;subst h;exact ⟨m,hl⟩
 have a:CZ s o.kids:=hi.ob g o d;have f:CZ (s.obj g o') o'.kids:=by rw [r];exact λc w=>(hs.ok c (a c w)).1
 refine ⟨hs,NJ hi hs (λl=>Qv g l o') f (hi.free d),?_⟩;rw [NM hi hs (λl=>Qv g l o'),v,hs.BG a];funext x;simp only [upd,Jl,Aa];by_cases hx:x=g
 ·subst hx;simp [Jn d]
 ·simp [hx]
theorem Jwa(hi:Inv s):∀(n:Nat) {c:C Ty.T},FR s c->∀g∈Kw s.ob n c,∃o,look g s.ob=some o:=by
 intro n
 induction n with
 | zero=>
  intro c m g a;cases c<;>simp only [Kw,Aa,Bp] at a
  all_goals
   subst a;obtain ⟨o,h,-⟩:=m (_,_) (Aa.2 rfl);exact ⟨o,h⟩
 | succ n l=>
  intro c m g a;cases c<;>simp only [Kw,Bp] at a
  all_goals
   rcases Ai.1 a with rfl|a
   ·obtain ⟨o,h,-⟩:=m (_,_) (Aa.2 rfl);exact ⟨o,h⟩
   ·split at a
    ·rename_i nest _ f;rcases Bb.1 a with a|a
     ·obtain ⟨c',d,a⟩:=Ao.1 a;exact l (hi.ob _ _ f c' (Af _ d)) g a
     ·cases nest with
      | none=>cases a
      | some q=>exact l (hi.ob _ _ f q.2 (Ak _ (Aa.2 rfl))) g a
    ·rename_i f;obtain ⟨c',d,a⟩:=Ao.1 a;exact l (hi.ob _ _ f c' d) g a
    ·cases a
theorem Jqr(hi:Inv s){n:Nat}{l:List (C Ty.T)}(hl:CZ s l):∀g∈l.flatMap (Kw s.ob n),∃o,look g s.ob=some o:=λg a=>by obtain ⟨c,d,a⟩:=Ao.1 a;exact Jwa hi n (hl c d) g a
theorem Jzt(hi:Inv s){n:Nat}{vs:List (V Ty.T)}(hl:∀v∈vs,okV s v):∀g∈vs.flatMap (λv=>v.cells.flatMap (Kw s.ob n)),∃o,look g s.ob=some o:=λg a=>by obtain ⟨v,d,a⟩:=Ao.1 a;exact Jqr hi (λc f=>hl v d c (uy c f)) g a
theorem Jty:∀(ns:List Nat) (s:S Ty.T),(Qi s ns).mo=s.mo
 | [],_=>rfl
 | g::r,s=>by simp only [Qi];split<;>rw [Jty r]<;>rfl
theorem lT:∀(ns:List Nat) {s:S Ty.T},Inv s->(∀g∈ns,∃o,look g s.ob=some o)->CX s (Qi s ns)/\Inv (Qi s ns)/\AA (Qi s ns)=Jl (AA s) ns
 | [],s,hi,_=>⟨.refl s,hi,by funext x;simp [Qi,Jl]⟩
 | g::r,s,hi,A=>by
  have nx:∀o',∀m∈r,∃o,look m (s.obj g o').ob=some o:=λo' m f=>by
   rw [Qv];split
   ·exact ⟨_,rfl⟩
   ·exact A m (Ab _ f)
  simp only [Qi];split
  ·rename_i v e el t l x nest z d;obtain ⟨a,b,c⟩:=Jux (o':=.row v e el t l x nest true) hi d rfl rfl rfl (λ_=>rfl);obtain ⟨a',w,c'⟩:=lT r b (nx _);exact ⟨a.trans a',w,by rw [c',c,Jl4]⟩
  ·rename_i v e el x z d;obtain ⟨a,b,c⟩:=Jux (o':=.lit v e el x true) hi d rfl rfl rfl (λ_=>rfl);obtain ⟨a',w,c'⟩:=lT r b (nx _);exact ⟨a.trans a',w,by rw [c',c,Jl4]⟩
  ·rename_i E B;obtain ⟨a',w,c'⟩:=lT r hi λm f=>A m (Ab _ f);refine ⟨a',w,?_⟩;rw [c',<-Jl4]
   congr 1
   funext x;simp only [Jl,Aa];by_cases hx:x=g
   ·subst hx;rw [if_pos rfl];cases d:look x s.ob with
    | none=>obtain ⟨o,h⟩:=A x Ae;rw [d] at h;cases h
    | some o=>
     rw [Jn d];cases o with
     | box v cs=>rfl
     | mp v kt vt es=>rfl
     | em v kt vt el=>rfl
     | row v e el t l y nest z=>exact absurd d (E v e el t l y nest z)
     | lit v e el y z=>exact absurd d (B v e el y z)
   ·rw [if_neg hx]
def Fb(r:Bool×Ty):Bool:=r.1 || r.2.one
theorem Jq1(s:S Ty.T):∀(rs:List (Bool×Ty)) (q:(Jan (rs.map (·.2))).T),(LH val rs q).map (λp=>if p.1 then AV.agg (p.2.map (AB s)) else zk (p.2.map (AB s)))=(LH val rs q).map (λp=>if p.1 then AV.agg (p.2.map (AB ⟨[],[],[],[],none⟩)) else zk (p.2.map (AB ⟨[],[],[],[],none⟩)))
 | [],_=>rfl
 | [a],q=>by have e:(expl val a.2 q).map (AB s)=(expl val a.2 q).map (AB ⟨[],[],[],[],none⟩):=(Yx s a.2 q).trans (Yx _ a.2 q).symm;simp only [LH,TN,Au,Bm];rw [e]
 | a::b::r,q=>by simp only [LH,TN,Au,Yx,Jq1 s (b::r)]
theorem Jog(s:S Ty.T):∀(rs:List (Bool×Ty)) (q:(Jan (rs.map (·.2))).T),∀p∈LH val rs q,CZ s p.2
 | [],_,p,d=>by cases d
 | [a],q,p,d=>by simp only [LH,TN,Aa] at d;subst d;exact Sr s _ _
 | a::b::r,q,p,d=>by
  simp only [LH,TN,Ai] at d;rcases d with rfl|d
  ·exact Sr s _ _
  ·exact Jog s (b::r) _ p d
theorem J1j(s s':S Ty.T){p:Bool×List (C Ty.T)}(h:p.2.map (AB s)=p.2.map (AB s')):AQ s (Sq p)=AQ s' (Sq p):=by
 obtain ⟨b,l⟩:=p;cases b with
 | true=>simp only [Sq,AQ];rw [h]
 | false=>
  match l,h with
  | [c],h=>simpa [Sq,AQ] using h
  | [],_=>rfl
  | _::_::_,_=>rfl
theorem wO(s:S Ty.T)(rs:List (Bool×Ty))(q:(Jan (rs.map (·.2))).T):AQ s (NH val rs q)=GQ rs q:=by
 unfold GQ NH
 match rs,q with
 | [],q=>rfl
 | [a],q=>exact J1j _ _ ((Yx s a.2 q).trans (Yx _ a.2 q).symm)
 | a::b::r,q=>
  have e:=Jq1 s (a::b::r) q;cases r<;>exact congrArg AV.Cn e
theorem vT(s:S Ty.T)(rs:List (Bool×Ty))(q:(Jan (rs.map (·.2))).T):okV s (NH val rs q):=by
 unfold NH;split
 ·rename_i p d;have:=Jog s rs q p (by rw [d];exact Aa.2 rfl);obtain ⟨b,l⟩:=p;cases b with
  | true=>exact this
  | false=>
   match l,this with
   | [c],h=>exact h
   | [],_=>exact λc a=>by simp [Sq,V.all] at a;subst a;exact Kh s rfl
   | _::_::_,_=>exact λc a=>by simp [Sq,V.all] at a;subst a;exact Kh s rfl
 ·intro c a;simp only [V.all,Ao] at a;obtain ⟨p,d,a⟩:=a;exact Jog s rs q p d c a
end
def Sd(v:AV):Prop:=(∃b,v=.bool b)\/(∃k n,v=.int k n)\/∃x,v=.str x
theorem UQ{v:AV}(h:Sd v):v.scalar=true:=by rcases h with ⟨b,rfl⟩|⟨k,n,rfl⟩|⟨x,rfl⟩<;>rfl
theorem UR{l:List AV}(h:∀v∈l,Sd v):(AV.agg l).scalar=true:=by simp only [AV.scalar,Ah];intro v a;rcases h v a with ⟨b,rfl⟩|⟨k,n,rfl⟩|⟨x,rfl⟩<;>rfl
theorem UO{l:List AV}(h:∀v∈l,Sd v\/∃m,v=.agg m/\∀u∈m,Sd u):(AV.Cn l).scalar=true:=by
 simp only [AV.scalar,Ah];intro v a;rcases h v a with (⟨b,rfl⟩|⟨k,n,rfl⟩|⟨x,rfl⟩)|⟨m,rfl,f⟩
 ·rfl
 ·rfl
 ·rfl
 ·simp only [Ah];intro u d;rcases f u d with ⟨b,rfl⟩|⟨k,n,rfl⟩|⟨x,rfl⟩<;>rfl
theorem iR:∀ {t:Ty} (h:t.flat=true) (x:t.T),∀v∈t.cs x,Sd v
 | .int k,_,x,v,d=>by have d:v∈[AV.int k x]:=d;rw [Aa] at d;exact .inr (.inl ⟨_,_,d⟩)
 | .bool,_,x,v,d=>by have d:v∈[AV.bool x]:=d;rw [Aa] at d;exact .inl ⟨_,d⟩
 | .str,_,x,v,d=>by have d:v∈[AV.str x]:=d;rw [Aa] at d;exact .inr (.inr ⟨_,d⟩)
 | .u,_,x,v,d=>by cases d
 | .ls _,h,_,_,_=>by cases h
 | .bf _ _,h,_,_,_=>by cases h
 | .p a b,h,(x,y),v,d=>by
  have d:v∈a.cs x++b.cs y:=d;simp only [Ty.flat,Ac] at h;rcases Bb.1 d with d|d
  ·exact iR h.1 x v d
  ·exact iR h.2 y v d
theorem Js2:∀ {rs:List (Bool×Ty)} {q:(Jan (rs.map (·.2))).T},∀p∈LH val rs q,∃a∈rs,∃x:a.2.T,p=(a.1,expl val a.2 x)
 | [],_,p,d=>by cases d
 | [a],q,p,d=>by simp only [LH,TN,Aa] at d;exact ⟨a,Aa.2 rfl,q,d⟩
 | a::b::r,q,p,d=>by
  simp only [LH,TN,Ai] at d;rcases d with rfl|d
  ·exact ⟨a,Ae,_,rfl⟩
  ·obtain ⟨a',g,x,f⟩:=Js2 p d;exact ⟨a',Ab _ g,x,f⟩
theorem J36(s:S Ty.T){a:Bool×Ty}(h:Fb a=true)(l:a.2.flat=true)(x:a.2.T) :
  (a.1=true/\∀v∈(expl val a.2 x).map (AB s),Sd v)\/(a.1=false/\∃c,expl val a.2 x=[c]/\Sd (AB s c)):=by
 have hs:=iR l x;rw [<-Yx s] at hs;obtain ⟨b,t⟩:=a;cases b with
 | true=>exact .inl ⟨rfl,hs⟩
 | false=>
  have g:t.one=true:=by simpa [Fb] using h
  obtain ⟨v,f⟩:=kK g x;have hl:(expl val t x).length=1:=by rw [Tj];have:=IV t x;rw [f] at this;exact this.symm
  obtain ⟨c,d⟩:=Dk.1 hl;refine .inr ⟨rfl,c,d,?_⟩;have hs:∀v∈(expl val t x).map (AB s),Sd v:=hs;rw [d] at hs;exact hs _ (Aa.2 rfl)
theorem Juw{rs:List (Bool×Ty)}(f:rs.all Fb=true)(g:(rs.all λr=>r.2.flat)=true)(q:(Jan (rs.map (·.2))).T):(GQ rs q).scalar=true:=by
 have f:=Ah.1 f;have g:=Ah.1 g;have o:=Js2 (rs:=rs) (q:=q);unfold GQ NH;split
 ·rename_i p l;obtain ⟨a,d,x,rfl⟩:=o p (by rw [l];exact Aa.2 rfl);rcases J36 ⟨[],[],[],[],none⟩ (f a d) (g a d) x with ⟨e,h⟩|⟨e,c,m,h⟩
  ·rw [e];exact UR h
  ·rw [e,m];exact UQ h
 ·refine UO λv w=>?_;obtain ⟨p,l,rfl⟩:=Ar.1 w;obtain ⟨a,d,x,rfl⟩:=o p l;rcases J36 ⟨[],[],[],[],none⟩ (f a d) (g a d) x with ⟨e,h⟩|⟨e,c,m,h⟩
  ·exact .inr ⟨_,by simp only [e,if_true],h⟩
  ·refine .inl ?_;simp only [e,m,Au,Bm,zk];exact h
theorem SB{Γ:FuncId->Option BS}(hΓ:∀f c,Γ f=some c->c.ok=true/\c.rs.all Fb=true):Md (jL Γ) Γ:=by
 intro α base g0 s r c f args k hi w h;obtain ⟨ok1,ok2⟩:=hΓ f c w;obtain ⟨x,hx,⟨us,ns,E,G⟩,d⟩:=Joz ok1 h;have m:(args.map (ev val s)).map (AQ s)=args.map (enc s).ev:=by rw [Bl];exact Bt λy _=>(Ku s y).symm
 rw [m] at E d;simp only at hx;have a:∀ {K:c.rT.T->Option α},val.call c x K=some r->∃q,c.fn x=some q/\K q=some r:=λ{K} e=>by
  have e:JG (c.fn x) K=some r:=e;cases l:c.fn x with
  | none=>rw [l] at e;cases e
  | some q=>rw [l] at e;exact ⟨q,rfl,e⟩
 split at hx
 ·split at hx
  ·rename_i M;obtain ⟨q,l,hx⟩:=a hx;refine ⟨_,_,_,.inr ⟨f,args,rfl,.inl rfl⟩,.same hi ?_ (vT s c.rs q),hx⟩;simp only [Ja];rw [show (enc s).h=AA s from rfl,E];simp only [Mv];rw [Jxg w ok1 G l];simp only [Oc,Juw ok2 M q,if_true,wO]
  ·cases hx
 ·rename_i J;have d:=d (by simpa using J);obtain ⟨ps,F,B,A⟩:=d;have hs:KO (AA s) (args.map (enc s).ev)=some (ps.map (·.1),ps.flatMap (·.2)):=by simp only [KO,F]
  split at hx
  ·rename_i o;obtain ⟨q,l,hx⟩:=a hx;refine ⟨_,_,_,.inl rfl,.same hi ?_ (vT s c.rs q),hx⟩;simp only [Ja];rw [show (enc s).h=AA s from rfl,hs];simp only;rw [Jxg w ok1 B l];simp only [wO];rw [if_pos];rw [Bool.or_eq_true] at o;rcases o with o|o
   ·refine .inl (List.eq_nil_iff_forall_not_mem.2 λg L=>?_);have:=(A g).1 L;rw [Dd.1 o] at this;cases this
   ·exact .inr (Juw ok2 o q)
  ·obtain ⟨q,l,hx⟩:=a hx;obtain ⟨P,O,N⟩:=lT ((args.map (ev val s)).flatMap λv=>v.cells.flatMap (Kw s.ob 4)) hi (Jzt hi λv H=>by obtain ⟨x,-,rfl⟩:=Ar.1 H;exact Mc hi x);refine ⟨_,_,_,.inr ⟨f,args,rfl,.inr rfl⟩,⟨?_,P,O,vT _ c.rs q⟩,hx⟩;simp only [Ja];rw [show (enc s).h=AA s from rfl,hs];simp only;rw [Jxg w ok1 B l];simp only [wO,N];rw [Jud A]
structure On (s s':S Ty.T):Prop where
 lo:s'.lo=s.lo
 ok:∀c,FR s c->FR s' c/\AB s' c=AB s c
theorem On.refl(s:S Ty.T):On s s:=⟨rfl,λ_ h=>⟨h,rfl⟩⟩
theorem On.trans{a b c:S Ty.T}(h:On a b)(k:On b c):On a c:=
 ⟨k.lo.trans h.lo,λx hx=>⟨(k.ok x (h.ok x hx).1).1,((k.ok x (h.ok x hx).1).2).trans (h.ok x hx).2⟩⟩
theorem CX.on{s s':S Ty.T}(h:CX s s'):On s s':=⟨h.lo,h.ok⟩
theorem On.put(s:S Ty.T)(d:Option Nat)(v:V Ty.T):On s (s.put d v):=by
 cases d with
 | none=>exact .refl s
 | some d=>exact ⟨rfl,λc a=>⟨a,Ju6 s (some d) v c⟩⟩
section
variable {call:Vv.Call} {base g0:Nat} {s:S Ty.T} {α:Type} {r:α}
theorem iO{g:Nat}{b:Bool}(h:(enc s).f g=.bool b):enc (s.put (some g) (.c (.kb b)))=enc s:=by
 rw [uQ];show (⟨upd (enc s).f g (.bool b),AA s⟩:St)=⟨(enc s).f,AA s⟩
 congr 1
 funext x;simp only [upd];split
 ·rename_i hx;rw [hx,h]
 ·rfl
theorem LZ{s:S Ty.T}{b:Bool}:okV s (.c (.kb b)):=Zm (Kh s rfl)
theorem zI{s:S Ty.T}:okV s (.tp []):=λc a=>by cases a
def En(call:Vv.Call)(base:Nat)(s:S Ty.T)(o:AX)(k:CQ->S Ty.T->Option α)(r:α):Prop:=
 ∃op' s',Alt o.op op'/\Ih call base { o with op:=op' } (enc s)=some (enc s')/\Inv s'/\On s s'/\k op' s'=some r
theorem En.of{o:AX}{k:CQ->S Ty.T->Option α}{f:S Ty.T}(l:enc f=enc s)(g:On s f)(h:En call base f o k r):En call base s o k r:=by obtain ⟨op',s',a,b,c,d,e⟩:=h;exact ⟨op',s',a,by rw [<-l];exact b,c,g.trans d,e⟩
theorem J8x{cx:Cx}{o:AX}{k:CQ->S Ty.T->Option α}(hC:Md call cx.ct)(hi:Inv s)
  (m:∀g want,o.guard=some (g,want)->(enc s).f g=.bool want) (h:dG val cx.ct cx.ty s (base+o.dst.getD 0) o.op (λop v s'=>k op (s'.put o.dst v))=some r):En call base s o k r:=by
 obtain ⟨op',v,s',a,⟨l,f,y,w⟩,c⟩:=dD (call:=call) (base:=base) hC hi h;refine ⟨op',s'.put o.dst v,a,?_,y.put w o.dst,f.on.trans (.put s' o.dst v),c⟩;have e:enc (s'.put o.dst v)=(enc s).put o.dst (AQ s' v) (AA s'):=by rw [uQ,Sy hi f];cases o.dst<;>rfl
 rw [e];unfold Ih;cases d:o.guard with
 | none=>simp only;rw [l]
 | some p=>
  obtain ⟨g,want⟩:=p;simp only;rw [m g want d];simp only [if_true];rw [l]
theorem vG{o:AX}{k:CQ->S Ty.T->Option α}(hi:Inv s){g:Nat}{want:Bool}(d:o.guard=some (g,want))(a:(enc s).f g=.bool (!want)\/(enc s).f g=.Cn [])(h:k o.op (s.put o.dst (.tp []))=some r):En call base s o k r:=by
 refine ⟨o.op,s.put o.dst (.tp []),.inl rfl,?_,hi.put zI o.dst,.put s o.dst _,h⟩;have e:enc (s.put o.dst (.tp []))=(enc s).put o.dst (.Cn []) (enc s).h:=by rw [uQ];rfl
 rw [e];unfold Ih;rw [d];rcases a with a|a
 ·simp only [a];rw [if_neg (by cases want<;>simp)]
 ·simp only [a]
theorem O4{o:CQ}{run:S Ty.T->Option α}(hi:Inv s)(h:pK val s o run=some r):∃d,enc d=enc s/\On s d/\Inv d/\run d=some r:=by
 have same:run s=some r->∃d,enc d=enc s/\On s d/\Inv d/\run d=some r:=λh=>⟨s,rfl,.refl s,hi,h⟩;unfold pK at h;split at h
 ·rename_i n a b;split at h
  ·rename_i t g;have f:∀q:Bool,(t:Bool)=q->(enc s).f n=.bool q:=λq e=>by show AQ s (s.at n)=_;rw [g,<-e];rfl
   rcases Sv h with ⟨e,h⟩|⟨e,h⟩
   ·exact ⟨_,iO (f _ e),.put s _ _,hi.put LZ _,h⟩
   ·exact ⟨_,iO (f _ e),.put s _ _,hi.put LZ _,h⟩
  ·exact same h
 ·exact same h
theorem J25{cx:Cx}{o:AX}{k:CQ->S Ty.T->Option α}(hC:Md call cx.ct)(hi:Inv s)(h:pG val cx base s o k=some r):En call base s o k r:=by
 have go:∀ {s:S Ty.T},Inv s->(∀g want,o.guard=some (g,want)->(enc s).f g=.bool want)->pK val s o.op (λs=>dG val cx.ct cx.ty s (base+o.dst.getD 0) o.op λop v s'=>k op (s'.put o.dst v))=some r->En call base s o k r:=λ{s} hi d h=>by obtain ⟨K,a,B,E,h⟩:=O4 hi h;exact .of a B (J8x hC E (λg w e=>by rw [a];exact d g w e) h)
 unfold pG qD at h;split at h
 ·rename_i d;exact go hi (λg w e=>by rw [d] at e;cases e) h
 ·rename_i g want d;split at h
  ·rename_i b F;have l:(enc s).f g=.bool b:=by show AQ s (s.at g)=_;rw [F];rfl
   split at h
   ·rename_i e;subst e;exact go hi (λG w e=>by rw [d] at e;injection e with e;injection e with a m;subst a;subst m;exact l) h
   ·rename_i e;exact vG hi d (.inl (by rw [l];cases b<;>cases want<;>simp_all)) h
  ·rename_i t A;have l:∀q:Bool,(t:Bool)=q->(enc s).f g=.bool q:=λq e=>by show AQ s (s.at g)=_;rw [A,<-e];rfl
   have run:∀q:Bool,(t:Bool)=q->want=q->pK val (s.put (some g) (.c (.kb q))) o.op (λs=>dG val cx.ct cx.ty s (base+o.dst.getD 0) o.op λop v s'=>k op (s'.put o.dst v))=some r->En call base s o k r:=λq a m h=>by have e:=iO (l q a);refine .of e (.put s _ _) (go (hi.put LZ _) (λG w y=>?_) h);rw [d] at y;injection y with y;injection y with J H;subst J;subst H;rw [e,l q a,m]
   have skp:∀q:Bool,(t:Bool)=q->want=!q->k o.op ((s.put (some g) (.c (.kb q))).put o.dst (.tp []))=some r->En call base s o k r:=λq a m h=>by have e:=iO (l q a);exact .of e (.put s _ _) (vG (hi.put LZ _) d (.inl (by rw [e,l q a,m,Bool.not_not])) h)
   split at h
   ·rename_i f;rcases Sv h with ⟨e,h⟩|⟨e,h⟩
    ·exact run true e f h
    ·exact skp false e f h
   ·rename_i f;have f:want=false:=by simpa using f
    rcases Sv h with ⟨e,h⟩|⟨e,h⟩
    ·exact skp true e f h
    ·exact run false e f h
  ·rename_i A;exact vG hi d (.inr (by show AQ s (s.at g)=_;rw [A];rfl)) h
  ·cases h
end
def KW:List (Nat×AX)->List (Nat×AX)->Prop
 | [],[]=>True
 | p::l,q::m=>q.1=p.1/\(∃op',Alt p.2.op op'/\q.2={ p.2 with op:=op' })/\KW l m
 | _,_=>False
theorem Alt.CJ{a b:CQ}(h:Alt a b):b.CJ=a.CJ:=by rcases h with rfl|⟨f,args,rfl,rfl|rfl⟩<;>rfl
section
variable {call:Vv.Call} {base:Nat}
def kI:AV->Option Nat
 | .ptr g _ _=>some g
 | .arr g _ _ _=>some g
 | .map g _=>some g
 | _=>none
theorem kP{ds:List Nat}{h:Heap}{g:Nat}(e:Ce base ds g=false):X3 base ds h g=h g:=by simp [X3,e]
variable {ds:List Nat} {h:Heap} {x:AV} (hx:∀g,kI x=some g->Ce base ds g=false)
include hx
theorem J9t(ag:Bool)(n:Nat):IQ (X3 base ds h) ag n x=IQ h ag n x:=by
 have e:JK (X3 base ds h) x=JK h x:=by
  cases x<;>try rfl
  unfold JK;dsimp only;rw [kP (hx _ rfl)]
 unfold IQ;rw [e]
theorem J51(o:Nat):LD (X3 base ds h) o x=LD h o x:=by
 cases x<;>try rfl
 rename_i g ver off;have e:cur (X3 base ds h) g ver=cur h g ver:=by unfold cur;rw [kP (hx _ rfl)]
 simp only [LD,e]
theorem J5u(e:Nat)(i:AV):JU (X3 base ds h) e x i=JU h e x i:=by
 cases x<;>cases i<;>try rfl
 rename_i g ver off len k i;have a:Ee (X3 base ds h) g ver e=Ee h g ver e:=by unfold Ee;rw [kP (hx _ rfl)]
 simp only [JU,a]
theorem J6b(e:Nat)(lo hi:Option AV):Ij (X3 base ds h) e x lo hi=Ij h e x lo hi:=by
 cases x<;>try rfl
 rename_i g ver off len;have a:Ee (X3 base ds h) g ver e=Ee h g ver e:=by unfold Ee;rw [kP (hx _ rfl)]
 simp only [Ij,a]
theorem P6:C9 (X3 base ds h) x=C9 h x:=by
 cases x<;>try rfl
 rename_i g ver off len;have a:GX (X3 base ds h) g ver=GX h g ver:=by unfold GX;rw [kP (hx _ rfl)]
 simp only [C9,a]
end
theorem PK{base:Nat}{ds:List Nat}{v:V Ty.T}(f:Iu base ds v=true)(s:S Ty.T):∀g,kI (AQ s v)=some g->Ce base ds g=false:=by
 intro g d;unfold Iu at f;split at f
 ·simp only [AQ,AB,kI,Ap] at d;subst d;simpa using f
 ·simp only [AQ,AB,kI,Ap] at d;subst d;simpa using f
 ·rename_i t x;have h:=aP t x;simp only [AQ,AB] at d;generalize t.cs x=l at h d
  match l,h,d with
  | [],_,d=>cases d
  | [a],h,d=>cases a<;>simp [AV.flat] at h<;>cases d
  | _::_::_,_,d=>cases d
 ·cases d
 ·simp only [AQ,AB,kI,Ap] at d;subst d;simpa using f
 ·cases f
section
variable {call:Vv.Call} {base:Nat}
theorem lH{σ:St}{g0:Nat}{ds:List Nat}{op:CQ}{f:Heap->Option AV}{r:AV×Heap}(l:op.cls=1)(d:∀h,Ja call base ⟨σ.f,h⟩ g0 op=match f h with|some v=>some (v,h)|none=>none)(g:f (X3 base ds σ.h)=f σ.h)(h:Ja call base σ g0 op=some r):Ja call base σ g0 (.F7 ds op)=some r:=by
 have m:Ja call base σ g0 op=match f σ.h with|some v=>some (v,σ.h)|none=>none:=d σ.h
 rw [m] at h;show (if op.cls=1 then dQ σ.h (Ja call base ⟨σ.f,X3 base ds σ.h⟩ g0 op) else none)=_;rw [if_pos l,d,g];cases a:f σ.h with
 | none=>rw [a] at h;cases h
 | some v=>rw [a] at h;exact h
theorem J61{s:S Ty.T}{dst:Option Nat}{ds:List Nat}{op:CQ}{r:AV×Heap}(h:Ja call base (enc s) (base+dst.getD 0) op=some r):Ja call base (enc s) (base+dst.getD 0) (Ta val s base dst op ds)=some r:=by
 have off:∀ {x:LO},Iu base ds (ev val s x)=true->∀g,kI ((enc s).ev x)=some g->Ce base ds g=false:=λhx=>by rw [Ku];exact PK hx s
 have evf:∀(x:LO) (h:Heap),(St.mk (enc s).f h).ev x=(enc s).ev x:=λx h=>by cases x<;>rfl
 unfold Ta;split
 ·rename_i ag n x;split
  ·rename_i hx;exact lH (f:=λh=>IQ h ag n ((enc s).ev x)) rfl (λh=>by simp only [Ja,evf];cases IQ h ag n ((enc s).ev x)<;>rfl) (J9t (off hx) ag n) h
  ·exact h
 ·rename_i o x;split
  ·rename_i hx;exact lH (f:=λh=>LD h o ((enc s).ev x)) rfl (λh=>by simp only [Ja,evf];cases LD h o ((enc s).ev x)<;>rfl) (J51 (off hx) o) h
  ·exact h
 ·rename_i e x i;split
  ·rename_i hx;exact lH (f:=λh=>JU h e ((enc s).ev x) ((enc s).ev i)) rfl (λh=>by simp only [Ja,evf];cases JU h e ((enc s).ev x) ((enc s).ev i)<;>rfl) (J5u (off hx) e _) h
  ·exact h
 ·rename_i x;split
  ·rename_i hx;exact lH (f:=λh=>(C9 h ((enc s).ev x)).map λn=>AV.int .i64 n) rfl (λh=>by simp only [Ja,evf];cases C9 h ((enc s).ev x)<;>rfl) (by rw [P6 (off hx)]) h
  ·exact h
 ·rename_i n x y;split
  ·rename_i hx;have a:VP base ds (base+dst.getD 0) ((enc s).ev x)=true:=by
    rw [Ku];unfold onV at hx;split at hx
    ·rename_i g ver o e;rw [e];exact hx
    ·cases hx
   simp only [Ja] at h ⊢;rw [if_pos a];exact h
  ·exact h
 ·rename_i x;split
  ·rename_i hx;refine lH (f:=λh=>match (enc s).ev x with
    | .ptr g v o=>if cur h g v then some (.ptr g v o) else none
    | .CW l=>some (.CW l)
    | .fn f caps=>some (.fn f caps)
    | .Lf f l=>some (.Lf f l)
    | _=>none) rfl (λh=>?_) ?_ h
   ·simp only [Ja,evf];cases (enc s).ev x<;>try rfl
    rename_i g v o;simp only;cases cur h g v<;>rfl
   ·have d:=off hx;cases m:(enc s).ev x<;>try rfl
    rename_i g v o;rw [m] at d;have e:cur (X3 base ds (enc s).h) g v=cur (enc s).h g v:=by unfold cur;rw [kP (d _ rfl)]
    simp only [e]
  ·exact h
 ·rename_i e b t z x y;split
  ·rename_i hx;have a:VP base ds (base+dst.getD 0) ((enc s).ev x)=true:=by
    rw [Ku];unfold onA at hx;split at hx
    ·rename_i g ver e;rw [e];exact hx
    ·rename_i e;rw [e];exact hx
    ·cases hx
   simp only [Ja] at h ⊢;unfold Mw;rw [if_pos a];exact h
  ·exact h
 ·rename_i e x lo hi;split
  ·rename_i hx;exact lH (f:=λh=>Ij h e ((enc s).ev x) (lo.map (enc s).ev) (hi.map (enc s).ev)) rfl (λh=>by
    have w:∀l:Option LO,l.map (St.mk (enc s).f h).ev=l.map (enc s).ev:=λl=>by cases l<;>simp [evf]
    simp only [Ja,evf,w];cases Ij h e ((enc s).ev x) (lo.map (enc s).ev) (hi.map (enc s).ev)<;>rfl) (J6b (off hx) e _ _) h
  ·exact h
 ·exact h
theorem J2o{s:S Ty.T}{σ:St}{g0:Nat}{dst:Option Nat}{ds:List Nat}{op:CQ}{r:AV×Heap}(h:Ja call base σ g0 (Ta val s base dst op ds)=some r):Ja call base σ g0 op=some r:=by
 obtain ⟨v,a⟩:=r;unfold Ta at h;split at h
 ·split at h
  ·exact kH h
  ·exact h
 ·split at h
  ·exact kH h
  ·exact h
 ·split at h
  ·exact kH h
  ·exact h
 ·split at h
  ·exact kH h
  ·exact h
 ·split at h
  ·exact UG h
  ·exact h
 ·split at h
  ·exact kH h
  ·exact h
 ·split at h
  ·simp only [Ja] at h ⊢;unfold Mw at h;split at h
   ·exact h
   ·cases h
  ·exact h
 ·split at h
  ·exact kH h
  ·exact h
 ·exact h
theorem J5g(s:S Ty.T)(dst:Option Nat)(ds:List Nat)(op:CQ):(Ta val s base dst op ds).CJ=op.CJ:=by unfold Ta;split<;>(try split)<;>rfl
theorem Kak{o:AX}{σ σ':St}{op:CQ}(d:∀r,Ja call base σ (base+o.dst.getD 0) o.op=some r->Ja call base σ (base+o.dst.getD 0) op=some r)(h:Ih call base o σ=some σ'):Ih call base { o with op:=op } σ=some σ':=by
 unfold Ih at h ⊢;have key:(match Ja call base σ (base+o.dst.getD 0) o.op with|some (v,h)=>some (σ.put o.dst v h)|none=>none)=some σ'->(match Ja call base σ (base+o.dst.getD 0) op with|some (v,h)=>some (σ.put o.dst v h)|none=>none)=some σ':=λh=>by
  cases hr:Ja call base σ (base+o.dst.getD 0) o.op with
  | none=>rw [hr] at h;cases h
  | some r=>rw [hr] at h;rw [d r hr];exact h
 dsimp only at h ⊢;split at h
 ·exact key h
 ·split at h
  ·split at h
   ·rename_i a;rw [if_pos a];exact key h
   ·rename_i a;rw [if_neg a];exact h
  ·exact h
  ·cases h
def M8(call:Vv.Call)(base:Nat):List (Nat×AX)->List (Nat×AX)->Prop
 | [],[]=>True
 | p::l,q::m=>q.1=p.1/\(∀σ σ',Ih call base q.2 σ=some σ'->Ih call base p.2 σ=some σ')/\M8 call base l m
 | _,_=>False
theorem M8.mem:∀ {l m:List (Nat×AX)},M8 call base l m->∀q∈m,∃p∈l,q.1=p.1/\∀σ σ',Ih call base q.2 σ=some σ'->Ih call base p.2 σ=some σ'
 | [],[],_,q,d=>by cases d
 | p::l,v::m,h,q,d=>by
  obtain ⟨r,o,g⟩:=h;rcases Ai.1 d with rfl|d
  ·exact ⟨p,Ae,r,o⟩
  ·obtain ⟨f,a,b⟩:=M8.mem g q d;exact ⟨f,Ab _ a,b⟩
 | [],_::_,h,_,_=>h.elim
 | _::_,[],h,_,_=>h.elim
variable {α:Type} {r:α}
theorem J3g{cx:Cx}(hC:Md call cx.ct):∀ {L acc:List (Nat×AX)} {acc2:List (List Nat->Nat×AX)} {ds:List Nat} {s:S Ty.T} {k:List (Nat×AX)->List (Nat×AX)->S Ty.T->Option α},Inv s->aQ val cx base L acc acc2 ds s k=some r ->
  ∃(L':List (Nat×AX)) (M:List (List Nat->Nat×AX)) (ds':List Nat) (s':S Ty.T),KW L L'/\(∀ds,M8 call base L' (M.map λf=>f ds))/\Mi call base (L'.map (·.2)) (enc s)=some (enc s')/\(∀ds,Mi call base ((M.map λf=>f ds).map (·.2)) (enc s)=some (enc s'))/\Inv s'/\On s s'/\k (acc.reverse++L') ((acc2.reverse++M).map λf=>f ds') s'=some r
 | [],acc,acc2,ds,s,k,hi,h=>⟨[],[],ds,s,trivial,λ_=>trivial,rfl,λ_=>rfl,hi,.refl s,by rw [Am,Am];exact h⟩
 | p::L,acc,acc2,ds,s,k,hi,h=>by
  simp only [aQ] at h;split at h
  ·cases h
  ·rename_i w;obtain ⟨op',l,a,b,c,d,e⟩:=J25 (call:=call) hC hi h;obtain ⟨L',M,ds',s',a',m,B,g,c',A,y⟩:=J3g hC c e;refine ⟨(p.1,{ p.2 with op:=op' })::L',(λds=>(p.1,{ p.2 with op:=Ta val s base p.2.dst op' ds }))::M,ds',s',⟨rfl,⟨op',a,rfl⟩,a'⟩,λds=>⟨rfl,λσ σ' hσ=>?_,m ds⟩,?_,λds=>?_,c',d.trans A,by simpa using y⟩
   ·exact Kak (o:={ p.2 with op:=Ta val s base p.2.dst op' ds }) (op:=op') (λr hr=>J2o hr) hσ
   all_goals
    have hx:∀op'':CQ,op''.CJ=op'.CJ->¬(op''.CJ=true/\((enc s).h (base+p.2.dst.getD 0)).isSome=true):=λop'' v hx=>by
     apply w;simp only [J9f,Ac];rw [v,a.CJ] at hx;refine ⟨hx.1,?_⟩;have hx:=hx.2;cases hl:s.has (base+p.2.dst.getD 0) with
     | true=>rfl
     | false=>
      have:(enc s).h (base+p.2.dst.getD 0)=none:=Jqj hl;rw [this] at hx;simp at hx
    simp only [Au,Mi]
   ·have hD:JW call base { p.2 with op:=op' } (enc s)=some (enc l):=by unfold JW;rw [if_neg (hx op' rfl)];exact b
    rw [hD];exact B
   ·have hD:JW call base { p.2 with op:=Ta val s base p.2.dst op' ds } (enc s)=some (enc l):=by unfold JW;rw [if_neg (hx _ (J5g s p.2.dst ds op'))];exact Kak (o:={ p.2 with op:=op' }) (λr hr=>J61 hr) b
    rw [hD];exact g ds
theorem J44{cx:Cx}(hC:Md call cx.ct){L:List (Nat×AX)}{ds:List Nat}{s:S Ty.T}{k:List (Nat×AX)->List (Nat×AX)->S Ty.T->Option α}(hi:Inv s)(h:aQ val cx base L [] [] ds s k=some r) :
  ∃L' L2 s',KW L L'/\M8 call base L' L2/\Mi call base (L'.map (·.2)) (enc s)=some (enc s')/\Mi call base (L2.map (·.2)) (enc s)=some (enc s')/\Inv s'/\On s s'/\k L' L2 s'=some r:=by obtain ⟨L',M,ds',s',a,b,c,d,e,f,g⟩:=J3g hC hi h;exact ⟨L',_,s',a,b ds',c,d ds',e,f,g⟩
end
theorem On.okV{s s':S Ty.T}(h:On s s'){v:V Ty.T}(a:Dn.okV s v):Dn.okV s' v:=λc d=>(h.ok c (a c d)).1
theorem On.AQ{s s':S Ty.T}(h:On s s'){v:V Ty.T}(a:Dn.okV s v):Dn.AQ s' v=Dn.AQ s v:=by
 have e:∀l:List (C Ty.T),(∀c∈l,FR s c)->l.map (AB s')=l.map (AB s):=λl hl=>Bt λc d=>(h.ok c (hl c d)).2;cases v with
 | c x=>exact (h.ok x (a x (Aa.2 rfl))).2
 | ag l=>exact congrArg AV.agg (e l a)
 | tp l=>
  refine congrArg AV.Cn (Bt λp f=>?_);rw [e p.2 λc d=>a c (Ao.2 ⟨p,f,d⟩)]
structure Fm where
 nt:Nat
 act:Act
 lo:Option (Nat×Loop)
 d:Nat
def MD:List Deferred->List Fm->Prop
 | _,[]=>True
 | ds,f::r=>(∀d∈ds,∃q,d={ target:=.collected q,args:=#[] }/\f.d<=q)/\(∀q,{ target:=.collected q,args:=#[] }∈f.act.defers->q<f.d)/\(∀p∈r,p.d<=f.d)/\MD f.act.defers r
theorem MD.lt:∀ {ds:List Deferred} {f:Fm} {r:List Fm},MD ds (f::r)->∀p∈f::r,∀q,({ target:=.collected q,args:=#[] }:Deferred)∈p.act.defers->q<f.d
 | ds,f,[],h,p,a,q,d=>by have:=Aa.1 a;subst this;exact h.2.1 q d
 | ds,f,g::r,h,p,a,q,d=>by
  rcases Ai.1 a with rfl|a
  ·exact h.2.1 q d
  ·exact Nat.lt_of_lt_of_le (MD.lt h.2.2.2 p a q d) (h.2.2.1 g Ae)
structure BO (nt:Nat) (w:World) (S:Nat->Prop) (s:Dn.S Ty.T) (μ:Gh) (a:Act) (fs:List Fm):Prop where
 fr:DR nt w S (enc s) μ a
 len:fs.length=s.lo.length
 lo:∀(i:Nat) (l:List (Nat×V Ty.T)) (b:Fm),s.lo[i]?=some l->fs[i]?=some b->∀d v,look d l=some v->BF w S (AA s) μ (AQ s v) (b.act.tmps.getD d undef)
 sz:∀p∈fs,Marks w S p.act.defers/\p.nt<=p.act.tmps.size/\p.d<=w.heap.size
 md:MD a.defers fs
 lp:∀p∈fs,∀j r,p.lo=some (j,r)->w.heap[μ.l j]?=some (.loop r)/\¬S (μ.l j)/\∀p'∈fs,∀i q,p'.lo=some (i,q)->i≠j->μ.l i≠μ.l j
 iv:Inv s
theorem BO.under{nt:Nat}{w w':World}{S S':Nat->Prop}{s:Dn.S Ty.T}{h':Heap}{μ μ':Gh}{a:Act}{fs:List Fm}(h:BO nt w S s μ a fs)(ev:Ci w S (AA s) μ w' S' h' μ') :
  (∀p∈fs,Marks w' S' p.act.defers/\p.nt<=p.act.tmps.size/\p.d<=w'.heap.size)/\∀p∈fs,∀j r,p.lo=some (j,r)->w'.heap[μ'.l j]?=some (.loop r)/\¬S' (μ'.l j)/\∀p'∈fs,∀i q,p'.lo=some (i,q)->i≠j->μ'.l i≠μ'.l j:=by
 refine ⟨λp d=>⟨h.fr.hp.marks (h.sz p d).1 ev,(h.sz p d).2.1,Nat.le_trans (h.sz p d).2.2 ev.size⟩,λp d j r hl=>?_⟩;obtain ⟨g,o,m⟩:=h.lp p d j r hl;have l:=h.fr.hp.PO g (by intros;simp) (by intros;simp);have f:=(By.1 g).1;rw [ev.lp];refine ⟨(ev.keep _ f l).trans g,λhs=>?_,m⟩;rcases ev.st2 _ hs with q|q|q
 ·exact o q
 ·omega
 ·exact l q
theorem BO.step{nt:Nat}{w w':World}{S S':Nat->Prop}{s s':Dn.S Ty.T}{μ μ':Gh}{a a':Act}{fs:List Fm}(h:BO nt w S s μ a fs)(ed:a'.defers=a.defers)(hs:DR nt w' S' (enc s') μ' a')(on:On s s')(iv:Inv s')
  (ev:Ci w S (AA s) μ w' S' (AA s') μ') (vv:Cj (AA s) μ (AA s') μ'):BO nt w' S' s' μ' a' fs:=
 ⟨hs,by rw [on.lo];exact h.len,λi l b hl g d v f=>by rw [on.lo] at hl;have ok:=h.iv.lo l (Av hl) (d,v) (Mg f);rw [on.AQ ok];exact (h.lo i l b hl g d v f).DK h.fr.hp ev vv,(h.under ev).1,by rw [ed];exact h.md,(h.under ev).2,iv⟩
theorem vQ{d:Nat}{v:V Ty.T}{sl:List (Nat×V Ty.T)}:∀ {n:List Nat},look d (kept sl n)=some v->look d sl=some v
 | [],h=>by cases h
 | k::r,h=>by
  simp only [kept] at h;split at h
  ·rename_i u a;rw [Q0] at h;split at h
   ·rename_i f;injection h with h;subst h;subst f;exact a
   ·exact vQ h
  ·exact vQ h
theorem Jw7{sl:List (Nat×V Ty.T)}:∀ {n:List Nat} {p:Nat×V Ty.T},p∈kept sl n->p∈sl
 | [],p,h=>by cases h
 | k::r,p,h=>by
  simp only [kept] at h;split at h
  ·rename_i u a;rcases Ai.1 h with rfl|h
   ·exact Mg a
   ·exact Jw7 h
  ·exact Jw7 h
theorem BO.push{nt nt':Nat}{w:World}{S:Nat->Prop}{s:Dn.S Ty.T}{μ:Gh}{a a':Act}{fs:List Fm}(h:BO nt w S s μ a fs){n:List Nat}{sl:List (Nat×V Ty.T)}(ok:∀p∈sl,okV s p.2)
  {lo:Option (Nat×Loop)} (B:∀j r,lo=some (j,r)->w.heap[μ.l j]?=some (.loop r)/\¬S (μ.l j)/\∀E∈fs,∀i q,E.lo=some (i,q)->i≠j->μ.l i≠μ.l j)
  (hs:DR nt' w S (enc ⟨sl,kept s.sl n::s.lo,s.ob,s.ln,s.mo⟩) μ a') (hd:a'.defers=[]):BO nt' w S ⟨sl,kept s.sl n::s.lo,s.ob,s.ln,s.mo⟩ μ a' (⟨nt,a,lo,w.heap.size⟩::fs) where
 fr:=hs
 len:=by simp [h.len]
 lo i l b hl F d v G:=by
  have e:∀v,Dn.AQ ⟨sl,kept s.sl n::s.lo,s.ob,s.ln,s.mo⟩ v=Dn.AQ s v:=λv=>by
   have e:AB ⟨sl,kept s.sl n::s.lo,s.ob,s.ln,s.mo⟩=AB s:=by funext c;cases c<;>rfl
   cases v<;>simp only [Dn.AQ,e]
  have eh:AA ⟨sl,kept s.sl n::s.lo,s.ob,s.ln,s.mo⟩=AA s:=by
   have e:AB ⟨sl,kept s.sl n::s.lo,s.ob,s.ln,s.mo⟩=AB s:=by funext c;cases c<;>rfl
   funext g;simp only [AA];cases look g s.ob with
   | none=>rfl
   | some o=>cases o<;>simp only [Be,Dn.BG,e]
  rw [e,eh];cases i with
  | zero=>
   simp only [Bk,Ap] at hl F;subst hl;subst F;have:=h.fr.fr d;have hd:=vQ G;have H:(enc s).f d=Dn.AQ s v:=by show Dn.AQ s (s.at d)=_;rw [show s.at d=v by simp [Dn.S.at,hd]]
   rw [H] at this;exact this
  | succ i=>exact h.lo i l b (by simpa using hl) (by simpa using F) d v G
 sz p m:=by
  rcases Ai.1 m with rfl|m
  ·exact ⟨h.fr.df,h.fr.sz,Ba _⟩
  ·exact h.sz p m
 md:=⟨by rw [hd];exact λd hd=>(by cases hd),λq A=>(by obtain ⟨K,e,F,-⟩:=h.fr.df.2 _ A;injection e with e;injection e with e;subst e;exact (By.1 F).1),λp m=>(h.sz p m).2.2,h.md⟩
 lp p m j r hl:=by
  rcases Ai.1 m with rfl|m
  ·refine ⟨(B j r hl).1,(B j r hl).2.1,λE f i q A y=>?_⟩;rcases Ai.1 f with rfl|f
   ·rw [hl] at A;injection A with A;injection A with J H;exact (y J.symm).elim
   ·exact (B j r hl).2.2 E f i q A y
  ·refine ⟨(h.lp p m j r hl).1,(h.lp p m j r hl).2.1,λE f i q A y=>?_⟩;rcases Ai.1 f with rfl|f
   ·exact ((B i q A).2.2 p m j r hl (Ne.symm y)).symm
   ·exact (h.lp p m j r hl).2.2 E f i q A y
 iv:=by
  refine ⟨ok,λl hl p m=>?_,h.iv.ob,h.iv.mo⟩;rcases Ai.1 hl with rfl|hl
  ·exact h.iv.sl p (Jw7 m)
  ·exact h.iv.lo l hl p m
theorem BO.pop{nt nt':Nat}{w:World}{S:Nat->Prop}{s:Dn.S Ty.T}{μ:Gh}{a a':Act}{lo0:Option (Nat×Loop)}{d0:Nat}{fs:List Fm}(h:BO nt' w S s μ a' (⟨nt,a,lo0,d0⟩::fs)):BO nt w S s.pop μ a fs:=by
 obtain ⟨sl,lo,ob,ln,mo⟩:=s;have hl:=h.len;cases lo with
 | nil=>simp at hl
 | cons l r=>
  have ec:AB ⟨sl,l::r,ob,ln,mo⟩=AB ⟨l,r,ob,ln,mo⟩:=by funext c;cases c<;>rfl
  have e:∀v,Dn.AQ ⟨sl,l::r,ob,ln,mo⟩ v=Dn.AQ ⟨l,r,ob,ln,mo⟩ v:=λv=>by cases v<;>simp only [Dn.AQ,ec]
  have eh:AA ⟨sl,l::r,ob,ln,mo⟩=AA ⟨l,r,ob,ln,mo⟩:=by
   funext g;simp only [AA];cases look g ob with
   | none=>rfl
   | some o=>cases o<;>simp only [Be,Dn.BG,ec]
  have m:BK w S (AA ⟨l,r,ob,ln,mo⟩) μ:=eh▸h.fr.hp;refine ⟨⟨λd=>?_,m,(h.sz _ Ae).1,(h.sz _ Ae).2.1⟩,(by simpa using hl:fs.length=r.length),λi y b f F d v E=>?_,λp m=>h.sz p (Ab _ m),h.md.2.2.2,λp m j r hl=>⟨(h.lp p (Ab _ m) j r hl).1,(h.lp p (Ab _ m) j r hl).2.1,λB A=>(h.lp p (Ab _ m) j r hl).2.2 B (Ab _ A)⟩,λp m=>h.iv.lo l Ae p m,λy f=>h.iv.lo y (Ab _ f),h.iv.ob,h.iv.mo⟩
  ·show BF w S (AA ⟨l,r,ob,ln,mo⟩) μ (Dn.AQ ⟨l,r,ob,ln,mo⟩ (Dn.S.at ⟨l,r,ob,ln,mo⟩ d)) _;unfold Dn.S.at;cases hd:look d l with
   | none=>exact .any _
   | some v=>
    have:=h.lo 0 l ⟨nt,a,lo0,d0⟩ rfl rfl d v hd;rw [e,eh] at this;exact this
  ·have f:r[i]?=some y:=f;have:=h.lo (i+1) y b (by simpa using f) (by simpa using F) d v E;rw [e,eh] at this;exact this
theorem Pg(m:CM)(d:Option Nat):kE [(d.getD 0,m)] d=m:=by simp [kE]
theorem J8i{P:Program}{dst:Option Nat}{op:Op}{f:FuncId}{args:List LO}(h:JI P [] dst op=some (.Cz f args))(m:CM) :
  JI P [(dst.getD 0,m)] dst op=some (match m with|.p=>.Cz f args|.z=>.Eu f args|.q=>.FN f args):=by
 cases op
 case call c=>
  simp only [JI] at h ⊢;rw [Pg]
  repeat' split at h
  all_goals first|(cases h;done)|(simp at h;done)|skip
  all_goals first|(simp only [*];done)|skip
  injection h with h;injection h with d a;subst d;subst a;rfl
 all_goals
  simp only [JI] at h
  repeat' split at h
  all_goals first|(cases h;done)|(simp at h;done)|contradiction
theorem qo{P:Program}{nt:Nat}{ops:Array Oper}{o:Oper}{x:AX}(h:comp P [] nt ops o=some x){op':CQ}(a:Alt x.op op'):∃cm,comp P cm nt ops o=some { x with op:=op' }:=by
 rcases a with rfl|⟨f,args,hx,w⟩
 ·exact ⟨[],h⟩
 ·obtain ⟨m,r⟩:∃m:CM,op'=(match m with|.p=>.Cz f args|.z=>.Eu f args|.q=>.FN f args):=by
   rcases w with rfl|rfl
   ·exact ⟨.q,rfl⟩
   ·exact ⟨.z,rfl⟩
  refine ⟨[(o.dst.getD 0,m)],?_⟩;unfold comp at h ⊢;cases l:JI P [] o.dst o.op with
  | none=>rw [l] at h;cases h
  | some lop=>
   rw [l] at h;simp only at h;have hl:lop=.Cz f args:=by
    rw [<-hx];split at h
    ·split at h
     ·injection h with h;rw [<-h]
     ·split at h
      ·split at h
       ·injection h with h;rw [<-h]
       ·cases h
      ·cases h
    ·cases h
   rw [J8i (by rw [l,hl]) m,<-r];simp only;split at h
   ·rename_i hd;rw [if_pos hd];split at h
    ·rename_i v;injection h with h;rw [<-h]
    ·rename_i j want v;split at h
     ·rename_i d y;split at h
      ·rename_i g;rw [if_pos g];injection h with h;rw [<-h]
      ·cases h
     ·cases h
   ·cases h
theorem KW.mem:∀ {L L':List (Nat×AX)},KW L L'->∀q∈L',∃p∈L,q.1=p.1/\∃op',Alt p.2.op op'/\q.2={ p.2 with op:=op' }
 | [],[],_,q,d=>by cases d
 | p::l,v::m,h,q,d=>by
  obtain ⟨r,o,g⟩:=h;rcases Ai.1 d with rfl|d
  ·exact ⟨p,Ae,r,o⟩
  ·obtain ⟨f,a,b⟩:=KW.mem g q d;exact ⟨f,Ab _ a,b⟩
 | [],_::_,h,_,_=>h.elim
 | _::_,[],h,_,_=>h.elim
theorem Rs{ro:Option Nat}{P:Program}{nt:Nat}{ops:Array Oper}{call:Vv.Call}{base:Nat}{Q:Exit->Act->World->Prop}{cx:Cx}{α:Type}{r:α}(hC:Md call cx.ct)(d:Lm P call)(M:P.follows .mixedOrders=true)
  {w:World} {S:Nat->Prop} {s:Dn.S Ty.T} {μ:Gh} {a:Act} {fs:List Fm} (h:BO nt w S s μ a fs) {id:Nat} {l:List Nat} {L:List (Nat×AX)} (R:Ip P [] nt ops l=some L) {ds:List Nat} {k:List (Nat×AX)->List (Nat×AX)->Dn.S Ty.T->Option α}
  (v:aQ val cx base L [] [] ds s k=some r) (N:∀L' L2 s',k L' L2 s'=some r->kN ops L'=true\/kN ops L2=true)
  (hQ:∀a' w' S' μ' s' L' L2,BO nt w' S' s' μ' a' fs->Ci w S (AA s) μ w' S' (AA s') μ'->k L' L2 s'=some r->Q .normal a' w'):(Code.region id ops true).wpIn (Fr ro) 0 P Q a w:=by
 obtain ⟨L',L2,s',aL,mL,O,J,iv,on,f⟩:=J44 (call:=call) hC h.iv v;have one:∀q∈L',∃(cm:List (Nat×CM)) (o:Oper),ops[q.1]?=some o/\comp P cm nt ops o=some q.2:=λq m=>by obtain ⟨p,H,K,op',al,Y⟩:=aL.mem q m;obtain ⟨o,A,y⟩:=Jr0 R p H;obtain ⟨cm,X⟩:=qo y al;exact ⟨cm,o,by rw [K];exact A,by rw [Y];exact X⟩
 rcases N _ _ _ f with hd|hd
 ·refine J7b d M h.fr (L:=L') (λq m=>?_) hd O λa' w' S' μ' F E g B=>hQ a' w' S' μ' s' L' L2 (h.step F E on iv g B) g f;obtain ⟨cm,o,A,y⟩:=one q m;exact ⟨cm,o,q.2,A,y,λ_ _ h=>h⟩
 ·refine J7b d M h.fr (L:=L2) (λq m=>?_) hd J λa' w' S' μ' F E g B=>hQ a' w' S' μ' s' L' L2 (h.step F E on iv g B) g f;obtain ⟨p,H,K,G⟩:=mL.mem q m;obtain ⟨cm,o,A,y⟩:=one p H;exact ⟨cm,o,p.2,by rw [K];exact A,y,G⟩
theorem KW.idx:∀ {l m:List (Nat×AX)},KW l m->m.map (·.1)=l.map (·.1)
 | [],[],_=>rfl
 | p::l,q::m,h=>by simp only [Au,h.1,h.2.2.idx]
 | [],_::_,h=>h.elim
 | _::_,[],h=>h.elim
theorem Jmb{P:Program}{cm:List (Nat×CM)}{nt:Nat}{ops:Array Oper}:∀ {l:List Nat} {A B:List (Nat×AX)},Ip P cm nt ops l=some (A++B)->Ip P cm nt ops (A.map (·.1))=some A/\Ip P cm nt ops (B.map (·.1))=some B
 | [],A,B,h=>by simp only [Ip,Ap] at h;obtain ⟨rfl,rfl⟩:=List.append_eq_nil_iff.1 h.symm;exact ⟨rfl,rfl⟩
 | i::l,A,B,h=>by
  unfold Ip at h;split at h
  ·rename_i o f;split at h
   ·rename_i x m hx g;injection h with h;cases A with
    | nil=>
     simp only [List.nil_append] at h;subst h;have d:=Jmb (A:=[]) (B:=m) g;refine ⟨rfl,?_⟩;simp only [Au,Ip,f,hx,d.2]
    | cons a A=>
     simp only [De,List.cons.injEq] at h;obtain ⟨rfl,rfl⟩:=h;have d:=Jmb g;refine ⟨?_,d.2⟩;simp only [Au,Ip,f,hx,d.1]
   ·cases h
  ·cases h
theorem Jy3{P:Program}{cm:List (Nat×CM)}{nt:Nat}{ops:Array Oper}:∀ {l:List Nat} {L:List (Nat×AX)},Ip P cm nt ops l=some L->∃os:List Oper,l.map (λi=>ops[i]?)=os.map some
 | [],L,h=>⟨[],rfl⟩
 | i::l,L,h=>by
  unfold Ip at h;split at h
  ·rename_i o a;split at h
   ·rename_i x m hx d;obtain ⟨os,e⟩:=Jy3 d;exact ⟨o::os,by simp [a,e]⟩
   ·cases h
  ·cases h
theorem J7a{ro:Option Nat}{P:Program}{nt:Nat}{ops:Array Oper}{call:Vv.Call}{base:Nat}{Q:Exit->Act->World->Prop}{cx:Cx}{α:Type}{r:α}(hC:Md call cx.ct)(d:Lm P call)(K:P.follows .mixedOrders=true)
  {w:World} {S:Nat->Prop} {s:Dn.S Ty.T} {μ:Gh} {a:Act} {fs:List Fm} (h:BO nt w S s μ a fs) {id:Nat} {l:List Nat} {L R:List (Nat×AX)} (X:Ip P [] nt ops l=some (L++R)) {ds:List Nat} {k:List (Nat×AX)->List (Nat×AX)->Dn.S Ty.T->Option α}
  (v:aQ val cx base L [] [] ds s k=some r) (M:∀L' L2 s',k L' L2 s'=some r->uM ops L' (R.map (·.1))=true)
  (hQ:∀a' w' S' μ' s' L' L2 os,BO nt w' S' s' μ' a' fs->Ci w S (AA s) μ w' S' (AA s') μ'->k L' L2 s'=some r->Ip P [] nt ops (R.map (·.1))=some R->(R.map (·.1)).map (λi=>ops[i]?)=os.map some->wpListIn (Fr ro) 0 P ops Q os a' w'):(Code.region id ops true).wpIn (Fr ro) 0 P Q a w:=by
 obtain ⟨L',L2,s',aL,mL,O,N,iv,on,g⟩:=J44 (call:=call) hC h.iv v;obtain ⟨hcL,hcR⟩:=Jmb X;obtain ⟨os,f⟩:=Jy3 hcR;have A:∀q∈L',∃(cm:List (Nat×CM)) (o:Oper),ops[q.1]?=some o/\comp P cm nt ops o=some q.2:=λq H=>by obtain ⟨p,J,e1,op',al,e2⟩:=aL.mem q H;obtain ⟨o,h1,Z⟩:=Jr0 hcL p J;obtain ⟨cm,Y⟩:=qo Z al;exact ⟨cm,o,by rw [e1];exact h1,by rw [e2];exact Y⟩
 have y:=M _ _ _ g;have m:∀(a':Act) (w':World) (S':Nat->Prop) (μ':Gh),a'.defers=a.defers->DR nt w' S' (enc s') μ' a'->Ci w S (enc s).h μ w' S' (enc s').h μ'->Cj (enc s).h μ (enc s').h μ'->wpListIn (Fr ro) 0 P ops Q os a' w':=
  λa' w' S' μ' G F B E=>hQ a' w' S' μ' s' L' L2 os (h.step G F on iv B E) B g hcR f
 exact N8 d K h.fr A y f O m
theorem Nz{ro:Option Nat}{P:Program}{nt:Nat}{ops:Array Oper}{call:Vv.Call}{base:Nat}{Q:Exit->Act->World->Prop}{K:Act->World->Prop}{cx:Cx}{α:Type}{r:α}(hC:Md call cx.ct)(d:Lm P call)
  {w:World} {S:Nat->Prop} {s:Dn.S Ty.T} {μ:Gh} {a:Act} {fs:List Fm} (h:BO nt w S s μ a fs) {o:Oper} {lo:AX} (E:comp P [] nt ops o=some lo) {k:CQ->Dn.S Ty.T->Option α}
  (f:pG val cx base s lo k=some r)
  (hK:∀a' w' S' μ' s' op',BO nt w' S' s' μ' a' fs->Ci w S (AA s) μ w' S' (AA s') μ'->k op' s'=some r->K a' w') :
  if Region.wanted o (yielded ops a.tmps)=true then IW ro P o a w K Q else K (a.put o.dst undef) w:=by obtain ⟨op',s',al,B,iv,on,g⟩:=J25 (call:=call) hC h.iv f;obtain ⟨cm,l⟩:=qo E al;exact uL d h.fr l B λa' w' S' μ' A y m v=>hK a' w' S' μ' s' op' (h.step A y on iv m v) m g
theorem Jyt{P:Program}{nt:Nat}{ops:Array Oper}{cm:List (Nat×CM)}{w:World}{S:Nat->Prop}{σ:St}{μ:Gh}{a:Act}{o:Oper}{lo:AX}(hs:DR nt w S σ μ a)(f:comp P cm nt ops o=some lo) :
  lo.dst=o.dst/\(lo.guard=none->Region.wanted o (yielded ops a.tmps)=true)/\∀g want,lo.guard=some (g,want) ->
   (∀b,σ.f g=.bool b->Region.wanted o (yielded ops a.tmps)=(b==want))/\(σ.f g=.Cn []->Region.wanted o (yielded ops a.tmps)=false):=by
 unfold comp at f;split at f
 ·cases f
 ·split at f
  ·split at f
   ·rename_i m;injection f with f;subst f;exact ⟨rfl,(λ_=>by simp [Region.wanted,m]),λg want e=>by cases e⟩
   ·rename_i j want m;split at f
    ·rename_i d y;split at f
     ·rename_i l;injection f with f;subst f;refine ⟨rfl,(λe=>by cases e),λg want' e=>?_⟩;injection e with e;injection e with B A;subst B;subst A;have h:=hs.fr d;refine ⟨λb v=>?_,λv=>?_⟩
      ·rw [v] at h;have r:=wF hs y l h.Ch;simp [Region.wanted,m,r,Nk]
      ·rw [v] at h;have r:=wF hs y l h.JX;simp [Region.wanted,m,r,Nk]
     ·cases f
    ·cases f
  ·cases f
inductive GR (h h':Heap) (θ:Nat->Option Nat) (R:List Nat):AV->AV->Prop
 | any (x:AV):GR h h' θ R x .any
 | snap {x u y:AV} {ns:List Nat} (k:Nat) (hs:Vv.snap h k x=some (u,ns)) (hn:∀g∈ns,g∈R) (hu:Up u y):GR h h' θ R x y
 | arr {g v off len n v':Nat} {o o':AZ} (ho:h g=some o) (ho':h' n=some o') (hv:v'<=o'.ver) (hθ:θ n=some g)
   (hc:v'=o'.ver->v=o.ver/\∀e el c z,o=.arr v e el c z->∃c' z',o'=.arr v' e el c' z'/\(c=[]↔c'=[])):GR h h' θ R (.arr g v off len) (.arr n v' off len)
 | ptr {g v off n v':Nat} {o o':AZ} (ho:h g=some o) (ho':h' n=some o') (hv:v'<=o'.ver) (hθ:θ n=some g) (hc:v'=o'.ver->v=o.ver):GR h h' θ R (.ptr g v off) (.ptr n v' off)
 | map {g v n v':Nat} {o o':AZ} (ho:h g=some o) (ho':h' n=some o') (hv:v'<=o'.ver) (hθ:θ n=some g) (hc:v'=o'.ver->v=o.ver):GR h h' θ R (.map g v) (.map n v')
 | same (x:AV) (hθ:θ=some) (hk:∀g o,h g=some o->∃o',h' g=some o'/\o'.ver=o.ver/\o.like o'):GR h h' θ R x x
 | Hf (j:Nat):GR h h' θ R (.Hf j) (.Hf j)
 | new {n v' e:Nat} {el:TypeId} {z:Bool} (ho':h' n=some (.arr v' e el [] z)):GR h h' θ R .BM (.arr n v' 0 0)
 | fn (f:FuncId) (l l':List AV) (hl:l.length=l'.length) (hg:∀(i:Nat) (x y:AV),l[i]?=some x->l'[i]?=some y->GR h h' θ R x y):GR h h' θ R (.fn f l) (.fn f l')
 | agg (l l':List AV) (hl:l.length=l'.length) (hg:∀(i:Nat) (x y:AV),l[i]?=some x->l'[i]?=some y->GR h h' θ R x y):GR h h' θ R (.agg l) (.agg l')
 | Cn (l l':List AV) (hl:l.length=l'.length) (hg:∀(i:Nat) (x y:AV),l[i]?=some x->l'[i]?=some y->GR h h' θ R x y):GR h h' θ R (.Cn l) (.Cn l')
structure Ev (h h':Heap) (θ:Nat->Option Nat) (R:List Nat) (l l':List AV):Prop where
 len:l.length=l'.length
 at':∀(i:Nat) (x y:AV),l[i]?=some x->l'[i]?=some y->GR h h' θ R x y
section
variable {h h':Heap} {θ:Nat->Option Nat} {R:List Nat}
theorem GR.flat{x:AV}(d:x.flat=true):GR h h' θ R x x:=.snap 1 (wH h 0 x d) (λg a=>by cases a) (.refl x)
theorem Ev.nil:Ev h h' θ R [] []:=⟨rfl,λi x y hx=>by simp at hx⟩
theorem Ev.cons{x y:AV}{l g:List AV}(hx:GR h h' θ R x y)(m:Ev h h' θ R l g):Ev h h' θ R (x::l) (y::g):=
 ⟨by simp [m.len],λi a b f d=>by
  cases i with
  | zero=>simp at f d;subst f;subst d;exact hx
  | succ i=>exact m.at' i a b (by simpa using f) (by simpa using d)⟩
theorem Ev.append{a b c d:List AV}(f:Ev h h' θ R a c)(l:Ev h h' θ R b d):Ev h h' θ R (a++b) (c++d):=by
 refine ⟨by simp [f.len,l.len],λi x y hx g=>?_⟩;by_cases hi:i<a.length
 ·rw [Da hi] at hx;rw [Da (by rw [<-f.len];exact hi)] at g;exact f.at' i x y hx g
 ·rw [Bz (by omega)] at hx;rw [Bz (by rw [<-f.len];omega)] at g;exact l.at' _ x y hx (by rw [f.len];exact g)
theorem Ev.set{a b:List AV}{x y:AV}(hl:Ev h h' θ R a b)(hx:GR h h' θ R x y)(i:Nat):Ev h h' θ R (a.set i x) (b.set i y):=by
 refine ⟨by simp [hl.len],λj u v f d=>?_⟩;rw [List.getElem?_set] at f d;by_cases g:i=j
 ·rw [if_pos g] at f d;split at f
  ·split at d
   ·injection f with f;injection d with d;subst f;subst d;exact hx
   ·cases d
  ·cases f
 ·rw [if_neg g] at f d;exact hl.at' j u v f d
theorem Ev.flat{l:List AV}(d:l.all AV.flat=true):Ev h h' θ R l l:=
 ⟨rfl,λi x y hx a=>by rw [hx] at a;injection a with a;subst a;exact .flat (Ah.1 d x (Av hx))⟩
theorem Ev.map{α:Type}{f f':α->AV}{l:List α}(a:∀x∈l,GR h h' θ R (f x) (f' x)):Ev h h' θ R (l.map f) (l.map f'):=by
 induction l with
 | nil=>exact .nil
 | cons x l d=>exact .cons (a x Ae) (d λy g=>a y (Ab _ g))
theorem Ev.ZB{k:Nat}{L U:List AV}{N:List Nat}(hs:FP h k L U N)(hN:∀g∈N,(∃o,h g=some o/\o.freeze.fz=true)->g∈R):Ev h h' θ R L U:=by obtain ⟨ps,A,l,w⟩:=hs;obtain ⟨r,m⟩:=Tk A;refine ⟨by rw [<-l.len];simp [r],λi x y hx v=>?_⟩;obtain ⟨p,d,a⟩:=m i x hx;refine .snap k (u:=p.1) (ns:=p.2) a (λg f=>hN g ?_ (iq k (u:=p.1) (ns:=p.2) a g f)) (l.at' i p.1 y (by simp [d]) v);exact (w g).1 (Ao.2 ⟨p,Av d,f⟩)
end
inductive GO (h h':Heap) (θ:Nat->Option Nat) (R:List Nat) (g:Nat):AZ->AZ->Prop
 | box {v v':Nat} {c c':List AV} (hc:Ev h h' θ R c c'):GO h h' θ R g (.box v c) (.box v' c')
 | arr {v v' e:Nat} {el:TypeId} {z z':Bool} {c c':List AV} (hc:Ev h h' θ R c c') (hz:z'=true->z=true\/g∈R) (hz2:z=true->z'=true):GO h h' θ R g (.arr v e el c z) (.arr v' e el c' z')
 | map {v v':Nat} {es es':List (AV×AV)} (hl:es'.length=es.length) (hk:∀(i:Nat) (p q:AV×AV),es[i]?=some p->es'[i]?=some q->q.1=p.1/\GR h h' θ R p.2 q.2):GO h h' θ R g (.map v es false) (.map v' es' false)
structure GS (h h':Heap) (θ:Nat->Option Nat) (R:List Nat):Prop where
 ob:∀n o',h' n=some o'->(∃v e el z,o'=.arr v e el [] z)\/∃g o,θ n=some g/\h g=some o/\GO h h' θ R g o o'
 inj:∀n n' g,θ n=some g->θ n'=some g->(h' n).isSome=true->(h' n').isSome=true->n=n'
 own:∀n g o',θ n=some g->h' n=some o'->o'.fz=false->o'.live=true->g∉R
 nm:∀g∈R,∃o,h g=some o/\o.freeze.fz=true
theorem zd{α:Type}{l a:List α}(h:l.length=a.length):l=[]↔a=[]:=by cases l<;>cases a<;>simp at h ⊢
theorem GO.fz{h h':Heap}{θ:Nat->Option Nat}{R:List Nat}{x:Nat}{o o':AZ}(g:GO h h' θ R x o o'):(o'.fz=false->o.fz=false)/\o.live=o'.live:=by
 cases g with
 | box d=>exact ⟨λ_=>rfl,rfl⟩
 | map hl r=>exact ⟨λ_=>rfl,rfl⟩
 | @arr v l e el z f c c' d m a=>
  refine ⟨λq=>?_,?_⟩
  ·simp only [AZ.fz] at q ⊢;cases z with
   | false=>rfl
   | true=>rw [a rfl] at q;cases q
  have:=zd d.len;cases c<;>cases c'<;>simp_all [AZ.live]
def Gh.via(μ:Gh)(θ:Nat->Option Nat):Gh:=⟨λn=>match θ n with|some g=>μ.b g|none=>0,λn=>match θ n with|some g=>μ.o g|none=>0,μ.l⟩
theorem XZ{μ:Gh}{θ:Nat->Option Nat}{n g:Nat}(h:θ n=some g):(Gh.via μ θ).b n=μ.b g:=by simp [Gh.via,h]
theorem L8{μ:Gh}{θ:Nat->Option Nat}{n g:Nat}(h:θ n=some g):(Gh.via μ θ).o n=μ.o g:=by simp [Gh.via,h]
section
variable {w:World} {S:Nat->Prop} {h h':Heap} {μ:Gh} {θ:Nat->Option Nat} {R:List Nat}
theorem GR.rep(E:BK w S h μ){S':Nat->Prop}(hS:∀b,S b->S' b)(hm:Met S' h μ R)(ev:Ci w S h μ w S' h' (Gh.via μ θ)):∀ {x y:AV},GR h h' θ R x y->∀ {v:Value},BF w S h μ x v->BF w S' h' (Gh.via μ θ) y v:=by
 intro x y g
 induction g with
 | any x=>exact λ_=>.any _
 | snap k hs hn hu=>exact λhr=>.pure (hu.rep (iw E hS k hs hr λg X=>hm g (hn g X)))
 | @arr g v off len n H o o' J m N hθ O=>
  intro cv hr;cases hr with
  | pure E=>cases E
  | arr _ _ _ _ _ Z d M B A=>
   rw [J] at d;injection d with d;subst d;refine .arr n H off len cv o' m N B λe=>?_;obtain ⟨e1,Y⟩:=O e;obtain ⟨esz,el,cells,fz,eo,Q⟩:=A e1;obtain ⟨c',z',eo',G⟩:=Y esz el cells fz eo;refine ⟨esz,el,c',z',eo',?_⟩;rw [XZ hθ,L8 hθ];exact ⟨λq=>Q.1 (G.2 q),λq=>Q.2 λp=>q (G.1 p)⟩
 | @ptr g v off n H o o' J m N hθ O=>
  intro cv hr;cases hr with
  | pure E=>cases E
  | ptr _ _ _ _ Z d M B A=>
   rw [J] at d;injection d with d;subst d;exact .ptr n H off cv o' m N B λe=>by rw [XZ hθ,L8 hθ];exact A (O e)
 | @map g v n H o o' J m N hθ O=>
  intro cv hr;cases hr with
  | pure E=>cases E
  | map _ _ _ Z d M B A=>
   rw [J] at d;injection d with d;subst d;exact .map n H cv o' m N B λe=>by rw [XZ hθ];exact A (O e)
 | Hf j=>
  intro cv hr;cases hr with
  | pure E=>cases E
  | Hf=>exact .Hf j
 | same x hθ Q=>
  intro cv hr;refine hr.DK E ev λg o J=>?_;obtain ⟨o',a,b,c⟩:=Q g o J;exact ⟨o',a,by omega,λ_=>⟨⟨XZ (by rw [hθ]),L8 (by rw [hθ])⟩,c⟩⟩
 | @new n H e el z m=>
  intro cv hr;have:=hr.Cg;subst this;exact .arr n H 0 0 _ _ m (Ba _) rfl λ_=>⟨e,el,[],z,rfl,λ_=>⟨rfl,rfl,none,rfl⟩,λq=>(q rfl).elim⟩
 | fn f l F hl X L=>
  intro cv hr;obtain ⟨cs,rfl,P,K⟩:=hr.FU;refine .fn f F cs (by rw [<-hl];exact P) λi y r=>?_;obtain ⟨x,hx⟩:∃x,l[i]?=some x:=by have:i<F.length:=(Ad.1 r).1;exact ⟨_,Ag (by omega)⟩
  exact L i x y hx r (K i x hx)
 | agg l F hl X L=>
  intro cv hr;obtain ⟨cs,rfl,P,K⟩:=hr.CP;have key:∀i y,F[i]?=some y->∃x,l[i]?=some x:=λi y r=>by have:i<F.length:=(Ad.1 r).1;exact ⟨_,Ag (by omega)⟩
  refine .agg F cs (by rw [<-hl];exact P) (λi y r=>?_) λi y r=>?_
  ·obtain ⟨x,hx⟩:=key i y r;exact (K i x hx).2
  ·obtain ⟨x,hx⟩:=key i y r;exact L i x y hx r (K i x hx).1
 | Cn l F hl X L=>
  intro cv hr;obtain ⟨cs,rfl,P,K⟩:=hr.FY;refine .Cn F cs (by rw [<-hl];exact P) λi y r=>?_;obtain ⟨x,hx⟩:∃x,l[i]?=some x:=by have:i<F.length:=(Ad.1 r).1;exact ⟨_,Ag (by omega)⟩
  exact L i x y hx r (K i x hx)
theorem Ev.holds(f:BK w S h μ){S':Nat->Prop}(hS:∀b,S b->S' b)(l:Met S' h μ R)(ev:Ci w S h μ w S' h' (Gh.via μ θ)){c c':List AV}(g:Ev h h' θ R c c'){o:Nat}{cs:Array Value}(d:Cv w S h μ o c cs):Cv w S' h' (Gh.via μ θ) o c' cs:=by
 intro i y a;obtain ⟨x,hx⟩:∃x,c[i]?=some x:=by have:i<c'.length:=(Ad.1 a).1;exact ⟨_,Ag (by rw [g.len];omega)⟩
 exact ⟨(g.at' i x y hx a).rep f hS l ev (d i x hx).1,(d i x hx).2⟩
theorem J3r(d:BK w S h μ)(gs:GS h h' θ R):∃S':Nat->Prop,BK w S' h' (Gh.via μ θ)/\Ci w S h μ w S' h' (Gh.via μ θ)/\∀ {x y:AV},GR h h' θ R x y->∀ {v:Value},BF w S h μ x v->BF w S' h' (Gh.via μ θ) y v:=by
 obtain ⟨f1,f2,f3⟩:=vg d gs.nm;have hS:∀b,S b->(λb=>S b\/MW h μ R b) b:=λb Y=>.inl Y;have G:Met (λb=>S b\/MW h μ R b) h μ R:=λg K o a hl=>.inr ⟨g,K,o,a,hl,rfl⟩;have old:∀n o',h' n=some o'->o'.live=true->∃g o,θ n=some g/\h g=some o/\GO h h' θ R g o o':=λn o' a hl=>by
  rcases gs.ob n o' a with ⟨v,e,el,z,rfl⟩|hx
  ·cases hl
  ·exact hx
 have ev:Ci w S h μ w (λb=>S b\/MW h μ R b) h' (Gh.via μ θ):=by refine ⟨rfl,rfl,⟨rfl,Ba _⟩,Ba _,λ_ _ _=>rfl,λ_ cs _ _ l=>⟨cs,l,rfl⟩,λb Y=>.inl Y,f2.st2,?_,rfl⟩;rintro b ⟨n,o',a,B,hl,e⟩;obtain ⟨g,x,m,A,t3⟩:=old n o' a hl;exact .inl ⟨g,x,A,t3.fz.1 B,t3.fz.2▸hl,by rw [<-e,XZ m]⟩
 refine ⟨λb=>S b\/MW h μ R b,⟨λn o' a=>?_,λn n' o o' h1 h2 l1 l2 e=>?_,λn o' a B hl=>?_,f1.lt⟩,ev,λg _ hr=>g.rep d hS G ev hr⟩
 ·rcases gs.ob n o' a with ⟨v,e,el,z,rfl⟩|⟨g,o,hθ,K,go⟩
  ·exact λq=>(q rfl).elim
  ·have r:=d.ob g o K;rw [XZ hθ,L8 hθ];cases go with
   | box l=>
    obtain ⟨cs,el,J,E,L⟩:=r;exact ⟨cs,el,J,by rw [<-l.len];exact E,l.holds d hS G ev L⟩
   | @map v v' es es' hl hk=>
    obtain ⟨mes,clock,J,E,L,b4⟩:=r;refine ⟨mes,clock,J,⟨by rw [hl];exact E.1,E.2⟩,(λq=>by cases q),λi k v hi=>?_⟩;have H:i<es.length:=by have:=(Ad.1 hi).1;omega
    obtain ⟨Z,e2⟩:=hk i es[i] (k,v) (Ag H) hi;obtain ⟨e,c1,c2,c3⟩:=b4 i es[i].1 es[i].2 (Ag H);have Z:k=es[i].1:=Z;exact ⟨e,c1,by rw [Z];exact c2.mono hS (λ_ _=>rfl),e2.rep d hS G ev c3⟩
   | arr l B hz2=>
    intro P;have f:=λq=>P ((zd l.len).1 q);obtain ⟨cs,J,E,L,b4⟩:=r f;refine ⟨cs,J,by rw [<-l.len];exact E,l.holds d hS G ev L,λq=>?_⟩;rcases B q with q|q
    ·exact .inl (b4 q)
    ·exact G g q _ K (Qj.2 f)
 ·obtain ⟨g,x,m,A,t3⟩:=old n o h1 l1;obtain ⟨g',x',F,N,M⟩:=old n' o' h2 l2;rw [XZ m,XZ F] at e;have:=d.inj g g' x x' A N (t3.fz.2▸l1) (M.fz.2▸l2) e;subst this;exact gs.inj n n' g m F (by rw [h1];rfl) (by rw [h2];rfl)
 ·obtain ⟨g,x,m,A,t3⟩:=old n o' a hl;rw [XZ m];rintro (hs|⟨g2,X,o2,O,Q,e⟩)
  ·exact d.own g x A (t3.fz.1 B) (t3.fz.2▸hl) hs
  ·have:=d.inj g2 g o2 x O A Q (t3.fz.2▸hl) e;subst this;exact gs.own n _ o' m a B hl X
end
structure GF (s s':S Ty.T) (θ:Nat->Option Nat) (R:List Nat):Prop where
 gs:GS (AA s) (AA s') θ R
 sl:∀d v,look d s'.sl=some v->GR (AA s) (AA s') θ R (AQ s (s.at d)) (AQ s' v)
 len:s'.lo.length=s.lo.length
 lo:∀(i:Nat) (l l':List (Nat×V Ty.T)) (d:Nat) (v':V Ty.T),s.lo[i]?=some l->s'.lo[i]?=some l'->look d l'=some v'->GR (AA s) (AA s') θ R (AQ s ((look d l).getD (.c .any))) (AQ s' v')
 iv:Inv s'
theorem BO.ghost{nt:Nat}{w:World}{S:Nat->Prop}{s s':Dn.S Ty.T}{μ:Gh}{a:Act}{fs:List Fm}{θ:Nat->Option Nat}{R:List Nat}(h:BO nt w S s μ a fs)(g:GF s s' θ R) :
  ∃S' μ',BO nt w S' s' μ' a fs/\Ci w S (AA s) μ w S' (AA s') μ':=by
 obtain ⟨S',E,m,r⟩:=J3r h.fr.hp g.gs;refine ⟨S',_,⟨⟨λd=>?_,E,h.fr.hp.marks h.fr.df m,h.fr.sz⟩,by rw [g.len];exact h.len,λi F b f G d B y=>?_,(h.under m).1,h.md,(h.under m).2,g.iv⟩,m⟩
 ·show BF _ _ _ _ (AQ s' (s'.at d)) _;unfold Dn.S.at;cases hd:look d s'.sl with
  | none=>exact .any _
  | some v=>exact r (g.sl d v hd) (h.fr.fr d)
 ·obtain ⟨l,hl⟩:∃l,s.lo[i]?=some l:=by have:i<s'.lo.length:=(Ad.1 f).1;exact ⟨_,Ag (by rw [<-g.len];exact this)⟩
  have o:=g.lo i l F d B hl f y;cases A:look d l with
  | none=>rw [A] at o;exact r o (.any _)
  | some v=>rw [A] at o;exact r o (h.lo i l b hl G d v A)
section
variable {s:S Ty.T} {h':Heap} {θ:Nat->Option Nat} {R:List Nat}
theorem J5j{l:List AV}(h:l.all AV.flat=true):zk l=.any\/(zk l).flat=true:=by
 match l,h with
 | [],_=>exact .inl rfl
 | [x],h=>exact .inr (by simpa [zk] using h)
 | _::_::_,_=>exact .inl rfl
theorem GR.one{h:Heap}{t:Ty}(x:t.T):GR h h' θ R (zk (t.cs x)) (zk (t.cs x)):=by
 rcases J5j (aP t x) with e|e
 ·rw [e];exact .any _
 ·exact .flat e
theorem Juc{t:Ty}{c:C Ty.T}{x:t.T}(h:HV val t c=some x)(a:t.one=false):c=.lf t x:=by
 unfold HV at h;split at h
 ·obtain ⟨rfl,rfl⟩:=Y7 h;rfl
 ·obtain ⟨rfl,_⟩:=Y7 h;cases a
 ·cases h
theorem Kbc{n:Nat}{t:Ty}{c:C Ty.T}{x:t.T}(h:Eo val s.ob n t c=some x)(a:t.one=false):c=.lf t x:=by
 cases n with
 | zero=>exact Juc h a
 | succ n=>
  simp only [Eo] at h;split at h
  ·split at h
   ·cases a
   ·cases h
  ·split at h
   ·cases a
   ·cases h
  ·exact Juc h a
theorem J9m{n:Nat}{t:Ty}{c:C Ty.T}{x:t.T}(h:Eo val s.ob n t c=some x)(hN:∀g∈Kw s.ob n c,(∃o,AA s g=some o/\o.freeze.fz=true)->g∈R):GR (AA s) h' θ R (AB s c) (zk (t.cs x)):=by
 cases f:t.one with
 | false=>
  have:=Kbc h f;subst this;exact .one x
 | true=>
  obtain ⟨u,ns,a,b,d⟩:=lX n (n+1) (Ba _) t c x f h;refine .snap (n+1) a (λg l=>hN g ((d g).1 l) (iq _ (u:=u) (ns:=ns) a g l)) ?_;rw [pW f x] at b;exact b.at' 0 u _ rfl rfl
theorem P8{n:Nat}{t:Ty}{v:t.T}:Eo val s.ob n t (.lf t v)=some v:=by cases n<;>simp [Eo,HV,cast?]
theorem Job{ob:List (Nat×Ob Ty.T)}{n:Nat}:∀(t:Ty) (v:t.T) (c:C Ty.T),c∈expl val t v->Kw ob n c=[]
 | .u,v,c,h=>by cases h
 | .p a b,v,c,h=>by
  simp only [expl] at h;rcases Bb.1 h with h|h
  ·exact Job a _ c h
  ·exact Job b _ c h
 | .int k,v,c,h=>by simp only [expl,Aa] at h;subst h;exact iX _ _ _ _
 | .bool,v,c,h=>by simp only [expl,Aa] at h;subst h;exact iX _ _ _ _
 | .str,v,c,h=>by simp only [expl,Aa] at h;subst h;exact iX _ _ _ _
 | .ls t,v,c,h=>by simp only [expl,Aa] at h;subst h;exact iX _ _ _ _
 | .bf f t,v,c,h=>by simp only [expl,Aa] at h;subst h;exact iX _ _ _ _
section
variable {lw:(t:Ty)->C Ty.T->Option t.T} (hl:∀(t:Ty) (v:t.T),lw t (.lf t v)=some v)
include hl
theorem vX:∀(t:Ty) (v:t.T) (r:List (C Ty.T)),impl val lw t (expl val t v++r)=some (v,r)
 | .u,v,r=>rfl
 | .p a b,v,r=>by simp only [expl,impl,Bo];rw [vX a];simp only [Aq];rw [vX b];rfl
 | .int k,v,r=>by simp [expl,impl,hl]
 | .bool,v,r=>by simp [expl,impl,hl]
 | .str,v,r=>by simp [expl,impl,hl]
 | .ls t,v,r=>by simp [expl,impl,hl]
 | .bf f t,v,r=>by simp [expl,impl,hl]
theorem Jxf{l:Ty}{c:C Ty.T}{y:l.T}(g:lw l c=some y):∀(t:Ty) (v:t.T) (off:Nat),Hg t off=some l->off<t.sz/\∃x,∀r,impl val lw t ((expl val t v).set off c++r)=some (x,r)
 | .u,v,off,h=>by cases h
 | .p a b,v,off,h=>by
  simp only [Hg] at h;split at h
  ·rename_i m;obtain ⟨o,x,hx⟩:=Jxf g a (val.fs v) off h;refine ⟨by simp only [Ty.sz];omega,val.pr x (val.sn v),λr=>?_⟩;simp only [expl];rw [List.set_append_left _ _ (by rw [Tj];exact m),Bo];simp only [impl];rw [hx];simp only [Aq];rw [vX hl b];rfl
  ·rename_i m;obtain ⟨o,x,hx⟩:=Jxf g b (val.sn v) (off - a.sz) h;refine ⟨by simp only [Ty.sz];omega,val.pr (val.fs v) x,λr=>?_⟩;simp only [expl];rw [Br _ _ (by rw [Tj];omega),Bo,Tj];simp only [impl];rw [vX hl a];simp only [Aq];rw [hx];rfl
 | .int k,v,off,h=>by
  simp only [Hg] at h;split at h
  ·rename_i d;subst d;injection h with h;subst h;exact ⟨Bj,y,λr=>by simp [expl,impl,g]⟩
  ·cases h
 | .bool,v,off,h=>by
  simp only [Hg] at h;split at h
  ·rename_i d;subst d;injection h with h;subst h;exact ⟨Bj,y,λr=>by simp [expl,impl,g]⟩
  ·cases h
 | .str,v,off,h=>by
  simp only [Hg] at h;split at h
  ·rename_i d;subst d;injection h with h;subst h;exact ⟨Bj,y,λr=>by simp [expl,impl,g]⟩
  ·cases h
 | .ls t,v,off,h=>by
  simp only [Hg] at h;split at h
  ·rename_i d;subst d;injection h with h;subst h;exact ⟨Bj,y,λr=>by simp [expl,impl,g]⟩
  ·cases h
 | .bf f t,v,off,h=>by
  simp only [Hg] at h;split at h
  ·rename_i d;subst d;injection h with h;subst h;exact ⟨Bj,y,λr=>by simp [expl,impl,g]⟩
  ·cases h
end
theorem Jpf{α:Type}(f:α->α)(x:α):∀l:List α,Zw (l++[x]) f=l++[f x]
 | []=>rfl
 | [y]=>rfl
 | y::z::l=>by have:=Jpf f x (z::l);simp only [De] at this;simp only [De,Zw];rw [this]
theorem Jro{α:Type}(f:α->α):∀l:List α,(Zw l f).length=l.length
 | []=>rfl
 | [y]=>rfl
 | y::z::l=>by have:=Jro f (z::l);simp only [Zw,Dc] at this ⊢;omega
theorem yK{n:Nat}{t:Ty}{l l0:List t.T}{nest:Option (Nat×C Ty.T)}(h:Mq val (Eo val s.ob n) t l nest=some l0)(hN:∀p,nest=some p->∀g∈Kw s.ob n p.2,(∃o,AA s g=some o/\o.freeze.fz=true)->g∈R) :
  l0.length=l.length/\Ev (AA s) h' θ R (Zs (l.flatMap t.cs) l.length t.sz (AB s) nest) (l0.flatMap t.cs):=by
 cases nest with
 | none=>
  injection h with h;subst h;exact ⟨rfl,.flat (Mh t l)⟩
 | some p=>
  obtain ⟨off,c⟩:=p;simp only [Mq] at h;cases f:Hg t off with
  | none=>rw [f] at h;cases h
  | some E=>
   rw [f] at h;simp only [Aq] at h;cases r:Eo val s.ob n E c with
   | none=>rw [r] at h;cases h
   | some y=>
    rw [r] at h;simp only [Aq] at h;injection h with h;subst h;refine ⟨Jro _ l,?_⟩;rcases List.eq_nil_or_concat l with rfl|⟨i,x,rfl⟩
    ·exact .nil
    ·rw [List.concat_eq_append];obtain ⟨N,z,B⟩:=Jxf (lw:=Eo val s.ob n) (λt v=>P8) r t x off f;have L:JZ val (Eo val s.ob n) t off c x=z:=by have:=B [];rw [Am] at this;simp only [JZ,this]
     have K:(show List t.T from val.ml (t:=t) (i++[x]) (JZ val (Eo val s.ob n) t off c))=i++[z]:=by show Zw (i++[x]) _=_;rw [Jpf,L]
     rw [show val.ml (t:=t) (i++[x]) (JZ val (Eo val s.ob n) t off c)=i++[z] from K];have J:Zs ((i++[x]).flatMap t.cs) (i++[x]).length t.sz (AB s) (some (off,c))=i.flatMap t.cs++(t.cs x).set off (AB s c):=by simp only [Zs,Ax,Aw,Df,Am,Ay,Dc,List.length_nil,Dg,Nat.add_sub_cancel];rw [Br _ _ (by rw [Kj];omega),Kj,Bn]
     rw [J,Ax];refine .append (.flat (Mh t i)) ?_;simp only [Aw,Df,Am];obtain ⟨M,A,w⟩:=qz (lX (s:=s) n (n+1) (Ba _)) t (B []);rw [Am,Am] at A;subst A;have H:((expl val t x).set off c).map (AB s)=(t.cs x).set off (AB s c):=by rw [List.map_set,Yx]
     rw [H] at w;refine .ZB w λg G d=>?_;obtain ⟨c',m,a⟩:=Ao.1 G;rcases Db m with F|e
     ·rw [Job t x c' F] at a;cases a
     ·rw [e] at a;exact hN _ rfl g a d
end
theorem J18{h h':Heap}{θ:Nat->Option Nat}{R:List Nat}{kt vt:Ty}{es:List (kt.T×vt.T)}{i:Nat}{p:AV×AV}(a:(Cq kt vt es)[i]?=some p):GR h h' θ R p.2 p.2:=by
 unfold Cq at a;rw [Bc] at a;obtain ⟨e,-,rfl⟩:=Option.map_eq_some_iff.1 a;show GR h h' θ R (EA vt e.2) (EA vt e.2);unfold EA;split
 ·have:=Ev.flat (h:=h) (h':=h') (θ:=θ) (R:=R) (Mh vt [e.2]);simp only [Aw,Df,Am] at this;exact .agg _ _ this.len this.at'
 ·exact .one e.2
def EW(h:Heap)(g:Nat):Bool:=match h g with
 | some o=>o.freeze.fz
 | none=>false
theorem S9{h:Heap}{g:Nat}:EW h g=true↔∃o,h g=some o/\o.freeze.fz=true:=by
 unfold EW;cases h g with
 | none=>simp
 | some o=>simp
theorem qd{x:Nat}:∀ {l:List Nat},FL x l=true↔x∈l
 | []=>by simp [FL]
 | y::r=>by
  simp only [FL];cases h:Nat.beq x y with
  | true=>have:=Bd h;subst this;simp
  | false=>
   have:x≠y:=λe=>by subst e;simp at h
   simp [qd,this]
theorem xB{g:Nat}:∀ {ns:List Nat} {s:S Ty.T},g∉ns->look g (Qi s ns).ob=look g s.ob
 | [],s,_=>rfl
 | k::r,s,h=>by
  have a:g∉r:=λq=>h (Ab _ q);have d:k≠g:=λq=>h (q▸Ae);simp only [Qi];split
  ·rw [xB a,Qv,if_neg d]
  ·rw [xB a,Qv,if_neg d]
  ·exact xB a
section
variable {nt:Nat} {w:World} {S:Nat->Prop} {s:Dn.S Ty.T} {μ:Gh} {a:Act} {fs:List Fm}
theorem J1q(h:BO nt w S s μ a fs){g v e:Nat}{el:TypeId}{z:Bool}{o o':Ob Ty.T}{ns:List Nat}{c c':List AV}(L:look g s.ob=some o)(hg:g∉ns)(Z:∀g∈ns,∃o,look g s.ob=some o)(hv:o'.ver=o.ver)(hl:o'.CO=o.CO)
  (he:BG s o=.arr v e el c z) (he':∀s',CX s s'->BG s' o'=.arr v e el c' z) (hk:CZ s o'.kids)
  (Q:∀h':Heap,(∀g o,AA s g=some o->∃o',h' g=some o'/\o'.ver=o.ver/\o.like o')->Ev (AA s) h' some (ns.filter (EW (AA s))) c c') :
  ∃S' μ',BO nt w S' ((Qi s ns).obj g o') μ' a fs/\Ci w S (AA s) μ w S' (AA ((Qi s ns).obj g o')) μ':=by
 obtain ⟨f1,f2,f3⟩:=lT ns h.iv Z;have st2:CX (Qi s ns) ((Qi s ns).obj g o'):=Mf λo0 R=>by rw [xB hg,L] at R;injection R with R;subst R;exact ⟨hv.symm,hl.symm⟩
 have st:=f1.trans st2;have M:∀F,look F ((Qi s ns).obj g o').ob=if g=F then some o' else look F (Qi s ns).ob:=λF=>Qv g F o';have iv:=NJ f2 st2 M (λx hx=>((st.ok x (hk x hx)).1)) (by rw [Jty];exact h.iv.free L);have P:=NM f2 st2 M;rw [f3,he' _ st] at P;have N:AA s g=some (.arr v e el c z):=by rw [Jn L,he]
 have lenc:∀h':Heap,(∀g o,AA s g=some o->∃o',h' g=some o'/\o'.ver=o.ver/\o.like o')->c.length=c'.length:=λh' q=>(Q h' q).len;have lenc:c.length=c'.length:=lenc (AA s) λg o L=>⟨o,L,rfl,.refl o⟩;have keep:∀J r,AA s J=some r->∃B,AA ((Qi s ns).obj g o') J=some B/\B.ver=r.ver/\r.like B:=λJ r f=>by
  rw [P];by_cases A:J=g
  ·subst A;rw [N] at f;injection f with f;subst f;exact ⟨_,Jj _ _ _,rfl,rfl,rfl,zd lenc⟩
  ·rw [Je _ _ _ _ A];unfold Jl;split
   ·rw [f];exact ⟨r.freeze,rfl,Ju2 r,Jsn r⟩
   ·exact ⟨r,f,rfl,.refl r⟩
 have Q:=Q _ keep;have gs:GS (AA s) (AA ((Qi s ns).obj g o')) some (ns.filter (EW (AA s))):=by
  refine ⟨λn r f=>?_,λn n' F f m _ _=>?_,λn F r f m h3 h4=>?_,λF hg'=>S9.1 (Aj.1 hg').2⟩
  ·right;have same:∀x,GR (AA s) (AA ((Qi s ns).obj g o')) some (ns.filter (EW (AA s))) x x:=λx=>.same x rfl keep;have sameL:∀l,Ev (AA s) (AA ((Qi s ns).obj g o')) some (ns.filter (EW (AA s))) l l:=λl=>⟨rfl,λi x y hx O=>by rw [hx] at O;injection O with O;subst O;exact same x⟩;rw [P] at f;by_cases A:n=g
   ·subst A;rw [Jj] at f;injection f with f;subst f;exact ⟨n,_,rfl,N,.arr Q (λq=>.inl q) λq=>q⟩
   ·rw [Je _ _ _ _ A] at f;unfold Jl at f;split at f
    ·rename_i H;cases m:AA s n with
     | none=>rw [m] at f;cases f
     | some B=>
      rw [m] at f;injection f with f;subst f;refine ⟨n,B,rfl,m,?_⟩;cases B with
      | box v1 G=>exact .box (sameL G)
      | arr v1 A t1 G K=>exact .arr (sameL G) (λ_=>.inr (Aj.2 ⟨H,S9.2 ⟨_,m,rfl⟩⟩)) (λ_=>rfl)
      | map v1 A K=>
       have:K=false:=J4y m;subst this;exact .map rfl λi p q Y E=>by rw [Y] at E;injection E with E;subst E;exact ⟨rfl,same _⟩
    ·refine ⟨n,r,rfl,f,?_⟩;cases r with
     | box v1 G=>exact .box (sameL G)
     | arr v1 A t1 G K=>exact .arr (sameL G) (λq=>.inl q) (λq=>q)
     | map v1 A K=>
      have:K=false:=J4y f;subst this;exact .map rfl λi p q Y E=>by rw [Y] at E;injection E with E;subst E;exact ⟨rfl,same _⟩
  ·injection f with f;injection m with m;omega
  ·injection f with f;subst f;intro H;obtain ⟨H,hr⟩:=Aj.1 H;rw [P] at m;by_cases A:n=g
   ·subst A;exact hg H
   ·rw [Je _ _ _ _ A] at m;unfold Jl at m;rw [if_pos H] at m;obtain ⟨B,q1,q2⟩:=S9.1 hr;rw [q1] at m;injection m with m;subst m;rw [q2] at h3;cases h3
 obtain ⟨S',r1,X,r3⟩:=J3r h.fr.hp gs;refine ⟨S',_,h.step rfl ⟨λd=>?_,r1,h.fr.hp.marks h.fr.df X,h.fr.sz⟩ st.on iv X λJ r f=>?_,X⟩
 ·rw [Sy h.iv st];exact r3 (.same _ rfl keep) (h.fr.fr d)
 ·obtain ⟨B,a,b,c⟩:=keep J r f;exact ⟨B,a,by omega,λ_=>⟨⟨rfl,rfl⟩,c⟩⟩
theorem J8m{ι:Ty->Type}:∀(l:List (C ι)) (j:Nat) {k:Nat} {c:C ι},Td.go j l=some (k,c)->j<=k/\l[k - j]?=some c
 | [],j,k,c,h=>by simp [Td.go] at h
 | x::r,j,k,c,h=>by
  have next:Td.go (j+1) r=some (k,c)->j<=k/\(x::r)[k - j]?=some c:=λh=>by obtain ⟨a,b⟩:=J8m r (j+1) h;refine ⟨by omega,?_⟩;rw [show k - j=(k - (j+1))+1 by omega,Dh];exact b
  cases x with
  | own g v=>
   simp only [Td.go,Ap,Bq] at h;obtain ⟨rfl,rfl⟩:=h;exact ⟨Ba _,by simp⟩
  | k v=>
   cases v with
   | BM=>
    simp only [Td.go,Ap,Bq] at h;obtain ⟨rfl,rfl⟩:=h;exact ⟨Ba _,by simp⟩
   | _=>exact next (by simpa only [Td.go] using h)
  | _=>exact next (by simpa only [Td.go] using h)
theorem Jzs{ι:Ty->Type}{e:Nat}{x:List (C ι)}{j:Nat}{c:C ι}(h:Td e x=some (j,c)):j<e/\x[x.length - e+j]?=some c:=by obtain ⟨-,b⟩:=J8m _ _ h;rw [Nat.sub_zero,Bu] at b;have:=(Ad.1 b).1;exact ⟨by omega,b⟩
theorem Pz{h':Heap}{R:List Nat}{t:Ty}{e:Nat}{keep:Bool}{A A':List AV}{x:List (C Ty.T)}{l0 l:List t.T}{m:Nat}(hA:Ev (AA s) h' some R A A')(hA':A'=l0.flatMap t.cs)(d:t.sz=e)(M:0<e)
  (hl:JF val (Eo val s.ob 4) t m (FC keep e x)=some l)
  (hR:∀g∈(FC keep e x).flatMap (Kw s.ob 4),(∃o,AA s g=some o/\o.freeze.fz=true)->g∈R)
  (f:∀g o,AA s g=some o->∃o',h' g=some o'/\o'.ver=o.ver/\o.like o') (hx:x.length=0->(LA keep e x)=none\/l0=[]) {ec:C Ty.T->AV} (w:∀c∈x,ec c=AB s c) :
  x.length=l.length * e/\Ev (AA s) h' some R (A++x.map (AB s)) (Zs ((l0++l).flatMap t.cs) (l0++l).length t.sz ec (LA keep e x)):=by
 have hs:=wJ (lX (s:=s) 4 5 (by omega)) t m hl;have hB:=Ev.ZB (h':=h') (θ:=some) hs hR;have a:=hs.len;rw [Kj,Bh,d] at a;cases h:LA keep e x with
 | none=>
  simp only [FC,h] at hB a;refine ⟨a,?_⟩;simp only [Zs,Ax];rw [<-hA'];exact hA.append hB
 | some p=>
  obtain ⟨j,c⟩:=p;have r:Td e x=some (j,c):=by
   unfold LA at h;split at h
   ·exact h
   ·cases h
  obtain ⟨L,y⟩:=Jzs r;simp only [FC,h] at hB a;have K:(jK x (x.length - e+j)).length=x.length:=by simp [jK]
  rw [K] at a;refine ⟨a,?_⟩;have E:x.length - e+j<x.length:=(Ad.1 y).1;have J:x.map (AB s)=((jK x (x.length - e+j)).map (AB s)).set (x.length - e+j) (AB s c):=by simp only [jK,List.map_set,List.set_set];symm;exact kg (by rw [Bc,y];rfl)
  have B:A.length=l0.length * e:=by rw [hA.len,hA',Kj,d]
  have H:Zs ((l0++l).flatMap t.cs) (l0++l).length t.sz ec (some (j,c))=(A'++l.flatMap t.cs).set (A.length+(x.length - e+j)) (AB s c):=by
   simp only [Zs,Ax,<-hA'];rw [w c (Av y),B,a,d,Ay]
   congr 1
   obtain ⟨k,F⟩:∃k,l.length=k+1:=by
    cases v:l.length with
    | zero=>rw [v] at a;omega
    | succ k=>exact ⟨k,rfl⟩
   rw [F,show l0.length+(k+1) - 1=l0.length+k by omega,Dq,Dq,Nat.one_mul];omega
  rw [H,J];have G:A++((jK x (x.length - e+j)).map (AB s)).set (x.length - e+j) (AB s c)=(A++(jK x (x.length - e+j)).map (AB s)).set (A.length+(x.length - e+j)) (AB s c):=by rw [Br _ _ (by omega),Bn]
  rw [G];exact (hA.append hB).set (.same _ rfl f) _
end
section
variable {nt:Nat} {w:World} {S:Nat->Prop} {s:Dn.S Ty.T} {μ:Gh} {a:Act} {fs:List Fm}
theorem J9c{keep:Bool}{e:Nat}{x:List (C Ty.T)}{p:Nat×C Ty.T}(h:LA keep e x=some p):p.2∈x:=by
 unfold LA at h;split at h
 ·obtain ⟨j,c⟩:=p;exact Av (Jzs h).2
 ·cases h
theorem J78{keep:Bool}{e:Nat}{x:List (C Ty.T)}(h:CZ s x):CZ s (FC keep e x):=by
 unfold FC;split
 ·intro c a;rcases Db a with a|rfl
  ·exact h c a
  ·exact Kh s rfl
 ·exact h
theorem J8p(hi:Inv s){v e:Nat}{el:TypeId}{t:Ty}{l:t.ls.T}{x:List (C Ty.T)}{nst:Option (Nat×C Ty.T)}{z:Bool}(ok:CZ s (Ob.kids (.row v e el t l x nst z:Ob Ty.T))):∀g∈kF s.ob nst,∃o,look g s.ob=some o:=λg a=>by
 cases nst with
 | none=>cases a
 | some p=>exact Jwa hi 4 (ok p.2 (by simp [Ob.kids])) g a
theorem P7{n e m:Nat}(h:n=m * e)(a:0<e):n / e=m:=by rw [h];exact Bv _ a
def Goes(nt:Nat)(w:World)(S:Nat->Prop)(s:Dn.S Ty.T)(μ:Gh)(a:Act)(fs:List Fm)(s':Dn.S Ty.T):Prop:=∃S' μ',BO nt w S' s' μ' a fs/\Ci w S (AA s) μ w S' (AA s') μ'
theorem Goes.ite{c:Prop}[Decidable c]{x y:Dn.S Ty.T}(f:c->Goes nt w S s μ a fs x)(d:¬c->Goes nt w S s μ a fs y):Goes nt w S s μ a fs (if c then x else y):=by
 split
 ·exact f (by assumption)
 ·exact d (by assumption)
theorem Kas(ty:TypeId->Option Ty)(keep:Bool)(h:BO nt w S s μ a fs)(g:Nat) :
  Goes nt w S s μ a fs (sj val ty keep s g):=by
 have same:Goes nt w S s μ a fs s:=⟨S,μ,h,.refl⟩;have kid:∀ {keep e} {x:List (C Ty.T)} {c},c∈Ob.kids (.row 0 0 0 .u ([]:List Unit) [] (LA keep e x) false:Ob Ty.T)->c∈x:=λ{keep e x c} d=>by
  simp only [Ob.kids,Am] at d;cases M:LA keep e x with
  | none=>rw [M] at d;cases d
  | some p=>rw [M] at d;rw [Aa] at d;subst d;exact J9c M
 have nest:∀ {keep e} {x:List (C Ty.T)} {s'} (l:List AV) (n sz:Nat),CX s s'->CZ s x->Zs l n sz (AB s') (LA keep e x)=Zs l n sz (AB s) (LA keep e x):=λ{keep e x s'} l n sz st ok=>by
  cases M:LA keep e x with
  | none=>rfl
  | some p=>simp only [Zs];rw [(st.ok p.2 (ok p.2 (J9c M))).2]
 unfold sj;split
 ·rename_i v e el x z m;have okx:CZ s x:=λc d=>h.iv.ob g _ m c d;split
  ·rename_i t ht;refine .ite (λd=>?_) λ_=>same;obtain ⟨r,H⟩:=d;split
   ·rename_i l hl;refine .ite (λ_=>same) λf=>?_;have f:g∉(FC keep e x).flatMap (Kw s.ob 4):=λq=>f (qd.2 q);have key:=λ(h':Heap) (y:∀g o,AA s g=some o->∃o',h' g=some o'/\o'.ver=o.ver/\o.like o')=>
     Pz (s:=s) (h':=h') (R:=Dl (EW (AA s)) ((FC keep e x).flatMap (Kw s.ob 4))) (A:=[]) (A':=[]) (l0:=[]) .nil rfl r H hl (λg f hr=>Aj.2 ⟨f,S9.2 hr⟩) y (λ_=>.inr rfl) (ec:=AB s) (λ_ _=>rfl)
    have Q:=key (AA s) (λg o m=>⟨o,m,rfl,.refl o⟩);refine J1q h m f (Jqr h.iv (J78 okx)) rfl ?_ (c:=x.map (AB s)) (c':=Zs (l.flatMap t.cs) l.length t.sz (AB s) (LA keep e x)) rfl (λs' st=>?_) (λc d=>okx c (kid d)) λh' y=>(key h' y).2
    ·show List.length (α:=t.T) l+0 / e=x.length / e;rw [Nat.zero_div,P7 Q.1 H];rfl
    ·simp only [BG,Bm,Am];rw [nest _ _ _ st okx]
   ·exact same
  ·exact same
 ·rename_i v e el t l x nst z m;have oks:CZ s (Ob.kids (.row v e el t l x nst z:Ob Ty.T)):=λc d=>h.iv.ob g _ m c d;have okx:CZ s x:=λc d=>oks c (by simp only [Ob.kids];exact Af _ d);refine .ite (λhx=>?_) λhx=>.ite (λd=>?_) λ_=>same
  ·split
   ·rename_i p;refine .ite (λd=>?_) λ_=>same;obtain ⟨r,H⟩:=d;split
    ·rename_i l0 E;refine .ite (λ_=>same) λf=>?_;have f:g∉Kw s.ob 4 p.2:=λq=>f (qd.2 q);have K:=λ(h':Heap)=>yK (s:=s) (h':=h') (θ:=some) (R:=Dl (EW (AA s)) (Kw s.ob 4 p.2)) E (λp' L g F hr=>Aj.2 ⟨by injection L with L;subst L;exact F,S9.2 hr⟩);have B:List.length (α:=t.T) l0=List.length (α:=t.T) l:=(K (AA s)).1;have X:x=[]:=Dd.1 hx;subst X;refine J1q h m f (λJ G=>Jwa h.iv 4 (oks p.2 (by simp [Ob.kids])) J G) rfl ?_ (c:=Zs (Di (α:=t.T) t.cs l) (List.length (α:=t.T) l) t.sz (AB s) (some p)++[]) (c':=Di (α:=t.T) t.cs l0++[]) rfl (λs' st=>?_) (λc d=>(by cases d)) λh' y=>?_
     ·show List.length (α:=t.T) l0+0 / e=List.length (α:=t.T) l+0 / e;rw [B]
     ·simp only [BG,Zs,Bm]
     ·rw [Am,Am];exact (K h').2
    ·exact same
   ·exact same
  obtain ⟨r,H⟩:=d;split
  ·rename_i l0 O E hl;refine .ite (λ_=>same) λf=>?_;have f:g∉kF s.ob nst++(FC keep e x).flatMap (Kw s.ob 4):=λq=>f (qd.2 q);have K:=λ(h':Heap)=>yK (s:=s) (h':=h') (θ:=some) (R:=Dl (EW (AA s)) (kF s.ob nst++(FC keep e x).flatMap (Kw s.ob 4))) E (λp L g F hr=>Aj.2 ⟨Ak _ (by subst L;exact F),S9.2 hr⟩);have B:List.length (α:=t.T) l0=List.length (α:=t.T) l:=(K (AA s)).1;have key:=λ(h':Heap) (y:∀g o,AA s g=some o->∃o',h' g=some o'/\o'.ver=o.ver/\o.like o')=>
    Pz (s:=s) (h':=h') (R:=Dl (EW (AA s)) (kF s.ob nst++(FC keep e x).flatMap (Kw s.ob 4))) (K h').2 rfl r H hl (λg f hr=>Aj.2 ⟨Af _ f,S9.2 hr⟩) y (λq=>by cases x<;>simp at hx q) (ec:=AB s) (λ_ _=>rfl)
   have Q:=key (AA s) (λg o m=>⟨o,m,rfl,.refl o⟩);refine J1q h m f (λJ G=>(Bb.1 G).elim (λq=>J8p h.iv oks J q) λq=>Jqr h.iv (J78 okx) J q) rfl ?_ (c:=Zs (Di (α:=t.T) t.cs l) (List.length (α:=t.T) l) t.sz (AB s) nst++x.map (AB s)) (c':=Zs (Di (α:=t.T) t.cs ((show List t.T from l0)++(show List t.T from O))) ((show List t.T from l0)++(show List t.T from O)).length t.sz (AB s) (LA keep e x)) rfl (λs' st=>?_) (λc d=>okx c (kid d)) λh' y=>(key h' y).2
   ·show List.length (α:=t.T) (val.ap (t:=t) l0 O)+0 / e=List.length (α:=t.T) l+x.length / e;rw [Nat.zero_div,P7 Q.1 H];show List.length (α:=t.T) ((show List t.T from l0)++(show List t.T from O))+0=_;rw [Ay,<-B];rfl
   ·simp only [BG,Bm,Am];rw [nest _ _ _ st okx];rfl
  ·exact same
 ·rename_i v kt vt el m;have st:CX s (s.obj g (.mp v kt vt (val.nl (.p kt vt)))):=Mf λo0 P=>by rw [m] at P;injection P with P;subst P;exact ⟨rfl,rfl⟩
  have N:=λJ=>Qv (s:=s) g J (.mp v kt vt (val.nl (.p kt vt)));have iv:=NJ h.iv st N (λc d=>by cases d) (h.iv.free m);have eh:AA (s.obj g (.mp v kt vt (val.nl (.p kt vt))))=AA s:=by
   rw [NM h.iv st N];funext Z;by_cases Y:Z=g
   ·subst Y;rw [Jj,Jn m];rfl
   ·rw [Je _ _ _ _ Y]
  refine ⟨S,μ,h.step rfl ?_ st.on iv (by rw [eh];exact .refl) (by rw [eh];exact .refl _ _),by rw [eh];exact .refl⟩;rw [Sy h.iv st,eh];exact h.fr
 ·exact same
theorem J0n(ty:TypeId->Option Ty)(keep:Bool):∀(l:List Nat) {S:Nat->Prop} {s:Dn.S Ty.T} {μ:Gh},BO nt w S s μ a fs ->
  ∃S' μ',BO nt w S' (l.foldl (sj val ty keep) s) μ' a fs/\Ci w S (AA s) μ w S' (AA (l.foldl (sj val ty keep) s)) μ'
 | [],S,s,μ,h=>⟨S,μ,h,.refl⟩
 | g::l,S,s,μ,h=>by obtain ⟨S1,μ1,f,o⟩:=Kas ty keep h g;obtain ⟨S2,μ2,d,m⟩:=J0n ty keep l f;exact ⟨S2,μ2,d,o.trans m⟩
theorem J8j(ty:TypeId->Option Ty)(keep:Bool)(n:Nat)(h:BO nt w S s μ a fs) :
  ∃S' μ',BO nt w S' (kM val ty keep n s) μ' a fs/\Ci w S (AA s) μ w S' (AA (kM val ty keep n s)) μ':=J0n ty keep _ h
end
def inv(n:Nat):List (Nat×Nat)->Option Nat
 | []=>none
 | (g,k)::r=>if k=n then some g else inv n r
theorem Joj:∀ {l:List Nat},pX l=true->l.Nodup
 | [],_=>List.nodup_nil
 | x::r,h=>by simp only [pX,Ac,As] at h;refine Bs.2 ⟨λq=>?_,Joj h.2⟩;rw [qd.2 q] at h;cases h.1
theorem qI{n g:Nat}:∀ {tb:List (Nat×Nat)},inv n tb=some g->(g,n)∈tb
 | [],h=>by cases h
 | (x,k)::r,h=>by
  simp only [inv] at h;split at h
  ·rename_i e;injection h with h;subst h;subst e;exact Ae
  ·exact Ab _ (qI h)
theorem J1r{n g:Nat}:∀ {tb:List (Nat×Nat)},(tb.map (·.2)).Nodup->(g,n)∈tb->inv n tb=some g
 | [],_,h=>by cases h
 | (x,k)::r,a,h=>by
  simp only [Au,Bs] at a;simp only [inv];rcases Ai.1 h with e|h
  ·injection e with f d;subst f;subst d;rw [if_pos rfl]
  ·rw [if_neg (λe=>a.1 (by subst e;exact Ar.2 ⟨(g,k),h,rfl⟩))];exact J1r a.2 h
theorem Jwb{α:Type}{g:Nat}{n:α}:∀ {tb:List (Nat×α)},(tb.map (·.1)).Nodup->(g,n)∈tb->look g tb=some n
 | [],_,h=>by cases h
 | (x,k)::r,a,h=>by
  simp only [Au,Bs] at a;rw [Q0];rcases Ai.1 h with e|h
  ·injection e with f d;subst f;subst d;rw [if_pos rfl]
  ·rw [if_neg (λe=>a.1 (by subst e;exact Ar.2 ⟨(x,n),h,rfl⟩))];exact Jwb a.2 h
theorem J1v{α β:Type}{f:α->Option β}:∀ {l:List α} {m:List β},FT f l=some m->l.length=m.length/\∀(i:Nat) (x:α) (y:β),l[i]?=some x->m[i]?=some y->f x=some y
 | [],m,h=>by injection h with h;subst h;exact ⟨rfl,λi x y hx=>by simp at hx⟩
 | x::r,m,h=>by
  simp only [FT] at h;cases hx:f x with
  | none=>rw [hx] at h;cases h
  | some y=>
   rw [hx] at h;simp only [Aq] at h;cases hr:FT f r with
   | none=>rw [hr] at h;cases h
   | some o=>
    rw [hr] at h;injection h with h;subst h;obtain ⟨a,b⟩:=J1v hr;refine ⟨by simp [a],λi u v g d=>?_⟩;cases i with
    | zero=>simp at g d;subst g;subst d;exact hx
    | succ i=>exact b i u v (by simpa using g) (by simpa using d)
theorem Joe{s:S Ty.T}{tb:List (Nat×Nat)}{d:Nat}{v:V Ty.T}:∀ {l:List (Nat×V Ty.T)},look d (XR val s tb l)=some v->∃v0,look d l=some v0/\v=LX val s tb v0
 | [],h=>by cases h
 | (k,x)::r,h=>by
  simp only [XR] at h;rw [Q0] at h ⊢;split
  ·rename_i e;rw [if_pos e] at h;injection h with h;exact ⟨x,rfl,h.symm⟩
  ·rename_i e;rw [if_neg e] at h;exact Joe h
theorem wL{s:S Ty.T}{tb0:List (Nat×Nat)}{n:Nat}{o':Ob Ty.T}:∀ {tb:List (Nat×Nat)},look n (NT val s tb0 tb)=some o'->∃g o,(g,n)∈tb/\look g s.ob=some o/\frozen s g=false/\o'=F4 val s tb0 o
 | [],h=>by cases h
 | (g,k)::r,h=>by
  have next:look n (NT val s tb0 r)=some o'->∃d o,(d,n)∈(g,k)::r/\look d s.ob=some o/\frozen s d=false/\o'=F4 val s tb0 o:=λh=>by obtain ⟨d,o,a,b⟩:=wL h;exact ⟨d,o,Ab _ a,b⟩
  simp only [NT] at h;split at h
  ·rename_i o f;split at h
   ·exact next h
   ·rename_i l;rw [Q0] at h;split at h
    ·rename_i e;injection h with h;subst e;exact ⟨g,o,Ae,f,by simpa using l,h.symm⟩
    ·exact next h
  ·exact next h
theorem Juo{s:S Ty.T}{tb0:List (Nat×Nat)}{n g:Nat}{o:Ob Ty.T}(f:look g s.ob=some o)(l:frozen s g=false):∀ {tb:List (Nat×Nat)},(tb.map (·.2)).Nodup->(g,n)∈tb->look n (NT val s tb0 tb)=some (F4 val s tb0 o)
 | [],_,h=>by cases h
 | (x,k)::r,d,h=>by
  simp only [Au,Bs] at d;rcases Ai.1 h with e|h
  ·injection e with w v;subst w;subst v;simp only [NT,f,l];rw [if_neg (by decide),Q0,if_pos rfl]
  ·have a:=Juo (tb0:=tb0) f l d.2 h;have m:k≠n:=λe=>d.1 (by subst e;exact Ar.2 ⟨(g,k),h,rfl⟩);simp only [NT];split
   ·split
    ·exact a
    ·rw [Q0,if_neg m];exact a
   ·exact a
section
variable {s:S Ty.T} {tb:List (Nat×Nat)}
theorem Oh(o:Ob Ty.T):(F4 val s tb o).CO=o.CO:=by cases o<;>simp [F4,Ob.CO]
theorem Og(o:Ob Ty.T):(F4 val s tb o).ver=0:=by cases o<;>rfl
def Hw(s:S Ty.T):List Nat:=(s.ob.map (·.1)).filter (frozen s)
theorem RI{g:Nat}(h:frozen s g=true):g∈Hw s:=by
 refine Aj.2 ⟨?_,h⟩;unfold frozen at h;cases a:look g s.ob with
 | none=>rw [a] at h;cases h
 | some o=>exact Ar.2 ⟨(g,o),Mg a,rfl⟩
def JY(m:Option (Mo Ty.T))(tb:List (Nat×Nat))(n:Nat):Option Nat:=if FB m n=true then some n else inv n tb
structure GI (s:S Ty.T) (tb:List (Nat×Nat)) (s':S Ty.T):Prop where
 n1:(tb.map (·.1)).Nodup
 n2:(tb.map (·.2)).Nodup
 ob:s'.ob=NT val s tb tb
 mo:s'.mo=s.mo
 nm:∀p∈tb,FB s.mo p.1=false/\FB s.mo p.2=false
 iv:Inv s
theorem Ry{g v:Nat}(h:s.cur g v=true):∃o,look g s.ob=some o/\o.ver=v:=by
 unfold S.cur at h;cases a:look g s.ob with
 | none=>rw [a] at h;cases h
 | some o=>rw [a] at h;exact ⟨o,rfl,by simpa using h⟩
variable {s':S Ty.T}
theorem GI.at(t:GI s tb s'){g v n:Nat}(l:s.cur g v=true)(h:frozen s g=false)(f:look g tb=some n):∃o,look g s.ob=some o/\o.ver=v/\look n s'.ob=some (F4 val s tb o)/\JY s.mo tb n=some g:=by obtain ⟨o,d,m⟩:=Ry l;have a:=Mg f;exact ⟨o,d,m,by rw [t.ob];exact Juo d h t.n2 a,by unfold JY;rw [if_neg (by rw [(t.nm _ a).2];exact Bw)];exact J1r t.n2 a⟩
theorem qp(hi:Inv s){g:Nat}(h:FB s.mo g=true):look g s.ob=none:=by
 cases hl:look g s.ob with
 | none=>rfl
 | some o=>rw [hi.free hl] at h;cases h
theorem GI.Py(t:GI s tb s'){n:Nat}{o:Ob Ty.T}(h:look n s'.ob=some o):FB s.mo n=false:=by rw [t.ob] at h;obtain ⟨g,d,a,-⟩:=wL h;exact (t.nm _ a).2
theorem GI.same(t:GI s tb s'){n:Nat}{o:AZ}(h:Ec s.mo n=some o):AA s n=some o/\AA s' n=some o/\JY s.mo tb n=some n:=by
 have a:=(lI h).1;refine ⟨?_,?_,by unfold JY;rw [if_pos a]⟩
 ·simp only [AA,qp t.iv a];exact h
 ·have:look n s'.ob=none:=by
   cases hl:look n s'.ob with
   | none=>rfl
   | some o=>rw [t.Py hl] at a;cases a
  simp only [AA,this,t.mo];exact h
theorem J1z{kt vt:Ty}:∀ {l:List (kt.T×List vt.T)} {k i:Nat} {p:AV×AV},(F8 kt vt k l)[i]?=some p->∃e,Iw l i=some e/\p=(EA kt e.1,.arr (mB+(k+i)) e.2.length 0 e.2.length)
 | [],k,i,p,h=>by simp [F8] at h
 | e::r,k,0,p,h=>by simp only [F8,Bk,Ap] at h;exact ⟨e,rfl,h.symm⟩
 | e::r,k,i+1,p,h=>by simp only [F8,Dh] at h;obtain ⟨f,d,a⟩:=J1z h;exact ⟨f,d,by rw [a,show k+1+i=k+(i+1) by omega]⟩
theorem J45{m:Mo Ty.T}(a:m.g<mB){i:Nat}{e:m.kt.T×List m.vt.T}(h:Iw (α:=m.kt.T×List m.vt.T) m.es i=some e):Ec (some m) (mB+i)=some (JE m.vt m.el e.2):=by show m.at (mB+i)=_;unfold Mo.at;rw [if_neg (by omega),if_pos (Nat.le_add_right _ _),Bn,h];rfl
theorem J0y{θ:Nat->Option Nat}{R:List Nat}(iv:Inv s)(same:∀ {n o},Ec s.mo n=some o->AA s n=some o/\AA s' n=some o/\θ n=some n){n:Nat}{o:AZ}(h:Ec s.mo n=some o):GO (AA s) (AA s') θ R n o o:=by
 obtain ⟨-,m,g,⟨-,rfl⟩|⟨-,-,e,-,rfl⟩⟩:=lI h
 ·refine .map rfl λi p q f d=>?_;rw [f] at d;injection d with d;subst d;obtain ⟨e,r,l⟩:=J1z f;refine ⟨rfl,?_⟩;rw [l];rw [Dg];have hr:=J45 (iv.mo m g).1 r;rw [<-g] at hr;obtain ⟨a,b,c⟩:=same hr;exact .arr a b (Ba _) c λ_=>⟨rfl,λv el c z q=>⟨c,z,q,Iff.rfl⟩⟩
 ·exact .arr (.flat (Mh _ _)) (λq=>by cases q) λq=>q
theorem uP(t:GI s tb s')(c:C Ty.T):FR s' (DU val s tb c):=by
 have leaf:∀ {c:C Ty.T},refs c=[]->FR s' c:=λh=>Kh s' h;have rd:∀g c,FR s' (jU val s g c):=λg c=>by
  unfold jU;split
  ·split
   ·split
    ·exact leaf rfl
    ·exact leaf rfl
   ·exact leaf rfl
  ·exact leaf rfl
 have nm:∀ {g v n:Nat} {c':C Ty.T},s.cur g v=true->frozen s g=false->look g tb=some n->refs c'=[(n,0)]->FR s' c':=λd B w hr r A=>by rw [hr,Aa] at A;subst A;obtain ⟨o,-,-,h,-⟩:=t.at d B w;exact ⟨_,h,Dm _⟩
 cases c with
 | any=>exact leaf rfl
 | lf t v=>exact leaf rfl
 | kb b=>exact leaf rfl
 | k v=>simp only [DU];split<;>exact leaf rfl
 | rp t v o=>exact leaf rfl
 | map g v=>
  simp only [DU];split
  ·rename_i d;simp only [Ac,As] at d;split
   ·rename_i n w;exact nm (c':=.map n 0) d.1 d.2 w rfl
   ·exact leaf rfl
  ·exact leaf rfl
 | yl j=>exact leaf rfl
 | own g v=>
  simp only [DU];split
  ·rename_i d;split
   ·exact rd _ _
   ·rename_i B;split
    ·rename_i n w;exact nm d (by simpa using B) w rfl
    ·exact leaf rfl
  ·exact leaf rfl
 | part g v a b=>
  simp only [DU];split
  ·rename_i d;split
   ·exact rd _ _
   ·rename_i B;split
    ·rename_i n w;exact nm d (by simpa using B) w rfl
    ·exact leaf rfl
  ·exact leaf rfl
 | ptr g v o=>
  simp only [DU];split
  ·rename_i d;simp only [Ac,As] at d;split
   ·rename_i n w;exact nm d.1 d.2 w rfl
   ·exact leaf rfl
  ·exact leaf rfl
 | Fy g v e i o=>
  simp only [DU];split
  ·rename_i d;simp only [Ac,As] at d;split
   ·rename_i n w;exact nm d.1 d.2 w rfl
   ·exact leaf rfl
  ·exact leaf rfl
 | fn f l=>
  simp only [DU];split
  ·rename_i m G;obtain ⟨hl,F⟩:=J1v G;intro r hr;simp only [refs,Ar] at hr;obtain ⟨x,hx,rfl⟩:=hr;obtain ⟨i,hi⟩:=Bg hx;obtain ⟨y,E⟩:∃y,l[i]?=some y:=by have:=(Ad.1 hi).1;exact ⟨_,Ag (by omega)⟩
   have:=F i y x E hi;split at this
   ·rename_i d;simp only [Ac,As] at d;cases w:look y.1 tb with
    | none=>rw [w] at this;cases this
    | some n=>
     rw [w] at this;injection this with this;subst this;exact nm (c':=.own n 0) d.1 d.2 w rfl (n,0) (Aa.2 rfl)
   ·cases this
  ·exact leaf rfl
theorem Ro{o:Ob Ty.T}{v e:Nat}{el:TypeId}{c:List AV}{z:Bool}(h:BG s o=.arr v e el c z):∃c' d,BG s' (F4 val s tb o)=.arr 0 e el c' d/\(c=[]↔c'=[]):=by
 cases o with
 | box=>simp [BG] at h
 | mp=>simp [BG] at h
 | em=>simp [BG] at h
 | lit v1 f el1 cs a=>
  simp only [BG,AZ.arr.injEq] at h;obtain ⟨rfl,rfl,rfl,rfl,rfl⟩:=h;exact ⟨_,_,rfl,zd (by simp)⟩
 | row v1 f el1 g l x nest a=>
  simp only [BG,AZ.arr.injEq] at h;obtain ⟨rfl,rfl,rfl,rfl,rfl⟩:=h;exact ⟨_,_,rfl,zd (by simp [YQ])⟩
theorem qO(t:GI s tb s')(c:C Ty.T):GR (AA s) (AA s') (JY s.mo tb) (Hw s) (AB s c) (AB s' (DU val s tb c)):=by
 have rd:∀g c,GR (AA s) (AA s') (JY s.mo tb) (Hw s) (AB s c) (AB s' (jU val s g c)):=λg c=>by
  unfold jU;split
  ·split
   ·rename_i l hl;split
    ·rename_i A;exact J9m hl λg P _=>RI (Ah.1 A g P)
    ·exact .any _
   ·exact .any _
  ·exact .any _
 have ar:∀ {g v n off len:Nat},s.cur g v=true->frozen s g=false->look g tb=some n->GR (AA s) (AA s') (JY s.mo tb) (Hw s) (.arr g v off len) (.arr n 0 off len):=λw d A=>by obtain ⟨o,J,H,G,L⟩:=t.at w d A;refine .arr (Jn J) (Jn G) (Dm _) L λ_=>⟨by rw [Mj,H],λe el c z h=>Ro h⟩
 have pr:∀ {g v n off:Nat},s.cur g v=true->frozen s g=false->look g tb=some n->GR (AA s) (AA s') (JY s.mo tb) (Hw s) (.ptr g v off) (.ptr n 0 off):=λw d A=>by obtain ⟨o,J,H,G,L⟩:=t.at w d A;exact .ptr (Jn J) (Jn G) (Dm _) L λ_=>by rw [Mj,H]
 cases c with
 | any=>exact .any _
 | lf t v=>exact .one v
 | kb b=>exact .flat rfl
 | k v=>
  simp only [DU];split
  ·rename_i d;rw [Bool.or_eq_true] at d;rcases d with d|d
   ·exact .flat d
   ·cases v<;>try (cases d;done)
    rename_i g v;cases K:s.mo with
    | none=>rw [K] at d;cases d
    | some m=>
     rw [K] at d;simp only [nQ,Ac] at d;have N:=Bd d.1;have M:=Bd d.2;subst N;subst M;have hr:Ec s.mo m.g=some (.map 0 (F8 m.kt m.vt 0 m.es) false):=by rw [K];show m.at m.g=_;unfold Mo.at;rw [if_pos rfl]
     obtain ⟨a,b,c⟩:=t.same hr;rw [K] at c;exact .map a b (Ba _) c λ_=>rfl
  ·exact .any _
 | rp t v o=>exact .flat rfl
 | map g v=>
  simp only [DU];split
  ·rename_i w;simp only [Ac,As] at w;split
   ·rename_i n A;obtain ⟨o,J,H,G,L⟩:=t.at w.1 w.2 A;exact .map (Jn J) (Jn G) (Dm _) L λ_=>by rw [Mj,H]
   ·exact .any _
  ·exact .any _
 | yl j=>exact .Hf j
 | own g v=>
  simp only [DU];split
  ·rename_i w;split
   ·exact rd _ _
   ·rename_i d;have d:frozen s g=false:=by simpa using d
    split
    ·rename_i n A;obtain ⟨o,J,H,G,L⟩:=t.at w d A;have N:Yk s g v=o.CO:=by simp [Yk,J,H]
     have M:Yk s' n 0=o.CO:=by simp [Yk,G,Og,Oh]
     simp only [AB,N,M];exact ar w d A
    ·exact .any _
  ·exact .any _
 | part g v a b=>
  simp only [DU];split
  ·rename_i w;split
   ·exact rd _ _
   ·rename_i d;have d:frozen s g=false:=by simpa using d
    split
    ·rename_i n A;exact ar w d A
    ·exact .any _
  ·exact .any _
 | ptr g v o=>
  simp only [DU];split
  ·rename_i w;simp only [Ac,As] at w;split
   ·rename_i n A;exact pr w.1 w.2 A
   ·exact .any _
  ·exact .any _
 | Fy g v e i o=>
  simp only [DU];split
  ·rename_i w;simp only [Ac,As] at w;split
   ·rename_i n A;exact pr w.1 w.2 A
   ·exact .any _
  ·exact .any _
 | fn f l=>
  simp only [DU];split
  ·rename_i m K;obtain ⟨hl,O⟩:=J1v K;simp only [AB];refine .fn f _ _ (by simp [hl]) λi x y hx B=>?_;rw [Bc] at hx B;cases F:l[i]? with
   | none=>rw [F] at hx;cases hx
   | some u=>
    cases E:m[i]? with
    | none=>rw [E] at B;cases B
    | some r=>
     rw [F] at hx;rw [E] at B;injection hx with hx;injection B with B;subst hx;subst B;have:=O i u r F E;split at this
     ·rename_i w;simp only [Ac,As] at w;cases A:look u.1 tb with
      | none=>rw [A] at this;cases this
      | some n=>
       rw [A] at this;injection this with this;subst this;exact pr w.1 w.2 A
     ·cases this
  ·exact .any _
theorem J8w(t:GI s tb s')(v:V Ty.T):GR (AA s) (AA s') (JY s.mo tb) (Hw s) (AQ s v) (AQ s' (LX val s tb v)):=by
 have L:∀l:List (C Ty.T),Ev (AA s) (AA s') (JY s.mo tb) (Hw s) (l.map (AB s)) ((l.map (DU val s tb)).map (AB s')):=λl=>by rw [Bl];exact .map λc _=>qO t c
 cases v with
 | c x=>exact qO t x
 | ag l=>exact .agg _ _ (L l).len (L l).at'
 | tp l=>
  simp only [AQ,LX,Bl];have:=Ev.map (h:=AA s) (h':=AA s') (θ:=JY s.mo tb) (R:=Hw s) (l:=l) (f:=λp=>if p.1 then AV.agg (p.2.map (AB s)) else zk (p.2.map (AB s)))
   (f':=(λp:Bool×List (C Ty.T)=>if p.1 then AV.agg (p.2.map (AB s')) else zk (p.2.map (AB s'))) ∘ λp:Bool×List (C Ty.T)=>(p.1,p.2.map (DU val s tb))) λp _=>?_
  ·exact .Cn _ _ this.len this.at'
  ·obtain ⟨b,q⟩:=p;cases b with
   | true=>exact .agg _ _ (L q).len (L q).at'
   | false=>
    show GR _ _ _ _ (zk (q.map (AB s))) (zk ((q.map (DU val s tb)).map (AB s')))
    match q with
    | []=>exact .any _
    | [c]=>exact qO t c
    | _::_::_=>exact .any _
theorem J9i(t:GI s tb s')(v:V Ty.T):okV s' (LX val s tb v):=by
 intro c a;have L:∀l:List (C Ty.T),c∈l.map (DU val s tb)->FR s' c:=λl h=>by obtain ⟨x,-,rfl⟩:=Ar.1 h;exact uP t x
 cases v with
 | c x=>simp only [LX,V.all,Aa] at a;subst a;exact uP t x
 | ag l=>exact L l a
 | tp l=>
  simp only [LX,V.all,Ao,Ar] at a;obtain ⟨p,⟨q,-,rfl⟩,a⟩:=a;exact L _ a
theorem VD(t:GI s tb s')(g:Nat)(o:Ob Ty.T):GO (AA s) (AA s') (JY s.mo tb) (Hw s) g (BG s o) (BG s' (F4 val s tb o)):=by
 have L:∀l:List (C Ty.T),Ev (AA s) (AA s') (JY s.mo tb) (Hw s) (l.map (AB s)) ((l.map (DU val s tb)).map (AB s')):=λl=>by rw [Bl];exact .map λc _=>qO t c
 cases o with
 | box v cs=>exact .box (L cs)
 | mp v kt vt es=>
  refine .map rfl λi p q d a=>?_;have d:(Cq kt vt es)[i]?=some p:=d;have a:(Cq kt vt es)[i]?=some q:=a;rw [d] at a;injection a with a;subst a;exact ⟨rfl,J18 d⟩
 | em v kt vt el=>exact .map rfl λi p q d a=>by simp at d
 | lit v e el cs z=>exact .arr (L cs) (λq=>.inl q) λq=>q
 | row v e el ty l x nest z=>
  refine .arr (.append ?_ (L x)) (λq=>.inl q) λq=>q;cases nest with
  | none=>exact .flat (Mh ty l)
  | some p=>exact (Ev.flat (Mh ty l)).set (qO t p.2) _
theorem J6x(t:GI s tb s')(o:Ob Ty.T):CZ s' (F4 val s tb o).kids:=by
 intro c a;have L:∀l:List (C Ty.T),c∈l.map (DU val s tb)->FR s' c:=λl h=>by obtain ⟨x,-,rfl⟩:=Ar.1 h;exact uP t x
 cases o with
 | mp v kt vt es=>cases a
 | em v kt vt el=>cases a
 | box v cs=>exact L _ a
 | lit v e el cs z=>exact L _ a
 | row v e el ty l x nest z=>
  simp only [F4,Ob.kids,Bb] at a;rcases a with a|a
  ·cases nest with
   | none=>cases a
   | some p=>simp only [Be,Aa] at a;subst a;exact uP t _
  ·exact L _ a
end
section
variable {nt:Nat} {w:World} {S:Nat->Prop} {s:Dn.S Ty.T} {μ:Gh} {a:Act} {fs:List Fm}
theorem Ju9(keep:List Nat)(h:BO nt w S s μ a fs):Goes nt w S s μ a fs (Lj val keep s):=by
 unfold Lj R9;simp only;generalize sK s 300 _ _=tb;split
 ·rename_i L;simp only [Ac] at L;refine h.ghost (θ:=JY s.mo tb) (R:=Hw s) ?_;generalize A:(⟨XR val s tb (kept s.sl keep),s.lo.map (XR val s tb),NT val s tb tb,[],s.mo⟩:Dn.S Ty.T)=s';have t:GI s tb s':=⟨Joj L.1.1,Joj L.1.2,by rw [<-A],by rw [<-A],λp F=>by have:=Ah.1 L.2 p F;simp only [Ac,As] at this;exact this,h.iv⟩
  have look_of:∀n o',AA s' n=some o'->(∃g o,inv n tb=some g/\FB s.mo n=false/\look g s.ob=some o/\frozen s g=false/\o'=BG s' (F4 val s tb o))\/Ec s.mo n=some o':=λn o' y=>by
   rcases uj y with ⟨o1,hl,y⟩|⟨-,y⟩
   ·have N:=t.Py hl;rw [t.ob] at hl;obtain ⟨g,o,a,b,c,rfl⟩:=wL hl;exact .inl ⟨g,o,J1r t.n2 a,N,b,c,y⟩
   ·rw [t.mo] at y;exact .inr y
  refine ⟨⟨λn o' y=>?_,λn Z g f E _ _=>?_,λn g o' f E h3 h4=>?_,λg H=>?_⟩,λd v hd=>?_,by rw [<-A];simp,λi l l' d Y hl B hd=>?_,λp F=>?_,λl hl p F=>?_,λg o y=>?_,λm G=>?_⟩
  ·rcases look_of n o' y with ⟨g,o,a,P,b,c,rfl⟩|G
   ·exact .inr ⟨g,_,by unfold JY;rw [if_neg (by rw [P];exact Bw)];exact a,Jn b,VD t g o⟩
   ·exact .inr ⟨n,o',(t.same G).2.2,(t.same G).1,J0y t.iv (λh=>t.same h) G⟩
  ·unfold JY at f E;split at f<;>split at E
   ·injection f with f;injection E with E;omega
   ·rename_i X Q;injection f with f;subst f;have:=(t.nm _ (qI E)).1;rw [X] at this;cases this
   ·rename_i X Q;injection E with E;subst E;have:=(t.nm _ (qI f)).1;rw [Q] at this;cases this
   ·have a:=Jwb t.n1 (qI f);have b:=Jwb t.n1 (qI E);rw [a] at b;injection b
  ·rcases look_of n o' E with ⟨g',o,a,P,b,c,rfl⟩|G
   rotate_left
   ·rw [(t.same G).2.2] at f;injection f with f;subst f;intro H;have:=(Aj.1 H).2;unfold frozen at this;rw [qp h.iv (lI G).1] at this;cases this
   have f:inv n tb=some g:=by unfold JY at f;rw [if_neg (by rw [P];exact Bw)] at f;exact f
   rw [a] at f;injection f with f;subst f;intro H;have:=(Aj.1 H).2;rw [c] at this;cases this
  ·have K:=(Aj.1 H).2;unfold frozen at K;cases y:look g s.ob with
   | none=>rw [y] at K;cases K
   | some o=>
    rw [y] at K;refine ⟨_,Jn y,?_⟩;cases o with
    | box=>cases K
    | mp=>cases K
    | em=>cases K
    | lit=>rfl
    | row=>rfl
  ·rw [<-A] at hd;obtain ⟨v0,O,rfl⟩:=Joe hd;have:s.at d=v0:=by simp [Dn.S.at,vQ O]
   rw [this];exact J8w t v0
  ·rw [<-A] at B;simp only [Bc,hl,Be,Ap] at B;subst B;obtain ⟨v0,O,rfl⟩:=Joe hd;rw [O];exact J8w t v0
  ·rw [<-A] at F;have:∀l:List (Nat×V Ty.T),p∈XR val s tb l->okV s' p.2:=λl=>by
    induction l with
    | nil=>intro h;cases h
    | cons x r M=>
     intro h;rcases Ai.1 h with rfl|h
     ·exact J9i t _
     ·exact M h
   exact this _ F
  ·rw [<-A] at hl;obtain ⟨l0,-,rfl⟩:=Ar.1 hl;have:∀l:List (Nat×V Ty.T),p∈XR val s tb l->okV s' p.2:=λl=>by
    induction l with
    | nil=>intro h;cases h
    | cons x r M=>
     intro h;rcases Ai.1 h with rfl|h
     ·exact J9i t _
     ·exact M h
   exact this _ F
  ·rw [t.ob] at y;obtain ⟨g,o,a,b,c,rfl⟩:=wL y;exact J6x t o
  ·have J:=G;rw [t.mo] at J;exact ⟨(h.iv.mo m J).1,(h.iv.mo m J).2.1,λg o H=>by rw [t.mo];exact t.Py H⟩
 ·refine h.ghost (θ:=λ_=>none) (R:=[]) ⟨⟨λn o' y=>?_,λn Z g f=>(by cases f),λn g o' f=>(by cases f),λg H=>(by cases H)⟩,λd v hd=>(by cases hd),by simp,λi l l' d Y hl B hd=>?_,λp F=>(by cases F),λl hl p F=>?_,λg o y=>(by cases y),λm G=>(by cases G)⟩
  ·cases y
  ·simp only [Bc,hl,Be,Ap] at B;subst B;cases hd
  ·obtain ⟨l0,-,rfl⟩:=Ar.1 hl;cases F
end
theorem uH(lw:(t:Ty)->C Ty.T->Option t.T):∀(t:Ty) (l:List (C Ty.T)),impl (dL wv) lw t l=impl val lw t l
 | .u,l=>rfl
 | .p a b,l=>by
  simp only [impl,uH lw a]
  congr 1
  funext x;obtain ⟨x,l⟩:=x;simp only [uH lw b];rfl
 | .int k,l=>rfl
 | .bool,l=>rfl
 | .str,l=>rfl
 | .ls t,l=>rfl
 | .bf f t,l=>rfl
theorem J3p(lw:(t:Ty)->C Ty.T->Option t.T)(t:Ty):∀(n:Nat) (l:List (C Ty.T)),JF (dL wv) lw t n l=JF val lw t n l
 | 0,l=>rfl
 | n+1,l=>by
  cases l with
  | nil=>rfl
  | cons c l=>
   simp only [JF,uH]
   congr 1
   funext x;obtain ⟨x,l⟩:=x;simp only [J3p lw t n];rfl
theorem Jwp(ob:List (Nat×Ob Ty.T)):∀(n:Nat),@Eo Ty.T Option (dL wv) ob n=@Eo Ty.T Option val ob n
 | 0=>rfl
 | n+1=>by funext t c;simp only [Eo,Ir,J3p,Jwp ob n];rfl
theorem J1l:∀(t:Ty) (v:t.T),expl (dL wv) t v=expl val t v
 | .u,v=>rfl
 | .p a b,v=>by simp only [expl,J1l a,J1l b];rfl
 | .int k,v=>rfl
 | .bool,v=>rfl
 | .str,v=>rfl
 | .ls t,v=>rfl
 | .bf f t,v=>rfl
theorem dU(lw:(t:Ty)->C Ty.T->Option t.T)(t:Ty)(l:List t.T)(n:Option (Nat×C Ty.T)):Mq (dL wv) lw t l n=Mq val lw t l n:=by
 cases n with
 | none=>rfl
 | some p=>
  simp only [Mq];have:JZ (dL wv) lw t p.1 p.2=JZ val lw t p.1 p.2:=by funext e;simp only [JZ,uH,J1l]
  rw [this];rfl
inductive Fx (s:S Ty.T) (sh:S U) (N:List Nat):C Ty.T->C Ty.T->Prop
 | any (x:C Ty.T):Fx s sh N x .any
 | lf {x:C Ty.T} {t:Ty} {v:t.T} (h:Eo val s.ob 4 t x=some v) (hN:∀g∈Kw s.ob 4 x,g∈N):Fx s sh N x (.lf t v)
 | leaf {x:C Ty.T} (hr:refs x=[]) (he:∀s s',AB s' x=AB s x) (hf:(AB s x).flat=true):Fx s sh N x x
 | ref {x:C Ty.T} (h:∀r∈refs x,∃o,look r.1 sh.ob=some o/\o.ver=r.2) (hr:∃r,r∈refs x):Fx s sh N x x
 | fn {f:FuncId} {c:List (Nat×Nat×Nat)} (h:∀r∈refs (.fn f c:C Ty.T),∃o,look r.1 sh.ob=some o/\o.ver=r.2):Fx s sh N (.fn f c) (.fn f c)
 | yl (j:Nat):Fx s sh N (.yl j) (.yl j)
 | mo {g v:Nat} (h:nQ sh.mo (.map g v)=true):Fx s sh N (.k (.map g v)) (.k (.map g v))
 | new {g v:Nat} (h:∃o,look g sh.ob=some o/\o.ver=v) (h0:look g s.ob=none):Fx s sh N (.k .BM) (.own g v)
def F5(sh:S U)(c:C U):Prop:=S.shut.ok sh c=true
theorem J3w{sh:S U}{c:C U}(h:F5 sh c):∀r∈refs c,∃o,look r.1 sh.ob=some o/\o.ver=r.2:=by
 intro r hr;unfold F5 S.shut.ok at h;rw [Ac] at h;have:=Ah.1 h.1 r hr;cases a:look r.1 sh.ob with
 | none=>rw [a] at this;cases this
 | some o=>rw [a] at this;exact ⟨o,rfl,by simpa using this⟩
section
variable {s:S Ty.T} {sh:S U} {N:List Nat} {r:List Ty}
theorem J13{h:HL Ty.T r}{c:C U}{x:C Ty.T}{l:HL Ty.T (jY r c)}(a:RU (dL wv) s.ob h c x=some l)(hs:F5 sh c)(hN:∀g∈MG s.ob c x,g∈N):∃y,tX c l=(y,h)/\Fx s sh N x y:=by
 have d:=J3w hs;unfold RU at a;split at a
 ·injection a with a;subst a;exact ⟨_,rfl,.any _⟩
 ·rename_i t u;rw [Jwp] at a;cases hl:Eo val s.ob 4 t x with
  | none=>rw [hl] at a;cases a
  | some v=>rw [hl] at a;injection a with a;subst a;exact ⟨_,rfl,.lf hl hN⟩
 ·split at a
  ·rename_i e;subst e;injection a with a;subst a;exact ⟨_,rfl,.leaf rfl (λ_ _=>rfl) rfl⟩
  ·cases a
 ·injection a with a;subst a;exact ⟨_,rfl,.leaf rfl (λ_ _=>rfl) rfl⟩
 ·injection a with a;subst a;exact ⟨_,rfl,.leaf rfl (λ_ _=>rfl) rfl⟩
 ·injection a with a;subst a;exact ⟨_,rfl,.leaf rfl (λ_ _=>rfl) rfl⟩
 ·injection a with a;subst a;exact ⟨_,rfl,.leaf rfl (λ_ _=>rfl) rfl⟩
 ·split at a
  ·rename_i e;obtain ⟨rfl,rfl⟩:=e;injection a with a;subst a;exact ⟨_,rfl,.ref d ⟨_,Aa.2 rfl⟩⟩
  ·cases a
 ·split at a
  ·rename_i e;injection a with a;subst a;exact ⟨_,rfl,.new (d _ (Aa.2 rfl)) (by simpa using e)⟩
  ·cases a
 ·split at a
  ·rename_i e;obtain ⟨rfl,rfl⟩:=e;injection a with a;subst a;exact ⟨_,rfl,.ref d ⟨_,Aa.2 rfl⟩⟩
  ·cases a
 ·split at a
  ·rename_i e;obtain ⟨rfl,rfl,rfl⟩:=e;injection a with a;subst a;exact ⟨_,rfl,.ref d ⟨_,Aa.2 rfl⟩⟩
  ·cases a
 ·split at a
  ·rename_i e;obtain ⟨rfl,rfl,rfl,rfl⟩:=e;injection a with a;subst a;exact ⟨_,rfl,.ref d ⟨_,Aa.2 rfl⟩⟩
  ·cases a
 ·split at a
  ·rename_i t u o m v o' e;subst e;cases f:cast? m t v with
   | none=>rw [f] at a;cases a
   | some y=>
    rw [f] at a;injection a with a;subst a;obtain ⟨rfl,rfl⟩:=Y7 f;exact ⟨_,rfl,.leaf rfl (λ_ _=>rfl) rfl⟩
  ·cases a
 ·split at a
  ·rename_i e;obtain ⟨rfl,rfl⟩:=e;injection a with a;subst a;exact ⟨_,rfl,.fn d⟩
  ·cases a
 ·split at a
  ·rename_i e;obtain ⟨rfl,rfl⟩:=e;injection a with a;subst a;exact ⟨_,rfl,.ref d ⟨_,Aa.2 rfl⟩⟩
  ·cases a
 ·split at a
  ·rename_i e;subst e;injection a with a;subst a;exact ⟨_,rfl,.yl _⟩
  ·cases a
 ·split at a
  ·rename_i g v A w e;obtain ⟨rfl,rfl⟩:=e;injection a with a;subst a;unfold F5 S.shut.ok at hs;rw [Ac] at hs;exact ⟨_,rfl,.mo (by simpa [AV.flat] using hs.2)⟩
  ·cases a
 ·cases a
structure Lv (s:S Ty.T) (sh:S U) (N:List Nat) (l m:List (C Ty.T)):Prop where
 len:l.length=m.length
 at':∀(i:Nat) (x y:C Ty.T),l[i]?=some x->m[i]?=some y->Fx s sh N x y
theorem Lv.nil:Lv s sh N [] []:=⟨rfl,λi x y hx=>by simp at hx⟩
theorem Lv.cons{x y:C Ty.T}{l m:List (C Ty.T)}(hx:Fx s sh N x y)(g:Lv s sh N l m):Lv s sh N (x::l) (y::m):=
 ⟨by simp [g.len],λi a b f d=>by
  cases i with
  | zero=>simp at f d;subst f;subst d;exact hx
  | succ i=>exact g.at' i a b (by simpa using f) (by simpa using d)⟩
theorem lG{h:HL Ty.T r}:∀ {l:List (C U)} {m:List (C Ty.T)} {o:HL Ty.T (Hu r l)},TT (dL wv) s.ob h l m=some o->(∀c∈l,F5 sh c)->(∀g∈gq s.ob l m,g∈N)->∃ys,KF l o=(ys,h)/\Lv s sh N m ys
 | [],[],o,f,_,_=>by injection f with f;subst f;exact ⟨[],rfl,.nil⟩
 | c::l,x::m,o,f,hs,hN=>by
  simp only [TT] at f;cases w:TT (dL wv) s.ob h l m with
  | none=>rw [w] at f;cases f
  | some E=>
   rw [w] at f;obtain ⟨ys,a,b⟩:=lG w (λc A=>hs c (Ab _ A)) λg v=>hN g (Af _ v);obtain ⟨y,B,d⟩:=J13 (N:=N) (sh:=sh) f (hs c Ae) λg v=>hN g (Ak _ v);exact ⟨y::ys,by simp only [KF,B,a],.cons d b⟩
 | [],_::_,o,f,_,_=>by cases f
 | _::_,[],o,f,_,_=>by cases f
end
structure FxP (s:S Ty.T) (sh:S U) (N:List Nat) (l m:List (Bool×List (C Ty.T))):Prop where
 len:l.length=m.length
 at':∀(i:Nat) (x y:Bool×List (C Ty.T)),l[i]?=some x->m[i]?=some y->x.1=y.1/\Lv s sh N x.2 y.2
inductive Fv (s:S Ty.T) (sh:S U) (N:List Nat):V Ty.T->V Ty.T->Prop
 | any (x:V Ty.T):Fv s sh N x (.c .any)
 | c {x y:C Ty.T} (h:Fx s sh N x y):Fv s sh N (.c x) (.c y)
 | ag {l m:List (C Ty.T)} (h:Lv s sh N l m):Fv s sh N (.ag l) (.ag m)
 | tp {l m:List (Bool×List (C Ty.T))} (h:FxP s sh N l m):Fv s sh N (.tp l) (.tp m)
inductive Fo (s:S Ty.T) (sh:S U) (N:List Nat):Option (Ob Ty.T)->Nat->Ob Ty.T->Prop
 | box {v:Nat} {cs ys:List (C Ty.T)} (h:Lv s sh N cs ys):Fo s sh N (some (.box v cs)) v (.box v ys)
 | lit {v e:Nat} {el:TypeId} {cs ys:List (C Ty.T)} {z:Bool} (h:Lv s sh N cs ys):Fo s sh N (some (.lit v e el cs z)) v (.lit v e el ys z)
 | row0 {v e:Nat} {el:TypeId} {t:Ty} {l:List t.T} {x ys:List (C Ty.T)} {z:Bool} (h:Lv s sh N x ys):Fo s sh N (some (.row v e el t l x none z)) v (.row v e el t l ys none z)
 | UZ {v e:Nat} {el:TypeId} {t:Ty} {l:List t.T} {x ys:List (C Ty.T)} {off:Nat} {c y:C Ty.T} {z:Bool} (h:Lv s sh N x ys) (hy:Fx s sh N c y):Fo s sh N (some (.row v e el t l x (some (off,c)) z)) v (.row v e el t l ys (some (off,y)) z)
 | UY {v e:Nat} {el:TypeId} {t:Ty} {l l':List t.T} {x ys:List (C Ty.T)} {off:Nat} {c:C Ty.T} {z:Bool} (h:Lv s sh N x ys) (hl:Mq val (Eo val s.ob 4) t l (some (off,c))=some l') (hN:∀g∈Kw s.ob 4 c,g∈N) :
   Fo s sh N (some (.row v e el t l x (some (off,c)) z)) v (.row v e el t l' ys none z)
 | VX {v e:Nat} {el:TypeId} {t:Ty} {z:Bool}:Fo s sh N none v (.row v e el t ([]:List t.T) [] none z)
 | new1 {v e:Nat} {el:TypeId} {t:Ty} {off g v':Nat} {z:Bool} (h:∃o,look g sh.ob=some o/\o.ver=v'):Fo s sh N none v (.row v e el t ([]:List t.T) [] (some (off,.own g v')) z)
 | mp {v:Nat} {kt vt:Ty} {es:List (kt.T×vt.T)}:Fo s sh N (some (.mp v kt vt es)) v (.mp v kt vt es)
def MH(sh:S U):V U->Prop
 | .c x=>F5 sh x
 | .ag l=>∀c∈l,F5 sh c
 | .tp l=>∀q∈l,∀c∈q.2,F5 sh c
section
variable {s:S Ty.T} {sh:S U} {N:List Nat} {r:List Ty}
theorem J83{h:HL Ty.T r}:∀ {l:List (Bool×List (C U))} {m:List (Bool×List (C Ty.T))} {o:HL Ty.T (nT r l)},RP (dL wv) s.ob h l m=some o->(∀q∈l,∀c∈q.2,F5 sh c)->(∀g∈Oi s.ob l m,g∈N) ->
  ∃ys,tT l o=(ys,h)/\FxP s sh N m ys
 | [],[],o,f,_,_=>by injection f with f;subst f;exact ⟨[],rfl,rfl,λi x y hx=>by simp at hx⟩
 | (a,p)::l,(b,x)::m,o,f,hs,hN=>by
  simp only [RP] at f;split at f
  ·rename_i e;subst e;cases E:RP (dL wv) s.ob h l m with
   | none=>rw [E] at f;cases f
   | some K=>
    rw [E] at f;obtain ⟨ys,J,F⟩:=J83 E (λc G=>hs c (Ab _ G)) λg B=>hN g (Af _ B);obtain ⟨y,H,d⟩:=lG (N:=N) (sh:=sh) f (hs _ Ae) λg B=>hN g (Ak _ B);refine ⟨(a,y)::ys,by simp only [tT,H,J],by simp [F.len],λi u v A w=>?_⟩;cases i with
    | zero=>simp at A w;subst A;subst w;exact ⟨rfl,d⟩
    | succ i=>exact F.at' i u v (by simpa using A) (by simpa using w)
  ·cases f
 | [],_::_,o,f,_,_=>by cases f
 | (_,_)::_,[],o,f,_,_=>by cases f
theorem WV{h:HL Ty.T r}{v:V U}{x:V Ty.T}{f:HL Ty.T (tY r v)}(d:fD (dL wv) s.ob h v x=some f)(hs:MH sh v)(hN:∀g∈ZA s.ob v x,g∈N):∃y,mkV v f=(y,h)/\Fv s sh N x y:=by
 cases v with
 | c c=>
  cases x with
  | c x=>
   obtain ⟨y,a,b⟩:=J13 (N:=N) (sh:=sh) d hs hN;exact ⟨.c y,by simp only [mkV,a],.c b⟩
  | ag l=>cases c<;>first|(injection d with d;subst d;exact ⟨_,rfl,.any _⟩)|cases d
  | tp l=>cases c<;>first|(injection d with d;subst d;exact ⟨_,rfl,.any _⟩)|cases d
 | ag l=>
  cases x with
  | ag m=>
   obtain ⟨y,a,b⟩:=lG (N:=N) (sh:=sh) d hs hN;exact ⟨.ag y,by simp only [mkV,a],.ag b⟩
  | _=>cases d
 | tp l=>
  cases x with
  | tp m=>
   obtain ⟨y,a,b⟩:=J83 (N:=N) (sh:=sh) d hs hN;exact ⟨.tp y,by simp only [mkV,a],.tp b⟩
  | _=>cases d
theorem aU{α:Type}{c:Prop}[Decidable c]{x:Option α}{y:α}(h:(if c then x else none)=some y):c/\x=some y:=by
 split at h
 ·exact ⟨by assumption,h⟩
 ·cases h
theorem WW{h:HL Ty.T r}{p:Ob U}{o:Ob Ty.T}{G:HL Ty.T (jX r p)}(f:fE (dL wv) s.ob h p o=some G)(hs:∀c∈p.kids,F5 sh c)(hN:∀g∈mO s.ob p o,g∈N):∃y,ZF p G=(y,h)/\Fo s sh N (some o) p.ver y:=by
 unfold fE at f;split at f
 ·have m:=aU f;clear f;obtain ⟨e,f⟩:=m;subst e;obtain ⟨y,a,b⟩:=lG (N:=N) (sh:=sh) f hs hN;exact ⟨_,by simp only [ZF,a],.box b⟩
 ·have m:=aU f;clear f;obtain ⟨e,f⟩:=m;obtain ⟨rfl,rfl,rfl,rfl⟩:=e;obtain ⟨y,a,b⟩:=lG (N:=N) (sh:=sh) f hs hN;exact ⟨_,by simp only [ZF,a],.lit b⟩
 ·rename_i v e el t u x nest fz O e' el' A l M nest' fz';have m:=aU f;clear f;obtain ⟨e,f⟩:=m
  ·obtain ⟨rfl,rfl,rfl,rfl⟩:=e;cases w:fF (dL wv) s.ob h nest nest' with
   | none=>rw [w] at f;cases f
   | some Q=>
    rw [w] at f;simp only [Aq] at f;cases hx:TT (dL wv) s.ob Q x M with
    | none=>rw [hx] at f;cases f
    | some J=>
     rw [hx] at f;simp only [Aq] at f;obtain ⟨ys,a,b⟩:=lG (N:=N) (sh:=sh) hx (λc m=>hs c (by simp only [Ob.kids];exact Af _ m)) (λg F=>hN g (by simp only [mO];exact Ak _ F));have cst:∀ {L:List A.T},((cast? (ι:=Ty.T) (.ls A) (.ls t) L:Option (Ty.ls t).T).map λl=>(⟨l,J⟩:HL Ty.T (.ls t::Hu (nU r nest) x)))=some G->∃e:A=t,G=⟨e▸L,J⟩:=λ{L} E=>by
      cases m:cast? (ι:=Ty.T) (.ls A) (.ls t) L with
      | none=>rw [m] at E;cases E
      | some P=>
       rw [m] at E;injection E with E;obtain ⟨B,K⟩:=Y7 m;injection B with B;subst B;exact ⟨rfl,by rw [<-E,K]⟩
     cases nest with
     | none=>
      cases nest' with
      | none=>
       injection w with w;subst w;obtain ⟨rfl,rfl⟩:=cst f;exact ⟨_,by simp only [ZF,a,tV],.row0 b⟩
      | some q=>
       obtain ⟨off,c⟩:=q;injection w with w;subst w;have X:Mq (dL wv) (Eo (dL wv) s.ob 4) A l (some (off,c))=Mq val (Eo val s.ob 4) A l (some (off,c)):=by rw [Jwp];exact dU _ A l _
       have f:((Mq (dL wv) (Eo (dL wv) s.ob 4) A l (some (off,c))).bind λl=>Option.map (λl=>(⟨l,J⟩:HL Ty.T (.ls t::Hu (nU r none) x))) (cast? (ι:=Ty.T) (.ls A) (.ls t) l))=some G:=f;rw [X] at f;cases H:Mq val (Eo val s.ob 4) A l (some (off,c)) with
       | none=>rw [H] at f;cases f
       | some Z=>
        rw [H] at f;obtain ⟨rfl,rfl⟩:=cst f;exact ⟨_,by simp only [ZF,a,tV],.UY b H λg F=>hN g (by simp only [mO];exact Af _ F)⟩
     | some p=>
      obtain ⟨po,pc⟩:=p;cases nest' with
      | none=>simp at f
      | some q=>
       obtain ⟨off,c⟩:=q;simp only [fF] at w;have m:=aU w;clear w;obtain ⟨e,w⟩:=m
       ·subst e;obtain ⟨y,Y,d⟩:=J13 (N:=N) (sh:=sh) w (hs pc (by simp [Ob.kids])) λg F=>hN g (by simp only [mO];exact Af _ F);obtain ⟨rfl,rfl⟩:=cst f;exact ⟨_,by simp only [ZF,a,tV,Y],.UZ b d⟩
 ·rename_i v kt vt u O kt' vt' es;have m:=aU f;clear f;obtain ⟨e,f⟩:=m;subst e;cases m:cast? (ι:=Ty.T) (.ls (.p kt' vt')) (.ls (.p kt vt)) es with
  | none=>rw [m] at f;cases f
  | some P=>
   rw [m] at f;injection f with f;obtain ⟨B,K⟩:=Y7 m;injection B with B;injection B with B R;subst B;subst R;subst f;subst K;exact ⟨_,rfl,.mp⟩
 ·cases f
theorem Kar{h:HL Ty.T r}{p:Ob U}{d:HL Ty.T (jX r p)}(a:J79 (dL wv) h p=some d)(hs:∀c∈p.kids,F5 sh c):∃y,ZF p d=(y,h)/\Fo s sh N none p.ver y:=by
 unfold J79 at a;split at a
 ·injection a with a;subst a;exact ⟨_,rfl,.VX⟩
 ·injection a with a;subst a;exact ⟨_,rfl,.new1 (J3w (hs _ (by simp [Ob.kids];rfl)) _ (Aa.2 rfl))⟩
 ·cases a
def YT(s:S Ty.T)(sh:S U)(N:List Nat):List (Nat×Ob U)->List (Nat×Ob Ty.T)->Prop
 | [],[]=>True
 | (a,p)::l,(b,o)::m=>b=a/\Fo s sh N (look a s.ob) p.ver o/\YT s sh N l m
 | _,_=>False
theorem YT.oG{n:Nat}:∀ {l:List (Nat×Ob U)} {m:List (Nat×Ob Ty.T)} {p:Ob U},YT s sh N l m->look n l=some p->∃o,look n m=some o/\Fo s sh N (look n s.ob) p.ver o
 | [],_,p,_,h=>by cases h
 | (a,q)::l,[],p,d,h=>d.elim
 | (a,q)::l,(b,o)::m,p,d,h=>by
  obtain ⟨rfl,g,f⟩:=d;rw [Q0] at h ⊢;split at h
  ·rename_i e;injection h with h;subst h;subst e;rw [if_pos rfl];exact ⟨o,rfl,g⟩
  ·rename_i e;rw [if_neg e];exact YT.oG f h
theorem YT.at2{n:Nat}:∀ {l:List (Nat×Ob U)} {m:List (Nat×Ob Ty.T)} {o:Ob Ty.T},YT s sh N l m->look n m=some o->∃p,look n l=some p
 | _,[],p,_,h=>by cases h
 | [],_::_,p,d,h=>d.elim
 | (a,q)::l,(b,g)::m,o,d,h=>by
  obtain ⟨rfl,r,f⟩:=d;rw [Q0] at h ⊢;split at h
  ·rename_i e;rw [if_pos e];exact ⟨q,rfl⟩
  ·rename_i e;rw [if_neg e];exact YT.at2 f h
theorem J3q{h:HL Ty.T r}:∀ {l:List (Nat×Ob U)} {w:HL Ty.T (KG r l)},jE (dL wv) s.ob h l=some w->(∀p∈l,∀c∈p.2.kids,F5 sh c)->(∀p∈l,∀o,look p.1 s.ob=some o->∀g∈mO s.ob p.2 o,g∈N) ->
  ∃ys,Pm l w=(ys,h)/\YT s sh N l ys
 | [],w,f,_,_=>by injection f with f;subst f;exact ⟨[],rfl,trivial⟩
 | (a,p)::l,w,f,hs,hN=>by
  simp only [jE] at f;cases A:jE (dL wv) s.ob h l with
  | none=>rw [A] at f;cases f
  | some H=>
   rw [A] at f;obtain ⟨ys,E,B⟩:=J3q A (λc G=>hs c (Ab _ G)) λq F=>hN q (Ab _ F);have m:=hs _ Ae;cases v:look a s.ob with
   | none=>
    rw [v] at f;obtain ⟨y,c,d⟩:=Kar (s:=s) (N:=N) (sh:=sh) f m;exact ⟨(a,y)::ys,by simp only [Pm,c,E],rfl,by rw [v];exact d,B⟩
   | some o=>
    rw [v] at f;obtain ⟨y,c,d⟩:=WW (N:=N) (sh:=sh) f m (hN _ Ae o v);exact ⟨(a,y)::ys,by simp only [Pm,c,E],rfl,by rw [v];exact d,B⟩
def YS(s:S Ty.T)(sh:S U)(N:List Nat)(sl:List (Nat×V Ty.T)):List (Nat×V U)->List (Nat×V Ty.T)->Prop
 | [],[]=>True
 | (a,_)::l,(b,v)::m=>b=a/\Fv s sh N ((look a sl).getD (.c .any)) v/\YS s sh N sl l m
 | _,_=>False
theorem YS.mem{sl:List (Nat×V Ty.T)}:∀ {l:List (Nat×V U)} {m:List (Nat×V Ty.T)},YS s sh N sl l m->∀p∈m,Fv s sh N ((look p.1 sl).getD (.c .any)) p.2
 | _,[],_,p,h=>by cases h
 | [],_::_,d,p,h=>d.elim
 | (a,q)::l,(b,v)::m,d,p,h=>by
  obtain ⟨rfl,g,f⟩:=d;rcases Ai.1 h with rfl|h
  ·exact g
  ·exact YS.mem f p h
theorem Jxh{h:HL Ty.T r}{sl:List (Nat×V Ty.T)}:∀ {l:List (Nat×V U)} {m:HL Ty.T (I4 r l)},XT (dL wv) s.ob h sl l=some m->(∀p∈l,MH sh p.2)->(∀g∈pY s.ob l sl,g∈N)->∃ys,Pj l m=(ys,h)/\YS s sh N sl l ys
 | [],m,f,_,_=>by injection f with f;subst f;exact ⟨[],rfl,trivial⟩
 | (a,p)::l,m,f,hs,hN=>by
  simp only [XT] at f;cases v:XT (dL wv) s.ob h sl l with
  | none=>rw [v] at f;cases f
  | some A=>
   rw [v] at f;obtain ⟨ys,E,B⟩:=Jxh v (λc w=>hs c (Ab _ w)) λg o=>hN g (by simp only [pY,Aw];exact Af _ o);have f:fD (dL wv) s.ob A p ((look a sl).getD (.c .any))=some m:=f;obtain ⟨y,c,d⟩:=WV (N:=N) (sh:=sh) f (hs _ Ae) λg o=>hN g (by simp only [pY,Aw];exact Ak _ o);exact ⟨(a,y)::ys,by simp only [Pj,c,E],rfl,d,B⟩
def Tp(s:S Ty.T)(sh:S U)(N:List Nat):List (List (Nat×V Ty.T))->List (List (Nat×V U))->List (List (Nat×V Ty.T))->Prop
 | [],[],[]=>True
 | q::m,l::ls,y::ys=>YS s sh N q l y/\Tp s sh N m ls ys
 | _,_,_=>False
theorem Tp.at:∀ {m:List (List (Nat×V Ty.T))} {l:List (List (Nat×V U))} {ys:List (List (Nat×V Ty.T))},Tp s sh N m l ys->ys.length=m.length/\∀(i:Nat) (q y:List (Nat×V Ty.T)),m[i]?=some q->ys[i]?=some y->∃l,YS s sh N q l y
 | [],[],[],_=>⟨rfl,λi q y h=>by simp at h⟩
 | q::m,l::ls,y::ys,h=>by
  obtain ⟨o,g⟩:=h;obtain ⟨a,b⟩:=Tp.at g;refine ⟨by simp [a],λi u v f d=>?_⟩;cases i with
  | zero=>simp at f d;subst f;subst d;exact ⟨l,o⟩
  | succ i=>exact b i u v (by simpa using f) (by simpa using d)
 | [],[],_::_,h=>h.elim
 | [],_::_,_,h=>h.elim
 | _::_,[],_,h=>h.elim
 | _::_,_::_,[],h=>h.elim
theorem J29{h:HL Ty.T r}:∀ {l:List (List (Nat×V U))} {m:List (List (Nat×V Ty.T))} {f:HL Ty.T (KH r l)},aC (dL wv) s.ob h l m=some f->(∀q∈l,∀p∈q,MH sh p.2)->(∀g∈J7m s.ob l m,g∈N)->∃ys,WA l f=(ys,h)/\Tp s sh N m l ys
 | [],[],f,a,_,_=>by injection a with a;subst a;exact ⟨[],rfl,trivial⟩
 | p::l,q::m,f,a,hs,hN=>by
  simp only [aC] at a;cases v:aC (dL wv) s.ob h l m with
  | none=>rw [v] at a;cases a
  | some E=>
   rw [v] at a;obtain ⟨ys,B,A⟩:=J29 v (λc w=>hs c (Ab _ w)) λg o=>hN g (Af _ o);obtain ⟨y,c,d⟩:=Jxh (N:=N) (sh:=sh) a (hs _ Ae) λg o=>hN g (Ak _ o);exact ⟨y::ys,by simp only [WA,c,B],d,A⟩
 | [],_::_,f,a,_,_=>by cases a
 | _::_,[],f,a,_,_=>by cases a
structure Fit (s:S Ty.T) (sh:S U) (N:List Nat) (s':S Ty.T):Prop where
 sl:YS s sh N s.sl sh.sl s'.sl
 lo:Tp s sh N s.lo sh.lo s'.lo
 ob:YT s sh N sh.ob s'.ob
 out:∀g∈N,look g sh.ob=none
 mo:s'.mo=s.mo
 mg:∀m,sh.mo=some m->∃m',s.mo=some m'/\m'.g=m.g
 nm:∀p∈sh.ob,FB s.mo p.1=false
 rd:∀g∈N,FB s.mo g=false
theorem RQ:∀ {m:Option (Mo U)} {d:Option (Mo Ty.T)} {h:HL Ty.T (Lc m)},RS (dL wv) m d=some h->nR m h=d/\(∀x,m=some x->∃y,d=some y/\y.g=x.g)/\∀n,FB d n=FB m n
 | none,none,h,a=>⟨rfl,λx hx=>by (cases hx),λn=>rfl⟩
 | some m,some d,h,a=>by
  obtain ⟨g,kt,vt,el,es⟩:=m;obtain ⟨A,kt',vt',el',es'⟩:=d;have a:(if g=A/\el=el' then (cast? (ι:=Ty.T) (.ls (.p kt' (.ls vt'))) (.ls (.p kt (.ls vt))) es').map λl=>(⟨l,()⟩:HL Ty.T [.ls (.p kt (.ls vt))]) else none)=some h:=a;obtain ⟨⟨f,w⟩,o⟩:=aU a;clear a;subst f;subst w;cases r:cast? (ι:=Ty.T) (.ls (.p kt' (.ls vt'))) (.ls (.p kt (.ls vt))) es' with
  | none=>rw [r] at o;cases o
  | some B=>
   rw [r] at o;injection o with a;obtain ⟨f,w⟩:=Y7 r;injection f with f;injection f with f v;injection v with v;subst f;subst v;subst a;subst w;exact ⟨rfl,λx hx=>⟨_,rfl,by injection hx with hx;subst hx;rfl⟩,λn=>rfl⟩
 | none,some d,h,a=>by cases a
 | some m,none,h,a=>by cases a
theorem RN{h:HL Ty.T sh.lt}(a:sh.fit (dL wv) s=some h):Fit s sh (aB sh s) (sh.mk' h):=by
 unfold S.fit at a;split at a
 ·rename_i m;obtain ⟨hs,hN,w⟩:=m;cases B:RS (dL wv) sh.mo s.mo with
  | none=>rw [B] at a;cases a
  | some a0=>
  rw [B] at a;have a:((jE (dL wv) s.ob a0 sh.ob).bind λh=>(aC (dL wv) s.ob h sh.lo s.lo).bind λh=>XT (dL wv) s.ob h s.sl sh.sl)=some (show HL Ty.T (I4 (KH (KG (Lc sh.mo) sh.ob) sh.lo) sh.sl) from h):=a;obtain ⟨Y,X,R⟩:=RQ B;unfold S.shut at hs;simp only [Ac] at hs;have E:∀p∈sh.sl++sh.lo.flatten,MH sh p.2:=λp d=>by
   have:=Ah.1 hs.1 p d;cases hx:p.2 with
   | c x=>rw [hx] at this;exact this
   | ag l=>rw [hx] at this;exact λc m=>Ah.1 this c m
   | tp l=>rw [hx] at this;exact λq r c m=>Ah.1 (Ah.1 this q r) c m
  have v:∀p∈sh.ob,∀c∈p.2.kids,F5 sh c:=λp d c m=>Ah.1 (Ah.1 hs.2 p d) c m;cases A:jE (dL wv) s.ob a0 sh.ob with
  | none=>rw [A] at a;cases a
  | some F=>
   rw [A] at a;have a:((aC (dL wv) s.ob F sh.lo s.lo).bind λh=>XT (dL wv) s.ob h s.sl sh.sl)=some (show HL Ty.T (I4 (KH (KG (Lc sh.mo) sh.ob) sh.lo) sh.sl) from h):=a;cases y:aC (dL wv) s.ob F sh.lo s.lo with
   | none=>rw [y] at a;cases a
   | some Z=>
    rw [y] at a;have a:XT (dL wv) s.ob Z s.sl sh.sl=some (show HL Ty.T (I4 (KH (KG (Lc sh.mo) sh.ob) sh.lo) sh.sl) from h):=a;obtain ⟨J,Q,M⟩:=J3q (N:=aB sh s) (sh:=sh) A v λp d o v g f=>by unfold aB;refine Af _ (Ao.2 ⟨p,d,?_⟩);rw [v];exact f
    obtain ⟨H,P,L⟩:=J29 (N:=aB sh s) (sh:=sh) y (λq r p d=>E p (Af _ (List.mem_flatten.2 ⟨q,r,d⟩))) λg f=>by unfold aB;exact Ak _ (Af _ f)
    obtain ⟨G,O,K⟩:=Jxh (N:=aB sh s) (sh:=sh) a (λp d=>E p (Ak _ d)) λg f=>by unfold aB;exact Ak _ (Ak _ f)
    have e:sh.mk' h=⟨G,H,J,[],s.mo⟩:=by simp only [S.mk',O,P,Q,Y]
    rw [e];refine ⟨K,L,M,λg f=>?_,rfl,X,λp d=>?_,λg f=>?_⟩
    ·have:=Ah.1 hN g f;rw [Ac] at this;simpa using this.1
    ·have:=Ah.1 w p d;rw [R];simpa using this
    ·have:=Ah.1 hN g f;rw [Ac] at this;simpa using this.2
 ·cases a
end
section
variable {s s':S Ty.T} {sh:S U} {N:List Nat}
structure Same (s s':S Ty.T) (o o':Ob Ty.T):Prop where
 ver:o.ver=o'.ver
 len:o.CO=o'.CO
 arr:∀v e el c z,BG s o=.arr v e el c z->∃c' z',BG s' o'=.arr v e el c' z'/\(c=[]↔c'=[])
theorem Fo.ver{src:Option (Ob Ty.T)}{v:Nat}{o':Ob Ty.T}(h:Fo s sh N src v o'):o'.ver=v:=by cases h<;>rfl
theorem Fo.same{o o':Ob Ty.T}{v:Nat}(h:Fo s sh N (some o) v o'):Same s s' o o':=by
 cases h with
 | box h=>exact ⟨rfl,rfl,λv e el c z q=>by simp [BG] at q⟩
 | mp=>exact ⟨rfl,rfl,λv e el c z q=>by simp [BG] at q⟩
 | @lit v e el cs ys z h=>
  refine ⟨rfl,by simp [Ob.CO,h.len],λv e el c z q=>?_⟩;simp only [BG,AZ.arr.injEq] at q;obtain ⟨rfl,rfl,rfl,rfl,rfl⟩:=q;exact ⟨_,_,rfl,zd (by simp [h.len])⟩
 | @row0 v e el t l x ys z h=>
  refine ⟨rfl,by simp [Ob.CO,h.len],λv e el c z q=>?_⟩;simp only [BG,AZ.arr.injEq] at q;obtain ⟨rfl,rfl,rfl,rfl,rfl⟩:=q;exact ⟨_,_,rfl,zd (by simp [h.len,YQ])⟩
 | @UZ v e el t l x ys off c y z h r=>
  refine ⟨rfl,by simp [Ob.CO,h.len],λv e el c z q=>?_⟩;simp only [BG,AZ.arr.injEq] at q;obtain ⟨rfl,rfl,rfl,rfl,rfl⟩:=q;exact ⟨_,_,rfl,zd (by simp [h.len,YQ])⟩
 | @UY v e el t l f x ys off c z h hl hN=>
  obtain ⟨d,-⟩:=yK (s:=s) (h':=AA s) (θ:=some) (R:=(Kw s.ob 4 c).filter (EW (AA s))) hl λp a g m hr=>by injection a with a;subst a;exact Aj.2 ⟨m,S9.2 hr⟩
  refine ⟨rfl,?_,λv e el c z q=>?_⟩
  ·show List.length (α:=t.T) l+x.length / e=List.length (α:=t.T) f+ys.length / e;rw [d,h.len]
  simp only [BG,AZ.arr.injEq] at q;obtain ⟨rfl,rfl,rfl,rfl,rfl⟩:=q;refine ⟨_,_,rfl,zd ?_⟩;simp only [Ay,Bh,YQ,Kj];rw [d,h.len]
theorem Fit.at(F:Fit s sh N s'){g v:Nat}(hs:∃o,look g sh.ob=some o/\o.ver=v){o:Ob Ty.T}(d:look g s.ob=some o):∃o',look g s'.ob=some o'/\Same s s' o o'/\o'.ver=v:=by obtain ⟨p,l,h⟩:=hs;obtain ⟨o',f,a⟩:=F.ob.oG l;rw [d] at a;exact ⟨o',f,a.same,by rw [a.ver,h]⟩
theorem Fit.has(F:Fit s sh N s'){g v:Nat}(hs:∃o,look g sh.ob=some o/\o.ver=v):∃o',look g s'.ob=some o'/\o'.ver=v:=by obtain ⟨p,h,f⟩:=hs;obtain ⟨o',d,a⟩:=F.ob.oG h;exact ⟨o',d,by rw [a.ver,f]⟩
theorem MQ(F:Fit s sh N s'){x y:C Ty.T}(hx:Fx s sh N x y):FR s' y:=by
 have key:∀ {c:C Ty.T},(∀r∈refs c,∃o,look r.1 sh.ob=some o/\o.ver=r.2)->FR s' c:=λh r hr=>by obtain ⟨o',a,b⟩:=F.has (h r hr);exact ⟨o',a,by omega⟩
 cases hx with
 | any=>exact Kh s' rfl
 | lf=>exact Kh s' rfl
 | leaf hr=>exact Kh s' hr
 | ref h=>exact key h
 | fn h=>exact key h
 | yl j=>exact Kh s' rfl
 | mo=>exact Kh s' rfl
 | new h d=>
  refine key λr hr=>?_;have:=Aa.1 hr;subst this;exact h
theorem Fit.nV(F:Fit s sh N s'){n:Nat}(h:FB s.mo n=true):look n s'.ob=none:=by
 cases hl:look n s'.ob with
 | none=>rfl
 | some o=>
  obtain ⟨p,a⟩:=F.ob.at2 hl;have:=F.nm _ (Mg a);rw [h] at this;cases this
theorem Fit.same(F:Fit s sh N s')(hi:Inv s){n:Nat}{o:AZ}(h:Ec s.mo n=some o):AA s n=some o/\AA s' n=some o/\some n=some n:=by
 have a:=(lI h).1;refine ⟨?_,?_,rfl⟩
 ·simp only [AA,qp hi a];exact h
 ·simp only [AA,F.nV a,F.mo];exact h
theorem RG(F:Fit s sh N s')(hi:Inv s){x y:C Ty.T}(ok:FR s x)(hx:Fx s sh N x y):GR (AA s) (AA s') some (N.filter (EW (AA s))) (AB s x) (AB s' y):=by
 have ar:∀ {g v off len:Nat},(∃o,look g sh.ob=some o/\o.ver=v)->(∃o,look g s.ob=some o/\v<=o.ver)->GR (AA s) (AA s') some (N.filter (EW (AA s))) (.arr g v off len) (.arr g v off len):=λA d=>by obtain ⟨o,d,-⟩:=d;obtain ⟨o',E,w,G⟩:=F.at A d;refine .arr (Jn d) (Jn E) (by rw [Mj];omega) rfl λ_=>⟨by rw [Mj,w.ver,G],λe el c z q=>?_⟩;have K:(BG s o).ver=_:=congrArg AZ.ver q;rw [Mj,w.ver,G] at K;exact w.arr _ e el c z q
 have pr:∀ {g v off:Nat},(∃o,look g sh.ob=some o/\o.ver=v)->(∃o,look g s.ob=some o/\v<=o.ver)->GR (AA s) (AA s') some (N.filter (EW (AA s))) (.ptr g v off) (.ptr g v off):=λA d=>by obtain ⟨o,d,-⟩:=d;obtain ⟨o',E,w,G⟩:=F.at A d;exact .ptr (Jn d) (Jn E) (by rw [Mj];omega) rfl λ_=>by rw [Mj,w.ver,G]
 have fnc:∀ {f:FuncId} {c:List (Nat×Nat×Nat)},FR s (.fn f c)->(∀r∈refs (.fn f c:C Ty.T),∃o,look r.1 sh.ob=some o/\o.ver=r.2)->GR (AA s) (AA s') some (N.filter (EW (AA s))) (AB s (.fn f c)) (AB s' (.fn f c)):=λ{f c} ok h=>by have:=Ev.map (h:=AA s) (h':=AA s') (θ:=some) (R:=N.filter (EW (AA s))) (l:=c) (f:=λx:Nat×Nat×Nat=>AV.ptr x.1 x.2.1 x.2.2) (f':=λx:Nat×Nat×Nat=>AV.ptr x.1 x.2.1 x.2.2) λx hx=>pr (h (x.1,x.2.1) (Ar.2 ⟨x,hx,rfl⟩)) (ok (x.1,x.2.1) (Ar.2 ⟨x,hx,rfl⟩));exact .fn f _ _ this.len this.at'
 cases hx with
 | any=>exact .any _
 | lf h hN=>exact J9m h λg X hr=>Aj.2 ⟨hN g X,S9.2 hr⟩
 | leaf hr Z Y=>rw [Z s s'];exact .flat Y
 | fn h=>exact fnc ok h
 | yl j=>exact .Hf j
 | @mo g v h=>
  cases M:sh.mo with
  | none=>rw [M] at h;cases h
  | some m=>
   rw [M] at h;simp only [nQ,Ac] at h;have P:=Bd h.1;have O:=Bd h.2;obtain ⟨H,A,d⟩:=F.mg m M;subst O;have hr:Ec s.mo g=some (.map 0 (F8 H.kt H.vt 0 H.es) false):=by rw [A,<-P,<-d];show H.at H.g=_;unfold Mo.at;rw [if_pos rfl]
   obtain ⟨a,b,c⟩:=F.same hi hr;exact .map a b (Ba _) rfl λ_=>rfl
 | new h h0=>
  obtain ⟨p,A,d⟩:=h;obtain ⟨o',E,w⟩:=F.ob.oG A;rw [h0] at w;rename_i g v;have K:o'.ver=v:=by rw [w.ver,d]
  have J:Yk s' g v=0:=by simp only [Yk,E,K,if_true];cases w<;>simp [Ob.CO]
  simp only [AB,J];have B:∃e el z,BG s' o'=.arr v e el [] z:=by
   rw [<-K];cases w with
   | VX=>exact ⟨_,_,_,rfl⟩
   | new1 h=>exact ⟨_,_,_,rfl⟩
  obtain ⟨e,el,z,B⟩:=B;exact .new (by rw [Jn E,B])
 | ref h hr=>
  cases x with
  | own g v=>
   have A:=h (g,v) (Aa.2 rfl);have d:=ok (g,v) (Aa.2 rfl);obtain ⟨o,L,Q⟩:=d;obtain ⟨o',E,w,G⟩:=F.at A L;have P:Yk s g v=o.CO:=by have:=w.ver;simp [Yk,L,this,G]
   have O:Yk s' g v=o.CO:=by simp [Yk,E,G,w.len]
   simp only [AB,P,O];exact ar A ⟨o,L,Q⟩
  | part g v a b=>exact ar (h (g,v) (Aa.2 rfl)) (ok (g,v) (Aa.2 rfl))
  | ptr g v o=>exact pr (h (g,v) (Aa.2 rfl)) (ok (g,v) (Aa.2 rfl))
  | Fy g v e i o=>exact pr (h (g,v) (Aa.2 rfl)) (ok (g,v) (Aa.2 rfl))
  | fn f c=>exact fnc ok h
  | map g v=>
   have A:=h (g,v) (Aa.2 rfl);obtain ⟨o,d,-⟩:=ok (g,v) (Aa.2 rfl);obtain ⟨o',E,w,G⟩:=F.at A d;exact .map (Jn d) (Jn E) (by rw [Mj];omega) rfl λ_=>by rw [Mj,w.ver,G]
  | _=>obtain ⟨r,hr⟩:=hr;cases hr
theorem iB(F:Fit s sh N s')(hi:Inv s){l m:List (C Ty.T)}(ok:CZ s l)(h:Lv s sh N l m):Ev (AA s) (AA s') some (N.filter (EW (AA s))) (l.map (AB s)) (m.map (AB s')):=by
 refine ⟨by simp [h.len],λi x y hx d=>?_⟩;rw [Bc] at hx d;cases hl:l[i]? with
 | none=>rw [hl] at hx;cases hx
 | some a=>
  cases f:m[i]? with
  | none=>rw [f] at d;cases d
  | some b=>
   rw [hl] at hx;rw [f] at d;injection hx with hx;injection d with d;subst hx;subst d;exact RG F hi (ok a (Av hl)) (h.at' i a b hl f)
theorem iA(F:Fit s sh N s'){l m:List (C Ty.T)}(h:Lv s sh N l m):CZ s' m:=by
 intro c a;obtain ⟨i,hi⟩:=Bg a;obtain ⟨x,hx⟩:∃x,l[i]?=some x:=by have:=(Ad.1 hi).1;exact ⟨_,Ag (by rw [h.len];exact this)⟩
 exact MQ F (h.at' i x c hx hi)
theorem nk(F:Fit s sh N s')(hi:Inv s){v r:V Ty.T}(ok:okV s v)(h:Fv s sh N v r):GR (AA s) (AA s') some (N.filter (EW (AA s))) (AQ s v) (AQ s' r):=by
 cases h with
 | any=>exact .any _
 | c h=>exact RG F hi (ok _ (Aa.2 rfl)) h
 | ag h=>have:=iB F hi ok h;exact .agg _ _ this.len this.at'
 | @tp l m h=>
  refine .Cn _ _ (by simp [h.len]) λi x y hx d=>?_;rw [Bc] at hx d;cases hl:l[i]? with
  | none=>rw [hl] at hx;cases hx
  | some a=>
   cases f:m[i]? with
   | none=>rw [f] at d;cases d
   | some b=>
    rw [hl] at hx;rw [f] at d;injection hx with hx;injection d with d;subst hx;subst d;obtain ⟨e,q⟩:=h.at' i a b hl f;have:=iB F hi (λc E=>ok c (Ao.2 ⟨a,Av hl,E⟩)) q;obtain ⟨w,o⟩:=a;obtain ⟨G,g⟩:=b;have e:w=G:=e;subst e;cases w with
    | true=>exact .agg _ _ this.len this.at'
    | false=>
     show GR _ _ _ _ (zk (o.map (AB s))) (zk (g.map (AB s')));have this:Ev _ _ _ _ (o.map (AB s)) (g.map (AB s')):=this;generalize o.map (AB s)=A at this ⊢;generalize g.map (AB s')=B at this ⊢
     match A,B,this with
     | [],[],_=>exact .any _
     | [u],[v],t=>exact t.at' 0 u v rfl rfl
     | [],_::_,t=>exact absurd t.len (by simp)
     | _::_,[],t=>exact absurd t.len (by simp)
     | [_],_::_::_,t=>exact .any _
     | _::_::_,[_],t=>exact absurd t.len (by simp)
     | _::_::_,_::_::_,t=>exact .any _
theorem ZM(F:Fit s sh N s'){v d:V Ty.T}(h:Fv s sh N v d):okV s' d:=by
 cases h with
 | any=>exact Zm (Kh s' rfl)
 | c h=>exact Zm (MQ F h)
 | ag h=>exact iA F h
 | @tp l m h=>
  intro c a;obtain ⟨b,f,a⟩:=Ao.1 a;obtain ⟨i,hi⟩:=Bg f;obtain ⟨x,hx⟩:∃x,l[i]?=some x:=by have:=(Ad.1 hi).1;exact ⟨_,Ag (by rw [h.len];exact this)⟩
  exact iA F (h.at' i x b hx hi).2 c a
theorem ny(F:Fit s sh N s')(hi:Inv s){g v:Nat}{o o':Ob Ty.T}(ok:CZ s o.kids)(h:Fo s sh N (some o) v o'):GO (AA s) (AA s') some (N.filter (EW (AA s))) g (BG s o) (BG s' o'):=by
 cases h with
 | box h=>exact .box (iB F hi ok h)
 | @mp v kt vt es=>
  refine .map rfl λi p q a d=>?_;have a:(Cq kt vt es)[i]?=some p:=a;have d:(Cq kt vt es)[i]?=some q:=d;rw [a] at d;injection d with d;subst d;exact ⟨rfl,J18 a⟩
 | lit h=>exact .arr (iB F hi ok h) (λq=>.inl q) λq=>q
 | row0 h=>exact .arr (.append (.flat (Mh _ _)) (iB F hi ok h)) (λq=>.inl q) λq=>q
 | @UZ v e el t l x ys off c y z h m=>
  refine .arr (.append ?_ (iB F hi (λc f=>ok c (Af _ f)) h)) (λq=>.inl q) λq=>q;exact (Ev.flat (Mh t l)).set (RG F hi (ok c (Ak _ (Aa.2 rfl))) m) _
 | @UY v e el t l w x ys off c z h hl hN=>
  refine .arr (.append ?_ (iB F hi (λc f=>ok c (Af _ f)) h)) (λq=>.inl q) λq=>q;exact (yK hl λp a g r hr=>by injection a with a;subst a;exact Aj.2 ⟨hN g r,S9.2 hr⟩).2
theorem nu(F:Fit s sh N s'){src:Option (Ob Ty.T)}{v:Nat}{o':Ob Ty.T}(h:Fo s sh N src v o'):CZ s' o'.kids:=by
 cases h with
 | box h=>exact iA F h
 | mp=>intro c a;cases a
 | lit h=>exact iA F h
 | row0 h=>exact iA F h
 | UZ h f=>
  intro c a;rcases Bb.1 a with a|a
  ·rw [Aa] at a;subst a;exact MQ F f
  ·exact iA F h c a
 | UY h=>exact iA F h
 | VX=>intro c a;cases a
 | @new1 v e el t off g d z h=>
  intro c a;have:c=.own g d:=by simpa [Ob.kids] using a
  subst this;exact MQ F (.ref (λr hr=>by have:=Aa.1 hr;subst this;exact h) ⟨_,Aa.2 rfl⟩)
end
section
variable {nt:Nat} {w:World} {S:Nat->Prop} {s:Dn.S Ty.T} {μ:Gh} {a:Act} {fs:List Fm}
theorem RO{sh:Dn.S U}{N:List Nat}{s':Dn.S Ty.T}(h:BO nt w S s μ a fs)(F:Fit s sh N s'):Goes nt w S s μ a fs s':=by
 have src:∀n o',look n s'.ob=some o'->∃v,Fo s sh N (look n s.ob) v o':=λn o' A=>by obtain ⟨p,y⟩:=F.ob.at2 A;obtain ⟨O,f,r⟩:=F.ob.oG y;rw [A] at f;injection f with f;subst f;exact ⟨_,r⟩
 have enc_of:∀n o',AA s' n=some o'->(∃ob,look n s'.ob=some ob/\o'=BG s' ob)\/Ec s.mo n=some o':=λn o' A=>by
  rcases uj A with f|⟨-,f⟩
  ·exact .inl f
  ·rw [F.mo] at f;exact .inr f
 have slots:∀ {sl:List (Nat×V Ty.T)} {l:List (Nat×V U)} {m:List (Nat×V Ty.T)},(∀p∈sl,okV s p.2)->YS s sh N sl l m->∀ {d v},look d m=some v->GR (AA s) (AA s') some (N.filter (EW (AA s))) (AQ s ((look d sl).getD (.c .any))) (AQ s' v):=λ{sl l m} ok G d v hd=>by
  have:=G.mem (d,v) (Mg hd);refine nk F h.iv ?_ this;cases H:look d sl with
  | none=>exact Zm (Kh s rfl)
  | some u=>exact ok (d,u) (Mg H)
 refine h.ghost (θ:=some) (R:=N.filter (EW (AA s))) ⟨⟨λn o' A=>?_,λn P g f r _ _=>?_,λn g o' f r X Q=>?_,λg E=>S9.1 (Aj.1 E).2⟩,λd v hd=>?_,(Tp.at F.lo).1,λi l L d M hl J hd=>?_,λp y=>?_,λl hl p y=>?_,λg o A=>?_,λm B=>?_⟩
 ·rcases enc_of n o' A with ⟨ob,f,rfl⟩|B
  rotate_left
  ·exact .inr ⟨n,o',rfl,(F.same h.iv B).1,J0y h.iv (λq=>F.same h.iv q) B⟩
  obtain ⟨v,r⟩:=src n ob f;cases hs:look n s.ob with
  | none=>
   rw [hs] at r;left;cases r with
   | VX=>exact ⟨_,_,_,_,rfl⟩
   | new1 h=>exact ⟨_,_,_,_,rfl⟩
  | some o=>
   rw [hs] at r;exact .inr ⟨n,_,rfl,Jn hs,ny F h.iv (h.iv.ob n o hs) r⟩
 ·injection f with f;injection r with r;omega
 ·injection f with f;subst f;rcases enc_of n o' r with ⟨ob,K,rfl⟩|B
  rotate_left
  ·intro E;have:=F.rd n (Aj.1 E).1;rw [(lI B).1] at this;cases this
  obtain ⟨p,y⟩:=F.ob.at2 K;intro E;rw [F.out n (Aj.1 E).1] at y;cases y
 ·have:=slots h.iv.sl F.sl hd;have e:s.at d=(look d s.sl).getD (.c .any):=by unfold Dn.S.at;cases look d s.sl<;>rfl
  rw [e];exact this
 ·obtain ⟨l0,G⟩:=(Tp.at F.lo).2 i l L hl J;exact slots (h.iv.lo l (Av hl)) G hd
 ·exact ZM F (F.sl.mem p y)
 ·obtain ⟨i,hi⟩:=Bg hl;obtain ⟨q,H⟩:∃q,s.lo[i]?=some q:=by have:=(Ad.1 hi).1;exact ⟨_,Ag (by rw [<-(Tp.at F.lo).1];exact this)⟩
  obtain ⟨l0,G⟩:=(Tp.at F.lo).2 i q l H hi;exact ZM F (G.mem p y)
 ·obtain ⟨v,r⟩:=src g o A;exact nu F r
 ·rw [F.mo] at B;refine ⟨(h.iv.mo m B).1,(h.iv.mo m B).2.1,λg o E=>?_⟩;obtain ⟨p,y⟩:=F.ob.at2 E;rw [F.mo];exact F.nm _ (Mg y)
theorem pR{sh:Dn.S U}{hl:HL Ty.T sh.lt}(h:BO nt w S s μ a fs)(d:sh.fit (dL wv) s=some hl):Goes nt w S s μ a fs (sh.mk' hl):=RO h (RN d)
end
end Go.Dn
