/- Calls by contract: values up to nil slices. Conditions: none. -/
import Derived.Test.YtmfagdfkpjgeiaaGreatDA
set_option linter.unusedVariables false
set_option linter.unusedSimpArgs false
namespace Go.Dn
open Go Go.Vv
open List renaming mem_singleton -> Aa, mem_cons_of_mem -> Ab, getElem?_eq_some_iff -> Ad, mem_cons_self -> Ae, mem_append_right -> Af, getElem?_eq_getElem -> Ag, all_eq_true -> Ah, mem_cons -> Ai, mem_filter -> Aj, mem_append_left -> Ak, append_nil -> Al, mem_flatMap -> Am, mem_map -> Aq, map_cons -> As, mem_of_getElem? -> Au, flatMap_cons -> Av, flatMap_append -> Aw, length_append -> Ax, length_eq_zero_iff -> Ay, mem_append -> Ba, getElem?_map -> Bb, getElem?_of_mem -> Bf, length_map -> Bg, getElem?_cons_zero -> Bj, map_map -> Bk, map_nil -> Bl, append_assoc -> Bn, not_mem_nil -> Bo, set_append_right -> Bq, nodup_cons -> Br, map_congr_left -> Bs, getElem?_drop -> Bt, getElem?_append_right -> Bx, getElem?_append_left -> By, mem_or_eq_of_mem_set -> Bz, length_cons -> Da, isEmpty_iff -> Db, cons_append -> Dc, flatMap_nil -> Dd, getElem?_cons_succ -> Df, flatMap -> Dg, map_append -> Dh, length_eq_one_iff -> Di, filter -> Dk, mapM_cons -> Dm, all_cons -> Do
open Bool renaming and_eq_true -> Ac, not_eq_true' -> Ar, false_ne_true -> Bv, or_eq_true -> Dj
open Option.some renaming injEq -> Ao, inj -> Be
open Option renaming bind_some -> Ap, map_some -> Bd
open Nat renaming le_refl -> Az, eq_of_beq_eq_true -> Bc, zero_lt_one -> Bh, add_sub_cancel_left -> Bm, mul_div_cancel -> Bu, zero_add -> De, zero_le -> Dl, add_mul -> Dp
open Prod.mk renaming injEq -> Bp
open _root_.Array renaming getElem?_eq_some_iff -> Bw
inductive Up:AV->AV->Prop
 | refl (v:AV):Up v v
 | nils:Up .nils (.lst 0 [])
 | lst (n:Nat) (l l':List AV) (hl:l.length=l'.length) (h:∀(i:Nat) (x y:AV),l[i]?=some x->l'[i]?=some y->Up x y):Up (.lst n l) (.lst n l')
 | rptr (l l':List AV) (hl:l.length=l'.length) (h:∀(i:Nat) (x y:AV),l[i]?=some x->l'[i]?=some y->Up x y):Up (.rptr l) (.rptr l')
 | agg (l l':List AV) (hl:l.length=l'.length) (h:∀(i:Nat) (x y:AV),l[i]?=some x->l'[i]?=some y->Up x y):Up (.agg l) (.agg l')
structure UpL (l l':List AV):Prop where
 len:l.length=l'.length
 at':∀(i:Nat) (x y:AV),l[i]?=some x->l'[i]?=some y->Up x y
theorem UpL.back{l d:List AV}(h:UpL l d){i:Nat}{y:AV}(e:d[i]?=some y):∃x,l[i]?=some x/\Up x y:=by
 have a:i<l.length:=by rw [h.len];exact (Ad.1 e).1
 exact ⟨l[i],Ag a,h.at' i _ y (Ag a) e⟩
theorem UpL.refl(l:List AV):UpL l l:=⟨rfl,λi x y hx a=>by rw [hx] at a;injection a with a;subst a;exact .refl x⟩
theorem UpL.nil:UpL [] []:=.refl []
theorem UpL.cons{x y:AV}{l e:List AV}(h:Up x y)(t:UpL l e):UpL (x::l) (y::e):=
 ⟨by simp [t.len],λi u v d a=>by
  cases i with
  | zero=>simp only [Bj,Ao] at d a;subst d;subst a;exact h
  | succ i=>exact t.at' i u v d a⟩
theorem UpL.nil_inv{l:List AV}(h:UpL l []):l=[]:=Ay.1 h.len
theorem UpL.cons_inv{l a:List AV}{y:AV}(h:UpL l (y::a)):∃x m,l=x::m/\Up x y/\UpL m a:=by
 cases l with
 | nil=>exact absurd h.len (by simp)
 | cons x m=>exact ⟨x,m,rfl,h.at' 0 x y rfl rfl,by simpa using h.len,λi u v e d=>h.at' (i+1) u v e d⟩
theorem UpL.append{a b c d:List AV}(h:UpL a c)(k:UpL b d):UpL (a++b) (c++d):=by
 induction c generalizing a with
 | nil=>rw [h.nil_inv];exact k
 | cons y c e=>obtain ⟨x,m,rfl,g,f⟩:=h.cons_inv;exact .cons g (e f)
theorem UpL.append_inv{l c d:List AV}(h:UpL l (c++d)):∃a b,l=a++b/\UpL a c/\UpL b d:=by
 induction c generalizing l with
 | nil=>exact ⟨[],l,rfl,.nil,h⟩
 | cons y c e=>
  obtain ⟨x,m,rfl,r,o⟩:=h.cons_inv;obtain ⟨a,b,rfl,g,f⟩:=e o;exact ⟨x::a,b,rfl,.cons r g,f⟩
theorem UpL.drop{l c:List AV}(h:UpL l c)(k:Nat):UpL (l.drop k) (c.drop k):=
 ⟨by simp [h.len],λi x y hx a=>h.at' (k+i) x y (by simpa [Bt] using hx) (by simpa [Bt] using a)⟩
theorem UpL.take{l c:List AV}(h:UpL l c)(k:Nat):UpL (l.take k) (c.take k):=
 ⟨by simp [h.len],λi x y hx a=>by
  rw [List.getElem?_take] at hx a;split at hx
  ·rename_i d;rw [if_pos d] at a;exact h.at' i x y hx a
  ·cases hx⟩
theorem UpL.mkLst{l a:List AV}{n:Nat}(h:UpL l a):Up (.lst n l) (.lst n a):=.lst n l a h.len h.at'
theorem UpL.mkRptr{l a:List AV}(h:UpL l a):Up (.rptr l) (.rptr a):=.rptr l a h.len h.at'
theorem UpL.mkAgg{l a:List AV}(h:UpL l a):Up (.agg l) (.agg a):=.agg l a h.len h.at'
theorem Up.lst_inv{v:AV}{n:Nat}{a:List AV}(h:Up v (.lst n a)):(v=.nils/\n=0/\a=[])\/∃l,v=.lst n l/\UpL l a:=by
 generalize d:AV.lst n a=u at h;cases h with
 | refl=>subst d;exact .inr ⟨a,rfl,.refl a⟩
 | nils=>injection d with f e;exact .inl ⟨rfl,f,e⟩
 | lst m l g hl h=>injection d with f e;subst f;subst e;exact .inr ⟨l,rfl,hl,h⟩
 | rptr=>cases d
 | agg=>cases d
theorem Up.rptr_inv{v:AV}{a:List AV}(h:Up v (.rptr a)):∃l,v=.rptr l/\UpL l a:=by
 generalize d:AV.rptr a=u at h;cases h with
 | refl=>subst d;exact ⟨a,rfl,.refl a⟩
 | nils=>cases d
 | lst=>cases d
 | rptr l f hl h=>injection d with e;subst e;exact ⟨l,rfl,hl,h⟩
 | agg=>cases d
theorem Up.agg_inv{v:AV}{a:List AV}(h:Up v (.agg a)):∃l,v=.agg l/\UpL l a:=by
 generalize d:AV.agg a=u at h;cases h with
 | refl=>subst d;exact ⟨a,rfl,.refl a⟩
 | nils=>cases d
 | lst=>cases d
 | rptr=>cases d
 | agg l f hl h=>injection d with e;subst e;exact ⟨l,rfl,hl,h⟩
theorem Up.same{v a:AV}(h:Up v a)(d:∀n l,a≠.lst n l)(f:∀l,a≠.rptr l)(e:∀l,a≠.agg l):v=a:=by
 cases h with
 | refl=>rfl
 | nils=>exact absurd rfl (d _ _)
 | lst=>exact absurd rfl (d _ _)
 | rptr=>exact absurd rfl (f _)
 | agg=>exact absurd rfl (e _)
theorem Up.rep{w:World}{S:Nat->Prop}{v E:AV}(h:Up v E):∀ {c:Value},RepP w S v c->RepP w S E c:=by
 induction h with
 | refl=>exact λh=>h
 | nils=>intro c h;cases h;exact .lst0
 | lst n l e hl o g=>
  have bk:UpL l e:=⟨hl,o⟩;intro c h;cases h with
  | lst0=>rw [Ay.1 (hl.symm.trans rfl)];exact .lst0
  | lst _ _ a cap cv hs F B r m=>
   refine .lst n e a cap cv (λf=>hs ?_) F (λi y d=>?_) (λi y d=>?_) (λi y d=>?_)
   ·rintro rfl;exact f (Ay.1 (hl.symm.trans rfl))
   ·obtain ⟨x,hx,-⟩:=bk.back d;exact B i x hx
   ·obtain ⟨x,hx,-⟩:=bk.back d;exact r i x hx
   ·obtain ⟨x,hx,-⟩:=bk.back d;exact g i x y hx d (m i x hx)
 | rptr l e hl o g=>
  have bk:UpL l e:=⟨hl,o⟩;intro c h;cases h with
  | rptr _ a cv hs B r m=>
   refine .rptr e a cv (λf=>hs ?_) (λi y d=>?_) (λi y d=>?_) (λi y d=>?_)
   ·rintro rfl;exact f (Ay.1 (hl.symm.trans rfl))
   ·obtain ⟨x,hx,-⟩:=bk.back d;exact B i x hx
   ·obtain ⟨x,hx,-⟩:=bk.back d;exact r i x hx
   ·obtain ⟨x,hx,-⟩:=bk.back d;exact g i x y hx d (m i x hx)
 | agg l e hl o g=>
  have bk:UpL l e:=⟨hl,o⟩;intro c h;cases h with
  | agg _ cs A r m=>
   refine .agg e cs (hl.symm.trans A) (λi y d=>?_) (λi y d=>?_)
   ·obtain ⟨x,hx,-⟩:=bk.back d;exact r i x hx
   ·obtain ⟨x,hx,-⟩:=bk.back d;exact g i x y hx d (m i x hx)
theorem Jkl:∀(t:Ty) {l:List AV} {x y:t.T},UpL l (t.cs x)->UpL l (t.cs y)->x=y
 | .u,_,_,_,_,_=>rfl
 | .int k,l,x,y,o,g=>by obtain ⟨u,m,rfl,a,-⟩:=o.cons_inv;obtain ⟨F,G,e,b,-⟩:=g.cons_inv;injection e with r w;subst r;have a:=a.same (λ_ _ h=>by cases h) (λ_ h=>by cases h) (λ_ h=>by cases h);have b:=b.same (λ_ _ h=>by cases h) (λ_ h=>by cases h) (λ_ h=>by cases h);rw [a] at b;injection b
 | .bool,l,x,y,o,g=>by obtain ⟨u,m,rfl,a,-⟩:=o.cons_inv;obtain ⟨F,G,e,b,-⟩:=g.cons_inv;injection e with r w;subst r;have a:=a.same (λ_ _ h=>by cases h) (λ_ h=>by cases h) (λ_ h=>by cases h);have b:=b.same (λ_ _ h=>by cases h) (λ_ h=>by cases h) (λ_ h=>by cases h);rw [a] at b;injection b
 | .str,l,x,y,o,g=>by obtain ⟨u,m,rfl,a,-⟩:=o.cons_inv;obtain ⟨F,G,e,b,-⟩:=g.cons_inv;injection e with r w;subst r;have a:=a.same (λ_ _ h=>by cases h) (λ_ h=>by cases h) (λ_ h=>by cases h);have b:=b.same (λ_ _ h=>by cases h) (λ_ h=>by cases h) (λ_ h=>by cases h);rw [a] at b;injection b
 | .p a b,l,(x1,x2),(Q,P),o,g=>by obtain ⟨l1,M,rfl,E,L⟩:=UpL.append_inv (c:=a.cs x1) (d:=b.cs x2) o;obtain ⟨Z,Y,e,B,K⟩:=UpL.append_inv (c:=a.cs Q) (d:=b.cs P) g;obtain ⟨r,w⟩:=List.append_inj e (by rw [E.len,B.len,Y0,Y0]);subst r;subst w;rw [Jkl a E B,Jkl b L K]
 | .ls t,l,x,y,o,g=>by
  have go:∀(x y:List t.T) (l:List AV),x.length=y.length->UpL l (x.flatMap t.cs)->UpL l (y.flatMap t.cs)->x=y:=by
   intro x
   induction x with
   | nil=>intro y l hl _ _;cases y with|nil=>rfl|cons=>simp at hl
   | cons u x ih=>
    intro y l hl o g;cases y with
    | nil=>simp at hl
    | cons v y=>
     rw [Av] at o g;obtain ⟨l1,M,rfl,E,L⟩:=o.append_inv;obtain ⟨Z,Y,e,B,K⟩:=g.append_inv;obtain ⟨r,w⟩:=List.append_inj e (by rw [E.len,B.len,Y0,Y0]);subst r;subst w;rw [Jkl t E B,ih y M (by simpa using hl) L K]
  obtain ⟨u,m,rfl,a,-⟩:=o.cons_inv;obtain ⟨F,G,e,b,-⟩:=g.cons_inv;injection e with r w;subst r;rcases a.lst_inv with ⟨rfl,H,O⟩|⟨q,rfl,O⟩
  ·rcases b.lst_inv with ⟨-,J,N⟩|⟨q,A,-⟩
   ·have H:x=[]:=Ay.1 H;have J:y=[]:=Ay.1 J;rw [H,J]
   ·cases A
  ·rcases b.lst_inv with ⟨A,-,-⟩|⟨q',A,N⟩
   ·cases A
   ·injection A with X R;subst R;exact go x y q X O N
 | .bf f t,l,x,y,o,g=>by obtain ⟨u,m,rfl,a,-⟩:=o.cons_inv;obtain ⟨F,G,e,b,-⟩:=g.cons_inv;injection e with r w;subst r;have a:=a.same (λ_ _ h=>by cases h) (λ_ h=>by cases h) (λ_ h=>by cases h);have b:=b.same (λ_ _ h=>by cases h) (λ_ h=>by cases h) (λ_ h=>by cases h);rw [a] at b;injection b with _ b;exact Jkl t (l:=t.cs x) (.refl _) (by rw [b];exact .refl _)
def SnL(h:Heap)(k:Nat)(L U:List AV)(N:List Nat):Prop:=∃ps,L.mapM (snap h k)=some ps/\UpL (ps.map (·.1)) U/\∀g,g∈ps.flatMap (·.2)↔g∈N
section
variable {h:Heap} {k:Nat}
theorem SnL.nil:SnL h k [] [] []:=⟨[],rfl,.nil,λg=>by simp⟩
theorem SnL.cons{v u y:AV}{ns N M:List Nat}{L U:List AV}(hx:snap h k v=some (u,ns))(a:Up u y)(e:∀g,g∈ns↔g∈N)(d:SnL h k L U M):SnL h k (v::L) (y::U) (N++M):=by
 obtain ⟨ps,m,l,f⟩:=d;refine ⟨(u,ns)::ps,by simp [Dm,hx,m],?_,λg=>?_⟩
 ·simp only [As];exact .cons a l
 ·simp only [Av,Ba,e,f]
theorem SnL.append{A B U V:List AV}{N M:List Nat}(d:SnL h k A U N)(a:SnL h k B V M):SnL h k (A++B) (U++V) (N++M):=by
 obtain ⟨p,o,m,a3⟩:=d;obtain ⟨q,l,f,e⟩:=a;refine ⟨p++q,by simp [List.mapM_append,o,l],?_,λg=>?_⟩
 ·simp only [Dh];exact m.append f
 ·simp only [Aw,Ba,a3,e]
theorem Ji6:∀ {L:List AV},L.all AV.flat=true->L.mapM (snap h (k+1))=some (L.map λv=>(v,[]))
 | [],_=>rfl
 | v::L,a=>by simp only [Do,Ac] at a;simp [Dm,Jdv h k v a.1,Ji6 a.2]
theorem SnL.flat{L:List AV}(e:L.all AV.flat=true):SnL h (k+1) L L []:=by
 refine ⟨_,Ji6 e,?_,λg=>?_⟩
 ·rw [Bk];rw [show L.map ((·.1) ∘ λv=>((v,[]):AV×List Nat))=L from List.map_id' L];exact .refl L
 ·simp only [Am,Aq,Bo,iff_false];rintro ⟨a,⟨b,f,rfl⟩,d⟩;cases d
theorem SnL.isFlat{L U:List AV}{N:List Nat}(l:L.all AV.flat=true)(hs:SnL h (k+1) L U N):UpL L U/\∀g,g∉N:=by
 obtain ⟨ps,d,f,m⟩:=hs;rw [Ji6 l] at d;injection d with d;subst d;rw [Bk,show L.map ((·.1) ∘ λv=>((v,[]):AV×List Nat))=L from List.map_id' L] at f;exact ⟨f,λg e=>by have:=(m g).2 e;simp only [Am,Aq] at this;obtain ⟨a,⟨b,o,rfl⟩,e⟩:=this;cases e⟩
theorem Q3(t:Ty)(l:List t.T):(l.flatMap t.cs).all AV.flat=true:=by
 induction l with
 | nil=>rfl
 | cons x l a=>rw [Av,List.all_append,Jab,a];rfl
theorem Joc{g ver esz len off:Nat}{el:TypeId}{cells U:List AV}{z:Bool}{N:List Nat}(f:h g=some (.arr ver esz el cells z))(hs:SnL h (k+1) (Vv.cut cells (off * esz) (len * esz)) U N)(hl:(off+len) * esz<=cells.length) :
  ∃u ns,snap h (k+2) (.arr g ver off len)=some (u,ns)/\Up u (.lst len U)/\∀d,d∈ns↔d∈g::N:=by
 by_cases e:(Vv.cut cells (off * esz) (len * esz)).all AV.flat=true
 ·obtain ⟨a,b⟩:=hs.isFlat e;refine ⟨.lst len (Vv.cut cells (off * esz) (len * esz)),[g],?_,a.mkLst,λd=>?_⟩
  ·rw [snap];simp only [f];rw [if_pos ⟨trivial,hl⟩];simp only [e,if_true]
  ·simp [b]
 ·obtain ⟨ps,o,m,l⟩:=hs;refine ⟨.lst len (ps.map (·.1)),g::ps.flatMap (·.2),?_,m.mkLst,λd=>?_⟩
  ·rw [snap];simp only [f];rw [if_pos ⟨trivial,hl⟩];simp only [e,o];simp
  ·rw [Ai,Ai,l]
end
section
variable {s:S Ty.T}
def Jvz(s:S Ty.T)(k:Nat)(lw:(t:Ty)->C Ty.T->Option t.T)(N:C Ty.T->List Nat):Prop:=
 ∀(t:Ty) (c:C Ty.T) (x:t.T),t.one=true->lw t c=some x->∃u ns,snap (encH s) k (encC s c)=some (u,ns)/\UpL [u] (t.cs x)/\∀g,g∈ns↔g∈N c
theorem Jfo{k:Nat}{lw:(t:Ty)->C Ty.T->Option t.T}{N:C Ty.T->List Nat}(e:Jvz s k lw N){t:Ty}(m:t.one=true){c:C Ty.T}{l r:List (C Ty.T)}{x:t.T}(h:(lw t c).map (·,l)=some (x,r)) :
  ∃d,c::l=d++r/\SnL (encH s) k (d.map (encC s)) (t.cs x) (d.flatMap N):=by
 cases f:lw t c with
 | none=>rw [f] at h;cases h
 | some y=>
  rw [f] at h;simp only [Bd,Ao,Bp] at h;obtain ⟨rfl,rfl⟩:=h;obtain ⟨u,ns,a,b,c'⟩:=e t c y m f;refine ⟨[c],rfl,?_⟩;obtain ⟨v,g⟩:∃v,t.cs y=[v]:=Di.1 b.len.symm;rw [g] at b ⊢;have:=SnL.cons a (b.at' 0 u v rfl rfl) c' SnL.nil;simpa using this
theorem Jcl{k:Nat}{lw:(t:Ty)->C Ty.T->Option t.T}{N:C Ty.T->List Nat}(d:Jvz s k lw N):∀(t:Ty) {l r:List (C Ty.T)} {x:t.T},impl val lw t l=some (x,r) ->
  ∃e,l=e++r/\SnL (encH s) k (e.map (encC s)) (t.cs x) (e.flatMap N)
 | .u,l,r,x,h=>by simp only [impl] at h;injection h with h;simp only [Bp] at h;obtain ⟨-,rfl⟩:=h;exact ⟨[],rfl,.nil⟩
 | .p a b,l,r,x,h=>by
  simp only [impl] at h;cases o:impl val lw a l with
  | none=>rw [o] at h;cases h
  | some p=>
   obtain ⟨u,e⟩:=p;rw [o] at h;simp only [Ap] at h;cases g:impl val lw b e with
   | none=>rw [g] at h;cases h
   | some q=>
    obtain ⟨v,E⟩:=q;rw [g] at h;simp only [Bd,Ao,Bp] at h;obtain ⟨hx,rfl⟩:=h;subst hx;obtain ⟨B,rfl,y⟩:=Jcl d a o;obtain ⟨A,rfl,w⟩:=Jcl d b g;refine ⟨B++A,by rw [Bn],?_⟩;rw [Dh,Aw];exact y.append w
 | .int kk,l,r,x,h=>by
  cases l with
  | nil=>simp only [impl] at h;cases h
  | cons c m=>simp only [impl] at h;exact Jfo d rfl h
 | .bool,l,r,x,h=>by
  cases l with
  | nil=>simp only [impl] at h;cases h
  | cons c m=>simp only [impl] at h;exact Jfo d rfl h
 | .str,l,r,x,h=>by
  cases l with
  | nil=>simp only [impl] at h;cases h
  | cons c m=>simp only [impl] at h;exact Jfo d rfl h
 | .ls t,l,r,x,h=>by
  cases l with
  | nil=>simp only [impl] at h;cases h
  | cons c m=>simp only [impl] at h;exact Jfo d rfl h
 | .bf f t,l,r,x,h=>by
  cases l with
  | nil=>simp only [impl] at h;cases h
  | cons c m=>simp only [impl] at h;exact Jfo d rfl h
theorem Jd3{k:Nat}{lw:(t:Ty)->C Ty.T->Option t.T}{N:C Ty.T->List Nat}(a:Jvz s k lw N)(t:Ty):∀(n:Nat) {l:List (C Ty.T)} {x:List t.T},Jcc val lw t n l=some x ->
  SnL (encH s) k (l.map (encC s)) (x.flatMap t.cs) (l.flatMap N)
 | 0,l,x,h=>by cases h
 | n+1,l,x,h=>by
  cases l with
  | nil=>simp only [Jcc] at h;injection h with h;subst h;exact .nil
  | cons c l=>
   simp only [Jcc] at h;cases f:impl val lw t (c::l) with
   | none=>rw [f] at h;cases h
   | some p=>
    obtain ⟨u,r⟩:=p;rw [f] at h;simp only [Ap] at h;cases d:Jcc val lw t n r with
    | none=>rw [d] at h;cases h
    | some y=>
     rw [d] at h;have:=Be h;subst this;obtain ⟨m,e,g⟩:=Jcl a t f;rw [e,Dh,Aw];exact g.append (Jd3 a t n d)
theorem Jhe(k:Nat)(N:C Ty.T->List Nat)(l:∀t v,N (.lf t v)=[])(f:∀b,N (.kb b)=[]):Jvz s (k+1) (Yc val) N:=λt c x d h=>by
 have e:=z7 (s:=s) d h;have hN:N c=[]:=by
  unfold Yc at h;split at h
  ·exact l _ _
  ·exact f _
  ·cases h
 have a:=Jab t x;rw [e] at a;refine ⟨encC s c,[],Jdv _ k _ (by simpa using a),by rw [e];exact .refl _,λg=>by rw [hN]⟩
end
section
variable {s:S Ty.T}
theorem Jag(ob:List (Nat×Ob Ty.T))(n:Nat)(t:Ty)(v:t.T):Jx ob n (.lf t v)=[]:=by cases n<;>rfl
theorem Jpq(ob:List (Nat×Ob Ty.T))(n:Nat)(b:Bool):Jx ob n (.kb b)=[]:=by cases n<;>rfl
theorem Jr5(ob:List (Nat×Ob Ty.T))(n:Nat):Jx ob n (.k .nils)=[]:=by cases n<;>rfl
theorem Jo9{l:List AV}{n:Nat}(h:l.length=n):Vv.cut l 0 n=l:=by subst h;simp [Vv.cut]
theorem Jui{α β:Type}{f:α->Option β}:∀ {l:List α} {ps:List β},l.mapM f=some ps->ps.length=l.length
 | [],ps,h=>by rw [List.mapM_nil] at h;injection h with h;subst h;rfl
 | x::l,ps,h=>by
  rw [Dm] at h;cases hx:f x with
  | none=>rw [hx] at h;cases h
  | some y=>
   cases hl:l.mapM f with
   | none=>rw [hx,hl] at h;cases h
   | some q=>
    rw [hx,hl] at h;injection h with h;subst h;simp [Jui hl]
theorem SnL.len{h:Heap}{k:Nat}{L U:List AV}{N:List Nat}(hs:SnL h k L U N):L.length=U.length:=by obtain ⟨ps,d,a,-⟩:=hs;have:=a.len;rw [Bg,Jui d] at this;exact this
theorem Jj{t:Ty}(l:List t.T):(l.flatMap t.cs).length=l.length * t.sz:=by
 induction l with
 | nil=>simp
 | cons x l a=>rw [Av,Ax,a,Y0,Da,Nat.succ_mul,Nat.add_comm]
theorem Jvy{n k:Nat}(H:Jvz s (k+1) (Xw val s.ob n) (Jx s.ob n)){t:Ty}{g:Nat}{o:Ob Ty.T}(A:look g s.ob=some o){x:List t.T}(h:rowW val (Xw val s.ob n) t o=some x) :
  ∃u ns,snap (encH s) (k+2) (.arr g o.ver 0 o.lenO)=some (u,ns)/\Up u (.lst x.length (x.flatMap t.cs))/\∀B,B∈ns↔B∈Jx s.ob (n+1) (.own g o.ver):=by
 cases o with
 | mp v kt vt es=>simp only [rowW] at h;cases h
 | em v kt vt el=>simp only [rowW] at h;cases h
 | box v cs=>simp only [rowW] at h;cases h
 | lit v e el xs z=>
  simp only [rowW] at h;split at h
  ·rename_i r;obtain ⟨rfl,r⟩:=r;have hs:=Jd3 H t _ h;have hl:(xs.map (encC s)).length=x.length * t.sz:=by rw [hs.len,Jj]
   have m:(Ob.lit v t.sz el xs z).lenO=x.length:=by show xs.length / t.sz=x.length;rw [Bg] at hl;rw [hl,Bu _ r]
   rw [m];have:=Joc (h:=encH s) (k:=k) (g:=g) (ver:=v) (esz:=t.sz) (len:=x.length) (off:=0) (el:=el) (cells:=xs.map (encC s)) (U:=x.flatMap t.cs) (z:=z) (N:=xs.flatMap (Jx s.ob n)) (Jf A) (by rw [Nat.zero_mul,Jo9 hl];exact hs) (by rw [De,hl];exact Az _);obtain ⟨u,ns,a,b,c⟩:=this;exact ⟨u,ns,a,b,λB=>by rw [c];simp only [Jx,A]⟩
  ·cases h
 | row v e el d l xs nest z=>
  cases nest with
  | some p=>simp only [rowW] at h;cases h
  | none=>
   simp only [rowW] at h;split at h
   ·rename_i r;obtain ⟨rfl,r⟩:=r;cases F:cast? (ι:=Ty.T) (.ls d) (.ls t) l with
    | none=>rw [F] at h;cases h
    | some K=>
     rw [F] at h;obtain ⟨G,rfl⟩:=Qh F;injection G with G;subst G;simp only [Ap] at h;obtain ⟨L,rfl⟩:∃L:List d.T,(show Ty.T (.ls d) from L)=l:=⟨l,rfl⟩;have key:∃y:List d.T,x=L++y/\SnL (encH s) (k+1) (xs.map (encC s)) (y.flatMap d.cs) (xs.flatMap (Jx s.ob n)):=by
      split at h
      ·have:=Be h;subst this;exact ⟨[],(Al L).symm,.nil⟩
      ·rename_i J;cases E:Jcc val (Xw val s.ob n) d (xs.length+1) xs with
       | none=>rw [E] at h;cases h
       | some y=>
        rw [E] at h;have:=Be h;subst this;exact ⟨y,rfl,Jd3 H d _ E⟩
     obtain ⟨y,rfl,hs⟩:=key;have hl:(xs.map (encC s)).length=y.length * d.sz:=by rw [hs.len,Jj]
     have m:(Ob.row v d.sz el d L xs none z).lenO=(L++y).length:=by show L.length+xs.length / d.sz=_;rw [Bg] at hl;rw [hl,Bu _ r,Ax]
     rw [m];have f:=(SnL.flat (h:=encH s) (k:=k) (Q3 d L)).append hs;rw [<-Aw,List.nil_append] at f;have w:(L.flatMap d.cs++xs.map (encC s)).length=(L++y).length * d.sz:=by rw [Ax,Jj,hl,Ax,Dp]
     obtain ⟨u,ns,a,b,c⟩:=Joc (h:=encH s) (k:=k) (g:=g) (ver:=v) (esz:=d.sz) (len:=(L++y).length) (off:=0) (el:=el) (cells:=L.flatMap d.cs++xs.map (encC s)) (U:=(L++y).flatMap d.cs) (z:=z) (N:=xs.flatMap (Jx s.ob n)) (Jf A) (by rw [Nat.zero_mul,Jo9 w];exact f) (by rw [De,w];exact Az _);exact ⟨u,ns,a,b,λB=>by rw [c];simp only [Jx,A,Al]⟩
   ·cases h
theorem jr:∀(n k:Nat),n+1<=k->Jvz s k (Xw val s.ob n) (Jx s.ob n)
 | 0,0,h=>by omega
 | 0,k+1,_=>Jhe k _ (Jag _ _) (Jpq _ _)
 | n+1,0,h=>by omega
 | n+1,1,h=>by omega
 | n+1,k+2,m=>by
  have e:=jr n (k+1) (by omega);have lf:=Jhe (s:=s) (k+1) (Jx s.ob (n+1)) (Jag _ _) (Jpq _ _);intro t c x l h;simp only [Xw] at h;split at h
  ·split at h
   ·have:=Be h;subst this;exact ⟨.nils,[],rfl,.cons .nils .nil,λg=>by rw [Jr5]⟩
   ·cases h
  ·rename_i g ver;split at h
   ·rename_i t;cases d:look g s.ob with
    | none=>rw [d] at h;cases h
    | some o=>
     rw [d] at h;simp only at h;split at h
     ·rename_i f;subst f;obtain ⟨u,ns,a,b,c⟩:=Jvy e d h;refine ⟨u,ns,?_,.cons b .nil,c⟩;have:K9 s g o.ver=o.lenO:=by simp [K9,d]
      simp only [encC,this];exact a
     ·cases h
   ·cases h
  ·exact lf t _ x l h
end
def argA(a:AK×Ty)(x:a.2.T):AV:=
 match a.1 with
 | .one|.fr=>Qx (a.2.cs x)
 | .ag=>.agg (a.2.cs x)
 | .rp=>.rptr (a.2.cs x)
def jd:(as:List (AK×Ty))->(Xq (as.map (·.2))).T->List AV
 | [],_=>[]
 | [a],x=>[argA a x]
 | a::b::r,(x,y)=>argA a x::jd (b::r) y
def akOK(a:AK×Ty):Bool:=match a.1 with|.one|.fr=>a.2.one|_=>true
def Ctr.ok(c:Ctr):Bool:=c.as.all akOK
theorem Jmc{t:Ty}(h:t.one=true)(x:t.T):∃v,t.cs x=[v]:=by cases t<;>first|exact ⟨_,rfl⟩|cases h
theorem Jtu{a:AK×Ty}(d:akOK a=true){v:AV}{x y:a.2.T}(g:Up v (argA a x))(f:Up v (argA a y)):x=y:=by
 obtain ⟨k,t⟩:=a;have one:t.one=true->Up v (Qx (t.cs x))->Up v (Qx (t.cs y))->x=y:=λd g f=>by obtain ⟨u,m⟩:=Jmc d x;obtain ⟨r,h⟩:=Jmc d y;rw [m] at g;rw [h] at f;exact Jkl t (l:=[v]) (by rw [m];exact .cons g .nil) (by rw [h];exact .cons f .nil)
 cases k with
 | one=>exact one d g f
 | fr=>exact one d g f
 | ag=>
  obtain ⟨l,rfl,a⟩:=Up.agg_inv g;obtain ⟨o,e,b⟩:=Up.agg_inv f;injection e with e;subst e;exact Jkl t a b
 | rp=>
  obtain ⟨l,rfl,a⟩:=Up.rptr_inv g;obtain ⟨o,e,b⟩:=Up.rptr_inv f;injection e with e;subst e;exact Jkl t a b
theorem Jo1:∀ {as:List (AK×Ty)} (d:as.all akOK=true) {l:List AV} {x y:(Xq (as.map (·.2))).T},UpL l (jd as x)->UpL l (jd as y)->x=y
 | [],_,_,_,_,_,_=>rfl
 | [a],d,l,x,y,g,f=>by simp only [jd] at g f;obtain ⟨u,m,rfl,w,-⟩:=g.cons_inv;obtain ⟨E,F,e,v,-⟩:=f.cons_inv;injection e with h o;subst h;exact Jtu (by simpa using d) w v
 | a::b::r,d,l,(x1,x2),(B,A),g,f=>by simp only [jd] at g f;obtain ⟨u,m,rfl,w,H⟩:=g.cons_inv;obtain ⟨E,F,e,v,G⟩:=f.cons_inv;injection e with h o;subst h;subst o;rw [Do,Ac] at d;have h:x1=B:=Jtu d.1 w v;have o:x2=A:=Jo1 d.2 H G;rw [h,o]
noncomputable def resA(rs:List (Bool×Ty))(r:(Xq (rs.map (·.2))).T):AV:=encV ⟨[],[],[],[],none⟩ (Jcu val rs r)
open Classical in
noncomputable def Jrp(Γ:FuncId->Option Ctr):Vv.Call:=λf vs m=>
 match Γ f with
 | some c=>if h:(m.isNone || c.fresh)=true/\∃x r,UpL vs (jd c.as x)/\c.fn x=some r then some (resA c.rs h.2.choose_spec.choose,λ_=>none) else none
 | none=>none
theorem Jh5{Γ:FuncId->Option Ctr}{f:FuncId}{c:Ctr}{m:Option (Heap×Nat)}(hΓ:Γ f=some c)(a:c.ok=true)(l:(m.isNone || c.fresh)=true){vs:List AV}{x:(Xq (c.as.map (·.2))).T}{r:(Xq (c.rs.map (·.2))).T}(d:UpL vs (jd c.as x))(e:c.fn x=some r) :
  Jrp Γ f vs m=some (resA c.rs r,λ_=>none):=by
 have h:(m.isNone || c.fresh)=true/\∃x r,UpL vs (jd c.as x)/\c.fn x=some r:=⟨l,x,r,d,e⟩;simp only [Jrp,hΓ];rw [dif_pos h];have key:∀y q,UpL vs (jd c.as y)->c.fn y=some q->q=r:=λy q o g=>by rw [Jo1 a o d,e] at g;exact (Be g).symm
 rw [key _ _ h.2.choose_spec.choose_spec.1 h.2.choose_spec.choose_spec.2]
theorem Jdu{Γ:FuncId->Option Ctr}{f:FuncId}{vs:List AV}{m:Option (Heap×Nat)}{v:AV}{h':Heap}(h:Jrp Γ f vs m=some (v,h')) :
  ∃c x r,Γ f=some c/\(m.isNone || c.fresh)=true/\UpL vs (jd c.as x)/\c.fn x=some r/\v=resA c.rs r:=by
 unfold Jrp at h;split at h
 ·rename_i c hΓ;split at h
  ·rename_i hx;injection h with h;injection h with a d;exact ⟨c,hx.2.choose,hx.2.choose_spec.choose,hΓ,hx.1,hx.2.choose_spec.choose_spec.1,hx.2.choose_spec.choose_spec.2,a.symm⟩
  ·cases h
 ·cases h
section
variable {s:S Ty.T} {α:Type} {r:α}
theorem Jz9{t:Ty}(m:t.one=true){c:C Ty.T}{k:t.T->Option α}(h:oneL val s.ob t c k=some r):∃x,k x=some r/\∃u ns,snap (encH s) depth (encC s c)=some (u,ns)/\Up u (Qx (t.cs x))/\∀g,g∈ns↔g∈Jx s.ob 4 c:=by
 unfold oneL at h;split at h
 ·rename_i g ver off len;split at h
  ·rename_i v e el d l z o;split at h
   ·rename_i J;obtain ⟨rfl,rfl,N⟩:=J;obtain ⟨y,G,h⟩:=Je h;obtain ⟨M,rfl⟩:=Qh G;subst M;obtain ⟨A,rfl⟩:∃A:Int,(show Ty.T I from A)=off:=⟨off,rfl⟩;obtain ⟨B,rfl⟩:∃B:Int,(show Ty.T I from B)=len:=⟨len,rfl⟩;obtain ⟨L,rfl⟩:∃L:List d.T,(show Ty.T (.ls d) from L)=l:=⟨l,rfl⟩;obtain ⟨F,h⟩:=Jz h;obtain ⟨E,h⟩:=Jz h;obtain ⟨w,h⟩:=Jz h;have F:(0:Int)<=A:=Jan F;have E:(0:Int)<=B:=Jan E;have w:A+B<=(L.length:Int):=Jan w;refine ⟨val.ct (show Ty.T (.ls d) from L) A B,h,?_⟩;have hl:(A.toNat+B.toNat) * d.sz<=(L.flatMap d.cs).length:=by rw [Jj];exact Nat.mul_le_mul_right _ (by omega)
    have f:Vv.cut (L.flatMap d.cs) (A.toNat * d.sz) (B.toNat * d.sz)=((L.drop A.toNat).take B.toNat).flatMap d.cs:=(Jir L _ _).symm;have hs:SnL (encH s) (6+1) (Vv.cut (L.flatMap d.cs) (A.toNat * d.sz) (B.toNat * d.sz)) (((L.drop A.toNat).take B.toNat).flatMap d.cs) []:=by rw [f];exact .flat (Q3 _ _)
    obtain ⟨u,ns,a,b,c⟩:=Joc (h:=encH s) (k:=6) (g:=g) (ver:=v) (esz:=d.sz) (len:=B.toNat) (off:=A.toNat) (el:=el) (cells:=L.flatMap d.cs) (z:=z) (by rw [Jf o];simp [encO,Qr]) hs hl;refine ⟨u,ns,a,?_,λO=>?_⟩
    ·have K:((L.drop A.toNat).take B.toNat).length=B.toNat:=by simp;omega
     have:Qx ((Ty.ls d).cs (val.ct (show Ty.T (.ls d) from L) A B))=.lst B.toNat (((L.drop A.toNat).take B.toNat).flatMap d.cs):=by show AV.lst ((L.drop A.toNat).take B.toNat).length _=_;rw [K];rfl
     rw [this];exact b
    ·rw [c];simp [Jx,o]
   ·cases h
  ·cases h
 ·obtain ⟨x,hx,h⟩:=Je h;obtain ⟨u,ns,a,b,c⟩:=jr (s:=s) 4 depth (by decide) t _ x m hx;obtain ⟨v,H⟩:=Jmc m x;refine ⟨x,h,u,ns,a,?_,c⟩;rw [H] at b ⊢;exact b.at' 0 u v rfl rfl
end
section
variable {s:S Ty.T} {α:Type} {r:α}
theorem Jq4{h:Heap}{v u:AV}{ns:List Nat}(hs:snap h depth v=some (u,ns))(a:∀f l,v≠.fn f l):qarg h v=some (u,ns):=by
 cases v with
 | fn f l=>exact absurd rfl (a f l)
 | ptr g ver off=>cases hs
 | _=>exact hs
theorem Jry{h:Heap}{f:FuncId}{l:List AV}{k:Nat}{u:AV}{ns:List Nat}(hs:snap h (k+1) (.fn f l)=some (u,ns)):∃a,u=.fn f a:=by
 simp only [snap] at hs;split at hs
 ·injection hs with hs;injection hs with d e;exact ⟨_,d.symm⟩
 ·cases hs
theorem up_flat{u y:AV}(h:Up u y)(a:y.flat=true){f:FuncId}{l:List AV}:u≠.fn f l:=by
 rintro rfl;cases h with
 | refl=>cases a
theorem Jq3{t:Ty}{l:List (C Ty.T)}{k:Nat}(f:5<=k){x:t.T}(h:allL val s.ob t l=some x):SnL (encH s) k (l.map (encC s)) (t.cs x) (l.flatMap (Jx s.ob 4)):=by
 unfold allL at h;cases a:impl val (Xw val s.ob 4) t l with
 | none=>rw [a] at h;cases h
 | some p=>
  obtain ⟨y,q⟩:=p;rw [a] at h;simp only [Ap] at h;split at h
  ·rename_i d;have:=Be h;subst this;obtain ⟨g,e,hs⟩:=Jcl (jr (s:=s) 4 k f) t a;rw [Db.1 d,Al] at e;subst e;exact hs
  ·cases h
theorem SnL.agg{h:Heap}{k:Nat}{L U:List AV}{N:List Nat}(hs:SnL h (k+1) L U N):∃u ns,snap h (k+2) (.agg L)=some (u,ns)/\Up u (.agg U)/\∀g,g∈ns↔g∈N:=by
 by_cases d:L.all AV.flat=true
 ·obtain ⟨a,b⟩:=hs.isFlat d;exact ⟨.agg L,[],by rw [snap];simp only [d,if_true],a.mkAgg,λg=>by simp [b]⟩
 ·obtain ⟨ps,l,f,e⟩:=hs;exact ⟨.agg (ps.map (·.1)),ps.flatMap (·.2),by rw [snap];simp only [d,l];simp,f.mkAgg,e⟩
theorem Jf8{a:AK×Ty}(m:akOK a=true){v:V Ty.T}{k:a.2.T->Option α}(h:argL val s.ob a v k=some r):∃x,k x=some r/\∃u ns,qarg (encH s) (encV s v)=some (u,ns)/\Up u (argA a x) /\
  (Jsk v=false->snap (encH s) depth (encV s v)=some (u,ns)/\∀g,g∈ns↔g∈v.cells.flatMap (Jx s.ob 4)):=by
 obtain ⟨ak,t⟩:=a;have one:∀c,t.one=true->oneL val s.ob t c k=some r->∃x,k x=some r/\∃u ns,qarg (encH s) (encC s c)=some (u,ns)/\Up u (Qx (t.cs x)) /\
   (Jsk (V.c c)=false->snap (encH s) depth (encC s c)=some (u,ns)/\∀g,g∈ns↔g∈(V.c c).cells.flatMap (Jx s.ob 4)):=λc m h=>by obtain ⟨x,hx,u,ns,a,b,c'⟩:=Jz9 m h;refine ⟨x,hx,u,ns,Jq4 a λf l e=>?_,b,λ_=>⟨a,λg=>by rw [c'];simp [V.cells]⟩⟩;have e:encC s c=.fn f l:=e;rw [e] at a;obtain ⟨N,rfl⟩:=Jry (k:=7) a;obtain ⟨w,G⟩:=Jmc m x;have o:=Jab t x;rw [G] at b o;exact up_flat (y:=w) b (by simpa using o) rfl
 unfold argL at h;split at h
 ·rename_i c d;simp only at d;subst d;exact one c m h
 ·rename_i c d;simp only at d;subst d;exact one c m h
 ·rename_i l d;simp only at d;subst d;obtain ⟨x,hx,h⟩:=Je h;obtain ⟨u,ns,a,b,c⟩:=(Jq3 (k:=6+1) (by decide) hx).agg;exact ⟨x,h,u,ns,Jq4 a (λ_ _ e=>by cases e),b,λ_=>⟨a,c⟩⟩
 ·rename_i E v d;simp only at d;subst d;obtain ⟨x,hx,B⟩:=Je h;obtain ⟨e,A⟩:=Qh hx;clear hx h;have M:E=t:=e;subst M;subst A;exact ⟨x,B,.rptr ((E.cs x).drop 0),[],rfl,.refl _,λ_=>⟨rfl,λg=>by simp [V.cells,Jx]⟩⟩
 ·rename_i g ver d;simp only at d;subst d;split at h
  ·rename_i v cs J;split at h
   ·rename_i H;subst H;obtain ⟨x,hx,h⟩:=Je h;have hs:=Jq3 (k:=7+1) (by decide) hx;have F:qarg (encH s) (encV s (.c (.ptr g v 0)))=qbox (encH s) g v 0 (some (.box v (cs.map (encC s)))):=by show qbox (encH s) g v 0 (encH s g)=_;rw [Jf J];rfl
    by_cases o:(cs.map (encC s)).all AV.flat=true
    ·refine ⟨x,h,.rptr (cs.map (encC s)),[g],?_,(hs.isFlat o).1.mkRptr,λe=>by cases e⟩;rw [F];simp only [qbox,if_true,o,List.drop_zero]
    ·obtain ⟨ps,L,K,O⟩:=hs;refine ⟨x,h,.rptr (ps.map (·.1)),g::ps.flatMap (·.2),?_,K.mkRptr,λe=>by cases e⟩;rw [F];simp only [qbox,if_true];rw [if_neg o,show depth=7+1 from rfl,L];simp [J0d]
   ·cases h
  ·cases h
 ·cases h
theorem Jgk:∀ {as:List (AK×Ty)} (d:as.all akOK=true) {vs:List (V Ty.T)} {k:(Xq (as.map (·.2))).T->Option α},Jvc val s.ob as vs k=some r->∃x,k x=some r /\
  (∃us ns,Jkp (encH s) (vs.map (encV s))=some (us,ns)/\UpL us (jd as x))/\(vs.any Jsk=false->SnL (encH s) depth (vs.map (encV s)) (jd as x) (vs.flatMap λv=>v.cells.flatMap (Jx s.ob 4)))
 | [],_,[],k,h=>⟨(),h,⟨[],[],rfl,.nil⟩,λ_=>.nil⟩
 | [a],d,[v],k,h=>by obtain ⟨x,hx,u,ns,q,b,c⟩:=Jf8 (by simpa using d) h;refine ⟨x,hx,⟨[u],ns++[],by simp only [As,Bl,Jkp,q,Jmv],.cons b .nil⟩,λe=>?_⟩;obtain ⟨B,f⟩:=c (by simpa using e);exact SnL.cons B b f .nil
 | a::b::r',d,v::w,k,h=>by simp only [Jvc] at h;rw [Do,Ac] at d;obtain ⟨x,hx,u,ns,q,ub,c⟩:=Jf8 d.1 h;obtain ⟨y,m,⟨us,ms,l,g⟩,f⟩:=Jgk d.2 hx;refine ⟨(x,y),m,⟨u::us,ns++ms,by simp only [As,Jkp,q,l,Jmv],.cons ub g⟩,λe=>?_⟩;rw [List.any_cons,Bool.or_eq_false_iff] at e;obtain ⟨A,o⟩:=c e.1;exact SnL.cons A ub o (f e.2)
 | [],_,_::_,k,h=>by cases h
 | [_],_,[],k,h=>by cases h
 | [_],_,_::_::_,k,h=>by cases h
 | _::_::_,_,[],k,h=>by cases h
end
section
variable {s:S Ty.T}
theorem Jem(h:Heap)(g:Nat)(r:List Nat):Jd (Jd h [g]) r=Jd h (g::r):=by
 funext x;simp only [Jd,Ai,Bo,or_false];by_cases a:x∈r
 ·by_cases hx:x=g
  ·subst hx;simp only [a,or_true,if_true];cases h x with
   | none=>rfl
   | some o=>cases o<;>rfl
  ·simp [a,hx]
 ·by_cases hx:x=g
  ·subst hx;simp [a]
  ·simp [a,hx]
theorem Jmg{h:Heap}{a b:List Nat}(d:∀g,g∈a↔g∈b):Jd h a=Jd h b:=by funext x;simp only [Jd,d]
theorem Jlj{g:Nat}{o o':Ob Ty.T}(e:Inv s)(d:look g s.ob=some o)(m:o.ver=o'.ver)(hl:o.lenO=o'.lenO)(r:o'.kids=o.kids)(v:∀s:S Ty.T,Dn.encO s o'=(Dn.encO s o).freeze) :
  Stab s (s.obj g o')/\Inv (s.obj g o')/\encH (s.obj g o')=Jd (encH s) [g]:=by
 have hs:Stab s (s.obj g o'):=X0 λy h=>by rw [d] at h;injection h with h;subst h;exact ⟨m,hl⟩
 have a:okCs s o.kids:=e.ob g o d;have f:okCs (s.obj g o') o'.kids:=by rw [r];exact λc w=>(hs.ok c (a c w)).1
 refine ⟨hs,ju e hs (λl=>Ke g l o') f (e.free d),?_⟩;rw [Yw e hs (λl=>Ke g l o'),v,hs.encO a];funext x;simp only [upd,Jd,Aa];by_cases hx:x=g
 ·subst hx;simp [Jf d]
 ·simp [hx]
theorem Jng(l:Inv s):∀(n:Nat) {c:C Ty.T},okC s c->∀g∈Jx s.ob n c,∃o,look g s.ob=some o:=by
 intro n
 induction n with
 | zero=>
  intro c m g a;cases c<;>simp only [Jx,Aa,Bo] at a
  all_goals
   subst a;obtain ⟨o,h,-⟩:=m (_,_) (Aa.2 rfl);exact ⟨o,h⟩
 | succ n f=>
  intro c m g a;cases c<;>simp only [Jx,Bo] at a
  all_goals
   rcases Ai.1 a with rfl|a
   ·obtain ⟨o,h,-⟩:=m (_,_) (Aa.2 rfl);exact ⟨o,h⟩
   ·split at a
    ·rename_i nest _ e;rcases Ba.1 a with a|a
     ·obtain ⟨c',d,a⟩:=Am.1 a;exact f (l.ob _ _ e c' (Af _ d)) g a
     ·cases nest with
      | none=>cases a
      | some q=>exact f (l.ob _ _ e q.2 (Ak _ (Aa.2 rfl))) g a
    ·rename_i e;obtain ⟨c',d,a⟩:=Am.1 a;exact f (l.ob _ _ e c' d) g a
    ·cases a
theorem Jia(d:Inv s){n:Nat}{l:List (C Ty.T)}(hl:okCs s l):∀g∈l.flatMap (Jx s.ob n),∃o,look g s.ob=some o:=λg a=>by obtain ⟨c,e,a⟩:=Am.1 a;exact Jng d n (hl c e) g a
theorem Jp3(e:Inv s){n:Nat}{vs:List (V Ty.T)}(hl:∀v∈vs,okV s v):∀g∈vs.flatMap (λv=>v.cells.flatMap (Jx s.ob n)),∃o,look g s.ob=some o:=λg a=>by obtain ⟨v,d,a⟩:=Am.1 a;exact Jia e (λc f=>hl v d c (Jh0 c f)) g a
theorem Jdj:∀(ns:List Nat) (s:S Ty.T),(Ju s ns).mo=s.mo
 | [],_=>rfl
 | g::r,s=>by simp only [Ju];split<;>rw [Jdj r]<;>rfl
theorem ji:∀(ns:List Nat) {s:S Ty.T},Inv s->(∀g∈ns,∃o,look g s.ob=some o)->Stab s (Ju s ns)/\Inv (Ju s ns)/\encH (Ju s ns)=Jd (encH s) ns
 | [],s,m,_=>⟨.refl s,m,by funext x;simp [Ju,Jd]⟩
 | g::r,s,m,B=>by
  have nx:∀o',∀w∈r,∃o,look w (s.obj g o').ob=some o:=λo' w f=>by
   rw [Ke];split
   ·exact ⟨_,rfl⟩
   ·exact B w (Ab _ f)
  simp only [Ju];split
  ·rename_i v e el t l x nest z d;obtain ⟨a,b,c⟩:=Jlj (o':=.row v e el t l x nest true) m d rfl rfl rfl (λ_=>rfl);obtain ⟨a',y,c'⟩:=ji r b (nx _);exact ⟨a.trans a',y,by rw [c',c,Jem]⟩
  ·rename_i v e el x z d;obtain ⟨a,b,c⟩:=Jlj (o':=.lit v e el x true) m d rfl rfl rfl (λ_=>rfl);obtain ⟨a',y,c'⟩:=ji r b (nx _);exact ⟨a.trans a',y,by rw [c',c,Jem]⟩
  ·rename_i F E;obtain ⟨a',y,c'⟩:=ji r m λw f=>B w (Ab _ f);refine ⟨a',y,?_⟩;rw [c',<-Jem]
   congr 1
   funext x;simp only [Jd,Aa];by_cases hx:x=g
   ·subst hx;rw [if_pos rfl];cases d:look x s.ob with
    | none=>obtain ⟨o,h⟩:=B x Ae;rw [d] at h;cases h
    | some o=>
     rw [Jf d];cases o with
     | box v cs=>rfl
     | mp v kt vt es=>rfl
     | em v kt vt el=>rfl
     | row v e el t l A nest z=>exact absurd d (F v e el t l A nest z)
     | lit v e el A z=>exact absurd d (E v e el A z)
   ·rw [if_neg hx]
def rkOK(r:Bool×Ty):Bool:=r.1 || r.2.one
theorem Jib(s:S Ty.T):∀(rs:List (Bool×Ty)) (q:(Xq (rs.map (·.2))).T),(Y2 val rs q).map (λp=>if p.1 then AV.agg (p.2.map (encC s)) else Qx (p.2.map (encC s)))=(Y2 val rs q).map (λp=>if p.1 then AV.agg (p.2.map (encC ⟨[],[],[],[],none⟩)) else Qx (p.2.map (encC ⟨[],[],[],[],none⟩)))
 | [],_=>rfl
 | [a],q=>by have e:(expl val a.2 q).map (encC s)=(expl val a.2 q).map (encC ⟨[],[],[],[],none⟩):=(Qg s a.2 q).trans (Qg _ a.2 q).symm;simp only [Y2,unL,As,Bl];rw [e]
 | a::b::r,q=>by simp only [Y2,unL,As,Qg,Jib s (b::r)]
theorem Jg5(s:S Ty.T):∀(rs:List (Bool×Ty)) (q:(Xq (rs.map (·.2))).T),∀p∈Y2 val rs q,okCs s p.2
 | [],_,p,d=>by cases d
 | [a],q,p,d=>by simp only [Y2,unL,Aa] at d;subst d;exact Jay s _ _
 | a::b::r,q,p,d=>by
  simp only [Y2,unL,Ai] at d;rcases d with rfl|d
  ·exact Jay s _ _
  ·exact Jg5 s (b::r) _ p d
theorem Jrd(s s':S Ty.T){p:Bool×List (C Ty.T)}(h:p.2.map (encC s)=p.2.map (encC s')):encV s (Jax p)=encV s' (Jax p):=by
 obtain ⟨b,l⟩:=p;cases b with
 | true=>simp only [Jax,encV];rw [h]
 | false=>
  match l,h with
  | [c],h=>simpa [Jax,encV] using h
  | [],_=>rfl
  | _::_::_,_=>rfl
theorem Jgi(s:S Ty.T)(rs:List (Bool×Ty))(q:(Xq (rs.map (·.2))).T):encV s (Jcu val rs q)=resA rs q:=by
 unfold resA Jcu
 match rs,q with
 | [],q=>rfl
 | [a],q=>exact Jrd _ _ ((Qg s a.2 q).trans (Qg _ a.2 q).symm)
 | a::b::r,q=>
  have e:=Jib s (a::b::r) q;cases r<;>exact congrArg AV.tup e
theorem Ji4(s:S Ty.T)(rs:List (Bool×Ty))(q:(Xq (rs.map (·.2))).T):okV s (Jcu val rs q):=by
 unfold Jcu;split
 ·rename_i p d;have:=Jg5 s rs q p (by rw [d];exact Aa.2 rfl);obtain ⟨b,l⟩:=p;cases b with
  | true=>exact this
  | false=>
   match l,this with
   | [c],h=>exact h
   | [],_=>exact λc a=>by simp [Jax,V.all] at a;subst a;exact Jo s rfl
   | _::_::_,_=>exact λc a=>by simp [Jax,V.all] at a;subst a;exact Jo s rfl
 ·intro c a;simp only [V.all,Am] at a;obtain ⟨p,d,a⟩:=a;exact Jg5 s rs q p d c a
end
def Scl(v:AV):Prop:=(∃b,v=.bool b)\/(∃k n,v=.int k n)\/∃x,v=.str x
theorem scl_one{v:AV}(h:Scl v):v.scalar=true:=by rcases h with ⟨b,rfl⟩|⟨k,n,rfl⟩|⟨x,rfl⟩<;>rfl
theorem scl_agg{l:List AV}(h:∀v∈l,Scl v):(AV.agg l).scalar=true:=by simp only [AV.scalar,Ah];intro v a;rcases h v a with ⟨b,rfl⟩|⟨k,n,rfl⟩|⟨x,rfl⟩<;>rfl
theorem scl_tup{l:List AV}(h:∀v∈l,Scl v\/∃m,v=.agg m/\∀u∈m,Scl u):(AV.tup l).scalar=true:=by
 simp only [AV.scalar,Ah];intro v a;rcases h v a with (⟨b,rfl⟩|⟨k,n,rfl⟩|⟨x,rfl⟩)|⟨m,rfl,e⟩
 ·rfl
 ·rfl
 ·rfl
 ·simp only [Ah];intro u d;rcases e u d with ⟨b,rfl⟩|⟨k,n,rfl⟩|⟨x,rfl⟩<;>rfl
theorem Zw:∀ {t:Ty} (h:t.flat=true) (x:t.T),∀v∈t.cs x,Scl v
 | .int k,_,x,v,d=>by have d:v∈[AV.int k x]:=d;rw [Aa] at d;exact .inr (.inl ⟨_,_,d⟩)
 | .bool,_,x,v,d=>by have d:v∈[AV.bool x]:=d;rw [Aa] at d;exact .inl ⟨_,d⟩
 | .str,_,x,v,d=>by have d:v∈[AV.str x]:=d;rw [Aa] at d;exact .inr (.inr ⟨_,d⟩)
 | .u,_,x,v,d=>by cases d
 | .ls _,h,_,_,_=>by cases h
 | .bf _ _,h,_,_,_=>by cases h
 | .p a b,h,(x,y),v,d=>by
  have d:v∈a.cs x++b.cs y:=d;simp only [Ty.flat,Ac] at h;rcases Ba.1 d with d|d
  ·exact Zw h.1 x v d
  ·exact Zw h.2 y v d
theorem Jjj:∀ {rs:List (Bool×Ty)} {q:(Xq (rs.map (·.2))).T},∀p∈Y2 val rs q,∃a∈rs,∃x:a.2.T,p=(a.1,expl val a.2 x)
 | [],_,p,d=>by cases d
 | [a],q,p,d=>by simp only [Y2,unL,Aa] at d;exact ⟨a,Aa.2 rfl,q,d⟩
 | a::b::r,q,p,d=>by
  simp only [Y2,unL,Ai] at d;rcases d with rfl|d
  ·exact ⟨a,Ae,_,rfl⟩
  ·obtain ⟨a',f,x,e⟩:=Jjj p d;exact ⟨a',Ab _ f,x,e⟩
theorem Juu(s:S Ty.T){a:Bool×Ty}(g:rkOK a=true)(h:a.2.flat=true)(x:a.2.T) :
  (a.1=true/\∀v∈(expl val a.2 x).map (encC s),Scl v)\/(a.1=false/\∃c,expl val a.2 x=[c]/\Scl (encC s c)):=by
 have hs:=Zw h x;rw [<-Qg s] at hs;obtain ⟨b,t⟩:=a;cases b with
 | true=>exact .inl ⟨rfl,hs⟩
 | false=>
  have f:t.one=true:=by simpa [rkOK] using g
  obtain ⟨v,e⟩:=Jmc f x;have hl:(expl val t x).length=1:=by rw [jx];have:=Y0 t x;rw [e] at this;exact this.symm
  obtain ⟨c,d⟩:=Di.1 hl;refine .inr ⟨rfl,c,d,?_⟩;have hs:∀v∈(expl val t x).map (encC s),Scl v:=hs;rw [d] at hs;exact hs _ (Aa.2 rfl)
theorem Jls{rs:List (Bool×Ty)}(f:rs.all rkOK=true)(g:(rs.all λr=>r.2.flat)=true)(q:(Xq (rs.map (·.2))).T):(resA rs q).scalar=true:=by
 have f:=Ah.1 f;have g:=Ah.1 g;have o:=Jjj (rs:=rs) (q:=q);unfold resA Jcu;split
 ·rename_i p l;obtain ⟨a,d,x,rfl⟩:=o p (by rw [l];exact Aa.2 rfl);rcases Juu ⟨[],[],[],[],none⟩ (f a d) (g a d) x with ⟨e,h⟩|⟨e,c,m,h⟩
  ·rw [e];exact scl_agg h
  ·rw [e,m];exact scl_one h
 ·refine scl_tup λv w=>?_;obtain ⟨p,l,rfl⟩:=Aq.1 w;obtain ⟨a,d,x,rfl⟩:=o p l;rcases Juu ⟨[],[],[],[],none⟩ (f a d) (g a d) x with ⟨e,h⟩|⟨e,c,m,h⟩
  ·exact .inr ⟨_,by simp only [e,if_true],h⟩
  ·refine .inl ?_;simp only [e,m,As,Bl,Qx];exact h
theorem call_sim{Γ:FuncId->Option Ctr}(hΓ:∀f c,Γ f=some c->c.ok=true/\c.rs.all rkOK=true):Yg (Jrp Γ) Γ:=by
 intro α base g0 s r c f args k A B h;obtain ⟨ok1,ok2⟩:=hΓ f c B;obtain ⟨x,hx,⟨us,ns,G,J⟩,d⟩:=Jgk ok1 h;have w:(args.map (ev val s)).map (encV s)=args.map (enc s).ev:=by rw [Bk];exact Bs λy _=>(Jw s y).symm
 rw [w] at G d;simp only at hx;have a:∀ {K:c.rT.T->Option α},val.call c x K=some r->∃q,c.fn x=some q/\K q=some r:=λ{K} e=>by
  have e:Jam (c.fn x) K=some r:=e;cases l:c.fn x with
  | none=>rw [l] at e;cases e
  | some q=>rw [l] at e;exact ⟨q,rfl,e⟩
 split at hx
 ·split at hx
  ·rename_i O;obtain ⟨q,l,hx⟩:=a hx;refine ⟨_,_,_,.inr ⟨f,args,rfl,.inl rfl⟩,.same A ?_ (Ji4 s c.rs q),hx⟩;simp only [Ja];rw [show (enc s).h=encH s from rfl,G];simp only [calQ];rw [Jh5 B ok1 rfl J l];simp only [retQ,Jls ok2 O q,if_true,Jgi]
  ·cases hx
 ·rename_i M;have d:=d (by simpa using M);obtain ⟨ps,H,E,F⟩:=d;have hs:Jco (encH s) (args.map (enc s).ev)=some (ps.map (·.1),ps.flatMap (·.2)):=by simp only [Jco,H]
  split at hx
  ·rename_i o;obtain ⟨q,l,hx⟩:=a hx;refine ⟨_,_,_,.inl rfl,.same A ?_ (Ji4 s c.rs q),hx⟩;simp only [Ja];rw [show (enc s).h=encH s from rfl,hs];simp only;rw [Jh5 B ok1 rfl E l];simp only [Jgi];rw [if_pos];rw [Dj,Dj] at o;rcases o with (o|o)|o
   ·refine .inl (List.eq_nil_iff_forall_not_mem.2 λg N=>?_);have:=(F g).1 N;rw [Db.1 o] at this;cases this
   ·exact .inr (.inl (Jls ok2 o q))
   ·exact .inr (.inr (by rw [Jh5 (m:=some (λ_=>none,0)) B ok1 (by rw [o];rfl) E l];rfl))
  ·obtain ⟨q,l,hx⟩:=a hx;obtain ⟨R,Q,P⟩:=ji ((args.map (ev val s)).flatMap λv=>v.cells.flatMap (Jx s.ob 4)) A (Jp3 A λv L=>by obtain ⟨x,-,rfl⟩:=Aq.1 L;exact Jen A x);refine ⟨_,_,_,.inr ⟨f,args,rfl,.inr rfl⟩,⟨?_,R,Q,Ji4 _ c.rs q⟩,hx⟩;simp only [Ja];rw [show (enc s).h=encH s from rfl,hs];simp only;rw [Jh5 B ok1 rfl E l];simp only [Jgi,P];rw [Jmg F]
structure On (s s':S Ty.T):Prop where
 lo:s'.lo=s.lo
 ok:∀c,okC s c->okC s' c/\encC s' c=encC s c
theorem On.refl(s:S Ty.T):On s s:=⟨rfl,λ_ h=>⟨h,rfl⟩⟩
theorem On.trans{a b c:S Ty.T}(h:On a b)(k:On b c):On a c:=
 ⟨k.lo.trans h.lo,λx hx=>⟨(k.ok x (h.ok x hx).1).1,((k.ok x (h.ok x hx).1).2).trans (h.ok x hx).2⟩⟩
theorem Stab.on{s s':S Ty.T}(h:Stab s s'):On s s':=⟨h.lo,h.ok⟩
theorem On.put(s:S Ty.T)(d:Option Nat)(v:V Ty.T):On s (s.put d v):=by
 cases d with
 | none=>exact .refl s
 | some d=>exact ⟨rfl,λc a=>⟨a,Jn3 s (some d) v c⟩⟩
section
variable {call:Vv.Call} {base g0:Nat} {s:S Ty.T} {α:Type} {r:α}
theorem Jb6{g:Nat}{b:Bool}(h:(enc s).f g=.bool b):enc (s.put (some g) (.c (.kb b)))=enc s:=by
 rw [Jmw];show (⟨upd (enc s).f g (.bool b),encH s⟩:St)=⟨(enc s).f,encH s⟩
 congr 1
 funext x;simp only [upd];split
 ·rename_i hx;rw [hx,h]
 ·rfl
theorem okKb{s:S Ty.T}{b:Bool}:okV s (.c (.kb b)):=Qi (Jo s rfl)
theorem okTp{s:S Ty.T}:okV s (.tp []):=λc a=>by cases a
def StepTo(call:Vv.Call)(base:Nat)(s:S Ty.T)(o:LOper)(k:LOp->S Ty.T->Option α)(r:α):Prop:=
 ∃op' s',Alt o.op op'/\Y4 call base { o with op:=op' } (enc s)=some (enc s')/\Inv s'/\On s s'/\k op' s'=some r
theorem StepTo.of{o:LOper}{k:LOp->S Ty.T->Option α}{f:S Ty.T}(l:enc f=enc s)(g:On s f)(h:StepTo call base f o k r):StepTo call base s o k r:=by obtain ⟨op',s',a,b,c,d,e⟩:=h;exact ⟨op',s',a,by rw [<-l];exact b,c,g.trans d,e⟩
theorem Jyb{cx:Cx}{o:LOper}{k:LOp->S Ty.T->Option α}(hC:Yg call cx.ct)(f:Inv s)
  (w:∀g want,o.guard=some (g,want)->(enc s).f g=.bool want) (h:opD val cx.ct cx.ty s (base+o.dst.getD 0) o.op (λop v s'=>k op (s'.put o.dst v))=some r):StepTo call base s o k r:=by
 obtain ⟨op',v,s',a,⟨m,l,A,y⟩,c⟩:=op_sim (call:=call) (base:=base) hC f h;refine ⟨op',s'.put o.dst v,a,?_,A.put y o.dst,l.on.trans (.put s' o.dst v),c⟩;have e:enc (s'.put o.dst v)=(enc s).put o.dst (encV s' v) (encH s'):=by rw [Jmw,Jbe f l];cases o.dst<;>rfl
 rw [e];unfold Y4;cases d:o.guard with
 | none=>simp only;rw [m]
 | some p=>
  obtain ⟨g,want⟩:=p;simp only;rw [w g want d];simp only [if_true];rw [m]
theorem Jhu{o:LOper}{k:LOp->S Ty.T->Option α}(d:Inv s){g:Nat}{want:Bool}(f:o.guard=some (g,want))(a:(enc s).f g=.bool (!want)\/(enc s).f g=.tup [])(h:k o.op (s.put o.dst (.tp []))=some r):StepTo call base s o k r:=by
 refine ⟨o.op,s.put o.dst (.tp []),.inl rfl,?_,d.put okTp o.dst,.put s o.dst _,h⟩;have e:enc (s.put o.dst (.tp []))=(enc s).put o.dst (.tup []) (enc s).h:=by rw [Jmw];rfl
 rw [e];unfold Y4;rw [f];rcases a with a|a
 ·simp only [a];rw [if_neg (by cases want<;>simp)]
 ·simp only [a]
theorem pick_sim{o:LOp}{run:S Ty.T->Option α}(f:Inv s)(h:Jyx val s o run=some r):∃d,enc d=enc s/\On s d/\Inv d/\run d=some r:=by
 have same:run s=some r->∃d,enc d=enc s/\On s d/\Inv d/\run d=some r:=λh=>⟨s,rfl,.refl s,f,h⟩;unfold Jyx at h;split at h
 ·rename_i n a b;split at h
  ·rename_i t l;have g:∀q:Bool,(t:Bool)=q->(enc s).f n=.bool q:=λq e=>by show encV s (s.at n)=_;rw [l,<-e];rfl
   rcases Jc5 h with ⟨e,h⟩|⟨e,h⟩
   ·exact ⟨_,Jb6 (g _ e),.put s _ _,f.put okKb _,h⟩
   ·exact ⟨_,Jb6 (g _ e),.put s _ _,f.put okKb _,h⟩
  ·exact same h
 ·exact same h
theorem Jtt{cx:Cx}{o:LOper}{k:LOp->S Ty.T->Option α}(hC:Yg call cx.ct)(f:Inv s)(h:Jzi val cx base s o k=some r):StepTo call base s o k r:=by
 have go:∀ {s:S Ty.T},Inv s->(∀g want,o.guard=some (g,want)->(enc s).f g=.bool want)->Jyx val s o.op (λs=>opD val cx.ct cx.ty s (base+o.dst.getD 0) o.op λop v s'=>k op (s'.put o.dst v))=some r->StepTo call base s o k r:=λ{s} f d h=>by obtain ⟨L,a,E,F,h⟩:=pick_sim f h;exact .of a E (Jyb hC F (λg w e=>by rw [a];exact d g w e) h)
 unfold Jzi Jpi at h;split at h
 ·rename_i d;exact go f (λg w e=>by rw [d] at e;cases e) h
 ·rename_i g want d;split at h
  ·rename_i b G;have m:(enc s).f g=.bool b:=by show encV s (s.at g)=_;rw [G];rfl
   split at h
   ·rename_i e;subst e;exact go f (λH w e=>by rw [d] at e;injection e with e;injection e with a y;subst a;subst y;exact m) h
   ·rename_i e;exact Jhu f d (.inl (by rw [m];cases b<;>cases want<;>simp_all)) h
  ·rename_i t B;have m:∀q:Bool,(t:Bool)=q->(enc s).f g=.bool q:=λq e=>by show encV s (s.at g)=_;rw [B,<-e];rfl
   have run:∀q:Bool,(t:Bool)=q->want=q->Jyx val (s.put (some g) (.c (.kb q))) o.op (λs=>opD val cx.ct cx.ty s (base+o.dst.getD 0) o.op λop v s'=>k op (s'.put o.dst v))=some r->StepTo call base s o k r:=λq a y h=>by have e:=Jb6 (m q a);refine .of e (.put s _ _) (go (f.put okKb _) (λH w A=>?_) h);rw [d] at A;injection A with A;injection A with K J;subst K;subst J;rw [e,m q a,y]
   have skp:∀q:Bool,(t:Bool)=q->want=!q->k o.op ((s.put (some g) (.c (.kb q))).put o.dst (.tp []))=some r->StepTo call base s o k r:=λq a y h=>by have e:=Jb6 (m q a);exact .of e (.put s _ _) (Jhu (f.put okKb _) d (.inl (by rw [e,m q a,y,Bool.not_not])) h)
   split at h
   ·rename_i l;rcases Jc5 h with ⟨e,h⟩|⟨e,h⟩
    ·exact run true e l h
    ·exact skp false e l h
   ·rename_i l;have l:want=false:=by simpa using l
    rcases Jc5 h with ⟨e,h⟩|⟨e,h⟩
    ·exact skp true e l h
    ·exact run false e l h
  ·rename_i B;exact Jhu f d (.inr (by show encV s (s.at g)=_;rw [B];rfl)) h
  ·cases h
end
def AltL:List (Nat×LOper)->List (Nat×LOper)->Prop
 | [],[]=>True
 | p::l,q::m=>q.1=p.1/\(∃op',Alt p.2.op op'/\q.2={ p.2 with op:=op' })/\AltL l m
 | _,_=>False
theorem Alt.isNew{a b:LOp}(h:Alt a b):b.isNew=a.isNew:=by rcases h with rfl|⟨f,args,rfl,rfl|rfl⟩<;>rfl
section
variable {call:Vv.Call} {base:Nat}
def Jlw:AV->Option Nat
 | .ptr g _ _=>some g
 | .arr g _ _ _=>some g
 | .map g _=>some g
 | _=>none
theorem Jg0{ds:List Nat}{h:Heap}{g:Nat}(e:inNm base ds g=false):K2 base ds h g=h g:=by simp [K2,e]
variable {ds:List Nat} {h:Heap} {x:AV} (hx:∀g,Jlw x=some g->inNm base ds g=false)
include hx
theorem Jzc(ag:Bool)(n:Nat):Jbg (K2 base ds h) ag n x=Jbg h ag n x:=by
 have e:zp (K2 base ds h) x=zp h x:=by
  cases x<;>try rfl
  unfold zp;dsimp only;rw [Jg0 (hx _ rfl)]
 unfold Jbg;rw [e]
theorem Ju5(o:Nat):zu (K2 base ds h) o x=zu h o x:=by
 cases x<;>try rfl
 rename_i g ver off;have e:cur (K2 base ds h) g ver=cur h g ver:=by unfold cur;rw [Jg0 (hx _ rfl)]
 simp only [zu,e]
theorem Jwg(e:Nat)(i:AV):je (K2 base ds h) e x i=je h e x i:=by
 cases x<;>cases i<;>try rfl
 rename_i g ver off len k i;have a:curA (K2 base ds h) g ver e=curA h g ver e:=by unfold curA;rw [Jg0 (hx _ rfl)]
 simp only [je,a]
theorem Jvs(e:Nat)(lo a:Option AV):Y3 (K2 base ds h) e x lo a=Y3 h e x lo a:=by
 cases x<;>try rfl
 rename_i g ver off len;have d:curA (K2 base ds h) g ver e=curA h g ver e:=by unfold curA;rw [Jg0 (hx _ rfl)]
 simp only [Y3,d]
theorem len_mask:lenV (K2 base ds h) x=lenV h x:=by
 cases x<;>try rfl
 rename_i g ver off len;have a:X2 (K2 base ds h) g ver=X2 h g ver:=by unfold X2;rw [Jg0 (hx _ rfl)]
 simp only [lenV,a]
end
theorem offV_enc{base:Nat}{ds:List Nat}{v:V Ty.T}(e:offV base ds v=true)(s:S Ty.T):∀g,Jlw (encV s v)=some g->inNm base ds g=false:=by
 intro g d;unfold offV at e;split at e
 ·simp only [encV,encC,Jlw,Ao] at d;subst d;simpa using e
 ·simp only [encV,encC,Jlw,Ao] at d;subst d;simpa using e
 ·rename_i t x;have f:=Jab t x;simp only [encV,encC] at d;generalize t.cs x=l at f d
  match l,f,d with
  | [],_,d=>cases d
  | [a],f,d=>cases a<;>simp [AV.flat] at f<;>cases d
  | _::_::_,_,d=>cases d
 ·cases d
 ·simp only [encV,encC,Jlw,Ao] at d;subst d;simpa using e
 ·cases e
section
variable {call:Vv.Call} {base:Nat}
theorem Jdm{σ:St}{g0:Nat}{ds:List Nat}{op:LOp}{f:Heap->Option AV}{r:AV×Heap}(g:op.cls=1)(d:∀h,Ja call base ⟨σ.f,h⟩ g0 op=match f h with|some v=>some (v,h)|none=>none)(e:f (K2 base ds σ.h)=f σ.h)(h:Ja call base σ g0 op=some r):Ja call base σ g0 (.msk ds op)=some r:=by
 have l:Ja call base σ g0 op=match f σ.h with|some v=>some (v,σ.h)|none=>none:=d σ.h
 rw [l] at h;show (if op.cls=1 then mskR σ.h (Ja call base ⟨σ.f,K2 base ds σ.h⟩ g0 op) else none)=_;rw [if_pos g,d,e];cases a:f σ.h with
 | none=>rw [a] at h;cases h
 | some v=>rw [a] at h;exact h
theorem Jy8{s:S Ty.T}{dst:Option Nat}{ds:List Nat}{op:LOp}{r:AV×Heap}(h:Ja call base (enc s) (base+dst.getD 0) op=some r):Ja call base (enc s) (base+dst.getD 0) (Jei val s base dst op ds)=some r:=by
 have off:∀ {x:LO},offV base ds (ev val s x)=true->∀g,Jlw ((enc s).ev x)=some g->inNm base ds g=false:=λhx=>by rw [Jw];exact offV_enc hx s
 have evf:∀(x:LO) (h:Heap),(St.mk (enc s).f h).ev x=(enc s).ev x:=λx h=>by cases x<;>rfl
 unfold Jei;split
 ·rename_i ag n x;split
  ·rename_i hx;exact Jdm (f:=λh=>Jbg h ag n ((enc s).ev x)) rfl (λh=>by simp only [Ja,evf];cases Jbg h ag n ((enc s).ev x)<;>rfl) (Jzc (off hx) ag n) h
  ·exact h
 ·rename_i o x;split
  ·rename_i hx;exact Jdm (f:=λh=>zu h o ((enc s).ev x)) rfl (λh=>by simp only [Ja,evf];cases zu h o ((enc s).ev x)<;>rfl) (Ju5 (off hx) o) h
  ·exact h
 ·rename_i e x i;split
  ·rename_i hx;exact Jdm (f:=λh=>je h e ((enc s).ev x) ((enc s).ev i)) rfl (λh=>by simp only [Ja,evf];cases je h e ((enc s).ev x) ((enc s).ev i)<;>rfl) (Jwg (off hx) e _) h
  ·exact h
 ·rename_i x;split
  ·rename_i hx;exact Jdm (f:=λh=>(lenV h ((enc s).ev x)).map λn=>AV.int .i64 n) rfl (λh=>by simp only [Ja,evf];cases lenV h ((enc s).ev x)<;>rfl) (by rw [len_mask (off hx)]) h
  ·exact h
 ·rename_i n x y;split
  ·rename_i hx;have a:nwOK base ds (base+dst.getD 0) ((enc s).ev x)=true:=by
    rw [Jw];unfold onV at hx;split at hx
    ·rename_i g ver o e;rw [e];exact hx
    ·cases hx
   simp only [Ja] at h ⊢;rw [if_pos a];exact h
  ·exact h
 ·rename_i x;split
  ·rename_i hx;refine Jdm (f:=λh=>match (enc s).ev x with
    | .ptr g v o=>if cur h g v then some (.ptr g v o) else none
    | .rptr l=>some (.rptr l)
    | .fn f caps=>some (.fn f caps)
    | .bfn f l=>some (.bfn f l)
    | _=>none) rfl (λh=>?_) ?_ h
   ·simp only [Ja,evf];cases (enc s).ev x<;>try rfl
    rename_i g v o;simp only;cases cur h g v<;>rfl
   ·have d:=off hx;cases w:(enc s).ev x<;>try rfl
    rename_i g v o;rw [w] at d;have e:cur (K2 base ds (enc s).h) g v=cur (enc s).h g v:=by unfold cur;rw [Jg0 (d _ rfl)]
    simp only [e]
  ·exact h
 ·rename_i e b t z x y;split
  ·rename_i hx;have a:nwOK base ds (base+dst.getD 0) ((enc s).ev x)=true:=by
    rw [Jw];unfold onA at hx;split at hx
    ·rename_i g ver e;rw [e];exact hx
    ·rename_i e;rw [e];exact hx
    ·cases hx
   simp only [Ja] at h ⊢;unfold apnV;rw [if_pos a];exact h
  ·exact h
 ·rename_i e x lo m;split
  ·rename_i hx;exact Jdm (f:=λh=>Y3 h e ((enc s).ev x) (lo.map (enc s).ev) (m.map (enc s).ev)) rfl (λh=>by
    have A:∀l:Option LO,l.map (St.mk (enc s).f h).ev=l.map (enc s).ev:=λl=>by cases l<;>simp [evf]
    simp only [Ja,evf,A];cases Y3 h e ((enc s).ev x) (lo.map (enc s).ev) (m.map (enc s).ev)<;>rfl) (Jvs (off hx) e _ _) h
  ·exact h
 ·exact h
theorem Jss{s:S Ty.T}{σ:St}{g0:Nat}{dst:Option Nat}{ds:List Nat}{op:LOp}{r:AV×Heap}(h:Ja call base σ g0 (Jei val s base dst op ds)=some r):Ja call base σ g0 op=some r:=by
 obtain ⟨v,a⟩:=r;unfold Jei at h;split at h
 ·split at h
  ·exact Jlv h
  ·exact h
 ·split at h
  ·exact Jlv h
  ·exact h
 ·split at h
  ·exact Jlv h
  ·exact h
 ·split at h
  ·exact Jlv h
  ·exact h
 ·split at h
  ·exact ston_ev h
  ·exact h
 ·split at h
  ·exact Jlv h
  ·exact h
 ·split at h
  ·simp only [Ja] at h ⊢;unfold apnV at h;split at h
   ·exact h
   ·cases h
  ·exact h
 ·split at h
  ·exact Jlv h
  ·exact h
 ·exact h
theorem Jv5(s:S Ty.T)(dst:Option Nat)(ds:List Nat)(op:LOp):(Jei val s base dst op ds).isNew=op.isNew:=by unfold Jei;split<;>(try split)<;>rfl
theorem Jyz{o:LOper}{σ σ':St}{op:LOp}(e:∀r,Ja call base σ (base+o.dst.getD 0) o.op=some r->Ja call base σ (base+o.dst.getD 0) op=some r)(h:Y4 call base o σ=some σ'):Y4 call base { o with op:=op } σ=some σ':=by
 unfold Y4 at h ⊢;have key:(match Ja call base σ (base+o.dst.getD 0) o.op with|some (v,h)=>some (σ.put o.dst v h)|none=>none)=some σ'->(match Ja call base σ (base+o.dst.getD 0) op with|some (v,h)=>some (σ.put o.dst v h)|none=>none)=some σ':=λh=>by
  cases a:Ja call base σ (base+o.dst.getD 0) o.op with
  | none=>rw [a] at h;cases h
  | some r=>rw [a] at h;rw [e r a];exact h
 dsimp only at h ⊢;split at h
 ·exact key h
 ·split at h
  ·split at h
   ·rename_i d;rw [if_pos d];exact key h
   ·rename_i d;rw [if_neg d];exact h
  ·exact h
  ·cases h
def MskL(call:Vv.Call)(base:Nat):List (Nat×LOper)->List (Nat×LOper)->Prop
 | [],[]=>True
 | p::l,q::m=>q.1=p.1/\(∀σ σ',Y4 call base q.2 σ=some σ'->Y4 call base p.2 σ=some σ')/\MskL call base l m
 | _,_=>False
theorem MskL.mem:∀ {l m:List (Nat×LOper)},MskL call base l m->∀q∈m,∃p∈l,q.1=p.1/\∀σ σ',Y4 call base q.2 σ=some σ'->Y4 call base p.2 σ=some σ'
 | [],[],_,q,d=>by cases d
 | p::l,r::m,h,q,d=>by
  obtain ⟨o,g,f⟩:=h;rcases Ai.1 d with rfl|d
  ·exact ⟨p,Ae,o,g⟩
  ·obtain ⟨e,a,b⟩:=MskL.mem f q d;exact ⟨e,Ab _ a,b⟩
 | [],_::_,h,_,_=>h.elim
 | _::_,[],h,_,_=>h.elim
variable {α:Type} {r:α}
theorem Jtc{cx:Cx}(hC:Yg call cx.ct):∀ {L acc:List (Nat×LOper)} {acc2:List (List Nat->Nat×LOper)} {ds:List Nat} {s:S Ty.T} {k:List (Nat×LOper)->List (Nat×LOper)->S Ty.T->Option α},Inv s->Jck val cx base L acc acc2 ds s k=some r ->
  ∃(L':List (Nat×LOper)) (M:List (List Nat->Nat×LOper)) (ds':List Nat) (s':S Ty.T),AltL L L'/\(∀ds,MskL call base L' (M.map λf=>f ds))/\Ye call base (L'.map (·.2)) (enc s)=some (enc s')/\(∀ds,Ye call base ((M.map λf=>f ds).map (·.2)) (enc s)=some (enc s'))/\Inv s'/\On s s'/\k (acc.reverse++L') ((acc2.reverse++M).map λf=>f ds') s'=some r
 | [],acc,acc2,ds,s,k,l,h=>⟨[],[],ds,s,trivial,λ_=>trivial,rfl,λ_=>rfl,l,.refl s,by rw [Al,Al];exact h⟩
 | p::L,acc,acc2,ds,s,k,l,h=>by
  simp only [Jck] at h;split at h
  ·cases h
  ·rename_i A;obtain ⟨op',v,a,b,c,d,e⟩:=Jtt (call:=call) hC l h;obtain ⟨L',M,ds',s',a',w,F,m,c',E,B⟩:=Jtc hC c e;refine ⟨(p.1,{ p.2 with op:=op' })::L',(λds=>(p.1,{ p.2 with op:=Jei val s base p.2.dst op' ds }))::M,ds',s',⟨rfl,⟨op',a,rfl⟩,a'⟩,λds=>⟨rfl,λσ σ' hσ=>?_,w ds⟩,?_,λds=>?_,c',d.trans E,by simpa using B⟩
   ·exact Jyz (o:={ p.2 with op:=Jei val s base p.2.dst op' ds }) (op:=op') (λr g=>Jss g) hσ
   all_goals
    have hx:∀op'':LOp,op''.isNew=op'.isNew->¬(op''.isNew=true/\((enc s).h (base+p.2.dst.getD 0)).isSome=true):=λop'' y hx=>by
     apply A;simp only [Jww,Ac];rw [y,a.isNew] at hx;refine ⟨hx.1,?_⟩;have hx:=hx.2;cases hl:s.has (base+p.2.dst.getD 0) with
     | true=>rfl
     | false=>
      have:(enc s).h (base+p.2.dst.getD 0)=none:=Jcv hl;rw [this] at hx;simp at hx
    simp only [As,Ye]
   ·have hD:X9 call base { p.2 with op:=op' } (enc s)=some (enc v):=by unfold X9;rw [if_neg (hx op' rfl)];exact b
    rw [hD];exact F
   ·have hD:X9 call base { p.2 with op:=Jei val s base p.2.dst op' ds } (enc s)=some (enc v):=by unfold X9;rw [if_neg (hx _ (Jv5 s p.2.dst ds op'))];exact Jyz (o:={ p.2 with op:=op' }) (λr g=>Jy8 g) b
    rw [hD];exact m ds
theorem Jun{cx:Cx}(hC:Yg call cx.ct){L:List (Nat×LOper)}{ds:List Nat}{s:S Ty.T}{k:List (Nat×LOper)->List (Nat×LOper)->S Ty.T->Option α}(l:Inv s)(h:Jck val cx base L [] [] ds s k=some r) :
  ∃L' L2 s',AltL L L'/\MskL call base L' L2/\Ye call base (L'.map (·.2)) (enc s)=some (enc s')/\Ye call base (L2.map (·.2)) (enc s)=some (enc s')/\Inv s'/\On s s'/\k L' L2 s'=some r:=by obtain ⟨L',M,ds',s',a,b,c,d,e,f,g⟩:=Jtc hC l h;exact ⟨L',_,s',a,b ds',c,d ds',e,f,g⟩
end
theorem On.okV{s s':S Ty.T}(h:On s s'){v:V Ty.T}(a:Dn.okV s v):Dn.okV s' v:=λc d=>(h.ok c (a c d)).1
theorem On.encV{s s':S Ty.T}(h:On s s'){v:V Ty.T}(a:Dn.okV s v):Dn.encV s' v=Dn.encV s v:=by
 have e:∀l:List (C Ty.T),(∀c∈l,okC s c)->l.map (encC s')=l.map (encC s):=λl hl=>Bs λc d=>(h.ok c (hl c d)).2;cases v with
 | c x=>exact (h.ok x (a x (Aa.2 rfl))).2
 | ag l=>exact congrArg AV.agg (e l a)
 | tp l=>
  refine congrArg AV.tup (Bs λp f=>?_);rw [e p.2 λc d=>a c (Am.2 ⟨p,f,d⟩)]
structure Fm where
 nt:Nat
 act:Act
 lo:Option (Nat×Loop)
 d:Nat
def MD:List Deferred->List Fm->Prop
 | _,[]=>True
 | ds,f::r=>(∀d∈ds,∃q,d={ target:=.collected q,args:=#[] }/\f.d<=q)/\(∀q,{ target:=.collected q,args:=#[] }∈f.act.defers->q<f.d)/\(∀p∈r,p.d<=f.d)/\MD f.act.defers r
theorem MD.lt:∀ {ds:List Deferred} {f:Fm} {r:List Fm},MD ds (f::r)->∀p∈f::r,∀q,({ target:=.collected q,args:=#[] }:Deferred)∈p.act.defers->q<f.d
 | ds,f,[],h,p,a,q,d=>by have:=Aa.1 a;subst this;exact h.2.1 q d
 | ds,f,g::r,h,p,a,q,d=>by
  rcases Ai.1 a with rfl|a
  ·exact h.2.1 q d
  ·exact Nat.lt_of_lt_of_le (MD.lt h.2.2.2 p a q d) (h.2.2.1 g Ae)
structure RepF (nt:Nat) (w:World) (S:Nat->Prop) (s:Dn.S Ty.T) (μ:Gh) (a:Act) (fs:List Fm):Prop where
 fr:RepS nt w S (enc s) μ a
 len:fs.length=s.lo.length
 lo:∀(i:Nat) (l:List (Nat×V Ty.T)) (b:Fm),s.lo[i]?=some l->fs[i]?=some b->∀d v,look d l=some v->Rep w S (encH s) μ (encV s v) (b.act.tmps.getD d undef)
 sz:∀p∈fs,Marks w S p.act.defers/\p.nt<=p.act.tmps.size/\p.d<=w.heap.size
 md:MD a.defers fs
 lp:∀p∈fs,∀j r,p.lo=some (j,r)->w.heap[μ.l j]?=some (.loop r)/\¬S (μ.l j)/\∀p'∈fs,∀i q,p'.lo=some (i,q)->i≠j->μ.l i≠μ.l j
 iv:Inv s
theorem RepF.under{nt:Nat}{w w':World}{S S':Nat->Prop}{s:Dn.S Ty.T}{h':Heap}{μ μ':Gh}{a:Act}{fs:List Fm}(h:RepF nt w S s μ a fs)(ev:Evo w S (encH s) μ w' S' h' μ') :
  (∀p∈fs,Marks w' S' p.act.defers/\p.nt<=p.act.tmps.size/\p.d<=w'.heap.size)/\∀p∈fs,∀j r,p.lo=some (j,r)->w'.heap[μ'.l j]?=some (.loop r)/\¬S' (μ'.l j)/\∀p'∈fs,∀i q,p'.lo=some (i,q)->i≠j->μ'.l i≠μ'.l j:=by
 refine ⟨λp d=>⟨h.fr.hp.marks (h.sz p d).1 ev,(h.sz p d).2.1,Nat.le_trans (h.sz p d).2.2 ev.size⟩,λp d j r hl=>?_⟩;obtain ⟨f,m,l⟩:=h.lp p d j r hl;have g:=h.fr.hp.no_own f (by intros;simp) (by intros;simp);have e:=(Bw.1 f).1;rw [ev.lp];refine ⟨(ev.keep _ e g).trans f,λhs=>?_,l⟩;rcases ev.st2 _ hs with q|q|q
 ·exact m q
 ·omega
 ·exact g q
theorem RepF.step{nt:Nat}{w w':World}{S S':Nat->Prop}{s s':Dn.S Ty.T}{μ μ':Gh}{a a':Act}{fs:List Fm}(h:RepF nt w S s μ a fs)(ed:a'.defers=a.defers)(hs:RepS nt w' S' (enc s') μ' a')(on:On s s')(iv:Inv s')
  (ev:Evo w S (encH s) μ w' S' (encH s') μ') (vv:EvoV (encH s) μ (encH s') μ'):RepF nt w' S' s' μ' a' fs:=
 ⟨hs,by rw [on.lo];exact h.len,λi l b hl f d v e=>by rw [on.lo] at hl;have ok:=h.iv.lo l (Au hl) (d,v) (Qn e);rw [on.encV ok];exact (h.lo i l b hl f d v e).evo h.fr.hp ev vv,(h.under ev).1,by rw [ed];exact h.md,(h.under ev).2,iv⟩
theorem Jfd{d:Nat}{v:V Ty.T}{sl:List (Nat×V Ty.T)}:∀ {n:List Nat},look d (kept sl n)=some v->look d sl=some v
 | [],h=>by cases h
 | k::r,h=>by
  simp only [kept] at h;split at h
  ·rename_i u a;rw [J0] at h;split at h
   ·rename_i e;injection h with h;subst h;subst e;exact a
   ·exact Jfd h
  ·exact Jfd h
theorem Jm5{sl:List (Nat×V Ty.T)}:∀ {n:List Nat} {p:Nat×V Ty.T},p∈kept sl n->p∈sl
 | [],p,h=>by cases h
 | k::r,p,h=>by
  simp only [kept] at h;split at h
  ·rename_i u a;rcases Ai.1 h with rfl|h
   ·exact Qn a
   ·exact Jm5 h
  ·exact Jm5 h
theorem RepF.push{nt nt':Nat}{w:World}{S:Nat->Prop}{s:Dn.S Ty.T}{μ:Gh}{a a':Act}{fs:List Fm}(h:RepF nt w S s μ a fs){n:List Nat}{sl:List (Nat×V Ty.T)}(ok:∀p∈sl,okV s p.2)
  {lo:Option (Nat×Loop)} (B:∀j r,lo=some (j,r)->w.heap[μ.l j]?=some (.loop r)/\¬S (μ.l j)/\∀E∈fs,∀i q,E.lo=some (i,q)->i≠j->μ.l i≠μ.l j)
  (hs:RepS nt' w S (enc ⟨sl,kept s.sl n::s.lo,s.ob,s.ln,s.mo⟩) μ a') (hd:a'.defers=[]):RepF nt' w S ⟨sl,kept s.sl n::s.lo,s.ob,s.ln,s.mo⟩ μ a' (⟨nt,a,lo,w.heap.size⟩::fs) where
 fr:=hs
 len:=by simp [h.len]
 lo i l b hl F d v G:=by
  have e:∀v,Dn.encV ⟨sl,kept s.sl n::s.lo,s.ob,s.ln,s.mo⟩ v=Dn.encV s v:=λv=>by
   have e:encC ⟨sl,kept s.sl n::s.lo,s.ob,s.ln,s.mo⟩=encC s:=by funext c;cases c<;>rfl
   cases v<;>simp only [Dn.encV,e]
  have eh:encH ⟨sl,kept s.sl n::s.lo,s.ob,s.ln,s.mo⟩=encH s:=by
   have e:encC ⟨sl,kept s.sl n::s.lo,s.ob,s.ln,s.mo⟩=encC s:=by funext c;cases c<;>rfl
   funext g;simp only [encH];cases look g s.ob with
   | none=>rfl
   | some o=>cases o<;>simp only [Bd,Dn.encO,e]
  rw [e,eh];cases i with
  | zero=>
   simp only [Bj,Ao] at hl F;subst hl;subst F;have:=h.fr.fr d;have hd:=Jfd G;have H:(enc s).f d=Dn.encV s v:=by show Dn.encV s (s.at d)=_;rw [show s.at d=v by simp [Dn.S.at,hd]]
   rw [H] at this;exact this
  | succ i=>exact h.lo i l b (by simpa using hl) (by simpa using F) d v G
 sz p m:=by
  rcases Ai.1 m with rfl|m
  ·exact ⟨h.fr.df,h.fr.sz,Az _⟩
  ·exact h.sz p m
 md:=⟨by rw [hd];exact λd hd=>(by cases hd),λq A=>(by obtain ⟨K,e,F,-⟩:=h.fr.df.2 _ A;injection e with e;injection e with e;subst e;exact (Bw.1 F).1),λp m=>(h.sz p m).2.2,h.md⟩
 lp p m j r hl:=by
  rcases Ai.1 m with rfl|m
  ·refine ⟨(B j r hl).1,(B j r hl).2.1,λE f i q A y=>?_⟩;rcases Ai.1 f with rfl|f
   ·rw [hl] at A;injection A with A;injection A with J H;exact (y J.symm).elim
   ·exact (B j r hl).2.2 E f i q A y
  ·refine ⟨(h.lp p m j r hl).1,(h.lp p m j r hl).2.1,λE f i q A y=>?_⟩;rcases Ai.1 f with rfl|f
   ·exact ((B i q A).2.2 p m j r hl (Ne.symm y)).symm
   ·exact (h.lp p m j r hl).2.2 E f i q A y
 iv:=by
  refine ⟨ok,λl hl p m=>?_,h.iv.ob,h.iv.mo⟩;rcases Ai.1 hl with rfl|hl
  ·exact h.iv.sl p (Jm5 m)
  ·exact h.iv.lo l hl p m
theorem RepF.pop{nt nt':Nat}{w:World}{S:Nat->Prop}{s:Dn.S Ty.T}{μ:Gh}{a a':Act}{lo0:Option (Nat×Loop)}{d0:Nat}{fs:List Fm}(h:RepF nt' w S s μ a' (⟨nt,a,lo0,d0⟩::fs)):RepF nt w S s.pop μ a fs:=by
 obtain ⟨sl,lo,ob,ln,mo⟩:=s;have hl:=h.len;cases lo with
 | nil=>simp at hl
 | cons l r=>
  have ec:encC ⟨sl,l::r,ob,ln,mo⟩=encC ⟨l,r,ob,ln,mo⟩:=by funext c;cases c<;>rfl
  have e:∀v,Dn.encV ⟨sl,l::r,ob,ln,mo⟩ v=Dn.encV ⟨l,r,ob,ln,mo⟩ v:=λv=>by cases v<;>simp only [Dn.encV,ec]
  have eh:encH ⟨sl,l::r,ob,ln,mo⟩=encH ⟨l,r,ob,ln,mo⟩:=by
   funext g;simp only [encH];cases look g ob with
   | none=>rfl
   | some o=>cases o<;>simp only [Bd,Dn.encO,ec]
  have m:RepH w S (encH ⟨l,r,ob,ln,mo⟩) μ:=eh▸h.fr.hp;refine ⟨⟨λd=>?_,m,(h.sz _ Ae).1,(h.sz _ Ae).2.1⟩,(by simpa using hl:fs.length=r.length),λi y b f F d v E=>?_,λp m=>h.sz p (Ab _ m),h.md.2.2.2,λp m j r hl=>⟨(h.lp p (Ab _ m) j r hl).1,(h.lp p (Ab _ m) j r hl).2.1,λB A=>(h.lp p (Ab _ m) j r hl).2.2 B (Ab _ A)⟩,λp m=>h.iv.lo l Ae p m,λy f=>h.iv.lo y (Ab _ f),h.iv.ob,h.iv.mo⟩
  ·show Rep w S (encH ⟨l,r,ob,ln,mo⟩) μ (Dn.encV ⟨l,r,ob,ln,mo⟩ (Dn.S.at ⟨l,r,ob,ln,mo⟩ d)) _;unfold Dn.S.at;cases hd:look d l with
   | none=>exact .any _
   | some v=>
    have:=h.lo 0 l ⟨nt,a,lo0,d0⟩ rfl rfl d v hd;rw [e,eh] at this;exact this
  ·have f:r[i]?=some y:=f;have:=h.lo (i+1) y b (by simpa using f) (by simpa using F) d v E;rw [e,eh] at this;exact this
theorem mode_one(m:CM)(d:Option Nat):Jll [(d.getD 0,m)] d=m:=by simp [Jll]
theorem J0e{P:Program}{dst:Option Nat}{op:Op}{f:FuncId}{args:List LO}(h:Zq P [] dst op=some (.callp f args))(m:CM) :
  Zq P [(dst.getD 0,m)] dst op=some (match m with|.p=>.callp f args|.z=>.callz f args|.q=>.callq f args):=by
 cases op
 case call c=>
  simp only [Zq] at h ⊢;rw [mode_one]
  repeat' split at h
  all_goals first|(cases h;done)|(simp at h;done)|skip
  all_goals first|(simp only [*];done)|skip
  injection h with h;injection h with d a;subst d;subst a;rfl
 all_goals
  simp only [Zq] at h
  repeat' split at h
  all_goals first|(cases h;done)|(simp at h;done)|contradiction
theorem Jf2{P:Program}{nt:Nat}{ops:Array Oper}{o:Oper}{x:LOper}(h:comp P [] nt ops o=some x){op':LOp}(a:Alt x.op op'):∃cm,comp P cm nt ops o=some { x with op:=op' }:=by
 rcases a with rfl|⟨f,args,hx,v⟩
 ·exact ⟨[],h⟩
 ·obtain ⟨m,l⟩:∃m:CM,op'=(match m with|.p=>.callp f args|.z=>.callz f args|.q=>.callq f args):=by
   rcases v with rfl|rfl
   ·exact ⟨.q,rfl⟩
   ·exact ⟨.z,rfl⟩
  refine ⟨[(o.dst.getD 0,m)],?_⟩;unfold comp at h ⊢;cases g:Zq P [] o.dst o.op with
  | none=>rw [g] at h;cases h
  | some lop=>
   rw [g] at h;simp only at h;have hl:lop=.callp f args:=by
    rw [<-hx];split at h
    ·split at h
     ·injection h with h;rw [<-h]
     ·split at h
      ·split at h
       ·injection h with h;rw [<-h]
       ·cases h
      ·cases h
    ·cases h
   rw [J0e (by rw [g,hl]) m,<-l];simp only;split at h
   ·rename_i hd;rw [if_pos hd];split at h
    ·rename_i r;injection h with h;rw [<-h]
    ·rename_i j want r;split at h
     ·rename_i d w;split at h
      ·rename_i e;rw [if_pos e];injection h with h;rw [<-h]
      ·cases h
     ·cases h
   ·cases h
theorem AltL.mem:∀ {L L':List (Nat×LOper)},AltL L L'->∀q∈L',∃p∈L,q.1=p.1/\∃op',Alt p.2.op op'/\q.2={ p.2 with op:=op' }
 | [],[],_,q,d=>by cases d
 | p::l,r::m,h,q,d=>by
  obtain ⟨o,g,f⟩:=h;rcases Ai.1 d with rfl|d
  ·exact ⟨p,Ae,o,g⟩
  ·obtain ⟨e,a,b⟩:=AltL.mem f q d;exact ⟨e,Ab _ a,b⟩
 | [],_::_,h,_,_=>h.elim
 | _::_,[],h,_,_=>h.elim
theorem draw_den{ro:Option Nat}{P:Program}{nt:Nat}{ops:Array Oper}{call:Vv.Call}{base:Nat}{Q:Exit->Act->World->Prop}{cx:Cx}{α:Type}{r:α}(hC:Yg call cx.ct)(d:jg P call)(K:P.follows .mixedOrders=true)
  {w:World} {S:Nat->Prop} {s:Dn.S Ty.T} {μ:Gh} {a:Act} {fs:List Fm} (h:RepF nt w S s μ a fs) {id:Nat} {l:List Nat} {L:List (Nat×LOper)} (O:Jbk P [] nt ops l=some L) {ds:List Nat} {k:List (Nat×LOper)->List (Nat×LOper)->Dn.S Ty.T->Option α}
  (m:Jck val cx base L [] [] ds s k=some r) (M:∀L' L2 s',k L' L2 s'=some r->Jlx ops L'=true\/Jlx ops L2=true)
  (hQ:∀a' w' S' μ' s' L' L2,RepF nt w' S' s' μ' a' fs->Evo w S (encH s) μ w' S' (encH s') μ'->k L' L2 s'=some r->Q .normal a' w'):(Code.region id ops true).wpIn (Fr ro) 0 P Q a w:=by
 obtain ⟨L',L2,s',aL,mL,N,H,iv,on,e⟩:=Jun (call:=call) hC h.iv m;have one:∀q∈L',∃(cm:List (Nat×CM)) (o:Oper),ops[q.1]?=some o/\comp P cm nt ops o=some q.2:=λq g=>by obtain ⟨p,G,J,op',al,X⟩:=aL.mem q g;obtain ⟨o,y,v⟩:=Jj3 O p G;obtain ⟨cm,R⟩:=Jf2 v al;exact ⟨cm,o,by rw [J];exact y,by rw [X];exact R⟩
 rcases M _ _ _ e with hd|hd
 ·refine Jx7 d K h.fr (L:=L') (λq g=>?_) hd N λa' w' S' μ' E B f A=>hQ a' w' S' μ' s' L' L2 (h.step E B on iv f A) f e;obtain ⟨cm,o,y,v⟩:=one q g;exact ⟨cm,o,q.2,y,v,λ_ _ h=>h⟩
 ·refine Jx7 d K h.fr (L:=L2) (λq g=>?_) hd H λa' w' S' μ' E B f A=>hQ a' w' S' μ' s' L' L2 (h.step E B on iv f A) f e;obtain ⟨p,G,J,F⟩:=mL.mem q g;obtain ⟨cm,o,y,v⟩:=one p G;exact ⟨cm,o,p.2,by rw [J];exact y,v,F⟩
theorem AltL.idx:∀ {l m:List (Nat×LOper)},AltL l m->m.map (·.1)=l.map (·.1)
 | [],[],_=>rfl
 | p::l,q::m,h=>by simp only [As,h.1,h.2.2.idx]
 | [],_::_,h=>h.elim
 | _::_,[],h=>h.elim
theorem Jev{P:Program}{cm:List (Nat×CM)}{nt:Nat}{ops:Array Oper}:∀ {l:List Nat} {A B:List (Nat×LOper)},Jbk P cm nt ops l=some (A++B)->Jbk P cm nt ops (A.map (·.1))=some A/\Jbk P cm nt ops (B.map (·.1))=some B
 | [],A,B,h=>by simp only [Jbk,Ao] at h;obtain ⟨rfl,rfl⟩:=List.append_eq_nil_iff.1 h.symm;exact ⟨rfl,rfl⟩
 | i::l,A,B,h=>by
  unfold Jbk at h;split at h
  ·rename_i o e;split at h
   ·rename_i x m hx f;injection h with h;cases A with
    | nil=>
     simp only [List.nil_append] at h;subst h;have d:=Jev (A:=[]) (B:=m) f;refine ⟨rfl,?_⟩;simp only [As,Jbk,e,hx,d.2]
    | cons a A=>
     simp only [Dc,List.cons.injEq] at h;obtain ⟨rfl,rfl⟩:=h;have d:=Jev f;refine ⟨?_,d.2⟩;simp only [As,Jbk,e,hx,d.1]
   ·cases h
  ·cases h
theorem Jpc{P:Program}{cm:List (Nat×CM)}{nt:Nat}{ops:Array Oper}:∀ {l:List Nat} {L:List (Nat×LOper)},Jbk P cm nt ops l=some L->∃os:List Oper,l.map (λi=>ops[i]?)=os.map some
 | [],L,h=>⟨[],rfl⟩
 | i::l,L,h=>by
  unfold Jbk at h;split at h
  ·rename_i o a;split at h
   ·rename_i x m hx d;obtain ⟨os,e⟩:=Jpc d;exact ⟨o::os,by simp [a,e]⟩
   ·cases h
  ·cases h
theorem Jxp{ro:Option Nat}{P:Program}{nt:Nat}{ops:Array Oper}{call:Vv.Call}{base:Nat}{Q:Exit->Act->World->Prop}{cx:Cx}{α:Type}{r:α}(hC:Yg call cx.ct)(d:jg P call)(J:P.follows .mixedOrders=true)
  {w:World} {S:Nat->Prop} {s:Dn.S Ty.T} {μ:Gh} {a:Act} {fs:List Fm} (h:RepF nt w S s μ a fs) {id:Nat} {l:List Nat} {L R:List (Nat×LOper)} (O:Jbk P [] nt ops l=some (L++R)) {ds:List Nat} {k:List (Nat×LOper)->List (Nat×LOper)->Dn.S Ty.T->Option α}
  (m:Jck val cx base L [] [] ds s k=some r) (K:∀L' L2 s',k L' L2 s'=some r->Jm6 ops L' (R.map (·.1))=true)
  (hQ:∀a' w' S' μ' s' L' L2 os,RepF nt w' S' s' μ' a' fs->Evo w S (encH s) μ w' S' (encH s') μ'->k L' L2 s'=some r->Jbk P [] nt ops (R.map (·.1))=some R->(R.map (·.1)).map (λi=>ops[i]?)=os.map some->wpListIn (Fr ro) 0 P ops Q os a' w'):(Code.region id ops true).wpIn (Fr ro) 0 P Q a w:=by
 obtain ⟨L',L2,s',aL,mL,N,M,iv,on,f⟩:=Jun (call:=call) hC h.iv m;obtain ⟨hcL,hcR⟩:=Jev O;obtain ⟨os,e⟩:=Jpc hcR;have y:∀q∈L',∃(cm:List (Nat×CM)) (o:Oper),ops[q.1]?=some o/\comp P cm nt ops o=some q.2:=λq G=>by obtain ⟨p,H,e1,op',al,e2⟩:=aL.mem q G;obtain ⟨o,Z,Y⟩:=Jj3 hcL p H;obtain ⟨cm,X⟩:=Jf2 Y al;exact ⟨cm,o,by rw [e1];exact Z,by rw [e2];exact X⟩
 have v:=K _ _ _ f;have g:∀(a':Act) (w':World) (S':Nat->Prop) (μ':Gh),a'.defers=a.defers->RepS nt w' S' (enc s') μ' a'->Evo w S (enc s).h μ w' S' (enc s').h μ'->EvoV (enc s).h μ (enc s').h μ'->wpListIn (Fr ro) 0 P ops Q os a' w':=
  λa' w' S' μ' F E A B=>hQ a' w' S' μ' s' L' L2 os (h.step F E on iv A B) A f hcR e
 exact split_wp d J h.fr y v e N g
theorem step_den{ro:Option Nat}{P:Program}{nt:Nat}{ops:Array Oper}{call:Vv.Call}{base:Nat}{Q:Exit->Act->World->Prop}{K:Act->World->Prop}{cx:Cx}{α:Type}{r:α}(hC:Yg call cx.ct)(d:jg P call)
  {w:World} {S:Nat->Prop} {s:Dn.S Ty.T} {μ:Gh} {a:Act} {fs:List Fm} (h:RepF nt w S s μ a fs) {o:Oper} {lo:LOper} (B:comp P [] nt ops o=some lo) {k:LOp->Dn.S Ty.T->Option α}
  (e:Jzi val cx base s lo k=some r)
  (hK:∀a' w' S' μ' s' op',RepF nt w' S' s' μ' a' fs->Evo w S (encH s) μ w' S' (encH s') μ'->k op' s'=some r->K a' w') :
  if Region.wanted o (yielded ops a.tmps)=true then wpO ro P o a w K Q else K (a.put o.dst undef) w:=by obtain ⟨op',s',al,A,iv,on,f⟩:=Jtt (call:=call) hC h.iv e;obtain ⟨cm,g⟩:=Jf2 B al;exact Jnk d h.fr g A λa' w' S' μ' y v l m=>hK a' w' S' μ' s' op' (h.step y v on iv l m) l f
theorem Jo3{P:Program}{nt:Nat}{ops:Array Oper}{cm:List (Nat×CM)}{w:World}{S:Nat->Prop}{σ:St}{μ:Gh}{a:Act}{o:Oper}{lo:LOper}(hs:RepS nt w S σ μ a)(f:comp P cm nt ops o=some lo) :
  lo.dst=o.dst/\(lo.guard=none->Region.wanted o (yielded ops a.tmps)=true)/\∀g want,lo.guard=some (g,want) ->
   (∀b,σ.f g=.bool b->Region.wanted o (yielded ops a.tmps)=(b==want))/\(σ.f g=.tup []->Region.wanted o (yielded ops a.tmps)=false):=by
 unfold comp at f;split at f
 ·cases f
 ·split at f
  ·split at f
   ·rename_i m;injection f with f;subst f;exact ⟨rfl,(λ_=>by simp [Region.wanted,m]),λg want e=>by cases e⟩
   ·rename_i j want m;split at f
    ·rename_i d y;split at f
     ·rename_i l;injection f with f;subst f;refine ⟨rfl,(λe=>by cases e),λg want' e=>?_⟩;injection e with e;injection e with B A;subst B;subst A;have h:=hs.fr d;refine ⟨λb v=>?_,λv=>?_⟩
      ·rw [v] at h;have r:=Jdi hs y l h.bool_inv;simp [Region.wanted,m,r,valB]
      ·rw [v] at h;have r:=Jdi hs y l h.tup0_inv;simp [Region.wanted,m,r,valB]
     ·cases f
    ·cases f
  ·cases f
inductive GR (h h':Heap) (θ:Nat->Option Nat) (R:List Nat):AV->AV->Prop
 | any (x:AV):GR h h' θ R x .any
 | snap {x u y:AV} {ns:List Nat} (k:Nat) (hs:Vv.snap h k x=some (u,ns)) (hn:∀g∈ns,g∈R) (hu:Up u y):GR h h' θ R x y
 | arr {g v off len n v':Nat} {o o':AObj} (ho:h g=some o) (ho':h' n=some o') (hv:v'<=o'.ver) (hθ:θ n=some g)
   (hc:v'=o'.ver->v=o.ver/\∀e el c z,o=.arr v e el c z->∃c' z',o'=.arr v' e el c' z'/\(c=[]↔c'=[])):GR h h' θ R (.arr g v off len) (.arr n v' off len)
 | ptr {g v off n v':Nat} {o o':AObj} (ho:h g=some o) (ho':h' n=some o') (hv:v'<=o'.ver) (hθ:θ n=some g) (hc:v'=o'.ver->v=o.ver):GR h h' θ R (.ptr g v off) (.ptr n v' off)
 | map {g v n v':Nat} {o o':AObj} (ho:h g=some o) (ho':h' n=some o') (hv:v'<=o'.ver) (hθ:θ n=some g) (hc:v'=o'.ver->v=o.ver):GR h h' θ R (.map g v) (.map n v')
 | same (x:AV) (hθ:θ=some) (hk:∀g o,h g=some o->∃o',h' g=some o'/\o'.ver=o.ver/\o.like o'):GR h h' θ R x x
 | yld (j:Nat):GR h h' θ R (.yld j) (.yld j)
 | new {n v' e:Nat} {el:TypeId} {z:Bool} (ho':h' n=some (.arr v' e el [] z)):GR h h' θ R .nils (.arr n v' 0 0)
 | fn (f:FuncId) (l l':List AV) (hl:l.length=l'.length) (hg:∀(i:Nat) (x y:AV),l[i]?=some x->l'[i]?=some y->GR h h' θ R x y):GR h h' θ R (.fn f l) (.fn f l')
 | agg (l l':List AV) (hl:l.length=l'.length) (hg:∀(i:Nat) (x y:AV),l[i]?=some x->l'[i]?=some y->GR h h' θ R x y):GR h h' θ R (.agg l) (.agg l')
 | tup (l l':List AV) (hl:l.length=l'.length) (hg:∀(i:Nat) (x y:AV),l[i]?=some x->l'[i]?=some y->GR h h' θ R x y):GR h h' θ R (.tup l) (.tup l')
structure GRL (h h':Heap) (θ:Nat->Option Nat) (R:List Nat) (l l':List AV):Prop where
 len:l.length=l'.length
 at':∀(i:Nat) (x y:AV),l[i]?=some x->l'[i]?=some y->GR h h' θ R x y
section
variable {h h':Heap} {θ:Nat->Option Nat} {R:List Nat}
theorem GR.flat{x:AV}(d:x.flat=true):GR h h' θ R x x:=.snap 1 (Jdv h 0 x d) (λg a=>by cases a) (.refl x)
theorem GRL.nil:GRL h h' θ R [] []:=⟨rfl,λi x y hx=>by simp at hx⟩
theorem GRL.cons{x y:AV}{l f:List AV}(hx:GR h h' θ R x y)(g:GRL h h' θ R l f):GRL h h' θ R (x::l) (y::f):=
 ⟨by simp [g.len],λi a b e d=>by
  cases i with
  | zero=>simp at e d;subst e;subst d;exact hx
  | succ i=>exact g.at' i a b (by simpa using e) (by simpa using d)⟩
theorem GRL.append{a b c d:List AV}(e:GRL h h' θ R a c)(l:GRL h h' θ R b d):GRL h h' θ R (a++b) (c++d):=by
 refine ⟨by simp [e.len,l.len],λi x y hx f=>?_⟩;by_cases g:i<a.length
 ·rw [By g] at hx;rw [By (by rw [<-e.len];exact g)] at f;exact e.at' i x y hx f
 ·rw [Bx (by omega)] at hx;rw [Bx (by rw [<-e.len];omega)] at f;exact l.at' _ x y hx (by rw [e.len];exact f)
theorem GRL.set{a b:List AV}{x y:AV}(hl:GRL h h' θ R a b)(hx:GR h h' θ R x y)(i:Nat):GRL h h' θ R (a.set i x) (b.set i y):=by
 refine ⟨by simp [hl.len],λj u v e d=>?_⟩;rw [List.getElem?_set] at e d;by_cases f:i=j
 ·rw [if_pos f] at e d;split at e
  ·split at d
   ·injection e with e;injection d with d;subst e;subst d;exact hx
   ·cases d
  ·cases e
 ·rw [if_neg f] at e d;exact hl.at' j u v e d
theorem GRL.flat{l:List AV}(d:l.all AV.flat=true):GRL h h' θ R l l:=
 ⟨rfl,λi x y hx a=>by rw [hx] at a;injection a with a;subst a;exact .flat (Ah.1 d x (Au hx))⟩
theorem GRL.map{α:Type}{f f':α->AV}{l:List α}(a:∀x∈l,GR h h' θ R (f x) (f' x)):GRL h h' θ R (l.map f) (l.map f'):=by
 induction l with
 | nil=>exact .nil
 | cons x l d=>exact .cons (a x Ae) (d λy e=>a y (Ab _ e))
theorem GRL.ofSnL{k:Nat}{L U:List AV}{N:List Nat}(hs:SnL h k L U N)(hN:∀g∈N,(∃o,h g=some o/\o.freeze.fz=true)->g∈R):GRL h h' θ R L U:=by obtain ⟨ps,w,f,v⟩:=hs;obtain ⟨m,l⟩:=za w;refine ⟨by rw [<-f.len];simp [m],λi x y hx r=>?_⟩;obtain ⟨p,d,a⟩:=l i x hx;refine .snap k (u:=p.1) (ns:=p.2) a (λg e=>hN g ?_ (jv k (u:=p.1) (ns:=p.2) a g e)) (f.at' i p.1 y (by simp [d]) r);exact (v g).1 (Am.2 ⟨p,Au d,e⟩)
end
inductive GO (h h':Heap) (θ:Nat->Option Nat) (R:List Nat) (g:Nat):AObj->AObj->Prop
 | box {v v':Nat} {c c':List AV} (hc:GRL h h' θ R c c'):GO h h' θ R g (.box v c) (.box v' c')
 | arr {v v' e:Nat} {el:TypeId} {z z':Bool} {c c':List AV} (hc:GRL h h' θ R c c') (hz:z'=true->z=true\/g∈R) (hz2:z=true->z'=true):GO h h' θ R g (.arr v e el c z) (.arr v' e el c' z')
 | map {v v':Nat} {es es':List (AV×AV)} (hl:es'.length=es.length) (hk:∀(i:Nat) (p q:AV×AV),es[i]?=some p->es'[i]?=some q->q.1=p.1/\GR h h' θ R p.2 q.2):GO h h' θ R g (.map v es false) (.map v' es' false)
structure GS (h h':Heap) (θ:Nat->Option Nat) (R:List Nat):Prop where
 ob:∀n o',h' n=some o'->(∃v e el z,o'=.arr v e el [] z)\/∃g o,θ n=some g/\h g=some o/\GO h h' θ R g o o'
 inj:∀n n' g,θ n=some g->θ n'=some g->(h' n).isSome=true->(h' n').isSome=true->n=n'
 own:∀n g o',θ n=some g->h' n=some o'->o'.fz=false->o'.live=true->g∉R
 nm:∀g∈R,∃o,h g=some o/\o.freeze.fz=true
theorem Xa{α:Type}{l a:List α}(h:l.length=a.length):l=[]↔a=[]:=by cases l<;>cases a<;>simp at h ⊢
theorem GO.fz{h h':Heap}{θ:Nat->Option Nat}{R:List Nat}{x:Nat}{o o':AObj}(g:GO h h' θ R x o o'):(o'.fz=false->o.fz=false)/\o.live=o'.live:=by
 cases g with
 | box d=>exact ⟨λ_=>rfl,rfl⟩
 | map hl r=>exact ⟨λ_=>rfl,rfl⟩
 | @arr v l e el z f c c' d m a=>
  refine ⟨λq=>?_,?_⟩
  ·simp only [AObj.fz] at q ⊢;cases z with
   | false=>rfl
   | true=>rw [a rfl] at q;cases q
  have:=Xa d.len;cases c<;>cases c'<;>simp_all [AObj.live]
def Gh.via(μ:Gh)(θ:Nat->Option Nat):Gh:=⟨λn=>match θ n with|some g=>μ.b g|none=>0,λn=>match θ n with|some g=>μ.o g|none=>0,μ.l⟩
theorem Jm9{μ:Gh}{θ:Nat->Option Nat}{n g:Nat}(h:θ n=some g):(Gh.via μ θ).b n=μ.b g:=by simp [Gh.via,h]
theorem via_o{μ:Gh}{θ:Nat->Option Nat}{n g:Nat}(h:θ n=some g):(Gh.via μ θ).o n=μ.o g:=by simp [Gh.via,h]
section
variable {w:World} {S:Nat->Prop} {h h':Heap} {μ:Gh} {θ:Nat->Option Nat} {R:List Nat}
theorem GR.rep(F:RepH w S h μ){S':Nat->Prop}(hS:∀b,S b->S' b)(hm:Met S' h μ R)(ev:Evo w S h μ w S' h' (Gh.via μ θ)):∀ {x y:AV},GR h h' θ R x y->∀ {v:Value},Rep w S h μ x v->Rep w S' h' (Gh.via μ θ) y v:=by
 intro x y g
 induction g with
 | any x=>exact λ_=>.any _
 | snap k hs hn hu=>exact λm=>.pure (hu.rep (jk F hS k hs m λg Y=>hm g (hn g Y)))
 | @arr g v off len n J o o' K r O hθ P=>
  intro cv m;cases m with
  | pure F=>cases F
  | arr _ _ _ _ _ o1 d N E B=>
   rw [K] at d;injection d with d;subst d;refine .arr n J off len cv o' r O E λe=>?_;obtain ⟨e1,Z⟩:=P e;obtain ⟨esz,el,cells,fz,eo,X⟩:=B e1;obtain ⟨c',z',eo',H⟩:=Z esz el cells fz eo;refine ⟨esz,el,c',z',eo',?_⟩;rw [Jm9 hθ,via_o hθ];exact ⟨λq=>X.1 (H.2 q),λq=>X.2 λp=>q (H.1 p)⟩
 | @ptr g v off n J o o' K r O hθ P=>
  intro cv m;cases m with
  | pure F=>cases F
  | ptr _ _ _ _ o1 d N E B=>
   rw [K] at d;injection d with d;subst d;exact .ptr n J off cv o' r O E λe=>by rw [Jm9 hθ,via_o hθ];exact B (P e)
 | @map g v n J o o' K r O hθ P=>
  intro cv m;cases m with
  | pure F=>cases F
  | map _ _ _ o1 d N E B=>
   rw [K] at d;injection d with d;subst d;exact .map n J cv o' r O E λe=>by rw [Jm9 hθ];exact B (P e)
 | yld j=>
  intro cv m;cases m with
  | pure F=>cases F
  | yld=>exact .yld j
 | same x hθ X=>
  intro cv m;refine m.evo F ev λg o K=>?_;obtain ⟨o',a,b,c⟩:=X g o K;exact ⟨o',a,by omega,λ_=>⟨⟨Jm9 (by rw [hθ]),via_o (by rw [hθ])⟩,c⟩⟩
 | @new n J e el z r=>
  intro cv m;have:=m.nils_inv;subst this;exact .arr n J 0 0 _ _ r (Az _) rfl λ_=>⟨e,el,[],z,rfl,λ_=>⟨rfl,rfl,none,rfl⟩,λq=>(q rfl).elim⟩
 | fn f l G hl Y M=>
  intro cv m;obtain ⟨cs,rfl,Q,L⟩:=m.fn_inv;refine .fn f G cs (by rw [<-hl];exact Q) λi y A=>?_;obtain ⟨x,hx⟩:∃x,l[i]?=some x:=by have:i<G.length:=(Ad.1 A).1;exact ⟨_,Ag (by omega)⟩
  exact M i x y hx A (L i x hx)
 | agg l G hl Y M=>
  intro cv m;obtain ⟨cs,rfl,Q,L⟩:=m.agg_inv;have key:∀i y,G[i]?=some y->∃x,l[i]?=some x:=λi y A=>by have:i<G.length:=(Ad.1 A).1;exact ⟨_,Ag (by omega)⟩
  refine .agg G cs (by rw [<-hl];exact Q) (λi y A=>?_) λi y A=>?_
  ·obtain ⟨x,hx⟩:=key i y A;exact (L i x hx).2
  ·obtain ⟨x,hx⟩:=key i y A;exact M i x y hx A (L i x hx).1
 | tup l G hl Y M=>
  intro cv m;obtain ⟨cs,rfl,Q,L⟩:=m.tup_inv;refine .tup G cs (by rw [<-hl];exact Q) λi y A=>?_;obtain ⟨x,hx⟩:∃x,l[i]?=some x:=by have:i<G.length:=(Ad.1 A).1;exact ⟨_,Ag (by omega)⟩
  exact M i x y hx A (L i x hx)
theorem GRL.holds(e:RepH w S h μ){S':Nat->Prop}(hS:∀b,S b->S' b)(f:Met S' h μ R)(ev:Evo w S h μ w S' h' (Gh.via μ θ)){c c':List AV}(g:GRL h h' θ R c c'){o:Nat}{cs:Array Value}(d:HoldsAt w S h μ o c cs):HoldsAt w S' h' (Gh.via μ θ) o c' cs:=by
 intro i y a;obtain ⟨x,hx⟩:∃x,c[i]?=some x:=by have:i<c'.length:=(Ad.1 a).1;exact ⟨_,Ag (by rw [g.len];omega)⟩
 exact ⟨(g.at' i x y hx a).rep e hS f ev (d i x hx).1,(d i x hx).2⟩
theorem Jtk(d:RepH w S h μ)(gs:GS h h' θ R):∃S':Nat->Prop,RepH w S' h' (Gh.via μ θ)/\Evo w S h μ w S' h' (Gh.via μ θ)/\∀ {x y:AV},GR h h' θ R x y->∀ {v:Value},Rep w S h μ x v->Rep w S' h' (Gh.via μ θ) y v:=by
 obtain ⟨f1,f2,f3⟩:=Jfn d gs.nm;have hS:∀b,S b->(λb=>S b\/Liv h μ R b) b:=λb Y=>.inl Y;have G:Met (λb=>S b\/Liv h μ R b) h μ R:=λg K o a hl=>.inr ⟨g,K,o,a,hl,rfl⟩;have old:∀n o',h' n=some o'->o'.live=true->∃g o,θ n=some g/\h g=some o/\GO h h' θ R g o o':=λn o' a hl=>by
  rcases gs.ob n o' a with ⟨v,e,el,z,rfl⟩|hx
  ·cases hl
  ·exact hx
 have ev:Evo w S h μ w (λb=>S b\/Liv h μ R b) h' (Gh.via μ θ):=by refine ⟨rfl,rfl,⟨rfl,Az _⟩,Az _,λ_ _ _=>rfl,λ_ cs _ _ l=>⟨cs,l,rfl⟩,λb Y=>.inl Y,f2.st2,?_,rfl⟩;rintro b ⟨n,o',a,B,hl,e⟩;obtain ⟨g,x,m,A,t3⟩:=old n o' a hl;exact .inl ⟨g,x,A,t3.fz.1 B,t3.fz.2▸hl,by rw [<-e,Jm9 m]⟩
 refine ⟨λb=>S b\/Liv h μ R b,⟨λn o' a=>?_,λn n' o o' h1 h2 l1 l2 e=>?_,λn o' a B hl=>?_,f1.lt⟩,ev,λg _ hr=>g.rep d hS G ev hr⟩
 ·rcases gs.ob n o' a with ⟨v,e,el,z,rfl⟩|⟨g,o,hθ,K,go⟩
  ·exact λq=>(q rfl).elim
  ·have r:=d.ob g o K;rw [Jm9 hθ,via_o hθ];cases go with
   | box l=>
    obtain ⟨cs,el,J,E,L⟩:=r;exact ⟨cs,el,J,by rw [<-l.len];exact E,l.holds d hS G ev L⟩
   | @map v v' es es' hl hk=>
    obtain ⟨mes,clock,J,E,L,b4⟩:=r;refine ⟨mes,clock,J,⟨by rw [hl];exact E.1,E.2⟩,(λq=>by cases q),λi k v hi=>?_⟩;have H:i<es.length:=by have:=(Ad.1 hi).1;omega
    obtain ⟨Z,e2⟩:=hk i es[i] (k,v) (Ag H) hi;obtain ⟨e,c1,c2,c3⟩:=b4 i es[i].1 es[i].2 (Ag H);have Z:k=es[i].1:=Z;exact ⟨e,c1,by rw [Z];exact c2.mono hS (λ_ _=>rfl),e2.rep d hS G ev c3⟩
   | arr l B hz2=>
    intro P;have f:=λq=>P ((Xa l.len).1 q);obtain ⟨cs,J,E,L,b4⟩:=r f;refine ⟨cs,J,by rw [<-l.len];exact E,l.holds d hS G ev L,λq=>?_⟩;rcases B q with q|q
    ·exact .inl (b4 q)
    ·exact G g q _ K (Ki.2 f)
 ·obtain ⟨g,x,m,A,t3⟩:=old n o h1 l1;obtain ⟨g',x',F,N,M⟩:=old n' o' h2 l2;rw [Jm9 m,Jm9 F] at e;have:=d.inj g g' x x' A N (t3.fz.2▸l1) (M.fz.2▸l2) e;subst this;exact gs.inj n n' g m F (by rw [h1];rfl) (by rw [h2];rfl)
 ·obtain ⟨g,x,m,A,t3⟩:=old n o' a hl;rw [Jm9 m];rintro (hs|⟨g2,X,o2,O,Q,e⟩)
  ·exact d.own g x A (t3.fz.1 B) (t3.fz.2▸hl) hs
  ·have:=d.inj g2 g o2 x O A Q (t3.fz.2▸hl) e;subst this;exact gs.own n _ o' m a B hl X
end
structure GF (s s':S Ty.T) (θ:Nat->Option Nat) (R:List Nat):Prop where
 gs:GS (encH s) (encH s') θ R
 sl:∀d v,look d s'.sl=some v->GR (encH s) (encH s') θ R (encV s (s.at d)) (encV s' v)
 len:s'.lo.length=s.lo.length
 lo:∀(i:Nat) (l l':List (Nat×V Ty.T)) (d:Nat) (v':V Ty.T),s.lo[i]?=some l->s'.lo[i]?=some l'->look d l'=some v'->GR (encH s) (encH s') θ R (encV s ((look d l).getD (.c .any))) (encV s' v')
 iv:Inv s'
theorem RepF.ghost{nt:Nat}{w:World}{S:Nat->Prop}{s s':Dn.S Ty.T}{μ:Gh}{a:Act}{fs:List Fm}{θ:Nat->Option Nat}{R:List Nat}(h:RepF nt w S s μ a fs)(g:GF s s' θ R) :
  ∃S' μ',RepF nt w S' s' μ' a fs/\Evo w S (encH s) μ w S' (encH s') μ':=by
 obtain ⟨S',B,f,o⟩:=Jtk h.fr.hp g.gs;refine ⟨S',_,⟨⟨λd=>?_,B,h.fr.hp.marks h.fr.df f,h.fr.sz⟩,by rw [g.len];exact h.len,λi E b e F d A r=>?_,(h.under f).1,h.md,(h.under f).2,g.iv⟩,f⟩
 ·show Rep _ _ _ _ (encV s' (s'.at d)) _;unfold Dn.S.at;cases hd:look d s'.sl with
  | none=>exact .any _
  | some v=>exact o (g.sl d v hd) (h.fr.fr d)
 ·obtain ⟨l,hl⟩:∃l,s.lo[i]?=some l:=by have:i<s'.lo.length:=(Ad.1 e).1;exact ⟨_,Ag (by rw [<-g.len];exact this)⟩
  have m:=g.lo i l E d A hl e r;cases y:look d l with
  | none=>rw [y] at m;exact o m (.any _)
  | some v=>rw [y] at m;exact o m (h.lo i l b hl F d v y)
section
variable {s:S Ty.T} {h':Heap} {θ:Nat->Option Nat} {R:List Nat}
theorem Jly{l:List AV}(h:l.all AV.flat=true):Qx l=.any\/(Qx l).flat=true:=by
 match l,h with
 | [],_=>exact .inl rfl
 | [x],h=>exact .inr (by simpa [Qx] using h)
 | _::_::_,_=>exact .inl rfl
theorem GR.one{h:Heap}{t:Ty}(x:t.T):GR h h' θ R (Qx (t.cs x)) (Qx (t.cs x)):=by
 rcases Jly (Jab t x) with e|e
 ·rw [e];exact .any _
 ·exact .flat e
theorem Jl7{t:Ty}{c:C Ty.T}{x:t.T}(h:Yc val t c=some x)(a:t.one=false):c=.lf t x:=by
 unfold Yc at h;split at h
 ·obtain ⟨rfl,rfl⟩:=Qh h;rfl
 ·obtain ⟨rfl,_⟩:=Qh h;cases a
 ·cases h
theorem Jy9{n:Nat}{t:Ty}{c:C Ty.T}{x:t.T}(h:Xw val s.ob n t c=some x)(a:t.one=false):c=.lf t x:=by
 cases n with
 | zero=>exact Jl7 h a
 | succ n=>
  simp only [Xw] at h;split at h
  ·split at h
   ·cases a
   ·cases h
  ·split at h
   ·cases a
   ·cases h
  ·exact Jl7 h a
theorem Jzm{n:Nat}{t:Ty}{c:C Ty.T}{x:t.T}(h:Xw val s.ob n t c=some x)(hN:∀g∈Jx s.ob n c,(∃o,encH s g=some o/\o.freeze.fz=true)->g∈R):GR (encH s) h' θ R (encC s c) (Qx (t.cs x)):=by
 cases e:t.one with
 | false=>
  have:=Jy9 h e;subst this;exact .one x
 | true=>
  obtain ⟨u,ns,a,b,d⟩:=jr n (n+1) (Az _) t c x e h;refine .snap (n+1) a (λg f=>hN g ((d g).1 f) (jv _ (u:=u) (ns:=ns) a g f)) ?_;rw [Jlh e x] at b;exact b.at' 0 u _ rfl rfl
theorem leafW_lf{n:Nat}{t:Ty}{v:t.T}:Xw val s.ob n t (.lf t v)=some v:=by cases n<;>simp [Xw,Yc,cast?]
theorem Jgy{ob:List (Nat×Ob Ty.T)}{n:Nat}:∀(t:Ty) (v:t.T) (c:C Ty.T),c∈expl val t v->Jx ob n c=[]
 | .u,v,c,h=>by cases h
 | .p a b,v,c,h=>by
  simp only [expl] at h;rcases Ba.1 h with h|h
  ·exact Jgy a _ c h
  ·exact Jgy b _ c h
 | .int k,v,c,h=>by simp only [expl,Aa] at h;subst h;exact Jag _ _ _ _
 | .bool,v,c,h=>by simp only [expl,Aa] at h;subst h;exact Jag _ _ _ _
 | .str,v,c,h=>by simp only [expl,Aa] at h;subst h;exact Jag _ _ _ _
 | .ls t,v,c,h=>by simp only [expl,Aa] at h;subst h;exact Jag _ _ _ _
 | .bf f t,v,c,h=>by simp only [expl,Aa] at h;subst h;exact Jag _ _ _ _
section
variable {lw:(t:Ty)->C Ty.T->Option t.T} (hl:∀(t:Ty) (v:t.T),lw t (.lf t v)=some v)
include hl
theorem Jfe:∀(t:Ty) (v:t.T) (r:List (C Ty.T)),impl val lw t (expl val t v++r)=some (v,r)
 | .u,v,r=>rfl
 | .p a b,v,r=>by simp only [expl,impl,Bn];rw [Jfe a];simp only [Ap];rw [Jfe b];rfl
 | .int k,v,r=>by simp [expl,impl,hl]
 | .bool,v,r=>by simp [expl,impl,hl]
 | .str,v,r=>by simp [expl,impl,hl]
 | .ls t,v,r=>by simp [expl,impl,hl]
 | .bf f t,v,r=>by simp [expl,impl,hl]
theorem Joo{g:Ty}{c:C Ty.T}{y:g.T}(e:lw g c=some y):∀(t:Ty) (v:t.T) (off:Nat),tyAt t off=some g->off<t.sz/\∃x,∀r,impl val lw t ((expl val t v).set off c++r)=some (x,r)
 | .u,v,off,h=>by cases h
 | .p a b,v,off,h=>by
  simp only [tyAt] at h;split at h
  ·rename_i l;obtain ⟨m,x,hx⟩:=Joo e a (val.fs v) off h;refine ⟨by simp only [Ty.sz];omega,val.pr x (val.sn v),λr=>?_⟩;simp only [expl];rw [List.set_append_left _ _ (by rw [jx];exact l),Bn];simp only [impl];rw [hx];simp only [Ap];rw [Jfe hl b];rfl
  ·rename_i l;obtain ⟨m,x,hx⟩:=Joo e b (val.sn v) (off - a.sz) h;refine ⟨by simp only [Ty.sz];omega,val.pr (val.fs v) x,λr=>?_⟩;simp only [expl];rw [Bq _ _ (by rw [jx];omega),Bn,jx];simp only [impl];rw [Jfe hl a];simp only [Ap];rw [hx];rfl
 | .int k,v,off,h=>by
  simp only [tyAt] at h;split at h
  ·rename_i d;subst d;injection h with h;subst h;exact ⟨Bh,y,λr=>by simp [expl,impl,e]⟩
  ·cases h
 | .bool,v,off,h=>by
  simp only [tyAt] at h;split at h
  ·rename_i d;subst d;injection h with h;subst h;exact ⟨Bh,y,λr=>by simp [expl,impl,e]⟩
  ·cases h
 | .str,v,off,h=>by
  simp only [tyAt] at h;split at h
  ·rename_i d;subst d;injection h with h;subst h;exact ⟨Bh,y,λr=>by simp [expl,impl,e]⟩
  ·cases h
 | .ls t,v,off,h=>by
  simp only [tyAt] at h;split at h
  ·rename_i d;subst d;injection h with h;subst h;exact ⟨Bh,y,λr=>by simp [expl,impl,e]⟩
  ·cases h
 | .bf f t,v,off,h=>by
  simp only [tyAt] at h;split at h
  ·rename_i d;subst d;injection h with h;subst h;exact ⟨Bh,y,λr=>by simp [expl,impl,e]⟩
  ·cases h
end
theorem Jhb{α:Type}(f:α->α)(x:α):∀l:List α,K8 (l++[x]) f=l++[f x]
 | []=>rfl
 | [y]=>rfl
 | y::z::l=>by have:=Jhb f x (z::l);simp only [Dc] at this;simp only [Dc,K8];rw [this]
theorem Jkg{α:Type}(f:α->α):∀l:List α,(K8 l f).length=l.length
 | []=>rfl
 | [y]=>rfl
 | y::z::l=>by have:=Jkg f (z::l);simp only [K8,Da] at this ⊢;omega
theorem Js9{n:Nat}{t:Ty}{l l0:List t.T}{nest:Option (Nat×C Ty.T)}(h:mlN val (Xw val s.ob n) t l nest=some l0)(hN:∀p,nest=some p->∀g∈Jx s.ob n p.2,(∃o,encH s g=some o/\o.freeze.fz=true)->g∈R) :
  l0.length=l.length/\GRL (encH s) h' θ R (Qr (l.flatMap t.cs) l.length t.sz (encC s) nest) (l0.flatMap t.cs):=by
 cases nest with
 | none=>
  injection h with h;subst h;exact ⟨rfl,.flat (Q3 t l)⟩
 | some p=>
  obtain ⟨off,c⟩:=p;simp only [mlN] at h;cases f:tyAt t off with
  | none=>rw [f] at h;cases h
  | some E=>
   rw [f] at h;simp only [Ap] at h;cases r:Xw val s.ob n E c with
   | none=>rw [r] at h;cases h
   | some y=>
    rw [r] at h;simp only [Ap] at h;injection h with h;subst h;refine ⟨Jkg _ l,?_⟩;rcases List.eq_nil_or_concat l with rfl|⟨i,x,rfl⟩
    ·exact .nil
    ·rw [List.concat_eq_append];obtain ⟨N,z,B⟩:=Joo (lw:=Xw val s.ob n) (λt v=>leafW_lf) r t x off f;have L:setF val (Xw val s.ob n) t off c x=z:=by have:=B [];rw [Al] at this;simp only [setF,this]
     have K:(show List t.T from val.ml (t:=t) (i++[x]) (setF val (Xw val s.ob n) t off c))=i++[z]:=by show K8 (i++[x]) _=_;rw [Jhb,L]
     rw [show val.ml (t:=t) (i++[x]) (setF val (Xw val s.ob n) t off c)=i++[z] from K];have J:Qr ((i++[x]).flatMap t.cs) (i++[x]).length t.sz (encC s) (some (off,c))=i.flatMap t.cs++(t.cs x).set off (encC s c):=by simp only [Qr,Aw,Av,Dd,Al,Ax,Da,List.length_nil,De,Nat.add_sub_cancel];rw [Bq _ _ (by rw [Jj];omega),Jj,Bm]
     rw [J,Aw];refine .append (.flat (Q3 t i)) ?_;simp only [Av,Dd,Al];obtain ⟨M,A,w⟩:=Jcl (jr (s:=s) n (n+1) (Az _)) t (B []);rw [Al,Al] at A;subst A;have H:((expl val t x).set off c).map (encC s)=(t.cs x).set off (encC s c):=by rw [List.map_set,Qg]
     rw [H] at w;refine .ofSnL w λg G d=>?_;obtain ⟨c',m,a⟩:=Am.1 G;rcases Bz m with F|e
     ·rw [Jgy t x c' F] at a;cases a
     ·rw [e] at a;exact hN _ rfl g a d
end
theorem Jrx{h h':Heap}{θ:Nat->Option Nat}{R:List Nat}{kt vt:Ty}{es:List (kt.T×vt.T)}{i:Nat}{p:AV×AV}(a:(encE kt vt es)[i]?=some p):GR h h' θ R p.2 p.2:=by
 unfold encE at a;rw [Bb] at a;obtain ⟨e,-,rfl⟩:=Option.map_eq_some_iff.1 a;show GR h h' θ R (avT vt e.2) (avT vt e.2);unfold avT;split
 ·have:=GRL.flat (h:=h) (h':=h') (θ:=θ) (R:=R) (Q3 vt [e.2]);simp only [Av,Dd,Al] at this;exact .agg _ _ this.len this.at'
 ·exact .one e.2
def rowy(h:Heap)(g:Nat):Bool:=match h g with
 | some o=>o.freeze.fz
 | none=>false
theorem Zt{h:Heap}{g:Nat}:rowy h g=true↔∃o,h g=some o/\o.freeze.fz=true:=by
 unfold rowy;cases h g with
 | none=>simp
 | some o=>simp
theorem Jfu{x:Nat}:∀ {l:List Nat},memN x l=true↔x∈l
 | []=>by simp [memN]
 | y::r=>by
  simp only [memN];cases h:Nat.beq x y with
  | true=>have:=Bc h;subst this;simp
  | false=>
   have:x≠y:=λe=>by subst e;simp at h
   simp [Jfu,this]
theorem Ja7{g:Nat}:∀ {ns:List Nat} {s:S Ty.T},g∉ns->look g (Ju s ns).ob=look g s.ob
 | [],s,_=>rfl
 | k::r,s,h=>by
  have a:g∉r:=λq=>h (Ab _ q);have d:k≠g:=λq=>h (q▸Ae);simp only [Ju];split
  ·rw [Ja7 a,Ke,if_neg d]
  ·rw [Ja7 a,Ke,if_neg d]
  ·exact Ja7 a
section
variable {nt:Nat} {w:World} {S:Nat->Prop} {s:Dn.S Ty.T} {μ:Gh} {a:Act} {fs:List Fm}
theorem Jrt(h:RepF nt w S s μ a fs){g v e:Nat}{el:TypeId}{z:Bool}{o o':Ob Ty.T}{ns:List Nat}{c c':List AV}(L:look g s.ob=some o)(hg:g∉ns)(Z:∀g∈ns,∃o,look g s.ob=some o)(hv:o'.ver=o.ver)(hl:o'.lenO=o.lenO)
  (he:encO s o=.arr v e el c z) (he':∀s',Stab s s'->encO s' o'=.arr v e el c' z) (hk:okCs s o'.kids)
  (Q:∀h':Heap,(∀g o,encH s g=some o->∃o',h' g=some o'/\o'.ver=o.ver/\o.like o')->GRL (encH s) h' some (ns.filter (rowy (encH s))) c c') :
  ∃S' μ',RepF nt w S' ((Ju s ns).obj g o') μ' a fs/\Evo w S (encH s) μ w S' (encH ((Ju s ns).obj g o')) μ':=by
 obtain ⟨f1,f2,f3⟩:=ji ns h.iv Z;have st2:Stab (Ju s ns) ((Ju s ns).obj g o'):=X0 λo0 R=>by rw [Ja7 hg,L] at R;injection R with R;subst R;exact ⟨hv.symm,hl.symm⟩
 have st:=f1.trans st2;have M:∀F,look F ((Ju s ns).obj g o').ob=if g=F then some o' else look F (Ju s ns).ob:=λF=>Ke g F o';have iv:=ju f2 st2 M (λx hx=>((st.ok x (hk x hx)).1)) (by rw [Jdj];exact h.iv.free L);have P:=Yw f2 st2 M;rw [f3,he' _ st] at P;have N:encH s g=some (.arr v e el c z):=by rw [Jf L,he]
 have lenc:∀h':Heap,(∀g o,encH s g=some o->∃o',h' g=some o'/\o'.ver=o.ver/\o.like o')->c.length=c'.length:=λh' q=>(Q h' q).len;have lenc:c.length=c'.length:=lenc (encH s) λg o L=>⟨o,L,rfl,.refl o⟩;have keep:∀J r,encH s J=some r->∃B,encH ((Ju s ns).obj g o') J=some B/\B.ver=r.ver/\r.like B:=λJ r f=>by
  rw [P];by_cases A:J=g
  ·subst A;rw [N] at f;injection f with f;subst f;exact ⟨_,Jh _ _ _,rfl,rfl,rfl,Xa lenc⟩
  ·rw [Jc _ _ _ _ A];unfold Jd;split
   ·rw [f];exact ⟨r.freeze,rfl,Jl0 r,Jjm r⟩
   ·exact ⟨r,f,rfl,.refl r⟩
 have Q:=Q _ keep;have gs:GS (encH s) (encH ((Ju s ns).obj g o')) some (ns.filter (rowy (encH s))):=by
  refine ⟨λn r f=>?_,λn n' F f m _ _=>?_,λn F r f m h3 h4=>?_,λF hg'=>Zt.1 (Aj.1 hg').2⟩
  ·right;have same:∀x,GR (encH s) (encH ((Ju s ns).obj g o')) some (ns.filter (rowy (encH s))) x x:=λx=>.same x rfl keep;have sameL:∀l,GRL (encH s) (encH ((Ju s ns).obj g o')) some (ns.filter (rowy (encH s))) l l:=λl=>⟨rfl,λi x y hx O=>by rw [hx] at O;injection O with O;subst O;exact same x⟩;rw [P] at f;by_cases A:n=g
   ·subst A;rw [Jh] at f;injection f with f;subst f;exact ⟨n,_,rfl,N,.arr Q (λq=>.inl q) λq=>q⟩
   ·rw [Jc _ _ _ _ A] at f;unfold Jd at f;split at f
    ·rename_i H;cases m:encH s n with
     | none=>rw [m] at f;cases f
     | some B=>
      rw [m] at f;injection f with f;subst f;refine ⟨n,B,rfl,m,?_⟩;cases B with
      | box v1 G=>exact .box (sameL G)
      | arr v1 A t1 G K=>exact .arr (sameL G) (λ_=>.inr (Aj.2 ⟨H,Zt.2 ⟨_,m,rfl⟩⟩)) (λ_=>rfl)
      | map v1 A K=>
       have:K=false:=Juf m;subst this;exact .map rfl λi p q Y E=>by rw [Y] at E;injection E with E;subst E;exact ⟨rfl,same _⟩
    ·refine ⟨n,r,rfl,f,?_⟩;cases r with
     | box v1 G=>exact .box (sameL G)
     | arr v1 A t1 G K=>exact .arr (sameL G) (λq=>.inl q) (λq=>q)
     | map v1 A K=>
      have:K=false:=Juf f;subst this;exact .map rfl λi p q Y E=>by rw [Y] at E;injection E with E;subst E;exact ⟨rfl,same _⟩
  ·injection f with f;injection m with m;omega
  ·injection f with f;subst f;intro H;obtain ⟨H,hr⟩:=Aj.1 H;rw [P] at m;by_cases A:n=g
   ·subst A;exact hg H
   ·rw [Jc _ _ _ _ A] at m;unfold Jd at m;rw [if_pos H] at m;obtain ⟨B,q1,q2⟩:=Zt.1 hr;rw [q1] at m;injection m with m;subst m;rw [q2] at h3;cases h3
 obtain ⟨S',r1,X,r3⟩:=Jtk h.fr.hp gs;refine ⟨S',_,h.step rfl ⟨λd=>?_,r1,h.fr.hp.marks h.fr.df X,h.fr.sz⟩ st.on iv X λJ r f=>?_,X⟩
 ·rw [Jbe h.iv st];exact r3 (.same _ rfl keep) (h.fr.fr d)
 ·obtain ⟨B,a,b,c⟩:=keep J r f;exact ⟨B,a,by omega,λ_=>⟨⟨rfl,rfl⟩,c⟩⟩
theorem Jya{ι:Ty->Type}:∀(l:List (C ι)) (j:Nat) {k:Nat} {c:C ι},Jej.go j l=some (k,c)->j<=k/\l[k - j]?=some c
 | [],j,k,c,h=>by simp [Jej.go] at h
 | x::r,j,k,c,h=>by
  have next:Jej.go (j+1) r=some (k,c)->j<=k/\(x::r)[k - j]?=some c:=λh=>by obtain ⟨a,b⟩:=Jya r (j+1) h;refine ⟨by omega,?_⟩;rw [show k - j=(k - (j+1))+1 by omega,Df];exact b
  cases x with
  | own g v=>
   simp only [Jej.go,Ao,Bp] at h;obtain ⟨rfl,rfl⟩:=h;exact ⟨Az _,by simp⟩
  | k v=>
   cases v with
   | nils=>
    simp only [Jej.go,Ao,Bp] at h;obtain ⟨rfl,rfl⟩:=h;exact ⟨Az _,by simp⟩
   | _=>exact next (by simpa only [Jej.go] using h)
  | _=>exact next (by simpa only [Jej.go] using h)
theorem Jqn{ι:Ty->Type}{e:Nat}{x:List (C ι)}{j:Nat}{c:C ι}(h:Jej e x=some (j,c)):j<e/\x[x.length - e+j]?=some c:=by obtain ⟨-,b⟩:=Jya _ _ h;rw [Nat.sub_zero,Bt] at b;have:=(Ad.1 b).1;exact ⟨by omega,b⟩
theorem lit_gr{h':Heap}{R:List Nat}{t:Ty}{e:Nat}{keep:Bool}{A A':List AV}{x:List (C Ty.T)}{l0 l:List t.T}{m:Nat}(hA:GRL (encH s) h' some R A A')(hA':A'=l0.flatMap t.cs)(d:t.sz=e)(M:0<e)
  (hl:Jcc val (Xw val s.ob 4) t m (litX keep e x)=some l)
  (hR:∀g∈(litX keep e x).flatMap (Jx s.ob 4),(∃o,encH s g=some o/\o.freeze.fz=true)->g∈R)
  (f:∀g o,encH s g=some o->∃o',h' g=some o'/\o'.ver=o.ver/\o.like o') (hx:x.length=0->(Jd6 keep e x)=none\/l0=[]) {ec:C Ty.T->AV} (w:∀c∈x,ec c=encC s c) :
  x.length=l.length * e/\GRL (encH s) h' some R (A++x.map (encC s)) (Qr ((l0++l).flatMap t.cs) (l0++l).length t.sz ec (Jd6 keep e x)):=by
 have hs:=Jd3 (jr (s:=s) 4 5 (by omega)) t m hl;have hB:=GRL.ofSnL (h':=h') (θ:=some) hs hR;have a:=hs.len;rw [Jj,Bg,d] at a;cases h:Jd6 keep e x with
 | none=>
  simp only [litX,h] at hB a;refine ⟨a,?_⟩;simp only [Qr,Aw];rw [<-hA'];exact hA.append hB
 | some p=>
  obtain ⟨j,c⟩:=p;have r:Jej e x=some (j,c):=by
   unfold Jd6 at h;split at h
   ·exact h
   ·cases h
  obtain ⟨L,y⟩:=Jqn r;simp only [litX,h] at hB a;have K:(Jrf x (x.length - e+j)).length=x.length:=by simp [Jrf]
  rw [K] at a;refine ⟨a,?_⟩;have E:x.length - e+j<x.length:=(Ad.1 y).1;have J:x.map (encC s)=((Jrf x (x.length - e+j)).map (encC s)).set (x.length - e+j) (encC s c):=by simp only [Jrf,List.map_set,List.set_set];symm;exact Juv (by rw [Bb,y];rfl)
  have B:A.length=l0.length * e:=by rw [hA.len,hA',Jj,d]
  have H:Qr ((l0++l).flatMap t.cs) (l0++l).length t.sz ec (some (j,c))=(A'++l.flatMap t.cs).set (A.length+(x.length - e+j)) (encC s c):=by
   simp only [Qr,Aw,<-hA'];rw [w c (Au y),B,a,d,Ax]
   congr 1
   obtain ⟨k,F⟩:∃k,l.length=k+1:=by
    cases v:l.length with
    | zero=>rw [v] at a;omega
    | succ k=>exact ⟨k,rfl⟩
   rw [F,show l0.length+(k+1) - 1=l0.length+k by omega,Dp,Dp,Nat.one_mul];omega
  rw [H,J];have G:A++((Jrf x (x.length - e+j)).map (encC s)).set (x.length - e+j) (encC s c)=(A++(Jrf x (x.length - e+j)).map (encC s)).set (A.length+(x.length - e+j)) (encC s c):=by rw [Bq _ _ (by omega),Bm]
  rw [G];exact (hA.append hB).set (.same _ rfl f) _
end
section
variable {nt:Nat} {w:World} {S:Nat->Prop} {s:Dn.S Ty.T} {μ:Gh} {a:Act} {fs:List Fm}
theorem Jw9{keep:Bool}{e:Nat}{x:List (C Ty.T)}{p:Nat×C Ty.T}(h:Jd6 keep e x=some p):p.2∈x:=by
 unfold Jd6 at h;split at h
 ·obtain ⟨j,c⟩:=p;exact Au (Jqn h).2
 ·cases h
theorem Jwx{keep:Bool}{e:Nat}{x:List (C Ty.T)}(h:okCs s x):okCs s (litX keep e x):=by
 unfold litX;split
 ·intro c a;rcases Bz a with a|rfl
  ·exact h c a
  ·exact Jo s rfl
 ·exact h
theorem Jzb(d:Inv s){v e:Nat}{el:TypeId}{t:Ty}{l:t.ls.T}{x:List (C Ty.T)}{nst:Option (Nat×C Ty.T)}{z:Bool}(ok:okCs s (Ob.kids (.row v e el t l x nst z:Ob Ty.T))):∀g∈Jmh s.ob nst,∃o,look g s.ob=some o:=λg a=>by
 cases nst with
 | none=>cases a
 | some p=>exact Jng d 4 (ok p.2 (by simp [Ob.kids])) g a
theorem lenDiv{n e m:Nat}(h:n=m * e)(a:0<e):n / e=m:=by rw [h];exact Bu _ a
def Goes(nt:Nat)(w:World)(S:Nat->Prop)(s:Dn.S Ty.T)(μ:Gh)(a:Act)(fs:List Fm)(s':Dn.S Ty.T):Prop:=∃S' μ',RepF nt w S' s' μ' a fs/\Evo w S (encH s) μ w S' (encH s') μ'
theorem Goes.ite{c:Prop}[Decidable c]{x y:Dn.S Ty.T}(e:c->Goes nt w S s μ a fs x)(d:¬c->Goes nt w S s μ a fs y):Goes nt w S s μ a fs (if c then x else y):=by
 split
 ·exact e (by assumption)
 ·exact d (by assumption)
theorem Jyi(ty:TypeId->Option Ty)(keep:Bool)(h:RepF nt w S s μ a fs)(g:Nat) :
  Goes nt w S s μ a fs (Jqv val ty keep s g):=by
 have same:Goes nt w S s μ a fs s:=⟨S,μ,h,.refl⟩;have kid:∀ {keep e} {x:List (C Ty.T)} {c},c∈Ob.kids (.row 0 0 0 .u ([]:List Unit) [] (Jd6 keep e x) false:Ob Ty.T)->c∈x:=λ{keep e x c} d=>by
  simp only [Ob.kids,Al] at d;cases N:Jd6 keep e x with
  | none=>rw [N] at d;cases d
  | some p=>rw [N] at d;rw [Aa] at d;subst d;exact Jw9 N
 have nest:∀ {keep e} {x:List (C Ty.T)} {s'} (l:List AV) (n sz:Nat),Stab s s'->okCs s x->Qr l n sz (encC s') (Jd6 keep e x)=Qr l n sz (encC s) (Jd6 keep e x):=λ{keep e x s'} l n sz st ok=>by
  cases N:Jd6 keep e x with
  | none=>rfl
  | some p=>simp only [Qr];rw [(st.ok p.2 (ok p.2 (Jw9 N))).2]
 unfold Jqv;split
 ·rename_i v e el x z m;have okx:okCs s x:=λc d=>h.iv.ob g _ m c d;split
  ·rename_i t ht;refine .ite (λd=>?_) λ_=>same;obtain ⟨r,J⟩:=d;split
   ·rename_i l hl;refine .ite (λ_=>same) λf=>?_;have f:g∉(litX keep e x).flatMap (Jx s.ob 4):=λq=>f (Jfu.2 q);have key:=λ(h':Heap) (y:∀g o,encH s g=some o->∃o',h' g=some o'/\o'.ver=o.ver/\o.like o')=>
     lit_gr (s:=s) (h':=h') (R:=Dk (rowy (encH s)) ((litX keep e x).flatMap (Jx s.ob 4))) (A:=[]) (A':=[]) (l0:=[]) .nil rfl r J hl (λg f B=>Aj.2 ⟨f,Zt.2 B⟩) y (λ_=>.inr rfl) (ec:=encC s) (λ_ _=>rfl)
    have X:=key (encH s) (λg o m=>⟨o,m,rfl,.refl o⟩);refine Jrt h m f (Jia h.iv (Jwx okx)) rfl ?_ (c:=x.map (encC s)) (c':=Qr (l.flatMap t.cs) l.length t.sz (encC s) (Jd6 keep e x)) rfl (λs' st=>?_) (λc d=>okx c (kid d)) λh' y=>(key h' y).2
    ·show List.length (α:=t.T) l+0 / e=x.length / e;rw [Nat.zero_div,lenDiv X.1 J];rfl
    ·simp only [encO,Bl,Al];rw [nest _ _ _ st okx]
   ·exact same
  ·exact same
 ·rename_i v e el t l x nst z m;have oks:okCs s (Ob.kids (.row v e el t l x nst z:Ob Ty.T)):=λc d=>h.iv.ob g _ m c d;have okx:okCs s x:=λc d=>oks c (by simp only [Ob.kids];exact Af _ d);refine .ite (λhx=>?_) λhx=>.ite (λd=>?_) λ_=>same
  ·split
   ·rename_i p;refine .ite (λd=>?_) λ_=>same;obtain ⟨r,J⟩:=d;split
    ·rename_i l0 F;refine .ite (λ_=>same) λf=>?_;have f:g∉Jx s.ob 4 p.2:=λq=>f (Jfu.2 q);have L:=λ(h':Heap)=>Js9 (s:=s) (h':=h') (θ:=some) (R:=Dk (rowy (encH s)) (Jx s.ob 4 p.2)) F (λp' M g G B=>Aj.2 ⟨by injection M with M;subst M;exact G,Zt.2 B⟩);have E:List.length (α:=t.T) l0=List.length (α:=t.T) l:=(L (encH s)).1;have Y:x=[]:=Db.1 hx;subst Y;refine Jrt h m f (λK H=>Jng h.iv 4 (oks p.2 (by simp [Ob.kids])) K H) rfl ?_ (c:=Qr (Dg (α:=t.T) t.cs l) (List.length (α:=t.T) l) t.sz (encC s) (some p)++[]) (c':=Dg (α:=t.T) t.cs l0++[]) rfl (λs' st=>?_) (λc d=>(by cases d)) λh' y=>?_
     ·show List.length (α:=t.T) l0+0 / e=List.length (α:=t.T) l+0 / e;rw [E]
     ·simp only [encO,Qr,Bl]
     ·rw [Al,Al];exact (L h').2
    ·exact same
   ·exact same
  obtain ⟨r,J⟩:=d;split
  ·rename_i l0 P F hl;refine .ite (λ_=>same) λf=>?_;have f:g∉Jmh s.ob nst++(litX keep e x).flatMap (Jx s.ob 4):=λq=>f (Jfu.2 q);have L:=λ(h':Heap)=>Js9 (s:=s) (h':=h') (θ:=some) (R:=Dk (rowy (encH s)) (Jmh s.ob nst++(litX keep e x).flatMap (Jx s.ob 4))) F (λp M g G B=>Aj.2 ⟨Ak _ (by subst M;exact G),Zt.2 B⟩);have E:List.length (α:=t.T) l0=List.length (α:=t.T) l:=(L (encH s)).1;have key:=λ(h':Heap) (y:∀g o,encH s g=some o->∃o',h' g=some o'/\o'.ver=o.ver/\o.like o')=>
    lit_gr (s:=s) (h':=h') (R:=Dk (rowy (encH s)) (Jmh s.ob nst++(litX keep e x).flatMap (Jx s.ob 4))) (L h').2 rfl r J hl (λg f B=>Aj.2 ⟨Af _ f,Zt.2 B⟩) y (λq=>by cases x<;>simp at hx q) (ec:=encC s) (λ_ _=>rfl)
   have X:=key (encH s) (λg o m=>⟨o,m,rfl,.refl o⟩);refine Jrt h m f (λK H=>(Ba.1 H).elim (λq=>Jzb h.iv oks K q) λq=>Jia h.iv (Jwx okx) K q) rfl ?_ (c:=Qr (Dg (α:=t.T) t.cs l) (List.length (α:=t.T) l) t.sz (encC s) nst++x.map (encC s)) (c':=Qr (Dg (α:=t.T) t.cs ((show List t.T from l0)++(show List t.T from P))) ((show List t.T from l0)++(show List t.T from P)).length t.sz (encC s) (Jd6 keep e x)) rfl (λs' st=>?_) (λc d=>okx c (kid d)) λh' y=>(key h' y).2
   ·show List.length (α:=t.T) (val.ap (t:=t) l0 P)+0 / e=List.length (α:=t.T) l+x.length / e;rw [Nat.zero_div,lenDiv X.1 J];show List.length (α:=t.T) ((show List t.T from l0)++(show List t.T from P))+0=_;rw [Ax,<-E];rfl
   ·simp only [encO,Bl,Al];rw [nest _ _ _ st okx];rfl
  ·exact same
 ·rename_i v kt vt el m;have st:Stab s (s.obj g (.mp v kt vt (val.nl (.p kt vt)))):=X0 λo0 Q=>by rw [m] at Q;injection Q with Q;subst Q;exact ⟨rfl,rfl⟩
  have O:=λK=>Ke (s:=s) g K (.mp v kt vt (val.nl (.p kt vt)));have iv:=ju h.iv st O (λc d=>by cases d) (h.iv.free m);have eh:encH (s.obj g (.mp v kt vt (val.nl (.p kt vt))))=encH s:=by
   rw [Yw h.iv st O];funext g1;by_cases Z:g1=g
   ·subst Z;rw [Jh,Jf m];rfl
   ·rw [Jc _ _ _ _ Z]
  refine ⟨S,μ,h.step rfl ?_ st.on iv (by rw [eh];exact .refl) (by rw [eh];exact .refl _ _),by rw [eh];exact .refl⟩;rw [Jbe h.iv st,eh];exact h.fr
 ·exact same
theorem Jqw(ty:TypeId->Option Ty)(keep:Bool):∀(l:List Nat) {S:Nat->Prop} {s:Dn.S Ty.T} {μ:Gh},RepF nt w S s μ a fs ->
  ∃S' μ',RepF nt w S' (l.foldl (Jqv val ty keep) s) μ' a fs/\Evo w S (encH s) μ w S' (encH (l.foldl (Jqv val ty keep) s)) μ'
 | [],S,s,μ,h=>⟨S,μ,h,.refl⟩
 | g::l,S,s,μ,h=>by obtain ⟨S1,μ1,e,m⟩:=Jyi ty keep h g;obtain ⟨S2,μ2,d,f⟩:=Jqw ty keep l e;exact ⟨S2,μ2,d,m.trans f⟩
theorem Jw8(ty:TypeId->Option Ty)(keep:Bool)(n:Nat)(h:RepF nt w S s μ a fs) :
  ∃S' μ',RepF nt w S' (Jl3 val ty keep n s) μ' a fs/\Evo w S (encH s) μ w S' (encH (Jl3 val ty keep n s)) μ':=Jqw ty keep _ h
end
def inv(n:Nat):List (Nat×Nat)->Option Nat
 | []=>none
 | (g,k)::r=>if k=n then some g else inv n r
theorem Jdy:∀ {l:List Nat},Jl4 l=true->l.Nodup
 | [],_=>List.nodup_nil
 | x::r,h=>by simp only [Jl4,Ac,Ar] at h;refine Br.2 ⟨λq=>?_,Jdy h.2⟩;rw [Jfu.2 q] at h;cases h.1
theorem Jie{n g:Nat}:∀ {tb:List (Nat×Nat)},inv n tb=some g->(g,n)∈tb
 | [],h=>by cases h
 | (x,k)::r,h=>by
  simp only [inv] at h;split at h
  ·rename_i e;injection h with h;subst h;subst e;exact Ae
  ·exact Ab _ (Jie h)
theorem Jre{n g:Nat}:∀ {tb:List (Nat×Nat)},(tb.map (·.2)).Nodup->(g,n)∈tb->inv n tb=some g
 | [],_,h=>by cases h
 | (x,k)::r,a,h=>by
  simp only [As,Br] at a;simp only [inv];rcases Ai.1 h with e|h
  ·injection e with f d;subst f;subst d;rw [if_pos rfl]
  ·rw [if_neg (λe=>a.1 (by subst e;exact Aq.2 ⟨(g,k),h,rfl⟩))];exact Jre a.2 h
theorem Jnt{α:Type}{g:Nat}{n:α}:∀ {tb:List (Nat×α)},(tb.map (·.1)).Nodup->(g,n)∈tb->look g tb=some n
 | [],_,h=>by cases h
 | (x,k)::r,a,h=>by
  simp only [As,Br] at a;rw [J0];rcases Ai.1 h with e|h
  ·injection e with f d;subst f;subst d;rw [if_pos rfl]
  ·rw [if_neg (λe=>a.1 (by subst e;exact Aq.2 ⟨(x,n),h,rfl⟩))];exact Jnt a.2 h
theorem Jsy{α β:Type}{f:α->Option β}:∀ {l:List α} {m:List β},mapL f l=some m->l.length=m.length/\∀(i:Nat) (x:α) (y:β),l[i]?=some x->m[i]?=some y->f x=some y
 | [],m,h=>by injection h with h;subst h;exact ⟨rfl,λi x y hx=>by simp at hx⟩
 | x::r,m,h=>by
  simp only [mapL] at h;cases hx:f x with
  | none=>rw [hx] at h;cases h
  | some y=>
   rw [hx] at h;simp only [Ap] at h;cases g:mapL f r with
   | none=>rw [g] at h;cases h
   | some o=>
    rw [g] at h;injection h with h;subst h;obtain ⟨a,b⟩:=Jsy g;refine ⟨by simp [a],λi u v e d=>?_⟩;cases i with
    | zero=>simp at e d;subst e;subst d;exact hx
    | succ i=>exact b i u v (by simpa using e) (by simpa using d)
theorem Jgt{s:S Ty.T}{tb:List (Nat×Nat)}{d:Nat}{v:V Ty.T}:∀ {l:List (Nat×V Ty.T)},look d (Jnj val s tb l)=some v->∃v0,look d l=some v0/\v=renV val s tb v0
 | [],h=>by cases h
 | (k,x)::r,h=>by
  simp only [Jnj] at h;rw [J0] at h ⊢;split
  ·rename_i e;rw [if_pos e] at h;injection h with h;exact ⟨x,rfl,h.symm⟩
  ·rename_i e;rw [if_neg e] at h;exact Jgt h
theorem Jdz{s:S Ty.T}{tb0:List (Nat×Nat)}{n:Nat}{o':Ob Ty.T}:∀ {tb:List (Nat×Nat)},look n (Jhr val s tb0 tb)=some o'->∃g o,(g,n)∈tb/\look g s.ob=some o/\frozen s g=false/\o'=renO val s tb0 o
 | [],h=>by cases h
 | (g,k)::r,h=>by
  have next:look n (Jhr val s tb0 r)=some o'->∃d o,(d,n)∈(g,k)::r/\look d s.ob=some o/\frozen s d=false/\o'=renO val s tb0 o:=λh=>by obtain ⟨d,o,a,b⟩:=Jdz h;exact ⟨d,o,Ab _ a,b⟩
  simp only [Jhr] at h;split at h
  ·rename_i o f;split at h
   ·exact next h
   ·rename_i l;rw [J0] at h;split at h
    ·rename_i e;injection h with h;subst e;exact ⟨g,o,Ae,f,by simpa using l,h.symm⟩
    ·exact next h
  ·exact next h
theorem Jlm{s:S Ty.T}{tb0:List (Nat×Nat)}{n g:Nat}{o:Ob Ty.T}(f:look g s.ob=some o)(l:frozen s g=false):∀ {tb:List (Nat×Nat)},(tb.map (·.2)).Nodup->(g,n)∈tb->look n (Jhr val s tb0 tb)=some (renO val s tb0 o)
 | [],_,h=>by cases h
 | (x,k)::r,d,h=>by
  simp only [As,Br] at d;rcases Ai.1 h with e|h
  ·injection e with w v;subst w;subst v;simp only [Jhr,f,l];rw [if_neg (by decide),J0,if_pos rfl]
  ·have a:=Jlm (tb0:=tb0) f l d.2 h;have m:k≠n:=λe=>d.1 (by subst e;exact Aq.2 ⟨(g,k),h,rfl⟩);simp only [Jhr];split
   ·split
    ·exact a
    ·rw [J0,if_neg m];exact a
   ·exact a
section
variable {s:S Ty.T} {tb:List (Nat×Nat)}
theorem renO_len(o:Ob Ty.T):(renO val s tb o).lenO=o.lenO:=by cases o<;>simp [renO,Ob.lenO]
theorem renO_ver(o:Ob Ty.T):(renO val s tb o).ver=0:=by cases o<;>rfl
def frzL(s:S Ty.T):List Nat:=(s.ob.map (·.1)).filter (frozen s)
theorem frzL_iff{g:Nat}(h:frozen s g=true):g∈frzL s:=by
 refine Aj.2 ⟨?_,h⟩;unfold frozen at h;cases a:look g s.ob with
 | none=>rw [a] at h;cases h
 | some o=>exact Aq.2 ⟨(g,o),Qn a,rfl⟩
def thM(m:Option (Mo Ty.T))(tb:List (Nat×Nat))(n:Nat):Option Nat:=if moN m n=true then some n else inv n tb
structure TbOK (s:S Ty.T) (tb:List (Nat×Nat)) (s':S Ty.T):Prop where
 n1:(tb.map (·.1)).Nodup
 n2:(tb.map (·.2)).Nodup
 ob:s'.ob=Jhr val s tb tb
 mo:s'.mo=s.mo
 nm:∀p∈tb,moN s.mo p.1=false/\moN s.mo p.2=false
 iv:Inv s
theorem cur_some{g v:Nat}(h:s.cur g v=true):∃o,look g s.ob=some o/\o.ver=v:=by
 unfold S.cur at h;cases a:look g s.ob with
 | none=>rw [a] at h;cases h
 | some o=>rw [a] at h;exact ⟨o,rfl,by simpa using h⟩
variable {s':S Ty.T}
theorem TbOK.at(t:TbOK s tb s'){g v n:Nat}(h:s.cur g v=true)(f:frozen s g=false)(e:look g tb=some n):∃o,look g s.ob=some o/\o.ver=v/\look n s'.ob=some (renO val s tb o)/\thM s.mo tb n=some g:=by obtain ⟨o,d,l⟩:=cur_some h;have a:=Qn e;exact ⟨o,d,l,by rw [t.ob];exact Jlm d f t.n2 a,by unfold thM;rw [if_neg (by rw [(t.nm _ a).2];exact Bv)];exact Jre t.n2 a⟩
theorem Jdd(a:Inv s){g:Nat}(h:moN s.mo g=true):look g s.ob=none:=by
 cases hl:look g s.ob with
 | none=>rfl
 | some o=>rw [a.free hl] at h;cases h
theorem TbOK.look'(t:TbOK s tb s'){n:Nat}{o:Ob Ty.T}(h:look n s'.ob=some o):moN s.mo n=false:=by rw [t.ob] at h;obtain ⟨g,d,a,-⟩:=Jdz h;exact (t.nm _ a).2
theorem TbOK.same(t:TbOK s tb s'){n:Nat}{o:AObj}(h:moAt s.mo n=some o):encH s n=some o/\encH s' n=some o/\thM s.mo tb n=some n:=by
 have a:=(Jau h).1;refine ⟨?_,?_,by unfold thM;rw [if_pos a]⟩
 ·simp only [encH,Jdd t.iv a];exact h
 ·have:look n s'.ob=none:=by
   cases hl:look n s'.ob with
   | none=>rfl
   | some o=>rw [t.look' hl] at a;cases a
  simp only [encH,this,t.mo];exact h
theorem Jm4{kt vt:Ty}:∀ {l:List (kt.T×List vt.T)} {k i:Nat} {p:AV×AV},(moEs kt vt k l)[i]?=some p->∃e,nthL l i=some e/\p=(avT kt e.1,.arr (mB+(k+i)) e.2.length 0 e.2.length)
 | [],k,i,p,h=>by simp [moEs] at h
 | e::r,k,0,p,h=>by simp only [moEs,Bj,Ao] at h;exact ⟨e,rfl,h.symm⟩
 | e::r,k,i+1,p,h=>by simp only [moEs,Df] at h;obtain ⟨f,d,a⟩:=Jm4 h;exact ⟨f,d,by rw [a,show k+1+i=k+(i+1) by omega]⟩
theorem Js6{m:Mo Ty.T}(a:m.g<mB){i:Nat}{e:m.kt.T×List m.vt.T}(h:nthL (α:=m.kt.T×List m.vt.T) m.es i=some e):moAt (some m) (mB+i)=some (Jz0 m.vt m.el e.2):=by show m.at (mB+i)=_;unfold Mo.at;rw [if_neg (by omega),if_pos (Nat.le_add_right _ _),Bm,h];rfl
theorem Jqz{θ:Nat->Option Nat}{R:List Nat}(iv:Inv s)(same:∀ {n o},moAt s.mo n=some o->encH s n=some o/\encH s' n=some o/\θ n=some n){n:Nat}{o:AObj}(h:moAt s.mo n=some o):GO (encH s) (encH s') θ R n o o:=by
 obtain ⟨-,m,l,⟨-,rfl⟩|⟨-,-,e,-,rfl⟩⟩:=Jau h
 ·refine .map rfl λi p q g d=>?_;rw [g] at d;injection d with d;subst d;obtain ⟨e,v,r⟩:=Jm4 g;refine ⟨rfl,?_⟩;rw [r];rw [De];have f:=Js6 (iv.mo m l).1 v;rw [<-l] at f;obtain ⟨a,b,c⟩:=same f;exact .arr a b (Az _) c λ_=>⟨rfl,λw el c z q=>⟨c,z,q,Iff.rfl⟩⟩
 ·exact .arr (.flat (Q3 _ _)) (λq=>by cases q) λq=>q
theorem Jnu(t:TbOK s tb s')(c:C Ty.T):okC s' (renC val s tb c):=by
 have leaf:∀ {c:C Ty.T},refs c=[]->okC s' c:=λh=>Jo s' h;have rd:∀g c,okC s' (rdF val s g c):=λg c=>by
  unfold rdF;split
  ·split
   ·split
    ·exact leaf rfl
    ·exact leaf rfl
   ·exact leaf rfl
  ·exact leaf rfl
 have nm:∀ {g v n:Nat} {c':C Ty.T},s.cur g v=true->frozen s g=false->look g tb=some n->refs c'=[(n,0)]->okC s' c':=λd B w E r A=>by rw [E,Aa] at A;subst A;obtain ⟨o,-,-,h,-⟩:=t.at d B w;exact ⟨_,h,Dl _⟩
 cases c with
 | any=>exact leaf rfl
 | lf t v=>exact leaf rfl
 | kb b=>exact leaf rfl
 | k v=>simp only [renC];split<;>exact leaf rfl
 | rp t v o=>exact leaf rfl
 | map g v=>
  simp only [renC];split
  ·rename_i d;simp only [Ac,Ar] at d;split
   ·rename_i n w;exact nm (c':=.map n 0) d.1 d.2 w rfl
   ·exact leaf rfl
  ·exact leaf rfl
 | yl j=>exact leaf rfl
 | own g v=>
  simp only [renC];split
  ·rename_i d;split
   ·exact rd _ _
   ·rename_i B;split
    ·rename_i n w;exact nm d (by simpa using B) w rfl
    ·exact leaf rfl
  ·exact leaf rfl
 | part g v a b=>
  simp only [renC];split
  ·rename_i d;split
   ·exact rd _ _
   ·rename_i B;split
    ·rename_i n w;exact nm d (by simpa using B) w rfl
    ·exact leaf rfl
  ·exact leaf rfl
 | ptr g v o=>
  simp only [renC];split
  ·rename_i d;simp only [Ac,Ar] at d;split
   ·rename_i n w;exact nm d.1 d.2 w rfl
   ·exact leaf rfl
  ·exact leaf rfl
 | pti g v e i o=>
  simp only [renC];split
  ·rename_i d;simp only [Ac,Ar] at d;split
   ·rename_i n w;exact nm d.1 d.2 w rfl
   ·exact leaf rfl
  ·exact leaf rfl
 | fn f l=>
  simp only [renC];split
  ·rename_i m J;obtain ⟨hl,H⟩:=Jsy J;intro r E;simp only [refs,Aq] at E;obtain ⟨x,hx,rfl⟩:=E;obtain ⟨i,F⟩:=Bf hx;obtain ⟨y,G⟩:∃y,l[i]?=some y:=by have:=(Ad.1 F).1;exact ⟨_,Ag (by omega)⟩
   have:=H i y x G F;split at this
   ·rename_i d;simp only [Ac,Ar] at d;cases w:look y.1 tb with
    | none=>rw [w] at this;cases this
    | some n=>
     rw [w] at this;injection this with this;subst this;exact nm (c':=.own n 0) d.1 d.2 w rfl (n,0) (Aa.2 rfl)
   ·cases this
  ·exact leaf rfl
theorem encO_arr{o:Ob Ty.T}{v e:Nat}{el:TypeId}{c:List AV}{z:Bool}(h:encO s o=.arr v e el c z):∃c' d,encO s' (renO val s tb o)=.arr 0 e el c' d/\(c=[]↔c'=[]):=by
 cases o with
 | box=>simp [encO] at h
 | mp=>simp [encO] at h
 | em=>simp [encO] at h
 | lit v1 f el1 cs a=>
  simp only [encO,AObj.arr.injEq] at h;obtain ⟨rfl,rfl,rfl,rfl,rfl⟩:=h;exact ⟨_,_,rfl,Xa (by simp)⟩
 | row v1 f el1 g l x nest a=>
  simp only [encO,AObj.arr.injEq] at h;obtain ⟨rfl,rfl,rfl,rfl,rfl⟩:=h;exact ⟨_,_,rfl,Xa (by simp [Zx])⟩
theorem Jkj(t:TbOK s tb s')(c:C Ty.T):GR (encH s) (encH s') (thM s.mo tb) (frzL s) (encC s c) (encC s' (renC val s tb c)):=by
 have rd:∀g c,GR (encH s) (encH s') (thM s.mo tb) (frzL s) (encC s c) (encC s' (rdF val s g c)):=λg c=>by
  unfold rdF;split
  ·split
   ·rename_i l hl;split
    ·rename_i A;exact Jzm hl λg Q _=>frzL_iff (Ah.1 A g Q)
    ·exact .any _
   ·exact .any _
  ·exact .any _
 have ar:∀ {g v n off len:Nat},s.cur g v=true->frozen s g=false->look g tb=some n->GR (encH s) (encH s') (thM s.mo tb) (frzL s) (.arr g v off len) (.arr n 0 off len):=λw d A=>by obtain ⟨o,J,H,G,L⟩:=t.at w d A;refine .arr (Jf J) (Jf G) (Dl _) L λ_=>⟨by rw [Ya,H],λe el c z h=>encO_arr h⟩
 have pr:∀ {g v n off:Nat},s.cur g v=true->frozen s g=false->look g tb=some n->GR (encH s) (encH s') (thM s.mo tb) (frzL s) (.ptr g v off) (.ptr n 0 off):=λw d A=>by obtain ⟨o,J,H,G,L⟩:=t.at w d A;exact .ptr (Jf J) (Jf G) (Dl _) L λ_=>by rw [Ya,H]
 cases c with
 | any=>exact .any _
 | lf t v=>exact .one v
 | kb b=>exact .flat rfl
 | k v=>
  simp only [renC];split
  ·rename_i d;rw [Dj] at d;rcases d with d|d
   ·exact .flat d
   ·cases v<;>try (cases d;done)
    rename_i g v;cases K:s.mo with
    | none=>rw [K] at d;cases d
    | some m=>
     rw [K] at d;simp only [moC,Ac] at d;have N:=Bc d.1;have M:=Bc d.2;subst N;subst M;have O:moAt s.mo m.g=some (.map 0 (moEs m.kt m.vt 0 m.es) false):=by rw [K];show m.at m.g=_;unfold Mo.at;rw [if_pos rfl]
     obtain ⟨a,b,c⟩:=t.same O;rw [K] at c;exact .map a b (Az _) c λ_=>rfl
  ·exact .any _
 | rp t v o=>exact .flat rfl
 | map g v=>
  simp only [renC];split
  ·rename_i w;simp only [Ac,Ar] at w;split
   ·rename_i n A;obtain ⟨o,J,H,G,L⟩:=t.at w.1 w.2 A;exact .map (Jf J) (Jf G) (Dl _) L λ_=>by rw [Ya,H]
   ·exact .any _
  ·exact .any _
 | yl j=>exact .yld j
 | own g v=>
  simp only [renC];split
  ·rename_i w;split
   ·exact rd _ _
   ·rename_i d;have d:frozen s g=false:=by simpa using d
    split
    ·rename_i n A;obtain ⟨o,J,H,G,L⟩:=t.at w d A;have N:K9 s g v=o.lenO:=by simp [K9,J,H]
     have M:K9 s' n 0=o.lenO:=by simp [K9,G,renO_ver,renO_len]
     simp only [encC,N,M];exact ar w d A
    ·exact .any _
  ·exact .any _
 | part g v a b=>
  simp only [renC];split
  ·rename_i w;split
   ·exact rd _ _
   ·rename_i d;have d:frozen s g=false:=by simpa using d
    split
    ·rename_i n A;exact ar w d A
    ·exact .any _
  ·exact .any _
 | ptr g v o=>
  simp only [renC];split
  ·rename_i w;simp only [Ac,Ar] at w;split
   ·rename_i n A;exact pr w.1 w.2 A
   ·exact .any _
  ·exact .any _
 | pti g v e i o=>
  simp only [renC];split
  ·rename_i w;simp only [Ac,Ar] at w;split
   ·rename_i n A;exact pr w.1 w.2 A
   ·exact .any _
  ·exact .any _
 | fn f l=>
  simp only [renC];split
  ·rename_i m K;obtain ⟨hl,P⟩:=Jsy K;simp only [encC];refine .fn f _ _ (by simp [hl]) λi x y hx B=>?_;rw [Bb] at hx B;cases F:l[i]? with
   | none=>rw [F] at hx;cases hx
   | some u=>
    cases E:m[i]? with
    | none=>rw [E] at B;cases B
    | some r=>
     rw [F] at hx;rw [E] at B;injection hx with hx;injection B with B;subst hx;subst B;have:=P i u r F E;split at this
     ·rename_i w;simp only [Ac,Ar] at w;cases A:look u.1 tb with
      | none=>rw [A] at this;cases this
      | some n=>
       rw [A] at this;injection this with this;subst this;exact pr w.1 w.2 A
     ·cases this
  ·exact .any _
theorem Jye(t:TbOK s tb s')(v:V Ty.T):GR (encH s) (encH s') (thM s.mo tb) (frzL s) (encV s v) (encV s' (renV val s tb v)):=by
 have L:∀l:List (C Ty.T),GRL (encH s) (encH s') (thM s.mo tb) (frzL s) (l.map (encC s)) ((l.map (renC val s tb)).map (encC s')):=λl=>by rw [Bk];exact .map λc _=>Jkj t c
 cases v with
 | c x=>exact Jkj t x
 | ag l=>exact .agg _ _ (L l).len (L l).at'
 | tp l=>
  simp only [encV,renV,Bk];have:=GRL.map (h:=encH s) (h':=encH s') (θ:=thM s.mo tb) (R:=frzL s) (l:=l) (f:=λp=>if p.1 then AV.agg (p.2.map (encC s)) else Qx (p.2.map (encC s)))
   (f':=(λp:Bool×List (C Ty.T)=>if p.1 then AV.agg (p.2.map (encC s')) else Qx (p.2.map (encC s'))) ∘ λp:Bool×List (C Ty.T)=>(p.1,p.2.map (renC val s tb))) λp _=>?_
  ·exact .tup _ _ this.len this.at'
  ·obtain ⟨b,q⟩:=p;cases b with
   | true=>exact .agg _ _ (L q).len (L q).at'
   | false=>
    show GR _ _ _ _ (Qx (q.map (encC s))) (Qx ((q.map (renC val s tb)).map (encC s')))
    match q with
    | []=>exact .any _
    | [c]=>exact Jkj t c
    | _::_::_=>exact .any _
theorem Jzn(t:TbOK s tb s')(v:V Ty.T):okV s' (renV val s tb v):=by
 intro c a;have L:∀l:List (C Ty.T),c∈l.map (renC val s tb)->okC s' c:=λl h=>by obtain ⟨x,-,rfl⟩:=Aq.1 h;exact Jnu t x
 cases v with
 | c x=>simp only [renV,V.all,Aa] at a;subst a;exact Jnu t x
 | ag l=>exact L l a
 | tp l=>
  simp only [renV,V.all,Am,Aq] at a;obtain ⟨p,⟨q,-,rfl⟩,a⟩:=a;exact L _ a
theorem renO_gr(t:TbOK s tb s')(g:Nat)(o:Ob Ty.T):GO (encH s) (encH s') (thM s.mo tb) (frzL s) g (encO s o) (encO s' (renO val s tb o)):=by
 have L:∀l:List (C Ty.T),GRL (encH s) (encH s') (thM s.mo tb) (frzL s) (l.map (encC s)) ((l.map (renC val s tb)).map (encC s')):=λl=>by rw [Bk];exact .map λc _=>Jkj t c
 cases o with
 | box v cs=>exact .box (L cs)
 | mp v kt vt es=>
  refine .map rfl λi p q d a=>?_;have d:(encE kt vt es)[i]?=some p:=d;have a:(encE kt vt es)[i]?=some q:=a;rw [d] at a;injection a with a;subst a;exact ⟨rfl,Jrx d⟩
 | em v kt vt el=>exact .map rfl λi p q d a=>by simp at d
 | lit v e el cs z=>exact .arr (L cs) (λq=>.inl q) λq=>q
 | row v e el ty l x nest z=>
  refine .arr (.append ?_ (L x)) (λq=>.inl q) λq=>q;cases nest with
  | none=>exact .flat (Q3 ty l)
  | some p=>exact (GRL.flat (Q3 ty l)).set (Jkj t p.2) _
theorem Jwr(t:TbOK s tb s')(o:Ob Ty.T):okCs s' (renO val s tb o).kids:=by
 intro c a;have L:∀l:List (C Ty.T),c∈l.map (renC val s tb)->okC s' c:=λl h=>by obtain ⟨x,-,rfl⟩:=Aq.1 h;exact Jnu t x
 cases o with
 | mp v kt vt es=>cases a
 | em v kt vt el=>cases a
 | box v cs=>exact L _ a
 | lit v e el cs z=>exact L _ a
 | row v e el ty l x nest z=>
  simp only [renO,Ob.kids,Ba] at a;rcases a with a|a
  ·cases nest with
   | none=>cases a
   | some p=>simp only [Bd,Aa] at a;subst a;exact Jnu t _
  ·exact L _ a
end
section
variable {nt:Nat} {w:World} {S:Nat->Prop} {s:Dn.S Ty.T} {μ:Gh} {a:Act} {fs:List Fm}
theorem Jn7(keep:List Nat)(h:RepF nt w S s μ a fs):Goes nt w S s μ a fs (Je0 val keep s):=by
 unfold Je0 canonT;simp only;generalize Jx4 s 300 _ _=tb;split
 ·rename_i K;simp only [Ac] at K;refine h.ghost (θ:=thM s.mo tb) (R:=frzL s) ?_;generalize y:(⟨Jnj val s tb (kept s.sl keep),s.lo.map (Jnj val s tb),Jhr val s tb tb,[],s.mo⟩:Dn.S Ty.T)=s';have t:TbOK s tb s':=⟨Jdy K.1.1,Jdy K.1.2,by rw [<-y],by rw [<-y],λp E=>by have:=Ah.1 K.2 p E;simp only [Ac,Ar] at this;exact this,h.iv⟩
  have look_of:∀n o',encH s' n=some o'->(∃g o,inv n tb=some g/\moN s.mo n=false/\look g s.ob=some o/\frozen s g=false/\o'=encO s' (renO val s tb o))\/moAt s.mo n=some o':=λn o' f=>by
   rcases Jfq f with ⟨o1,hl,f⟩|⟨-,f⟩
   ·have M:=t.look' hl;rw [t.ob] at hl;obtain ⟨g,o,a,b,c,rfl⟩:=Jdz hl;exact .inl ⟨g,o,Jre t.n2 a,M,b,c,f⟩
   ·rw [t.mo] at f;exact .inr f
  refine ⟨⟨λn o' f=>?_,λn Y g e B _ _=>?_,λn g o' e B h3 h4=>?_,λg G=>?_⟩,λd v hd=>?_,by rw [<-y];simp,λi l Z d X hl A hd=>?_,λp E=>?_,λl hl p E=>?_,λg o f=>?_,λm F=>?_⟩
  ·rcases look_of n o' f with ⟨g,o,a,O,b,c,rfl⟩|F
   ·exact .inr ⟨g,_,by unfold thM;rw [if_neg (by rw [O];exact Bv)];exact a,Jf b,renO_gr t g o⟩
   ·exact .inr ⟨n,o',(t.same F).2.2,(t.same F).1,Jqz t.iv (λh=>t.same h) F⟩
  ·unfold thM at e B;split at e<;>split at B
   ·injection e with e;injection B with B;omega
   ·rename_i Q P;injection e with e;subst e;have:=(t.nm _ (Jie B)).1;rw [Q] at this;cases this
   ·rename_i Q P;injection B with B;subst B;have:=(t.nm _ (Jie e)).1;rw [P] at this;cases this
   ·have a:=Jnt t.n1 (Jie e);have b:=Jnt t.n1 (Jie B);rw [a] at b;injection b
  ·rcases look_of n o' B with ⟨g',o,a,O,b,c,rfl⟩|F
   rotate_left
   ·rw [(t.same F).2.2] at e;injection e with e;subst e;intro G;have:=(Aj.1 G).2;unfold frozen at this;rw [Jdd h.iv (Jau F).1] at this;cases this
   have e:inv n tb=some g:=by unfold thM at e;rw [if_neg (by rw [O];exact Bv)] at e;exact e
   rw [a] at e;injection e with e;subst e;intro G;have:=(Aj.1 G).2;rw [c] at this;cases this
  ·have J:=(Aj.1 G).2;unfold frozen at J;cases f:look g s.ob with
   | none=>rw [f] at J;cases J
   | some o=>
    rw [f] at J;refine ⟨_,Jf f,?_⟩;cases o with
    | box=>cases J
    | mp=>cases J
    | em=>cases J
    | lit=>rfl
    | row=>rfl
  ·rw [<-y] at hd;obtain ⟨v0,N,rfl⟩:=Jgt hd;have:s.at d=v0:=by simp [Dn.S.at,Jfd N]
   rw [this];exact Jye t v0
  ·rw [<-y] at A;simp only [Bb,hl,Bd,Ao] at A;subst A;obtain ⟨v0,N,rfl⟩:=Jgt hd;rw [N];exact Jye t v0
  ·rw [<-y] at E;have:∀l:List (Nat×V Ty.T),p∈Jnj val s tb l->okV s' p.2:=λl=>by
    induction l with
    | nil=>intro h;cases h
    | cons x r L=>
     intro h;rcases Ai.1 h with rfl|h
     ·exact Jzn t _
     ·exact L h
   exact this _ E
  ·rw [<-y] at hl;obtain ⟨l0,-,rfl⟩:=Aq.1 hl;have:∀l:List (Nat×V Ty.T),p∈Jnj val s tb l->okV s' p.2:=λl=>by
    induction l with
    | nil=>intro h;cases h
    | cons x r L=>
     intro h;rcases Ai.1 h with rfl|h
     ·exact Jzn t _
     ·exact L h
   exact this _ E
  ·rw [t.ob] at f;obtain ⟨g,o,a,b,c,rfl⟩:=Jdz f;exact Jwr t o
  ·have H:=F;rw [t.mo] at H;exact ⟨(h.iv.mo m H).1,(h.iv.mo m H).2.1,λg o G=>by rw [t.mo];exact t.look' G⟩
 ·refine h.ghost (θ:=λ_=>none) (R:=[]) ⟨⟨λn o' f=>?_,λn Y g e=>(by cases e),λn g o' e=>(by cases e),λg G=>(by cases G)⟩,λd v hd=>(by cases hd),by simp,λi l Z d X hl A hd=>?_,λp E=>(by cases E),λl hl p E=>?_,λg o f=>(by cases f),λm F=>(by cases F)⟩
  ·cases f
  ·simp only [Bb,hl,Bd,Ao] at A;subst A;cases hd
  ·obtain ⟨l0,-,rfl⟩:=Aq.1 hl;cases E
end
theorem Joa(lw:(t:Ty)->C Ty.T->Option t.T):∀(t:Ty) (l:List (C Ty.T)),impl (dL wv) lw t l=impl val lw t l
 | .u,l=>rfl
 | .p a b,l=>by
  simp only [impl,Joa lw a]
  congr 1
  funext x;obtain ⟨x,l⟩:=x;simp only [Joa lw b];rfl
 | .int k,l=>rfl
 | .bool,l=>rfl
 | .str,l=>rfl
 | .ls t,l=>rfl
 | .bf f t,l=>rfl
theorem Jus(lw:(t:Ty)->C Ty.T->Option t.T)(t:Ty):∀(n:Nat) (l:List (C Ty.T)),Jcc (dL wv) lw t n l=Jcc val lw t n l
 | 0,l=>rfl
 | n+1,l=>by
  cases l with
  | nil=>rfl
  | cons c l=>
   simp only [Jcc,Joa]
   congr 1
   funext x;obtain ⟨x,l⟩:=x;simp only [Jus lw t n];rfl
theorem Jmt(ob:List (Nat×Ob Ty.T)):∀(n:Nat),@Xw Ty.T Option (dL wv) ob n=@Xw Ty.T Option val ob n
 | 0=>rfl
 | n+1=>by funext t c;simp only [Xw,rowW,Jus,Jmt ob n];rfl
theorem Jr1:∀(t:Ty) (v:t.T),expl (dL wv) t v=expl val t v
 | .u,v=>rfl
 | .p a b,v=>by simp only [expl,Jr1 a,Jr1 b];rfl
 | .int k,v=>rfl
 | .bool,v=>rfl
 | .str,v=>rfl
 | .ls t,v=>rfl
 | .bf f t,v=>rfl
theorem mlN_dL(lw:(t:Ty)->C Ty.T->Option t.T)(t:Ty)(l:List t.T)(n:Option (Nat×C Ty.T)):mlN (dL wv) lw t l n=mlN val lw t l n:=by
 cases n with
 | none=>rfl
 | some p=>
  simp only [mlN];have:setF (dL wv) lw t p.1 p.2=setF val lw t p.1 p.2:=by funext e;simp only [setF,Joa,Jr1]
  rw [this];rfl
inductive Fx (s:S Ty.T) (sh:S U) (N:List Nat):C Ty.T->C Ty.T->Prop
 | any (x:C Ty.T):Fx s sh N x .any
 | lf {x:C Ty.T} {t:Ty} {v:t.T} (h:Xw val s.ob 4 t x=some v) (hN:∀g∈Jx s.ob 4 x,g∈N):Fx s sh N x (.lf t v)
 | leaf {x:C Ty.T} (hr:refs x=[]) (he:∀s s',encC s' x=encC s x) (hf:(encC s x).flat=true):Fx s sh N x x
 | ref {x:C Ty.T} (h:∀r∈refs x,∃o,look r.1 sh.ob=some o/\o.ver=r.2) (hr:∃r,r∈refs x):Fx s sh N x x
 | fn {f:FuncId} {c:List (Nat×Nat×Nat)} (h:∀r∈refs (.fn f c:C Ty.T),∃o,look r.1 sh.ob=some o/\o.ver=r.2):Fx s sh N (.fn f c) (.fn f c)
 | yl (j:Nat):Fx s sh N (.yl j) (.yl j)
 | mo {g v:Nat} (h:moC sh.mo (.map g v)=true):Fx s sh N (.k (.map g v)) (.k (.map g v))
 | new {g v:Nat} (h:∃o,look g sh.ob=some o/\o.ver=v) (h0:look g s.ob=none):Fx s sh N (.k .nils) (.own g v)
def okSh(sh:S U)(c:C U):Prop:=S.shut.ok sh c=true
theorem Jtj{sh:S U}{c:C U}(h:okSh sh c):∀r∈refs c,∃o,look r.1 sh.ob=some o/\o.ver=r.2:=by
 intro r d;unfold okSh S.shut.ok at h;rw [Ac] at h;have:=Ah.1 h.1 r d;cases a:look r.1 sh.ob with
 | none=>rw [a] at this;cases this
 | some o=>rw [a] at this;exact ⟨o,rfl,by simpa using this⟩
section
variable {s:S Ty.T} {sh:S U} {N:List Nat} {r:List Ty}
theorem Jsj{h:HL Ty.T r}{c:C U}{x:C Ty.T}{l:HL Ty.T (ltC r c)}(a:fitC (dL wv) s.ob h c x=some l)(hs:okSh sh c)(hN:∀g∈readC s.ob c x,g∈N):∃y,mkC c l=(y,h)/\Fx s sh N x y:=by
 have d:=Jtj hs;unfold fitC at a;split at a
 ·injection a with a;subst a;exact ⟨_,rfl,.any _⟩
 ·rename_i t u;rw [Jmt] at a;cases hl:Xw val s.ob 4 t x with
  | none=>rw [hl] at a;cases a
  | some v=>rw [hl] at a;injection a with a;subst a;exact ⟨_,rfl,.lf hl hN⟩
 ·split at a
  ·rename_i e;subst e;injection a with a;subst a;exact ⟨_,rfl,.leaf rfl (λ_ _=>rfl) rfl⟩
  ·cases a
 ·injection a with a;subst a;exact ⟨_,rfl,.leaf rfl (λ_ _=>rfl) rfl⟩
 ·injection a with a;subst a;exact ⟨_,rfl,.leaf rfl (λ_ _=>rfl) rfl⟩
 ·injection a with a;subst a;exact ⟨_,rfl,.leaf rfl (λ_ _=>rfl) rfl⟩
 ·injection a with a;subst a;exact ⟨_,rfl,.leaf rfl (λ_ _=>rfl) rfl⟩
 ·split at a
  ·rename_i e;obtain ⟨rfl,rfl⟩:=e;injection a with a;subst a;exact ⟨_,rfl,.ref d ⟨_,Aa.2 rfl⟩⟩
  ·cases a
 ·split at a
  ·rename_i e;injection a with a;subst a;exact ⟨_,rfl,.new (d _ (Aa.2 rfl)) (by simpa using e)⟩
  ·cases a
 ·split at a
  ·rename_i e;obtain ⟨rfl,rfl⟩:=e;injection a with a;subst a;exact ⟨_,rfl,.ref d ⟨_,Aa.2 rfl⟩⟩
  ·cases a
 ·split at a
  ·rename_i e;obtain ⟨rfl,rfl,rfl⟩:=e;injection a with a;subst a;exact ⟨_,rfl,.ref d ⟨_,Aa.2 rfl⟩⟩
  ·cases a
 ·split at a
  ·rename_i e;obtain ⟨rfl,rfl,rfl,rfl⟩:=e;injection a with a;subst a;exact ⟨_,rfl,.ref d ⟨_,Aa.2 rfl⟩⟩
  ·cases a
 ·split at a
  ·rename_i t u o m v o' e;subst e;cases f:cast? m t v with
   | none=>rw [f] at a;cases a
   | some y=>
    rw [f] at a;injection a with a;subst a;obtain ⟨rfl,rfl⟩:=Qh f;exact ⟨_,rfl,.leaf rfl (λ_ _=>rfl) rfl⟩
  ·cases a
 ·split at a
  ·rename_i e;obtain ⟨rfl,rfl⟩:=e;injection a with a;subst a;exact ⟨_,rfl,.fn d⟩
  ·cases a
 ·split at a
  ·rename_i e;obtain ⟨rfl,rfl⟩:=e;injection a with a;subst a;exact ⟨_,rfl,.ref d ⟨_,Aa.2 rfl⟩⟩
  ·cases a
 ·split at a
  ·rename_i e;subst e;injection a with a;subst a;exact ⟨_,rfl,.yl _⟩
  ·cases a
 ·split at a
  ·rename_i g v A w e;obtain ⟨rfl,rfl⟩:=e;injection a with a;subst a;unfold okSh S.shut.ok at hs;rw [Ac] at hs;exact ⟨_,rfl,.mo (by simpa [AV.flat] using hs.2)⟩
  ·cases a
 ·cases a
structure FxL (s:S Ty.T) (sh:S U) (N:List Nat) (l m:List (C Ty.T)):Prop where
 len:l.length=m.length
 at':∀(i:Nat) (x y:C Ty.T),l[i]?=some x->m[i]?=some y->Fx s sh N x y
theorem FxL.nil:FxL s sh N [] []:=⟨rfl,λi x y hx=>by simp at hx⟩
theorem FxL.cons{x y:C Ty.T}{l m:List (C Ty.T)}(hx:Fx s sh N x y)(f:FxL s sh N l m):FxL s sh N (x::l) (y::m):=
 ⟨by simp [f.len],λi a b e d=>by
  cases i with
  | zero=>simp at e d;subst e;subst d;exact hx
  | succ i=>exact f.at' i a b (by simpa using e) (by simpa using d)⟩
theorem Jds{h:HL Ty.T r}:∀ {l:List (C U)} {m:List (C Ty.T)} {f:HL Ty.T (ltCs r l)},Jk3 (dL wv) s.ob h l m=some f->(∀c∈l,okSh sh c)->(∀g∈Ji9 s.ob l m,g∈N)->∃ys,mkCs l f=(ys,h)/\FxL s sh N m ys
 | [],[],f,e,_,_=>by injection e with e;subst e;exact ⟨[],rfl,.nil⟩
 | c::l,x::m,f,e,hs,hN=>by
  simp only [Jk3] at e;cases v:Jk3 (dL wv) s.ob h l m with
  | none=>rw [v] at e;cases e
  | some B=>
   rw [v] at e;obtain ⟨ys,a,b⟩:=Jds v (λc w=>hs c (Ab _ w)) λg o=>hN g (Af _ o);obtain ⟨y,A,d⟩:=Jsj (N:=N) (sh:=sh) e (hs c Ae) λg o=>hN g (Ak _ o);exact ⟨y::ys,by simp only [mkCs,A,a],.cons d b⟩
 | [],_::_,f,e,_,_=>by cases e
 | _::_,[],f,e,_,_=>by cases e
end
structure FxP (s:S Ty.T) (sh:S U) (N:List Nat) (l m:List (Bool×List (C Ty.T))):Prop where
 len:l.length=m.length
 at':∀(i:Nat) (x y:Bool×List (C Ty.T)),l[i]?=some x->m[i]?=some y->x.1=y.1/\FxL s sh N x.2 y.2
inductive Fv (s:S Ty.T) (sh:S U) (N:List Nat):V Ty.T->V Ty.T->Prop
 | any (x:V Ty.T):Fv s sh N x (.c .any)
 | c {x y:C Ty.T} (h:Fx s sh N x y):Fv s sh N (.c x) (.c y)
 | ag {l m:List (C Ty.T)} (h:FxL s sh N l m):Fv s sh N (.ag l) (.ag m)
 | tp {l m:List (Bool×List (C Ty.T))} (h:FxP s sh N l m):Fv s sh N (.tp l) (.tp m)
inductive Fo (s:S Ty.T) (sh:S U) (N:List Nat):Option (Ob Ty.T)->Nat->Ob Ty.T->Prop
 | box {v:Nat} {cs ys:List (C Ty.T)} (h:FxL s sh N cs ys):Fo s sh N (some (.box v cs)) v (.box v ys)
 | lit {v e:Nat} {el:TypeId} {cs ys:List (C Ty.T)} {z:Bool} (h:FxL s sh N cs ys):Fo s sh N (some (.lit v e el cs z)) v (.lit v e el ys z)
 | row0 {v e:Nat} {el:TypeId} {t:Ty} {l:List t.T} {x ys:List (C Ty.T)} {z:Bool} (h:FxL s sh N x ys):Fo s sh N (some (.row v e el t l x none z)) v (.row v e el t l ys none z)
 | row1 {v e:Nat} {el:TypeId} {t:Ty} {l:List t.T} {x ys:List (C Ty.T)} {off:Nat} {c y:C Ty.T} {z:Bool} (h:FxL s sh N x ys) (hy:Fx s sh N c y):Fo s sh N (some (.row v e el t l x (some (off,c)) z)) v (.row v e el t l ys (some (off,y)) z)
 | row2 {v e:Nat} {el:TypeId} {t:Ty} {l l':List t.T} {x ys:List (C Ty.T)} {off:Nat} {c:C Ty.T} {z:Bool} (h:FxL s sh N x ys) (hl:mlN val (Xw val s.ob 4) t l (some (off,c))=some l') (hN:∀g∈Jx s.ob 4 c,g∈N) :
   Fo s sh N (some (.row v e el t l x (some (off,c)) z)) v (.row v e el t l' ys none z)
 | new0 {v e:Nat} {el:TypeId} {t:Ty} {z:Bool}:Fo s sh N none v (.row v e el t ([]:List t.T) [] none z)
 | new1 {v e:Nat} {el:TypeId} {t:Ty} {off g v':Nat} {z:Bool} (h:∃o,look g sh.ob=some o/\o.ver=v'):Fo s sh N none v (.row v e el t ([]:List t.T) [] (some (off,.own g v')) z)
 | mp {v:Nat} {kt vt:Ty} {es:List (kt.T×vt.T)}:Fo s sh N (some (.mp v kt vt es)) v (.mp v kt vt es)
def okShV(sh:S U):V U->Prop
 | .c x=>okSh sh x
 | .ag l=>∀c∈l,okSh sh c
 | .tp l=>∀q∈l,∀c∈q.2,okSh sh c
section
variable {s:S Ty.T} {sh:S U} {N:List Nat} {r:List Ty}
theorem Jws{h:HL Ty.T r}:∀ {l:List (Bool×List (C U))} {m:List (Bool×List (C Ty.T))} {o:HL Ty.T (ltP r l)},fitP (dL wv) s.ob h l m=some o->(∀q∈l,∀c∈q.2,okSh sh c)->(∀g∈readP s.ob l m,g∈N) ->
  ∃ys,mkP l o=(ys,h)/\FxP s sh N m ys
 | [],[],o,f,_,_=>by injection f with f;subst f;exact ⟨[],rfl,rfl,λi x y hx=>by simp at hx⟩
 | (a,p)::l,(b,x)::m,o,f,hs,hN=>by
  simp only [fitP] at f;split at f
  ·rename_i e;subst e;cases E:fitP (dL wv) s.ob h l m with
   | none=>rw [E] at f;cases f
   | some K=>
    rw [E] at f;obtain ⟨ys,J,F⟩:=Jws E (λc G=>hs c (Ab _ G)) λg B=>hN g (Af _ B);obtain ⟨y,H,d⟩:=Jds (N:=N) (sh:=sh) f (hs _ Ae) λg B=>hN g (Ak _ B);refine ⟨(a,y)::ys,by simp only [mkP,H,J],by simp [F.len],λi u v A w=>?_⟩;cases i with
    | zero=>simp at A w;subst A;subst w;exact ⟨rfl,d⟩
    | succ i=>exact F.at' i u v (by simpa using A) (by simpa using w)
  ·cases f
 | [],_::_,o,f,_,_=>by cases f
 | (_,_)::_,[],o,f,_,_=>by cases f
theorem fitV_ok{h:HL Ty.T r}{v:V U}{x:V Ty.T}{e:HL Ty.T (ltV r v)}(d:fitV (dL wv) s.ob h v x=some e)(hs:okShV sh v)(hN:∀g∈readV s.ob v x,g∈N):∃y,mkV v e=(y,h)/\Fv s sh N x y:=by
 cases v with
 | c c=>
  cases x with
  | c x=>
   obtain ⟨y,a,b⟩:=Jsj (N:=N) (sh:=sh) d hs hN;exact ⟨.c y,by simp only [mkV,a],.c b⟩
  | ag l=>cases c<;>first|(injection d with d;subst d;exact ⟨_,rfl,.any _⟩)|cases d
  | tp l=>cases c<;>first|(injection d with d;subst d;exact ⟨_,rfl,.any _⟩)|cases d
 | ag l=>
  cases x with
  | ag m=>
   obtain ⟨y,a,b⟩:=Jds (N:=N) (sh:=sh) d hs hN;exact ⟨.ag y,by simp only [mkV,a],.ag b⟩
  | _=>cases d
 | tp l=>
  cases x with
  | tp m=>
   obtain ⟨y,a,b⟩:=Jws (N:=N) (sh:=sh) d hs hN;exact ⟨.tp y,by simp only [mkV,a],.tp b⟩
  | _=>cases d
theorem j6{α:Type}{c:Prop}[Decidable c]{x:Option α}{y:α}(h:(if c then x else none)=some y):c/\x=some y:=by
 split at h
 ·exact ⟨by assumption,h⟩
 ·cases h
theorem fitO_ok{h:HL Ty.T r}{p:Ob U}{o:Ob Ty.T}{G:HL Ty.T (ltO r p)}(f:fitO (dL wv) s.ob h p o=some G)(hs:∀c∈p.kids,okSh sh c)(hN:∀g∈Jvk s.ob p o,g∈N):∃y,mkO p G=(y,h)/\Fo s sh N (some o) p.ver y:=by
 unfold fitO at f;split at f
 ·have m:=j6 f;clear f;obtain ⟨e,f⟩:=m;subst e;obtain ⟨y,a,b⟩:=Jds (N:=N) (sh:=sh) f hs hN;exact ⟨_,by simp only [mkO,a],.box b⟩
 ·have m:=j6 f;clear f;obtain ⟨e,f⟩:=m;obtain ⟨rfl,rfl,rfl,rfl⟩:=e;obtain ⟨y,a,b⟩:=Jds (N:=N) (sh:=sh) f hs hN;exact ⟨_,by simp only [mkO,a],.lit b⟩
 ·rename_i v e el t u x nest fz O e' el' A l M nest' fz';have m:=j6 f;clear f;obtain ⟨e,f⟩:=m
  ·obtain ⟨rfl,rfl,rfl,rfl⟩:=e;cases w:fitN (dL wv) s.ob h nest nest' with
   | none=>rw [w] at f;cases f
   | some Q=>
    rw [w] at f;simp only [Ap] at f;cases hx:Jk3 (dL wv) s.ob Q x M with
    | none=>rw [hx] at f;cases f
    | some J=>
     rw [hx] at f;simp only [Ap] at f;obtain ⟨ys,a,b⟩:=Jds (N:=N) (sh:=sh) hx (λc m=>hs c (by simp only [Ob.kids];exact Af _ m)) (λg F=>hN g (by simp only [Jvk];exact Ak _ F));have cst:∀ {L:List A.T},((cast? (ι:=Ty.T) (.ls A) (.ls t) L:Option (Ty.ls t).T).map λl=>(⟨l,J⟩:HL Ty.T (.ls t::ltCs (ltN r nest) x)))=some G->∃e:A=t,G=⟨e▸L,J⟩:=λ{L} E=>by
      cases m:cast? (ι:=Ty.T) (.ls A) (.ls t) L with
      | none=>rw [m] at E;cases E
      | some P=>
       rw [m] at E;injection E with E;obtain ⟨B,K⟩:=Qh m;injection B with B;subst B;exact ⟨rfl,by rw [<-E,K]⟩
     cases nest with
     | none=>
      cases nest' with
      | none=>
       injection w with w;subst w;obtain ⟨rfl,rfl⟩:=cst f;exact ⟨_,by simp only [mkO,a,mkN],.row0 b⟩
      | some q=>
       obtain ⟨off,c⟩:=q;injection w with w;subst w;have X:mlN (dL wv) (Xw (dL wv) s.ob 4) A l (some (off,c))=mlN val (Xw val s.ob 4) A l (some (off,c)):=by rw [Jmt];exact mlN_dL _ A l _
       have f:((mlN (dL wv) (Xw (dL wv) s.ob 4) A l (some (off,c))).bind λl=>Option.map (λl=>(⟨l,J⟩:HL Ty.T (.ls t::ltCs (ltN r none) x))) (cast? (ι:=Ty.T) (.ls A) (.ls t) l))=some G:=f;rw [X] at f;cases H:mlN val (Xw val s.ob 4) A l (some (off,c)) with
       | none=>rw [H] at f;cases f
       | some Z=>
        rw [H] at f;obtain ⟨rfl,rfl⟩:=cst f;exact ⟨_,by simp only [mkO,a,mkN],.row2 b H λg F=>hN g (by simp only [Jvk];exact Af _ F)⟩
     | some p=>
      obtain ⟨po,pc⟩:=p;cases nest' with
      | none=>simp at f
      | some q=>
       obtain ⟨off,c⟩:=q;simp only [fitN] at w;have m:=j6 w;clear w;obtain ⟨e,w⟩:=m
       ·subst e;obtain ⟨y,Y,d⟩:=Jsj (N:=N) (sh:=sh) w (hs pc (by simp [Ob.kids])) λg F=>hN g (by simp only [Jvk];exact Af _ F);obtain ⟨rfl,rfl⟩:=cst f;exact ⟨_,by simp only [mkO,a,mkN,Y],.row1 b d⟩
 ·rename_i v kt vt u O kt' vt' es;have m:=j6 f;clear f;obtain ⟨e,f⟩:=m;subst e;cases m:cast? (ι:=Ty.T) (.ls (.p kt' vt')) (.ls (.p kt vt)) es with
  | none=>rw [m] at f;cases f
  | some P=>
   rw [m] at f;injection f with f;obtain ⟨B,K⟩:=Qh m;injection B with B;injection B with B R;subst B;subst R;subst f;subst K;exact ⟨_,rfl,.mp⟩
 ·cases f
theorem Jw0{h:HL Ty.T r}{p:Ob U}{d:HL Ty.T (ltO r p)}(a:Jy1 (dL wv) h p=some d)(hs:∀c∈p.kids,okSh sh c):∃y,mkO p d=(y,h)/\Fo s sh N none p.ver y:=by
 unfold Jy1 at a;split at a
 ·injection a with a;subst a;exact ⟨_,rfl,.new0⟩
 ·injection a with a;subst a;exact ⟨_,rfl,.new1 (Jtj (hs _ (by simp [Ob.kids];rfl)) _ (Aa.2 rfl))⟩
 ·cases a
def FOb(s:S Ty.T)(sh:S U)(N:List Nat):List (Nat×Ob U)->List (Nat×Ob Ty.T)->Prop
 | [],[]=>True
 | (a,p)::l,(b,o)::m=>b=a/\Fo s sh N (look a s.ob) p.ver o/\FOb s sh N l m
 | _,_=>False
theorem FOb.at1{n:Nat}:∀ {l:List (Nat×Ob U)} {m:List (Nat×Ob Ty.T)} {p:Ob U},FOb s sh N l m->look n l=some p->∃o,look n m=some o/\Fo s sh N (look n s.ob) p.ver o
 | [],_,p,_,h=>by cases h
 | (a,q)::l,[],p,d,h=>d.elim
 | (a,q)::l,(b,o)::m,p,d,h=>by
  obtain ⟨rfl,g,f⟩:=d;rw [J0] at h ⊢;split at h
  ·rename_i e;injection h with h;subst h;subst e;rw [if_pos rfl];exact ⟨o,rfl,g⟩
  ·rename_i e;rw [if_neg e];exact FOb.at1 f h
theorem FOb.at2{n:Nat}:∀ {l:List (Nat×Ob U)} {m:List (Nat×Ob Ty.T)} {o:Ob Ty.T},FOb s sh N l m->look n m=some o->∃p,look n l=some p
 | _,[],p,_,h=>by cases h
 | [],_::_,p,d,h=>d.elim
 | (a,q)::l,(b,g)::m,o,d,h=>by
  obtain ⟨rfl,r,f⟩:=d;rw [J0] at h ⊢;split at h
  ·rename_i e;rw [if_pos e];exact ⟨q,rfl⟩
  ·rename_i e;rw [if_neg e];exact FOb.at2 f h
theorem Jtq{h:HL Ty.T r}:∀ {l:List (Nat×Ob U)} {v:HL Ty.T (ltOb r l)},Jsz (dL wv) s.ob h l=some v->(∀p∈l,∀c∈p.2.kids,okSh sh c)->(∀p∈l,∀o,look p.1 s.ob=some o->∀g∈Jvk s.ob p.2 o,g∈N) ->
  ∃ys,mkOb l v=(ys,h)/\FOb s sh N l ys
 | [],v,e,_,_=>by injection e with e;subst e;exact ⟨[],rfl,trivial⟩
 | (a,p)::l,v,e,hs,hN=>by
  simp only [Jsz] at e;cases w:Jsz (dL wv) s.ob h l with
  | none=>rw [w] at e;cases e
  | some G=>
   rw [w] at e;obtain ⟨ys,B,A⟩:=Jtq w (λc F=>hs c (Ab _ F)) λq E=>hN q (Ab _ E);have f:=hs _ Ae;cases m:look a s.ob with
   | none=>
    rw [m] at e;obtain ⟨y,c,d⟩:=Jw0 (s:=s) (N:=N) (sh:=sh) e f;exact ⟨(a,y)::ys,by simp only [mkOb,c,B],rfl,by rw [m];exact d,A⟩
   | some o=>
    rw [m] at e;obtain ⟨y,c,d⟩:=fitO_ok (N:=N) (sh:=sh) e f (hN _ Ae o m);exact ⟨(a,y)::ys,by simp only [mkOb,c,B],rfl,by rw [m];exact d,A⟩
def FSl(s:S Ty.T)(sh:S U)(N:List Nat)(sl:List (Nat×V Ty.T)):List (Nat×V U)->List (Nat×V Ty.T)->Prop
 | [],[]=>True
 | (a,_)::l,(b,v)::m=>b=a/\Fv s sh N ((look a sl).getD (.c .any)) v/\FSl s sh N sl l m
 | _,_=>False
theorem FSl.mem{sl:List (Nat×V Ty.T)}:∀ {l:List (Nat×V U)} {m:List (Nat×V Ty.T)},FSl s sh N sl l m->∀p∈m,Fv s sh N ((look p.1 sl).getD (.c .any)) p.2
 | _,[],_,p,h=>by cases h
 | [],_::_,d,p,h=>d.elim
 | (a,q)::l,(b,v)::m,d,p,h=>by
  obtain ⟨rfl,f,e⟩:=d;rcases Ai.1 h with rfl|h
  ·exact f
  ·exact FSl.mem e p h
theorem Jn0{h:HL Ty.T r}{sl:List (Nat×V Ty.T)}:∀ {l:List (Nat×V U)} {f:HL Ty.T (ltSl r l)},Jnb (dL wv) s.ob h sl l=some f->(∀p∈l,okShV sh p.2)->(∀g∈Jpr s.ob l sl,g∈N)->∃ys,mkSl l f=(ys,h)/\FSl s sh N sl l ys
 | [],f,e,_,_=>by injection e with e;subst e;exact ⟨[],rfl,trivial⟩
 | (a,p)::l,f,e,hs,hN=>by
  simp only [Jnb] at e;cases o:Jnb (dL wv) s.ob h sl l with
  | none=>rw [o] at e;cases e
  | some w=>
   rw [o] at e;obtain ⟨ys,B,A⟩:=Jn0 o (λc v=>hs c (Ab _ v)) λg m=>hN g (by simp only [Jpr,Av];exact Af _ m);have e:fitV (dL wv) s.ob w p ((look a sl).getD (.c .any))=some f:=e;obtain ⟨y,c,d⟩:=fitV_ok (N:=N) (sh:=sh) e (hs _ Ae) λg m=>hN g (by simp only [Jpr,Av];exact Ak _ m);exact ⟨(a,y)::ys,by simp only [mkSl,c,B],rfl,d,A⟩
def FLo(s:S Ty.T)(sh:S U)(N:List Nat):List (List (Nat×V Ty.T))->List (List (Nat×V U))->List (List (Nat×V Ty.T))->Prop
 | [],[],[]=>True
 | q::m,l::ls,y::ys=>FSl s sh N q l y/\FLo s sh N m ls ys
 | _,_,_=>False
theorem FLo.at:∀ {m:List (List (Nat×V Ty.T))} {l:List (List (Nat×V U))} {ys:List (List (Nat×V Ty.T))},FLo s sh N m l ys->ys.length=m.length/\∀(i:Nat) (q y:List (Nat×V Ty.T)),m[i]?=some q->ys[i]?=some y->∃l,FSl s sh N q l y
 | [],[],[],_=>⟨rfl,λi q y h=>by simp at h⟩
 | q::m,l::ls,y::ys,h=>by
  obtain ⟨g,f⟩:=h;obtain ⟨a,b⟩:=FLo.at f;refine ⟨by simp [a],λi u v e d=>?_⟩;cases i with
  | zero=>simp at e d;subst e;subst d;exact ⟨l,g⟩
  | succ i=>exact b i u v (by simpa using e) (by simpa using d)
 | [],[],_::_,h=>h.elim
 | [],_::_,_,h=>h.elim
 | _::_,[],_,h=>h.elim
 | _::_,_::_,[],h=>h.elim
theorem Juo{h:HL Ty.T r}:∀ {l:List (List (Nat×V U))} {m:List (List (Nat×V Ty.T))} {e:HL Ty.T (ltLo r l)},Jo8 (dL wv) s.ob h l m=some e->(∀q∈l,∀p∈q,okShV sh p.2)->(∀g∈Jx8 s.ob l m,g∈N)->∃ys,mkLo l e=(ys,h)/\FLo s sh N m l ys
 | [],[],e,a,_,_=>by injection a with a;subst a;exact ⟨[],rfl,trivial⟩
 | p::l,q::m,e,a,hs,hN=>by
  simp only [Jo8] at a;cases o:Jo8 (dL wv) s.ob h l m with
  | none=>rw [o] at a;cases a
  | some B=>
   rw [o] at a;obtain ⟨ys,A,w⟩:=Juo o (λc v=>hs c (Ab _ v)) λg f=>hN g (Af _ f);obtain ⟨y,c,d⟩:=Jn0 (N:=N) (sh:=sh) a (hs _ Ae) λg f=>hN g (Ak _ f);exact ⟨y::ys,by simp only [mkLo,c,A],d,w⟩
 | [],_::_,e,a,_,_=>by cases a
 | _::_,[],e,a,_,_=>by cases a
structure Fit (s:S Ty.T) (sh:S U) (N:List Nat) (s':S Ty.T):Prop where
 sl:FSl s sh N s.sl sh.sl s'.sl
 lo:FLo s sh N s.lo sh.lo s'.lo
 ob:FOb s sh N sh.ob s'.ob
 out:∀g∈N,look g sh.ob=none
 mo:s'.mo=s.mo
 mg:∀m,sh.mo=some m->∃m',s.mo=some m'/\m'.g=m.g
 nm:∀p∈sh.ob,moN s.mo p.1=false
 rd:∀g∈N,moN s.mo g=false
theorem fitMo_ok:∀ {m:Option (Mo U)} {d:Option (Mo Ty.T)} {h:HL Ty.T (ltMo m)},fitMo (dL wv) m d=some h->mkMo m h=d/\(∀x,m=some x->∃y,d=some y/\y.g=x.g)/\∀n,moN d n=moN m n
 | none,none,h,a=>⟨rfl,λx hx=>by (cases hx),λn=>rfl⟩
 | some m,some d,h,a=>by
  obtain ⟨g,kt,vt,el,es⟩:=m;obtain ⟨w,kt',vt',el',es'⟩:=d;have a:(if g=w/\el=el' then (cast? (ι:=Ty.T) (.ls (.p kt' (.ls vt'))) (.ls (.p kt (.ls vt))) es').map λl=>(⟨l,()⟩:HL Ty.T [.ls (.p kt (.ls vt))]) else none)=some h:=a;obtain ⟨⟨e,v⟩,f⟩:=j6 a;clear a;subst e;subst v;cases o:cast? (ι:=Ty.T) (.ls (.p kt' (.ls vt'))) (.ls (.p kt (.ls vt))) es' with
  | none=>rw [o] at f;cases f
  | some A=>
   rw [o] at f;injection f with a;obtain ⟨e,v⟩:=Qh o;injection e with e;injection e with e r;injection r with r;subst e;subst r;subst a;subst v;exact ⟨rfl,λx hx=>⟨_,rfl,by injection hx with hx;subst hx;rfl⟩,λn=>rfl⟩
 | none,some d,h,a=>by cases a
 | some m,none,h,a=>by cases a
theorem fit_made{h:HL Ty.T sh.lt}(a:sh.fit (dL wv) s=some h):Fit s sh (Jpl sh s) (sh.mk' h):=by
 unfold S.fit at a;split at a
 ·rename_i m;obtain ⟨hs,hN,w⟩:=m;cases B:fitMo (dL wv) sh.mo s.mo with
  | none=>rw [B] at a;cases a
  | some a0=>
  rw [B] at a;have a:((Jsz (dL wv) s.ob a0 sh.ob).bind λh=>(Jo8 (dL wv) s.ob h sh.lo s.lo).bind λh=>Jnb (dL wv) s.ob h s.sl sh.sl)=some (show HL Ty.T (ltSl (ltLo (ltOb (ltMo sh.mo) sh.ob) sh.lo) sh.sl) from h):=a;obtain ⟨Y,X,R⟩:=fitMo_ok B;unfold S.shut at hs;simp only [Ac] at hs;have E:∀p∈sh.sl++sh.lo.flatten,okShV sh p.2:=λp d=>by
   have:=Ah.1 hs.1 p d;cases hx:p.2 with
   | c x=>rw [hx] at this;exact this
   | ag l=>rw [hx] at this;exact λc m=>Ah.1 this c m
   | tp l=>rw [hx] at this;exact λq r c m=>Ah.1 (Ah.1 this q r) c m
  have v:∀p∈sh.ob,∀c∈p.2.kids,okSh sh c:=λp d c m=>Ah.1 (Ah.1 hs.2 p d) c m;cases A:Jsz (dL wv) s.ob a0 sh.ob with
  | none=>rw [A] at a;cases a
  | some F=>
   rw [A] at a;have a:((Jo8 (dL wv) s.ob F sh.lo s.lo).bind λh=>Jnb (dL wv) s.ob h s.sl sh.sl)=some (show HL Ty.T (ltSl (ltLo (ltOb (ltMo sh.mo) sh.ob) sh.lo) sh.sl) from h):=a;cases y:Jo8 (dL wv) s.ob F sh.lo s.lo with
   | none=>rw [y] at a;cases a
   | some Z=>
    rw [y] at a;have a:Jnb (dL wv) s.ob Z s.sl sh.sl=some (show HL Ty.T (ltSl (ltLo (ltOb (ltMo sh.mo) sh.ob) sh.lo) sh.sl) from h):=a;obtain ⟨J,Q,M⟩:=Jtq (N:=Jpl sh s) (sh:=sh) A v λp d o v g f=>by unfold Jpl;refine Af _ (Am.2 ⟨p,d,?_⟩);rw [v];exact f
    obtain ⟨H,P,L⟩:=Juo (N:=Jpl sh s) (sh:=sh) y (λq r p d=>E p (Af _ (List.mem_flatten.2 ⟨q,r,d⟩))) λg f=>by unfold Jpl;exact Ak _ (Af _ f)
    obtain ⟨G,O,K⟩:=Jn0 (N:=Jpl sh s) (sh:=sh) a (λp d=>E p (Ak _ d)) λg f=>by unfold Jpl;exact Ak _ (Ak _ f)
    have e:sh.mk' h=⟨G,H,J,[],s.mo⟩:=by simp only [S.mk',O,P,Q,Y]
    rw [e];refine ⟨K,L,M,λg f=>?_,rfl,X,λp d=>?_,λg f=>?_⟩
    ·have:=Ah.1 hN g f;rw [Ac] at this;simpa using this.1
    ·have:=Ah.1 w p d;rw [R];simpa using this
    ·have:=Ah.1 hN g f;rw [Ac] at this;simpa using this.2
 ·cases a
end
section
variable {s s':S Ty.T} {sh:S U} {N:List Nat}
structure Same (s s':S Ty.T) (o o':Ob Ty.T):Prop where
 ver:o.ver=o'.ver
 len:o.lenO=o'.lenO
 arr:∀v e el c z,encO s o=.arr v e el c z->∃c' z',encO s' o'=.arr v e el c' z'/\(c=[]↔c'=[])
theorem Fo.ver{src:Option (Ob Ty.T)}{v:Nat}{o':Ob Ty.T}(h:Fo s sh N src v o'):o'.ver=v:=by cases h<;>rfl
theorem Fo.same{o o':Ob Ty.T}{v:Nat}(h:Fo s sh N (some o) v o'):Same s s' o o':=by
 cases h with
 | box h=>exact ⟨rfl,rfl,λv e el c z q=>by simp [encO] at q⟩
 | mp=>exact ⟨rfl,rfl,λv e el c z q=>by simp [encO] at q⟩
 | @lit v e el cs ys z h=>
  refine ⟨rfl,by simp [Ob.lenO,h.len],λv e el c z q=>?_⟩;simp only [encO,AObj.arr.injEq] at q;obtain ⟨rfl,rfl,rfl,rfl,rfl⟩:=q;exact ⟨_,_,rfl,Xa (by simp [h.len])⟩
 | @row0 v e el t l x ys z h=>
  refine ⟨rfl,by simp [Ob.lenO,h.len],λv e el c z q=>?_⟩;simp only [encO,AObj.arr.injEq] at q;obtain ⟨rfl,rfl,rfl,rfl,rfl⟩:=q;exact ⟨_,_,rfl,Xa (by simp [h.len,Zx])⟩
 | @row1 v e el t l x ys off c y z h w=>
  refine ⟨rfl,by simp [Ob.lenO,h.len],λv e el c z q=>?_⟩;simp only [encO,AObj.arr.injEq] at q;obtain ⟨rfl,rfl,rfl,rfl,rfl⟩:=q;exact ⟨_,_,rfl,Xa (by simp [h.len,Zx])⟩
 | @row2 v e el t l f x ys off c z h hl hN=>
  obtain ⟨d,-⟩:=Js9 (s:=s) (h':=encH s) (θ:=some) (R:=(Jx s.ob 4 c).filter (rowy (encH s))) hl λp a g r m=>by injection a with a;subst a;exact Aj.2 ⟨r,Zt.2 m⟩
  refine ⟨rfl,?_,λv e el c z q=>?_⟩
  ·show List.length (α:=t.T) l+x.length / e=List.length (α:=t.T) f+ys.length / e;rw [d,h.len]
  simp only [encO,AObj.arr.injEq] at q;obtain ⟨rfl,rfl,rfl,rfl,rfl⟩:=q;refine ⟨_,_,rfl,Xa ?_⟩;simp only [Ax,Bg,Zx,Jj];rw [d,h.len]
theorem Fit.at(F:Fit s sh N s'){g v:Nat}(hs:∃o,look g sh.ob=some o/\o.ver=v){o:Ob Ty.T}(d:look g s.ob=some o):∃o',look g s'.ob=some o'/\Same s s' o o'/\o'.ver=v:=by obtain ⟨p,h,f⟩:=hs;obtain ⟨o',e,a⟩:=F.ob.at1 h;rw [d] at a;exact ⟨o',e,a.same,by rw [a.ver,f]⟩
theorem Fit.has(F:Fit s sh N s'){g v:Nat}(hs:∃o,look g sh.ob=some o/\o.ver=v):∃o',look g s'.ob=some o'/\o'.ver=v:=by obtain ⟨p,f,e⟩:=hs;obtain ⟨o',d,a⟩:=F.ob.at1 f;exact ⟨o',d,by rw [a.ver,e]⟩
theorem fx_ok(F:Fit s sh N s'){x y:C Ty.T}(hx:Fx s sh N x y):okC s' y:=by
 have key:∀ {c:C Ty.T},(∀r∈refs c,∃o,look r.1 sh.ob=some o/\o.ver=r.2)->okC s' c:=λh r d=>by obtain ⟨o',a,b⟩:=F.has (h r d);exact ⟨o',a,by omega⟩
 cases hx with
 | any=>exact Jo s' rfl
 | lf=>exact Jo s' rfl
 | leaf d=>exact Jo s' d
 | ref h=>exact key h
 | fn h=>exact key h
 | yl j=>exact Jo s' rfl
 | mo=>exact Jo s' rfl
 | new h e=>
  refine key λr d=>?_;have:=Aa.1 d;subst this;exact h
theorem Fit.lookF(F:Fit s sh N s'){n:Nat}(h:moN s.mo n=true):look n s'.ob=none:=by
 cases hl:look n s'.ob with
 | none=>rfl
 | some o=>
  obtain ⟨p,a⟩:=F.ob.at2 hl;have:=F.nm _ (Qn a);rw [h] at this;cases this
theorem Fit.same(F:Fit s sh N s')(d:Inv s){n:Nat}{o:AObj}(h:moAt s.mo n=some o):encH s n=some o/\encH s' n=some o/\some n=some n:=by
 have a:=(Jau h).1;refine ⟨?_,?_,rfl⟩
 ·simp only [encH,Jdd d a];exact h
 ·simp only [encH,F.lookF a,F.mo];exact h
theorem fx_gr(F:Fit s sh N s')(Y:Inv s){x y:C Ty.T}(ok:okC s x)(hx:Fx s sh N x y):GR (encH s) (encH s') some (N.filter (rowy (encH s))) (encC s x) (encC s' y):=by
 have ar:∀ {g v off len:Nat},(∃o,look g sh.ob=some o/\o.ver=v)->(∃o,look g s.ob=some o/\v<=o.ver)->GR (encH s) (encH s') some (N.filter (rowy (encH s))) (.arr g v off len) (.arr g v off len):=λA d=>by obtain ⟨o,d,-⟩:=d;obtain ⟨o',E,w,G⟩:=F.at A d;refine .arr (Jf d) (Jf E) (by rw [Ya];omega) rfl λ_=>⟨by rw [Ya,w.ver,G],λe el c z q=>?_⟩;have L:(encO s o).ver=_:=congrArg AObj.ver q;rw [Ya,w.ver,G] at L;exact w.arr _ e el c z q
 have pr:∀ {g v off:Nat},(∃o,look g sh.ob=some o/\o.ver=v)->(∃o,look g s.ob=some o/\v<=o.ver)->GR (encH s) (encH s') some (N.filter (rowy (encH s))) (.ptr g v off) (.ptr g v off):=λA d=>by obtain ⟨o,d,-⟩:=d;obtain ⟨o',E,w,G⟩:=F.at A d;exact .ptr (Jf d) (Jf E) (by rw [Ya];omega) rfl λ_=>by rw [Ya,w.ver,G]
 have fnc:∀ {f:FuncId} {c:List (Nat×Nat×Nat)},okC s (.fn f c)->(∀r∈refs (.fn f c:C Ty.T),∃o,look r.1 sh.ob=some o/\o.ver=r.2)->GR (encH s) (encH s') some (N.filter (rowy (encH s))) (encC s (.fn f c)) (encC s' (.fn f c)):=λ{f c} ok h=>by have:=GRL.map (h:=encH s) (h':=encH s') (θ:=some) (R:=N.filter (rowy (encH s))) (l:=c) (f:=λx:Nat×Nat×Nat=>AV.ptr x.1 x.2.1 x.2.2) (f':=λx:Nat×Nat×Nat=>AV.ptr x.1 x.2.1 x.2.2) λx hx=>pr (h (x.1,x.2.1) (Aq.2 ⟨x,hx,rfl⟩)) (ok (x.1,x.2.1) (Aq.2 ⟨x,hx,rfl⟩));exact .fn f _ _ this.len this.at'
 cases hx with
 | any=>exact .any _
 | lf h hN=>exact Jzm h λg Z H=>Aj.2 ⟨hN g Z,Zt.2 H⟩
 | leaf H he hf=>rw [he s s'];exact .flat hf
 | fn h=>exact fnc ok h
 | yl j=>exact .yld j
 | @mo g v h=>
  cases O:sh.mo with
  | none=>rw [O] at h;cases h
  | some m=>
   rw [O] at h;simp only [moC,Ac] at h;have Q:=Bc h.1;have P:=Bc h.2;obtain ⟨J,A,d⟩:=F.mg m O;subst P;have H:moAt s.mo g=some (.map 0 (moEs J.kt J.vt 0 J.es) false):=by rw [A,<-Q,<-d];show J.at J.g=_;unfold Mo.at;rw [if_pos rfl]
   obtain ⟨a,b,c⟩:=F.same Y H;exact .map a b (Az _) rfl λ_=>rfl
 | new h h0=>
  obtain ⟨p,A,d⟩:=h;obtain ⟨o',E,w⟩:=F.ob.at1 A;rw [h0] at w;rename_i g v;have L:o'.ver=v:=by rw [w.ver,d]
  have K:K9 s' g v=0:=by simp only [K9,E,L,if_true];cases w<;>simp [Ob.lenO]
  simp only [encC,K];have B:∃e el z,encO s' o'=.arr v e el [] z:=by
   rw [<-L];cases w with
   | new0=>exact ⟨_,_,_,rfl⟩
   | new1 h=>exact ⟨_,_,_,rfl⟩
  obtain ⟨e,el,z,B⟩:=B;exact .new (by rw [Jf E,B])
 | ref h H=>
  cases x with
  | own g v=>
   have A:=h (g,v) (Aa.2 rfl);have d:=ok (g,v) (Aa.2 rfl);obtain ⟨o,M,X⟩:=d;obtain ⟨o',E,w,G⟩:=F.at A M;have Q:K9 s g v=o.lenO:=by have:=w.ver;simp [K9,M,this,G]
   have P:K9 s' g v=o.lenO:=by simp [K9,E,G,w.len]
   simp only [encC,Q,P];exact ar A ⟨o,M,X⟩
  | part g v a b=>exact ar (h (g,v) (Aa.2 rfl)) (ok (g,v) (Aa.2 rfl))
  | ptr g v o=>exact pr (h (g,v) (Aa.2 rfl)) (ok (g,v) (Aa.2 rfl))
  | pti g v e i o=>exact pr (h (g,v) (Aa.2 rfl)) (ok (g,v) (Aa.2 rfl))
  | fn f c=>exact fnc ok h
  | map g v=>
   have A:=h (g,v) (Aa.2 rfl);obtain ⟨o,d,-⟩:=ok (g,v) (Aa.2 rfl);obtain ⟨o',E,w,G⟩:=F.at A d;exact .map (Jf d) (Jf E) (by rw [Ya];omega) rfl λ_=>by rw [Ya,w.ver,G]
  | _=>obtain ⟨r,H⟩:=H;cases H
theorem Jjp(F:Fit s sh N s')(f:Inv s){l m:List (C Ty.T)}(ok:okCs s l)(h:FxL s sh N l m):GRL (encH s) (encH s') some (N.filter (rowy (encH s))) (l.map (encC s)) (m.map (encC s')):=by
 refine ⟨by simp [h.len],λi x y hx d=>?_⟩;rw [Bb] at hx d;cases hl:l[i]? with
 | none=>rw [hl] at hx;cases hx
 | some a=>
  cases e:m[i]? with
  | none=>rw [e] at d;cases d
  | some b=>
   rw [hl] at hx;rw [e] at d;injection hx with hx;injection d with d;subst hx;subst d;exact fx_gr F f (ok a (Au hl)) (h.at' i a b hl e)
theorem Ji1(F:Fit s sh N s'){l m:List (C Ty.T)}(h:FxL s sh N l m):okCs s' m:=by
 intro c d;obtain ⟨i,a⟩:=Bf d;obtain ⟨x,hx⟩:∃x,l[i]?=some x:=by have:=(Ad.1 a).1;exact ⟨_,Ag (by rw [h.len];exact this)⟩
 exact fx_ok F (h.at' i x c hx a)
theorem fv_gr(F:Fit s sh N s')(g:Inv s){v w:V Ty.T}(ok:okV s v)(h:Fv s sh N v w):GR (encH s) (encH s') some (N.filter (rowy (encH s))) (encV s v) (encV s' w):=by
 cases h with
 | any=>exact .any _
 | c h=>exact fx_gr F g (ok _ (Aa.2 rfl)) h
 | ag h=>have:=Jjp F g ok h;exact .agg _ _ this.len this.at'
 | @tp l m h=>
  refine .tup _ _ (by simp [h.len]) λi x y hx d=>?_;rw [Bb] at hx d;cases hl:l[i]? with
  | none=>rw [hl] at hx;cases hx
  | some a=>
   cases f:m[i]? with
   | none=>rw [f] at d;cases d
   | some b=>
    rw [hl] at hx;rw [f] at d;injection hx with hx;injection d with d;subst hx;subst d;obtain ⟨e,q⟩:=h.at' i a b hl f;have:=Jjp F g (λc G=>ok c (Am.2 ⟨a,Au hl,G⟩)) q;obtain ⟨E,r⟩:=a;obtain ⟨H,o⟩:=b;have e:E=H:=e;subst e;cases E with
    | true=>exact .agg _ _ this.len this.at'
    | false=>
     show GR _ _ _ _ (Qx (r.map (encC s))) (Qx (o.map (encC s')));have this:GRL _ _ _ _ (r.map (encC s)) (o.map (encC s')):=this;generalize r.map (encC s)=A at this ⊢;generalize o.map (encC s')=B at this ⊢
     match A,B,this with
     | [],[],_=>exact .any _
     | [u],[v],t=>exact t.at' 0 u v rfl rfl
     | [],_::_,t=>exact absurd t.len (by simp)
     | _::_,[],t=>exact absurd t.len (by simp)
     | [_],_::_::_,t=>exact .any _
     | _::_::_,[_],t=>exact absurd t.len (by simp)
     | _::_::_,_::_::_,t=>exact .any _
theorem fv_ok(F:Fit s sh N s'){v d:V Ty.T}(h:Fv s sh N v d):okV s' d:=by
 cases h with
 | any=>exact Qi (Jo s' rfl)
 | c h=>exact Qi (fx_ok F h)
 | ag h=>exact Ji1 F h
 | @tp l m h=>
  intro c a;obtain ⟨b,f,a⟩:=Am.1 a;obtain ⟨i,e⟩:=Bf f;obtain ⟨x,hx⟩:∃x,l[i]?=some x:=by have:=(Ad.1 e).1;exact ⟨_,Ag (by rw [h.len];exact this)⟩
  exact Ji1 F (h.at' i x b hx e).2 c a
theorem fo_gr(F:Fit s sh N s')(f:Inv s){g v:Nat}{o o':Ob Ty.T}(ok:okCs s o.kids)(h:Fo s sh N (some o) v o'):GO (encH s) (encH s') some (N.filter (rowy (encH s))) g (encO s o) (encO s' o'):=by
 cases h with
 | box h=>exact .box (Jjp F f ok h)
 | @mp v kt vt es=>
  refine .map rfl λi p q a d=>?_;have a:(encE kt vt es)[i]?=some p:=a;have d:(encE kt vt es)[i]?=some q:=d;rw [a] at d;injection d with d;subst d;exact ⟨rfl,Jrx a⟩
 | lit h=>exact .arr (Jjp F f ok h) (λq=>.inl q) λq=>q
 | row0 h=>exact .arr (.append (.flat (Q3 _ _)) (Jjp F f ok h)) (λq=>.inl q) λq=>q
 | @row1 v e el t l x ys off c y z h r=>
  refine .arr (.append ?_ (Jjp F f (λc m=>ok c (Af _ m)) h)) (λq=>.inl q) λq=>q;exact (GRL.flat (Q3 t l)).set (fx_gr F f (ok c (Ak _ (Aa.2 rfl))) r) _
 | @row2 v e el t l B x ys off c z h hl hN=>
  refine .arr (.append ?_ (Jjp F f (λc m=>ok c (Af _ m)) h)) (λq=>.inl q) λq=>q;exact (Js9 hl λp a g A w=>by injection a with a;subst a;exact Aj.2 ⟨hN g A,Zt.2 w⟩).2
theorem fo_ok(F:Fit s sh N s'){src:Option (Ob Ty.T)}{v:Nat}{o':Ob Ty.T}(h:Fo s sh N src v o'):okCs s' o'.kids:=by
 cases h with
 | box h=>exact Ji1 F h
 | mp=>intro c a;cases a
 | lit h=>exact Ji1 F h
 | row0 h=>exact Ji1 F h
 | row1 h f=>
  intro c a;rcases Ba.1 a with a|a
  ·rw [Aa] at a;subst a;exact fx_ok F f
  ·exact Ji1 F h c a
 | row2 h=>exact Ji1 F h
 | new0=>intro c a;cases a
 | @new1 v e el t off g d z h=>
  intro c a;have:c=.own g d:=by simpa [Ob.kids] using a
  subst this;exact fx_ok F (.ref (λr l=>by have:=Aa.1 l;subst this;exact h) ⟨_,Aa.2 rfl⟩)
end
section
variable {nt:Nat} {w:World} {S:Nat->Prop} {s:Dn.S Ty.T} {μ:Gh} {a:Act} {fs:List Fm}
theorem fit_goes{sh:Dn.S U}{N:List Nat}{s':Dn.S Ty.T}(h:RepF nt w S s μ a fs)(F:Fit s sh N s'):Goes nt w S s μ a fs s':=by
 have src:∀n o',look n s'.ob=some o'->∃v,Fo s sh N (look n s.ob) v o':=λn o' A=>by obtain ⟨p,y⟩:=F.ob.at2 A;obtain ⟨P,f,r⟩:=F.ob.at1 y;rw [A] at f;injection f with f;subst f;exact ⟨_,r⟩
 have enc_of:∀n o',encH s' n=some o'->(∃ob,look n s'.ob=some ob/\o'=encO s' ob)\/moAt s.mo n=some o':=λn o' A=>by
  rcases Jfq A with f|⟨-,f⟩
  ·exact .inl f
  ·rw [F.mo] at f;exact .inr f
 have slots:∀ {sl:List (Nat×V Ty.T)} {l:List (Nat×V U)} {m:List (Nat×V Ty.T)},(∀p∈sl,okV s p.2)->FSl s sh N sl l m->∀ {d v},look d m=some v->GR (encH s) (encH s') some (N.filter (rowy (encH s))) (encV s ((look d sl).getD (.c .any))) (encV s' v):=λ{sl l m} ok G d v hd=>by
  have:=G.mem (d,v) (Qn hd);refine fv_gr F h.iv ?_ this;cases H:look d sl with
  | none=>exact Qi (Jo s rfl)
  | some u=>exact ok (d,u) (Qn H)
 refine h.ghost (θ:=some) (R:=N.filter (rowy (encH s))) ⟨⟨λn o' A=>?_,λn Q g f r _ _=>?_,λn g o' f r Y X=>?_,λg E=>Zt.1 (Aj.1 E).2⟩,λd v hd=>?_,(FLo.at F.lo).1,λi l M d O hl J hd=>?_,λp y=>?_,λl hl p y=>?_,λg o A=>?_,λm B=>?_⟩
 ·rcases enc_of n o' A with ⟨ob,f,rfl⟩|B
  rotate_left
  ·exact .inr ⟨n,o',rfl,(F.same h.iv B).1,Jqz h.iv (λq=>F.same h.iv q) B⟩
  obtain ⟨v,r⟩:=src n ob f;cases hs:look n s.ob with
  | none=>
   rw [hs] at r;left;cases r with
   | new0=>exact ⟨_,_,_,_,rfl⟩
   | new1 h=>exact ⟨_,_,_,_,rfl⟩
  | some o=>
   rw [hs] at r;exact .inr ⟨n,_,rfl,Jf hs,fo_gr F h.iv (h.iv.ob n o hs) r⟩
 ·injection f with f;injection r with r;omega
 ·injection f with f;subst f;rcases enc_of n o' r with ⟨ob,L,rfl⟩|B
  rotate_left
  ·intro E;have:=F.rd n (Aj.1 E).1;rw [(Jau B).1] at this;cases this
  obtain ⟨p,y⟩:=F.ob.at2 L;intro E;rw [F.out n (Aj.1 E).1] at y;cases y
 ·have:=slots h.iv.sl F.sl hd;have e:s.at d=(look d s.sl).getD (.c .any):=by unfold Dn.S.at;cases look d s.sl<;>rfl
  rw [e];exact this
 ·obtain ⟨l0,G⟩:=(FLo.at F.lo).2 i l M hl J;exact slots (h.iv.lo l (Au hl)) G hd
 ·exact fv_ok F (F.sl.mem p y)
 ·obtain ⟨i,K⟩:=Bf hl;obtain ⟨q,H⟩:∃q,s.lo[i]?=some q:=by have:=(Ad.1 K).1;exact ⟨_,Ag (by rw [<-(FLo.at F.lo).1];exact this)⟩
  obtain ⟨l0,G⟩:=(FLo.at F.lo).2 i q l H K;exact fv_ok F (G.mem p y)
 ·obtain ⟨v,r⟩:=src g o A;exact fo_ok F r
 ·rw [F.mo] at B;refine ⟨(h.iv.mo m B).1,(h.iv.mo m B).2.1,λg o E=>?_⟩;obtain ⟨p,y⟩:=F.ob.at2 E;rw [F.mo];exact F.nm _ (Qn y)
theorem Jpe{sh:Dn.S U}{hl:HL Ty.T sh.lt}(h:RepF nt w S s μ a fs)(d:sh.fit (dL wv) s=some hl):Goes nt w S s μ a fs (sh.mk' hl):=fit_goes h (fit_made d)
end
end Go.Dn
