/- Calls by contract: values up to nil slices. Conditions: none. -/
import Derived.Test.YtmfagdfkpjgeiaaDA
open List renaming mem_singleton → Aa, mem_cons_of_mem → Ab, getElem?_eq_some_iff → Ad, mem_cons_self → Ae, mem_append_right → Af, getElem?_eq_getElem → Ag, all_eq_true → Ah, mem_cons → Ai, mem_filter → Aj, mem_append_left → Ak, append_nil → Am, mem_flatMap → Ao, mem_map → Aq, map_cons → As, mem_of_getElem? → Au, flatMap_cons → Av, flatMap_append → Aw, length_append → Ax, length_eq_zero_iff → Ay, mem_append → Ba, getElem?_map → Bb, getElem?_of_mem → Be, length_map → Bf, getElem?_cons_zero → Bh, map_map → Bj, map_nil → Bk, append_assoc → Bm, not_mem_nil → Bn, set_append_right → Bp, nodup_cons → Bq, map_congr_left → Br, getElem?_drop → Bs, getElem?_append_right → Bv, getElem?_append_left → Bw, mem_or_eq_of_mem_set → By, length_cons → Bz, isEmpty_iff → Da, cons_append → Db, flatMap_nil → Dc, getElem?_cons_succ → De, flatMap → Df, map_append → Dg, length_eq_one_iff → Dh, filter → Di, mapM_cons → Dk, all_cons → Dl
open Bool renaming and_eq_true → Ac, not_eq_true' → Ar, false_ne_true → Bu
open Option renaming bind_some → Ap, map_some → Bd
open Nat renaming le_refl → Az, eq_of_beq_eq_true → Bc, zero_lt_one → Bg, add_sub_cancel_left → Bl, mul_div_cancel → Bt, zero_add → Dd, zero_le → Dj, add_mul → Dm
open Prod.mk renaming injEq → Bo
namespace Go.Dn
open Go Go.Vv
set_option linter.unusedVariables false
set_option linter.unusedSimpArgs false
inductive Up:AV→AV→Prop
 | refl (v:AV):Up v v
 | nils:Up .nils (.lst 0 [])
 | lst (n:Nat) (l l':List AV) (hl:l.length=l'.length) (h:∀(i:Nat) (x y:AV),l[i]?=some x→l'[i]?=some y→Up x y):Up (.lst n l) (.lst n l')
 | rptr (l l':List AV) (hl:l.length=l'.length) (h:∀(i:Nat) (x y:AV),l[i]?=some x→l'[i]?=some y→Up x y):Up (.rptr l) (.rptr l')
 | agg (l l':List AV) (hl:l.length=l'.length) (h:∀(i:Nat) (x y:AV),l[i]?=some x→l'[i]?=some y→Up x y):Up (.agg l) (.agg l')
structure UpL (l l':List AV):Prop where
 len:l.length=l'.length
 at':∀(i:Nat) (x y:AV),l[i]?=some x→l'[i]?=some y→Up x y
theorem UpL.back {l l':List AV} (h:UpL l l') {i:Nat} {y:AV} (hy:l'[i]?=some y):∃x,l[i]?=some x∧Up x y:=by
 have hlt:i<l.length:=by rw [h.len];exact (Ad.1 hy).1
 exact ⟨l[i],Ag hlt,h.at' i _ y (Ag hlt) hy⟩
theorem UpL.refl (l:List AV):UpL l l:=⟨rfl,fun i x y hx hy=>by rw [hx] at hy;injection hy with hy;subst hy;exact .refl x⟩
theorem UpL.nil:UpL [] []:=.refl []
theorem UpL.cons {x y:AV} {l l':List AV} (h:Up x y) (t:UpL l l'):UpL (x::l) (y::l') :=
 ⟨by simp [t.len],fun i u v hu hv=>by
  cases i with
  | zero=>simp only [Bh,Option.some.injEq] at hu hv;subst hu;subst hv;exact h
  | succ i=>exact t.at' i u v hu hv⟩
theorem UpL.nil_inv {l:List AV} (h:UpL l []):l=[]:=Ay.1 h.len
theorem UpL.cons_inv {l l':List AV} {y:AV} (h:UpL l (y::l')):∃x m,l=x::m∧Up x y∧UpL m l':=by
 cases l with
 | nil=>exact absurd h.len (by simp)
 | cons x m=>exact ⟨x,m,rfl,h.at' 0 x y rfl rfl,by simpa using h.len,fun i u v hu hv=>h.at' (i+1) u v hu hv⟩
theorem UpL.append {a b c d:List AV} (h:UpL a c) (k:UpL b d):UpL (a++b) (c++d):=by
 induction c generalizing a with
 | nil=>rw [h.nil_inv];exact k
 | cons y c ih=>obtain ⟨x,m,rfl,h1,h2⟩:=h.cons_inv;exact .cons h1 (ih h2)
theorem UpL.append_inv {l c d:List AV} (h:UpL l (c++d)):∃a b,l=a++b∧UpL a c∧UpL b d:=by
 induction c generalizing l with
 | nil=>exact ⟨[],l,rfl,.nil,h⟩
 | cons y c ih =>
  obtain ⟨x,m,rfl,h1,h2⟩:=h.cons_inv
  obtain ⟨a,b,rfl,h3,h4⟩:=ih h2
  exact ⟨x::a,b,rfl,.cons h1 h3,h4⟩
theorem UpL.drop {l c:List AV} (h:UpL l c) (k:Nat):UpL (l.drop k) (c.drop k) :=
 ⟨by simp [h.len],fun i x y hx hy=>h.at' (k+i) x y (by simpa [Bs] using hx) (by simpa [Bs] using hy)⟩
theorem UpL.take {l c:List AV} (h:UpL l c) (k:Nat):UpL (l.take k) (c.take k) :=
 ⟨by simp [h.len],fun i x y hx hy=>by
  rw [List.getElem?_take] at hx hy
  split at hx
  ·rename_i hi;rw [if_pos hi] at hy;exact h.at' i x y hx hy
  ·cases hx⟩
theorem UpL.mkLst {l l':List AV} {n:Nat} (h:UpL l l'):Up (.lst n l) (.lst n l'):=.lst n l l' h.len h.at'
theorem UpL.mkRptr {l l':List AV} (h:UpL l l'):Up (.rptr l) (.rptr l'):=.rptr l l' h.len h.at'
theorem UpL.mkAgg {l l':List AV} (h:UpL l l'):Up (.agg l) (.agg l'):=.agg l l' h.len h.at'
theorem Up.lst_inv {v:AV} {n:Nat} {l':List AV} (h:Up v (.lst n l')):(v=.nils∧n=0∧l'=[])∨∃l,v=.lst n l∧UpL l l':=by
 generalize hv:AV.lst n l'=u at h
 cases h with
 | refl=>subst hv;exact .inr ⟨l',rfl,.refl l'⟩
 | nils=>injection hv with h1 h2;exact .inl ⟨rfl,h1,h2⟩
 | lst m l m' hl h=>injection hv with h1 h2;subst h1;subst h2;exact .inr ⟨l,rfl,hl,h⟩
 | rptr=>cases hv
 | agg=>cases hv
theorem Up.rptr_inv {v:AV} {l':List AV} (h:Up v (.rptr l')):∃l,v=.rptr l∧UpL l l':=by
 generalize hv:AV.rptr l'=u at h
 cases h with
 | refl=>subst hv;exact ⟨l',rfl,.refl l'⟩
 | nils=>cases hv
 | lst=>cases hv
 | rptr l m' hl h=>injection hv with h2;subst h2;exact ⟨l,rfl,hl,h⟩
 | agg=>cases hv
theorem Up.agg_inv {v:AV} {l':List AV} (h:Up v (.agg l')):∃l,v=.agg l∧UpL l l':=by
 generalize hv:AV.agg l'=u at h
 cases h with
 | refl=>subst hv;exact ⟨l',rfl,.refl l'⟩
 | nils=>cases hv
 | lst=>cases hv
 | rptr=>cases hv
 | agg l m' hl h=>injection hv with h2;subst h2;exact ⟨l,rfl,hl,h⟩
theorem Up.same {v v':AV} (h:Up v v') (h1:∀n l,v'≠.lst n l) (h2:∀l,v'≠.rptr l) (h3:∀l,v'≠.agg l):v=v':=by
 cases h with
 | refl=>rfl
 | nils=>exact absurd rfl (h1 _ _)
 | lst=>exact absurd rfl (h1 _ _)
 | rptr=>exact absurd rfl (h2 _)
 | agg=>exact absurd rfl (h3 _)
theorem Up.rep {w:World} {S:Nat→Prop} {v v':AV} (h:Up v v'):∀ {c:Value},RepP w S v c→RepP w S v' c:=by
 induction h with
 | refl=>exact fun h=>h
 | nils=>intro c h;cases h;exact .lst0
 | lst n l l' hl hp ih =>
  have bk:UpL l l':=⟨hl,hp⟩
  intro c h
  cases h with
  | lst0=>rw [Ay.1 (hl.symm.trans rfl)];exact .lst0
  | lst _ _ a cap cv hs hn hc h1 hr =>
   refine .lst n l' a cap cv (fun hne=>hs ?_) hn (fun i y hy=>?_) (fun i y hy=>?_) (fun i y hy=>?_)
   ·rintro rfl;exact hne (Ay.1 (hl.symm.trans rfl))
   ·obtain ⟨x,hx,-⟩:=bk.back hy;exact hc i x hx
   ·obtain ⟨x,hx,-⟩:=bk.back hy;exact h1 i x hx
   ·obtain ⟨x,hx,-⟩:=bk.back hy;exact ih i x y hx hy (hr i x hx)
 | rptr l l' hl hp ih =>
  have bk:UpL l l':=⟨hl,hp⟩
  intro c h
  cases h with
  | rptr _ a cv hs hc h1 hr =>
   refine .rptr l' a cv (fun hne=>hs ?_) (fun i y hy=>?_) (fun i y hy=>?_) (fun i y hy=>?_)
   ·rintro rfl;exact hne (Ay.1 (hl.symm.trans rfl))
   ·obtain ⟨x,hx,-⟩:=bk.back hy;exact hc i x hx
   ·obtain ⟨x,hx,-⟩:=bk.back hy;exact h1 i x hx
   ·obtain ⟨x,hx,-⟩:=bk.back hy;exact ih i x y hx hy (hr i x hx)
 | agg l l' hl hp ih =>
  have bk:UpL l l':=⟨hl,hp⟩
  intro c h
  cases h with
  | agg _ cs hl' h1 hr =>
   refine .agg l' cs (hl.symm.trans hl') (fun i y hy=>?_) (fun i y hy=>?_)
   ·obtain ⟨x,hx,-⟩:=bk.back hy;exact h1 i x hx
   ·obtain ⟨x,hx,-⟩:=bk.back hy;exact ih i x y hx hy (hr i x hx)
theorem Jdv:∀(t:Ty) {l:List AV} {x y:t.T},UpL l (t.cs x)→UpL l (t.cs y)→x=y
 | .u,_,_,_,_,_=>rfl
 | .int k,l,x,y,h1,h2=>by
  obtain ⟨u,m,rfl,a,-⟩:=h1.cons_inv
  obtain ⟨u',m',e,b,-⟩:=h2.cons_inv
  injection e with e1 e2
  subst e1
  have a:=a.same (fun _ _ h=>by cases h) (fun _ h=>by cases h) (fun _ h=>by cases h)
  have b:=b.same (fun _ _ h=>by cases h) (fun _ h=>by cases h) (fun _ h=>by cases h)
  rw [a] at b
  injection b
 | .bool,l,x,y,h1,h2=>by
  obtain ⟨u,m,rfl,a,-⟩:=h1.cons_inv
  obtain ⟨u',m',e,b,-⟩:=h2.cons_inv
  injection e with e1 e2
  subst e1
  have a:=a.same (fun _ _ h=>by cases h) (fun _ h=>by cases h) (fun _ h=>by cases h)
  have b:=b.same (fun _ _ h=>by cases h) (fun _ h=>by cases h) (fun _ h=>by cases h)
  rw [a] at b
  injection b
 | .str,l,x,y,h1,h2=>by
  obtain ⟨u,m,rfl,a,-⟩:=h1.cons_inv
  obtain ⟨u',m',e,b,-⟩:=h2.cons_inv
  injection e with e1 e2
  subst e1
  have a:=a.same (fun _ _ h=>by cases h) (fun _ h=>by cases h) (fun _ h=>by cases h)
  have b:=b.same (fun _ _ h=>by cases h) (fun _ h=>by cases h) (fun _ h=>by cases h)
  rw [a] at b
  injection b
 | .p a b,l,(x1,x2),(y1,y2),h1,h2=>by
  obtain ⟨l1,l2,rfl,a1,a2⟩:=UpL.append_inv (c:=a.cs x1) (d:=b.cs x2) h1
  obtain ⟨m1,m2,e,b1,b2⟩:=UpL.append_inv (c:=a.cs y1) (d:=b.cs y2) h2
  obtain ⟨e1,e2⟩:=List.append_inj e (by rw [a1.len,b1.len,Qs,Qs])
  subst e1
  subst e2
  rw [Jdv a a1 b1,Jdv b a2 b2]
 | .ls t,l,x,y,h1,h2=>by
  have go:∀(x y:List t.T) (l:List AV),x.length=y.length→UpL l (x.flatMap t.cs)→UpL l (y.flatMap t.cs)→x=y:=by
   intro x
   induction x with
   | nil=>intro y l hl _ _;cases y with|nil=>rfl|cons=>simp at hl
   | cons u x ih =>
    intro y l hl h1 h2
    cases y with
    | nil=>simp at hl
    | cons v y =>
     rw [Av] at h1 h2
     obtain ⟨l1,l2,rfl,a1,a2⟩:=h1.append_inv
     obtain ⟨m1,m2,e,b1,b2⟩:=h2.append_inv
     obtain ⟨e1,e2⟩:=List.append_inj e (by rw [a1.len,b1.len,Qs,Qs])
     subst e1
     subst e2
     rw [Jdv t a1 b1,ih y l2 (by simpa using hl) a2 b2]
  obtain ⟨u,m,rfl,a,-⟩:=h1.cons_inv
  obtain ⟨u',m',e,b,-⟩:=h2.cons_inv
  injection e with e1 e2
  subst e1
  rcases a.lst_inv with ⟨rfl,hn,ha⟩|⟨q,rfl,ha⟩
  ·rcases b.lst_inv with ⟨-,hm,hb⟩|⟨q,hq,-⟩
   ·have hn:x=[]:=Ay.1 hn
    have hm:y=[]:=Ay.1 hm
    rw [hn,hm]
   ·cases hq
  ·rcases b.lst_inv with ⟨hq,-,-⟩|⟨q',hq,hb⟩
   ·cases hq
   ·injection hq with n1 n2
    subst n2
    exact go x y q n1 ha hb
 | .bf f t,l,x,y,h1,h2=>by
  obtain ⟨u,m,rfl,a,-⟩:=h1.cons_inv
  obtain ⟨u',m',e,b,-⟩:=h2.cons_inv
  injection e with e1 e2
  subst e1
  have a:=a.same (fun _ _ h=>by cases h) (fun _ h=>by cases h) (fun _ h=>by cases h)
  have b:=b.same (fun _ _ h=>by cases h) (fun _ h=>by cases h) (fun _ h=>by cases h)
  rw [a] at b
  injection b with _ b
  exact Jdv t (l:=t.cs x) (.refl _) (by rw [b];exact .refl _)
end Go.Dn
namespace Go.Dn
open Go Go.Vv
set_option linter.unusedVariables false
set_option linter.unusedSimpArgs false
def SnL (h:Heap) (k:Nat) (L U:List AV) (N:List Nat):Prop:=∃ps,L.mapM (snap h k)=some ps∧UpL (ps.map (·.1)) U∧∀g,g∈ps.flatMap (·.2)↔g∈N
section
variable {h:Heap} {k:Nat}
theorem SnL.nil:SnL h k [] [] []:=⟨[],rfl,.nil,fun g=>by simp⟩
theorem SnL.cons {v u y:AV} {ns N M:List Nat} {L U:List AV} (hx:snap h k v=some (u,ns)) (hu:Up u y) (hn:∀g,g∈ns↔g∈N) (ht:SnL h k L U M):SnL h k (v::L) (y::U) (N++M):=by
 obtain ⟨ps,h1,h2,h3⟩:=ht
 refine ⟨(u,ns)::ps,by simp [Dk,hx,h1],?_,fun g=>?_⟩
 ·simp only [As];exact .cons hu h2
 ·simp only [Av,Ba,hn,h3]
theorem SnL.append {A B U V:List AV} {N M:List Nat} (ha:SnL h k A U N) (hb:SnL h k B V M):SnL h k (A++B) (U++V) (N++M):=by
 obtain ⟨p,a1,a2,a3⟩:=ha
 obtain ⟨q,b1,b2,b3⟩:=hb
 refine ⟨p++q,by simp [List.mapM_append,a1,b1],?_,fun g=>?_⟩
 ·simp only [Dg];exact a2.append b2
 ·simp only [Aw,Ba,a3,b3]
theorem Jd8:∀ {L:List AV},L.all AV.flat=true→L.mapM (snap h (k+1))=some (L.map fun v=>(v,[]))
 | [],_=>rfl
 | v::L,hf=>by
  simp only [Dl,Ac] at hf
  simp [Dk,zh h k v hf.1,Jd8 hf.2]
theorem SnL.flat {L:List AV} (hf:L.all AV.flat=true):SnL h (k+1) L L []:=by
 refine ⟨_,Jd8 hf,?_,fun g=>?_⟩
 ·rw [Bj]
  rw [show L.map ((·.1) ∘ fun v=>((v,[]):AV×List Nat))=L from List.map_id' L]
  exact .refl L
 ·simp only [Ao,Aq,Bn,iff_false]
  rintro ⟨a,⟨b,hb,rfl⟩,hg⟩
  cases hg
theorem SnL.isFlat {L U:List AV} {N:List Nat} (hf:L.all AV.flat=true) (hs:SnL h (k+1) L U N):UpL L U∧∀g,g∉N:=by
 obtain ⟨ps,h1,h2,h3⟩:=hs
 rw [Jd8 hf] at h1
 injection h1 with h1
 subst h1
 rw [Bj,show L.map ((·.1) ∘ fun v=>((v,[]):AV×List Nat))=L from List.map_id' L] at h2
 exact ⟨h2,fun g hg=>by
  have:=(h3 g).2 hg
  simp only [Ao,Aq] at this
  obtain ⟨a,⟨b,hb,rfl⟩,hg⟩:=this
  cases hg⟩
theorem Ku (t:Ty) (l:List t.T):(l.flatMap t.cs).all AV.flat=true:=by
 induction l with
 | nil=>rfl
 | cons x l ih=>rw [Av,List.all_append,Yc,ih];rfl
theorem Jho {g ver esz len off:Nat} {el:TypeId} {cells U:List AV} {z:Bool} {N:List Nat} (hg:h g=some (.arr ver esz el cells z)) (hs:SnL h (k+1) (Vv.cut cells (off * esz) (len * esz)) U N) (hl:(off+len) * esz≤cells.length) :
  ∃u ns,snap h (k+2) (.arr g ver off len)=some (u,ns)∧Up u (.lst len U)∧∀g',g'∈ns↔g'∈g::N:=by
 by_cases hf:(Vv.cut cells (off * esz) (len * esz)).all AV.flat=true
 ·obtain ⟨a,b⟩:=hs.isFlat hf
  refine ⟨.lst len (Vv.cut cells (off * esz) (len * esz)),[g],?_,a.mkLst,fun g'=>?_⟩
  ·rw [snap];simp only [hg];rw [if_pos ⟨trivial,hl⟩];simp only [hf,if_true]
  ·simp [b]
 ·obtain ⟨ps,h1,h2,h3⟩:=hs
  refine ⟨.lst len (ps.map (·.1)),g::ps.flatMap (·.2),?_,h2.mkLst,fun g'=>?_⟩
  ·rw [snap];simp only [hg];rw [if_pos ⟨trivial,hl⟩];simp only [hf,h1];simp
  ·rw [Ai,Ai,h3]
end
section
variable {s:S Ty.T}
def Jra (s:S Ty.T) (k:Nat) (lw:(t:Ty)→C Ty.T→Option t.T) (N:C Ty.T→List Nat):Prop :=
 ∀(t:Ty) (c:C Ty.T) (x:t.T),t.one=true→lw t c=some x→∃u ns,snap (encH s) k (encC s c)=some (u,ns)∧UpL [u] (t.cs x)∧∀g,g∈ns↔g∈N c
theorem Jbk {k:Nat} {lw:(t:Ty)→C Ty.T→Option t.T} {N:C Ty.T→List Nat} (hlw:Jra s k lw N) {t:Ty} (h1:t.one=true) {c:C Ty.T} {l r:List (C Ty.T)} {x:t.T} (h:(lw t c).map (·,l)=some (x,r)) :
  ∃l1,c::l=l1++r∧SnL (encH s) k (l1.map (encC s)) (t.cs x) (l1.flatMap N):=by
 cases hc:lw t c with
 | none=>rw [hc] at h;cases h
 | some y =>
  rw [hc] at h
  simp only [Bd,Option.some.injEq,Bo] at h
  obtain ⟨rfl,rfl⟩:=h
  obtain ⟨u,ns,a,b,c'⟩:=hlw t c y h1 hc
  refine ⟨[c],rfl,?_⟩
  obtain ⟨v,hv⟩:∃v,t.cs y=[v]:=Dh.1 b.len.symm
  rw [hv] at b ⊢
  have:=SnL.cons a (b.at' 0 u v rfl rfl) c' SnL.nil
  simpa using this
theorem ji {k:Nat} {lw:(t:Ty)→C Ty.T→Option t.T} {N:C Ty.T→List Nat} (hlw:Jra s k lw N):∀(t:Ty) {l r:List (C Ty.T)} {x:t.T},impl val lw t l=some (x,r) →
  ∃l1,l=l1++r∧SnL (encH s) k (l1.map (encC s)) (t.cs x) (l1.flatMap N)
 | .u,l,r,x,h=>by simp only [impl] at h;injection h with h;simp only [Bo] at h;obtain ⟨-,rfl⟩:=h;exact ⟨[],rfl,.nil⟩
 | .p a b,l,r,x,h=>by
  simp only [impl] at h
  cases ha:impl val lw a l with
  | none=>rw [ha] at h;cases h
  | some p =>
   obtain ⟨u,l1⟩:=p
   rw [ha] at h
   simp only [Ap] at h
   cases hb:impl val lw b l1 with
   | none=>rw [hb] at h;cases h
   | some q =>
    obtain ⟨v,l2⟩:=q
    rw [hb] at h
    simp only [Bd,Option.some.injEq,Bo] at h
    obtain ⟨hx,rfl⟩:=h
    subst hx
    obtain ⟨m1,rfl,s1⟩:=ji hlw a ha
    obtain ⟨m2,rfl,s2⟩:=ji hlw b hb
    refine ⟨m1++m2,by rw [Bm],?_⟩
    rw [Dg,Aw]
    exact s1.append s2
 | .int kk,l,r,x,h=>by
  cases l with
  | nil=>simp only [impl] at h;cases h
  | cons c m=>simp only [impl] at h;exact Jbk hlw rfl h
 | .bool,l,r,x,h=>by
  cases l with
  | nil=>simp only [impl] at h;cases h
  | cons c m=>simp only [impl] at h;exact Jbk hlw rfl h
 | .str,l,r,x,h=>by
  cases l with
  | nil=>simp only [impl] at h;cases h
  | cons c m=>simp only [impl] at h;exact Jbk hlw rfl h
 | .ls t,l,r,x,h=>by
  cases l with
  | nil=>simp only [impl] at h;cases h
  | cons c m=>simp only [impl] at h;exact Jbk hlw rfl h
 | .bf f t,l,r,x,h=>by
  cases l with
  | nil=>simp only [impl] at h;cases h
  | cons c m=>simp only [impl] at h;exact Jbk hlw rfl h
theorem zf {k:Nat} {lw:(t:Ty)→C Ty.T→Option t.T} {N:C Ty.T→List Nat} (hlw:Jra s k lw N) (t:Ty):∀(n:Nat) {l:List (C Ty.T)} {x:List t.T},Zi val lw t n l=some x →
  SnL (encH s) k (l.map (encC s)) (x.flatMap t.cs) (l.flatMap N)
 | 0,l,x,h=>by cases h
 | n+1,l,x,h=>by
  cases l with
  | nil=>simp only [Zi] at h;injection h with h;subst h;exact .nil
  | cons c l =>
   simp only [Zi] at h
   cases ha:impl val lw t (c::l) with
   | none=>rw [ha] at h;cases h
   | some p =>
    obtain ⟨u,r⟩:=p
    rw [ha] at h
    simp only [Ap] at h
    cases hb:Zi val lw t n r with
    | none=>rw [hb] at h;cases h
    | some y =>
     rw [hb] at h
     have:=Option.some.inj h
     subst this
     obtain ⟨l1,e,s1⟩:=ji hlw t ha
     rw [e,Dg,Aw]
     exact s1.append (zf hlw t n hb)
theorem Jc0 (k:Nat) (N:C Ty.T→List Nat) (h1:∀t v,N (.lf t v)=[]) (h2:∀b,N (.kb b)=[]):Jra s (k+1) (Qd val) N:=fun t c x ht h=>by
 have e:=X2 (s:=s) ht h
 have hN:N c=[]:=by
  unfold Qd at h
  split at h
  ·exact h1 _ _
  ·exact h2 _
  ·cases h
 have hf:=Yc t x
 rw [e] at hf
 refine ⟨encC s c,[],zh _ k _ (by simpa using hf),by rw [e];exact .refl _,fun g=>by rw [hN]⟩
end
end Go.Dn
namespace Go.Dn
open Go Go.Vv
set_option linter.unusedVariables false
set_option linter.unusedSimpArgs false
section
variable {s:S Ty.T}
theorem Yd (ob:List (Nat×Ob Ty.T)) (n:Nat) (t:Ty) (v:t.T):Jt ob n (.lf t v)=[]:=by cases n<;>rfl
theorem Jl1 (ob:List (Nat×Ob Ty.T)) (n:Nat) (b:Bool):Jt ob n (.kb b)=[]:=by cases n<;>rfl
theorem Jmr (ob:List (Nat×Ob Ty.T)) (n:Nat):Jt ob n (.k .nils)=[]:=by cases n<;>rfl
theorem Jku {l:List AV} {n:Nat} (h:l.length=n):Vv.cut l 0 n=l:=by
 subst h;simp [Vv.cut]
theorem Jpy {α β:Type} {f:α→Option β}:∀ {l:List α} {ps:List β},l.mapM f=some ps→ps.length=l.length
 | [],ps,h=>by rw [List.mapM_nil] at h;injection h with h;subst h;rfl
 | x::l,ps,h=>by
  rw [Dk] at h
  cases hx:f x with
  | none=>rw [hx] at h;cases h
  | some y =>
   cases hl:l.mapM f with
   | none=>rw [hx,hl] at h;cases h
   | some q =>
    rw [hx,hl] at h
    injection h with h
    subst h
    simp [Jpy hl]
theorem SnL.len {h:Heap} {k:Nat} {L U:List AV} {N:List Nat} (hs:SnL h k L U N):L.length=U.length:=by
 obtain ⟨ps,h1,h2,-⟩:=hs
 have:=h2.len
 rw [Bf,Jpy h1] at this
 exact this
theorem Jq {t:Ty} (l:List t.T):(l.flatMap t.cs).length=l.length * t.sz:=by
 induction l with
 | nil=>simp
 | cons x l ih=>rw [Av,Ax,ih,Qs,Bz,Nat.succ_mul,Nat.add_comm]
theorem Jqp {n k:Nat} (ih:Jra s (k+1) (K4 val s.ob n) (Jt s.ob n)) {t:Ty} {g:Nat} {o:Ob Ty.T} (ho:look g s.ob=some o) {x:List t.T} (h:rowW val (K4 val s.ob n) t o=some x) :
  ∃u ns,snap (encH s) (k+2) (.arr g o.ver 0 o.lenO)=some (u,ns)∧Up u (.lst x.length (x.flatMap t.cs))∧∀g',g'∈ns↔g'∈Jt s.ob (n+1) (.own g o.ver):=by
 cases o with
 | mp v kt vt es=>simp only [rowW] at h;cases h
 | em v kt vt el=>simp only [rowW] at h;cases h
 | box v cs=>simp only [rowW] at h;cases h
 | lit v e el xs z =>
  simp only [rowW] at h
  split at h
  ·rename_i he
   obtain ⟨rfl,he⟩:=he
   have hs:=zf ih t _ h
   have hl:(xs.map (encC s)).length=x.length * t.sz:=by rw [hs.len,Jq]
   have hlo:(Ob.lit v t.sz el xs z).lenO=x.length:=by
    show xs.length / t.sz=x.length
    rw [Bf] at hl
    rw [hl,Bt _ he]
   rw [hlo]
   have:=Jho (h:=encH s) (k:=k) (g:=g) (ver:=v) (esz:=t.sz) (len:=x.length) (off:=0) (el:=el) (cells:=xs.map (encC s)) (U:=x.flatMap t.cs) (z:=z) (N:=xs.flatMap (Jt s.ob n)) (Jf ho) (by rw [Nat.zero_mul,Jku hl];exact hs) (by rw [Dd,hl];exact Az _)
   obtain ⟨u,ns,a,b,c⟩:=this
   exact ⟨u,ns,a,b,fun g'=>by rw [c];simp only [Jt,ho]⟩
  ·cases h
 | row v e el t' l xs nest z =>
  cases nest with
  | some p=>simp only [rowW] at h;cases h
  | none =>
   simp only [rowW] at h
   split at h
   ·rename_i he
    obtain ⟨rfl,he⟩:=he
    cases hc:cast? (ι:=Ty.T) (.ls t') (.ls t) l with
    | none=>rw [hc] at h;cases h
    | some l1 =>
     rw [hc] at h
     obtain ⟨e1,rfl⟩:=Kf hc
     injection e1 with e1
     subst e1
     simp only [Ap] at h
     obtain ⟨L,rfl⟩:∃L:List t'.T,(show Ty.T (.ls t') from L)=l:=⟨l,rfl⟩
     have key:∃y:List t'.T,x=L++y∧SnL (encH s) (k+1) (xs.map (encC s)) (y.flatMap t'.cs) (xs.flatMap (Jt s.ob n)):=by
      split at h
      ·have:=Option.some.inj h
       subst this
       exact ⟨[],(Am L).symm,.nil⟩
      ·rename_i hne
       cases hm:Zi val (K4 val s.ob n) t' (xs.length+1) xs with
       | none=>rw [hm] at h;cases h
       | some y =>
        rw [hm] at h
        have:=Option.some.inj h
        subst this
        exact ⟨y,rfl,zf ih t' _ hm⟩
     obtain ⟨y,rfl,hs⟩:=key
     have hl:(xs.map (encC s)).length=y.length * t'.sz:=by rw [hs.len,Jq]
     have hlo:(Ob.row v t'.sz el t' L xs none z).lenO=(L++y).length:=by
      show L.length+xs.length / t'.sz=_
      rw [Bf] at hl
      rw [hl,Bt _ he,Ax]
     rw [hlo]
     have hall:=(SnL.flat (h:=encH s) (k:=k) (Ku t' L)).append hs
     rw [←Aw,List.nil_append] at hall
     have hll:(L.flatMap t'.cs++xs.map (encC s)).length=(L++y).length * t'.sz:=by rw [Ax,Jq,hl,Ax,Dm]
     obtain ⟨u,ns,a,b,c⟩:=Jho (h:=encH s) (k:=k) (g:=g) (ver:=v) (esz:=t'.sz) (len:=(L++y).length) (off:=0) (el:=el) (cells:=L.flatMap t'.cs++xs.map (encC s)) (U:=(L++y).flatMap t'.cs) (z:=z) (N:=xs.flatMap (Jt s.ob n)) (Jf ho) (by rw [Nat.zero_mul,Jku hll];exact hall) (by rw [Dd,hll];exact Az _)
     exact ⟨u,ns,a,b,fun g'=>by rw [c];simp only [Jt,ho,Am]⟩
   ·cases h
theorem Xd:∀(n k:Nat),n+1≤k→Jra s k (K4 val s.ob n) (Jt s.ob n)
 | 0,0,h=>by omega
 | 0,k+1,_=>Jc0 k _ (Yd _ _) (Jl1 _ _)
 | n+1,0,h=>by omega
 | n+1,1,h=>by omega
 | n+1,k+2,hk=>by
  have ih:=Xd n (k+1) (by omega)
  have lf:=Jc0 (s:=s) (k+1) (Jt s.ob (n+1)) (Yd _ _) (Jl1 _ _)
  intro t c x ht h
  simp only [K4] at h
  split at h
  ·split at h
   ·have:=Option.some.inj h
    subst this
    exact ⟨.nils,[],rfl,.cons .nils .nil,fun g=>by rw [Jmr]⟩
   ·cases h
  ·rename_i g ver
   split at h
   ·rename_i t
    cases ho:look g s.ob with
    | none=>rw [ho] at h;cases h
    | some o =>
     rw [ho] at h
     simp only at h
     split at h
     ·rename_i hv
      subst hv
      obtain ⟨u,ns,a,b,c⟩:=Jqp ih ho h
      refine ⟨u,ns,?_,.cons b .nil,c⟩
      have:Ki s g o.ver=o.lenO:=by simp [Ki,ho]
      simp only [encC,this]
      exact a
     ·cases h
   ·cases h
  ·exact lf t _ x ht h
end
end Go.Dn
namespace Go.Dn
open Go Go.Vv
set_option linter.unusedVariables false
set_option linter.unusedSimpArgs false
def argA (a:AK×Ty) (x:a.2.T):AV :=
 match a.1 with
 | .one=>Ks (a.2.cs x)
 | .ag=>.agg (a.2.cs x)
 | .rp=>.rptr (a.2.cs x)
def Xy:(as:List (AK×Ty))→(K6 (as.map (·.2))).T→List AV
 | [],_=>[]
 | [a],x=>[argA a x]
 | a::b::r,(x,y)=>argA a x::Xy (b::r) y
def akOK (a:AK×Ty):Bool:=match a.1 with|.one=>a.2.one|_=>true
def Ctr.ok (c:Ctr):Bool:=c.as.all akOK
theorem Jg3 {t:Ty} (h:t.one=true) (x:t.T):∃v,t.cs x=[v]:=by
 cases t<;>first|exact ⟨_,rfl⟩|cases h
theorem Jqa {a:AK×Ty} (hok:akOK a=true) {v:AV} {x y:a.2.T} (h1:Up v (argA a x)) (h2:Up v (argA a y)):x=y:=by
 obtain ⟨k,t⟩:=a
 cases k with
 | one =>
  obtain ⟨u,hu⟩:=Jg3 hok x
  obtain ⟨u',hu'⟩:=Jg3 hok y
  have h1:Up v (Ks (t.cs x)):=h1
  have h2:Up v (Ks (t.cs y)):=h2
  rw [hu] at h1
  rw [hu'] at h2
  exact Jdv t (l:=[v]) (by rw [hu];exact .cons h1 .nil) (by rw [hu'];exact .cons h2 .nil)
 | ag =>
  obtain ⟨l,rfl,a⟩:=Up.agg_inv h1
  obtain ⟨l',e,b⟩:=Up.agg_inv h2
  injection e with e
  subst e
  exact Jdv t a b
 | rp =>
  obtain ⟨l,rfl,a⟩:=Up.rptr_inv h1
  obtain ⟨l',e,b⟩:=Up.rptr_inv h2
  injection e with e
  subst e
  exact Jdv t a b
theorem Jkc:∀ {as:List (AK×Ty)} (hok:as.all akOK=true) {l:List AV} {x y:(K6 (as.map (·.2))).T},UpL l (Xy as x)→UpL l (Xy as y)→x=y
 | [],_,_,_,_,_,_=>rfl
 | [a],hok,l,x,y,h1,h2=>by
  simp only [Xy] at h1 h2
  obtain ⟨u,m,rfl,a1,-⟩:=h1.cons_inv
  obtain ⟨u',m',e,a2,-⟩:=h2.cons_inv
  injection e with e1 e2
  subst e1
  exact Jqa (by simpa using hok) a1 a2
 | a::b::r,hok,l,(x1,x2),(y1,y2),h1,h2=>by
  simp only [Xy] at h1 h2
  obtain ⟨u,m,rfl,a1,b1⟩:=h1.cons_inv
  obtain ⟨u',m',e,a2,b2⟩:=h2.cons_inv
  injection e with e1 e2
  subst e1
  subst e2
  rw [Dl,Ac] at hok
  have e1:x1=y1:=Jqa hok.1 a1 a2
  have e2:x2=y2:=Jkc hok.2 b1 b2
  rw [e1,e2]
noncomputable def resA (rs:List (Bool×Ty)) (r:(K6 (rs.map (·.2))).T):AV:=encV ⟨[],[],[],[],none⟩ (jf val rs r)
open Classical in
noncomputable def callC (Γ:FuncId→Option Ctr):Vv.Call:=fun f vs m =>
 match m,Γ f with
 | none,some c=>if h:∃x r,UpL vs (Xy c.as x)∧c.fn x=some r then some (resA c.rs h.choose_spec.choose,fun _=>none) else none
 | _,_=>none
theorem Jjh {Γ:FuncId→Option Ctr} {f:FuncId} {c:Ctr} (hΓ:Γ f=some c) (hok:c.ok=true) {vs:List AV} {x:(K6 (c.as.map (·.2))).T} {r:(K6 (c.rs.map (·.2))).T} (hu:UpL vs (Xy c.as x)) (hr:c.fn x=some r) :
  callC Γ f vs none=some (resA c.rs r,fun _=>none):=by
 have h:∃x r,UpL vs (Xy c.as x)∧c.fn x=some r:=⟨x,r,hu,hr⟩
 simp only [callC,hΓ]
 rw [dif_pos h]
 have key:∀y q,UpL vs (Xy c.as y)→c.fn y=some q→q=r:=fun y q h1 h2=>by
  rw [Jkc hok h1 hu,hr] at h2
  exact (Option.some.inj h2).symm
 rw [key _ _ h.choose_spec.choose_spec.1 h.choose_spec.choose_spec.2]
theorem Jhf {Γ:FuncId→Option Ctr} {f:FuncId} {vs:List AV} {m:Option (Heap×Nat)} {v:AV} {h':Heap} (h:callC Γ f vs m=some (v,h')) :
  ∃c x r,Γ f=some c∧m=none∧UpL vs (Xy c.as x)∧c.fn x=some r∧v=resA c.rs r:=by
 unfold callC at h
 split at h
 ·rename_i c hΓ
  split at h
  ·rename_i hx
   injection h with h
   injection h with h1 h2
   exact ⟨c,hx.choose,hx.choose_spec.choose,hΓ,rfl,hx.choose_spec.choose_spec.1,hx.choose_spec.choose_spec.2,h1.symm⟩
  ·cases h
 ·cases h
section
variable {s:S Ty.T} {α:Type} {r:α}
theorem Jwe {t:Ty} (ht:t.one=true) {c:C Ty.T} {k:t.T→Option α} (h:oneL val s.ob t c k=some r):∃x,k x=some r∧∃u ns,snap (encH s) depth (encC s c)=some (u,ns)∧Up u (Ks (t.cs x))∧∀g,g∈ns↔g∈Jt s.ob 4 c:=by
 unfold oneL at h
 split at h
 ·rename_i g ver off len
  split at h
  ·rename_i v e el t' l z ho
   split at h
   ·rename_i hc
    obtain ⟨rfl,rfl,he⟩:=hc
    obtain ⟨y,hy,h⟩:=Jd h
    obtain ⟨e1,rfl⟩:=Kf hy
    subst e1
    obtain ⟨A,rfl⟩:∃A:Int,(show Ty.T I from A)=off:=⟨off,rfl⟩
    obtain ⟨B,rfl⟩:∃B:Int,(show Ty.T I from B)=len:=⟨len,rfl⟩
    obtain ⟨L,rfl⟩:∃L:List t'.T,(show Ty.T (.ls t') from L)=l:=⟨l,rfl⟩
    obtain ⟨g1,h⟩:=Jv h
    obtain ⟨g2,h⟩:=Jv h
    obtain ⟨g3,h⟩:=Jv h
    have g1:(0:Int)≤A:=Yf g1
    have g2:(0:Int)≤B:=Yf g2
    have g3:A+B≤(L.length:Int):=Yf g3
    refine ⟨val.ct (show Ty.T (.ls t') from L) A B,h,?_⟩
    have hl:(A.toNat+B.toNat) * t'.sz≤(L.flatMap t'.cs).length:=by
     rw [Jq]
     exact Nat.mul_le_mul_right _ (by omega)
    have hcut:Vv.cut (L.flatMap t'.cs) (A.toNat * t'.sz) (B.toNat * t'.sz)=((L.drop A.toNat).take B.toNat).flatMap t'.cs:=(Jd1 L _ _).symm
    have hs:SnL (encH s) (6+1) (Vv.cut (L.flatMap t'.cs) (A.toNat * t'.sz) (B.toNat * t'.sz)) (((L.drop A.toNat).take B.toNat).flatMap t'.cs) []:=by
     rw [hcut];exact .flat (Ku _ _)
    obtain ⟨u,ns,a,b,c⟩:=Jho (h:=encH s) (k:=6) (g:=g) (ver:=v) (esz:=t'.sz) (len:=B.toNat) (off:=A.toNat) (el:=el) (cells:=L.flatMap t'.cs) (z:=z) (by rw [Jf ho];simp [encO,Ky]) hs hl
    refine ⟨u,ns,a,?_,fun g'=>?_⟩
    ·have e2:((L.drop A.toNat).take B.toNat).length=B.toNat:=by simp;omega
     have:Ks ((Ty.ls t').cs (val.ct (show Ty.T (.ls t') from L) A B))=.lst B.toNat (((L.drop A.toNat).take B.toNat).flatMap t'.cs):=by
      show AV.lst ((L.drop A.toNat).take B.toNat).length _=_
      rw [e2]
      rfl
     rw [this];exact b
    ·rw [c];simp [Jt,ho]
   ·cases h
  ·cases h
 ·obtain ⟨x,hx,h⟩:=Jd h
  obtain ⟨u,ns,a,b,c⟩:=Xd (s:=s) 4 depth (by decide) t _ x ht hx
  obtain ⟨v,hv⟩:=Jg3 ht x
  refine ⟨x,h,u,ns,a,?_,c⟩
  rw [hv] at b ⊢
  exact b.at' 0 u v rfl rfl
end
end Go.Dn
namespace Go.Dn
open Go Go.Vv
set_option linter.unusedVariables false
set_option linter.unusedSimpArgs false
section
variable {s:S Ty.T} {α:Type} {r:α}
theorem Jlo {h:Heap} {v u:AV} {ns:List Nat} (hs:snap h depth v=some (u,ns)) (hf:∀f l,v≠.fn f l):qarg h v=some (u,ns):=by
 cases v with
 | fn f l=>exact absurd rfl (hf f l)
 | ptr g ver off=>cases hs
 | _=>exact hs
theorem Jmm {h:Heap} {f:FuncId} {l:List AV} {k:Nat} {u:AV} {ns:List Nat} (hs:snap h (k+1) (.fn f l)=some (u,ns)):∃l',u=.fn f l':=by
 simp only [snap] at hs
 split at hs
 ·injection hs with hs;injection hs with h1 h2;exact ⟨_,h1.symm⟩
 ·cases hs
theorem up_flat {u y:AV} (h:Up u y) (hy:y.flat=true) {f:FuncId} {l:List AV}:u≠.fn f l:=by
 rintro rfl
 cases h with
 | refl=>cases hy
theorem Jlx {t:Ty} {l:List (C Ty.T)} {k:Nat} (hk:5≤k) {x:t.T} (h:allL val s.ob t l=some x):SnL (encH s) k (l.map (encC s)) (t.cs x) (l.flatMap (Jt s.ob 4)):=by
 unfold allL at h
 cases hi:impl val (K4 val s.ob 4) t l with
 | none=>rw [hi] at h;cases h
 | some p =>
  obtain ⟨y,q⟩:=p
  rw [hi] at h
  simp only [Ap] at h
  split at h
  ·rename_i hq
   have:=Option.some.inj h
   subst this
   obtain ⟨l1,e,hs⟩:=ji (Xd (s:=s) 4 k hk) t hi
   rw [Da.1 hq,Am] at e
   subst e
   exact hs
  ·cases h
theorem SnL.agg {h:Heap} {k:Nat} {L U:List AV} {N:List Nat} (hs:SnL h (k+1) L U N):∃u ns,snap h (k+2) (.agg L)=some (u,ns)∧Up u (.agg U)∧∀g,g∈ns↔g∈N:=by
 by_cases hf:L.all AV.flat=true
 ·obtain ⟨a,b⟩:=hs.isFlat hf
  exact ⟨.agg L,[],by rw [snap];simp only [hf,if_true],a.mkAgg,fun g=>by simp [b]⟩
 ·obtain ⟨ps,h1,h2,h3⟩:=hs
  exact ⟨.agg (ps.map (·.1)),ps.flatMap (·.2),by rw [snap];simp only [hf,h1];simp,h2.mkAgg,h3⟩
theorem Jbv {a:AK×Ty} (hok:akOK a=true) {v:V Ty.T} {k:a.2.T→Option α} (h:argL val s.ob a v k=some r):∃x,k x=some r∧∃u ns,qarg (encH s) (encV s v)=some (u,ns)∧Up u (argA a x) ∧
  (Jq2 v=false→snap (encH s) depth (encV s v)=some (u,ns)∧∀g,g∈ns↔g∈v.cells.flatMap (Jt s.ob 4)):=by
 obtain ⟨ak,t⟩:=a
 unfold argL at h
 split at h
 ·rename_i c hk
  simp only at hk
  subst hk
  obtain ⟨x,hx,u,ns,a,b,c'⟩:=Jwe (show t.one=true from hok) h
  refine ⟨x,hx,u,ns,Jlo a fun f l e=>?_,b,fun _=>⟨a,fun g=>by rw [c'];simp [V.cells]⟩⟩
  have e:encC s c=.fn f l:=e
  rw [e] at a
  obtain ⟨l',rfl⟩:=Jmm (k:=7) a
  obtain ⟨w,hw⟩:=Jg3 (show t.one=true from hok) x
  have hf:=Yc t x
  rw [hw] at b hf
  exact up_flat (y:=w) b (by simpa using hf) rfl
 ·rename_i l hk
  simp only at hk
  subst hk
  obtain ⟨x,hx,h⟩:=Jd h
  obtain ⟨u,ns,a,b,c⟩:=(Jlx (k:=6+1) (by decide) hx).agg
  exact ⟨x,h,u,ns,Jlo a (fun _ _ e=>by cases e),b,fun _=>⟨a,c⟩⟩
 ·rename_i t' v hk
  simp only at hk
  subst hk
  obtain ⟨x,hx,hk'⟩:=Jd h
  obtain ⟨e,hxe⟩:=Kf hx
  clear hx h
  have e':t'=t:=e
  subst e'
  subst hxe
  exact ⟨x,hk',.rptr ((t'.cs x).drop 0),[],rfl,.refl _,fun _=>⟨rfl,fun g=>by simp [V.cells,Jt]⟩⟩
 ·rename_i g ver hk
  simp only at hk
  subst hk
  split at h
  ·rename_i v cs ho
   split at h
   ·rename_i hv
    subst hv
    obtain ⟨x,hx,h⟩:=Jd h
    have hs:=Jlx (k:=7+1) (by decide) hx
    have hq:qarg (encH s) (encV s (.c (.ptr g v 0)))=qbox (encH s) g v 0 (some (.box v (cs.map (encC s)))):=by
     show qbox (encH s) g v 0 (encH s g)=_
     rw [Jf ho];rfl
    by_cases hf:(cs.map (encC s)).all AV.flat=true
    ·refine ⟨x,h,.rptr (cs.map (encC s)),[g],?_,(hs.isFlat hf).1.mkRptr,fun e=>by cases e⟩
     rw [hq]
     simp only [qbox,if_true,hf,List.drop_zero]
    ·obtain ⟨ps,h1,h2,h3⟩:=hs
     refine ⟨x,h,.rptr (ps.map (·.1)),g::ps.flatMap (·.2),?_,h2.mkRptr,fun e=>by cases e⟩
     rw [hq]
     simp only [qbox,if_true]
     rw [if_neg hf,show depth=7+1 from rfl,h1]
     simp [Jva]
   ·cases h
  ·cases h
 ·cases h
theorem Jhg:∀ {as:List (AK×Ty)} (hok:as.all akOK=true) {vs:List (V Ty.T)} {k:(K6 (as.map (·.2))).T→Option α},Jq4 val s.ob as vs k=some r→∃x,k x=some r ∧
  (∃us ns,Jd0 (encH s) (vs.map (encV s))=some (us,ns)∧UpL us (Xy as x))∧(vs.any Jq2=false→SnL (encH s) depth (vs.map (encV s)) (Xy as x) (vs.flatMap fun v=>v.cells.flatMap (Jt s.ob 4)))
 | [],_,[],k,h=>⟨(),h,⟨[],[],rfl,.nil⟩,fun _=>.nil⟩
 | [a],hok,[v],k,h=>by
  obtain ⟨x,hx,u,ns,q,b,c⟩:=Jbv (by simpa using hok) h
  refine ⟨x,hx,⟨[u],ns++[],by simp only [As,Bk,Jd0,q,Ji9],.cons b .nil⟩,fun hp=>?_⟩
  obtain ⟨c1,c2⟩:=c (by simpa using hp)
  exact SnL.cons c1 b c2 .nil
 | a::b::r',hok,v::w,k,h=>by
  simp only [Jq4] at h
  rw [Dl,Ac] at hok
  obtain ⟨x,hx,u,ns,q,ub,c⟩:=Jbv hok.1 h
  obtain ⟨y,hy,⟨us,ms,q2,u2⟩,c2⟩:=Jhg hok.2 hx
  refine ⟨(x,y),hy,⟨u::us,ns++ms,by simp only [As,Jd0,q,q2,Ji9],.cons ub u2⟩,fun hp=>?_⟩
  rw [List.any_cons,Bool.or_eq_false_iff] at hp
  obtain ⟨c3,c4⟩:=c hp.1
  exact SnL.cons c3 ub c4 (c2 hp.2)
 | [],_,_::_,k,h=>by cases h
 | [_],_,[],k,h=>by cases h
 | [_],_,_::_::_,k,h=>by cases h
 | _::_::_,_,[],k,h=>by cases h
end
end Go.Dn
namespace Go.Dn
open Go Go.Vv
set_option linter.unusedVariables false
set_option linter.unusedSimpArgs false
section
variable {s:S Ty.T}
theorem Jaz (h:Heap) (g:Nat) (r:List Nat):Je (Je h [g]) r=Je h (g::r):=by
 funext x
 simp only [Je,Ai,Bn,or_false]
 by_cases hr:x∈r
 ·by_cases hx:x=g
  ·subst hx
   simp only [hr,or_true,if_true]
   cases h x with
   | none=>rfl
   | some o=>cases o<;>rfl
  ·simp [hr,hx]
 ·by_cases hx:x=g
  ·subst hx;simp [hr]
  ·simp [hr,hx]
theorem Jrt {h:Heap} {a b:List Nat} (hab:∀g,g∈a↔g∈b):Je h a=Je h b:=by
 funext x
 simp only [Je,hab]
theorem Jgn {g:Nat} {o o':Ob Ty.T} (hi:Inv s) (ho:look g s.ob=some o) (hv:o.ver=o'.ver) (hl:o.lenO=o'.lenO) (hk:o'.kids=o.kids) (he:∀s:S Ty.T,Dn.encO s o'=(Dn.encO s o).freeze) :
  Stab s (s.obj g o')∧Inv (s.obj g o')∧encH (s.obj g o')=Je (encH s) [g]:=by
 have hs:Stab s (s.obj g o'):=Qg fun o0 h=>by rw [ho] at h;injection h with h;subst h;exact ⟨hv,hl⟩
 have hk0:okCs s o.kids:=hi.ob g o ho
 have hk1:okCs (s.obj g o') o'.kids:=by rw [hk];exact fun c hc=>(hs.ok c (hk0 c hc)).1
 refine ⟨hs,Yb hi hs (fun g'=>J2 g g' o') hk1 (hi.free ho),?_⟩
 rw [Qw hi hs (fun g'=>J2 g g' o'),he,hs.encO hk0]
 funext x
 simp only [upd,Je,Aa]
 by_cases hx:x=g
 ·subst hx;simp [Jf ho]
 ·simp [hx]
theorem Ji1 (hi:Inv s):∀(n:Nat) {c:C Ty.T},okC s c→∀g∈Jt s.ob n c,∃o,look g s.ob=some o:=by
 intro n
 induction n with
 | zero =>
  intro c hc g hg
  cases c<;>simp only [Jt,Aa,Bn] at hg
  all_goals
   subst hg
   obtain ⟨o,h,-⟩:=hc (_,_) (Aa.2 rfl)
   exact ⟨o,h⟩
 | succ n ih =>
  intro c hc g hg
  cases c<;>simp only [Jt,Bn] at hg
  all_goals
   rcases Ai.1 hg with rfl|hg
   ·obtain ⟨o,h,-⟩:=hc (_,_) (Aa.2 rfl)
    exact ⟨o,h⟩
   ·split at hg
    ·rename_i nest _ ho
     rcases Ba.1 hg with hg|hg
     ·obtain ⟨c',hc',hg⟩:=Ao.1 hg
      exact ih (hi.ob _ _ ho c' (Af _ hc')) g hg
     ·cases nest with
      | none=>cases hg
      | some q=>exact ih (hi.ob _ _ ho q.2 (Ak _ (Aa.2 rfl))) g hg
    ·rename_i ho
     obtain ⟨c',hc',hg⟩:=Ao.1 hg
     exact ih (hi.ob _ _ ho c' hc') g hg
    ·cases hg
theorem Jd5 (hi:Inv s) {n:Nat} {l:List (C Ty.T)} (hl:okCs s l):∀g∈l.flatMap (Jt s.ob n),∃o,look g s.ob=some o:=fun g hg=>by
 obtain ⟨c,hc,hg⟩:=Ao.1 hg
 exact Ji1 hi n (hl c hc) g hg
theorem Jt6 (hi:Inv s) {n:Nat} {vs:List (V Ty.T)} (hl:∀v∈vs,okV s v):∀g∈vs.flatMap (fun v=>v.cells.flatMap (Jt s.ob n)),∃o,look g s.ob=some o:=fun g hg=>by
 obtain ⟨v,hv,hg⟩:=Ao.1 hg
 exact Jd5 hi (fun c hc=>hl v hv c (Jdf c hc)) g hg
theorem Jhj:∀(ns:List Nat) (s:S Ty.T),(J8 s ns).mo=s.mo
 | [],_=>rfl
 | g::r,s=>by
  simp only [J8]
  split<;>rw [Jhj r]<;>rfl
theorem Yg:∀(ns:List Nat) {s:S Ty.T},Inv s→(∀g∈ns,∃o,look g s.ob=some o)→Stab s (J8 s ns)∧Inv (J8 s ns)∧encH (J8 s ns)=Je (encH s) ns
 | [],s,hi,_=>⟨.refl s,hi,by funext x;simp [J8,Je]⟩
 | g::r,s,hi,hn=>by
  have nx:∀o',∀g'∈r,∃o,look g' (s.obj g o').ob=some o:=fun o' g' hg'=>by
   rw [J2]
   split
   ·exact ⟨_,rfl⟩
   ·exact hn g' (Ab _ hg')
  simp only [J8]
  split
  ·rename_i v e el t l x nest z ho
   obtain ⟨a,b,c⟩:=Jgn (o':=.row v e el t l x nest true) hi ho rfl rfl rfl (fun _=>rfl)
   obtain ⟨a',b',c'⟩:=Yg r b (nx _)
   exact ⟨a.trans a',b',by rw [c',c,Jaz]⟩
  ·rename_i v e el x z ho
   obtain ⟨a,b,c⟩:=Jgn (o':=.lit v e el x true) hi ho rfl rfl rfl (fun _=>rfl)
   obtain ⟨a',b',c'⟩:=Yg r b (nx _)
   exact ⟨a.trans a',b',by rw [c',c,Jaz]⟩
  ·rename_i h1 h2
   obtain ⟨a',b',c'⟩:=Yg r hi fun g' hg'=>hn g' (Ab _ hg')
   refine ⟨a',b',?_⟩
   rw [c',←Jaz]
   congr 1
   funext x
   simp only [Je,Aa]
   by_cases hx:x=g
   ·subst hx
    rw [if_pos rfl]
    cases ho:look x s.ob with
    | none=>obtain ⟨o,h⟩:=hn x Ae;rw [ho] at h;cases h
    | some o =>
     rw [Jf ho]
     cases o with
     | box v cs=>rfl
     | mp v kt vt es=>rfl
     | em v kt vt el=>rfl
     | row v e el t l x' nest z=>exact absurd ho (h1 v e el t l x' nest z)
     | lit v e el x' z=>exact absurd ho (h2 v e el x' z)
   ·rw [if_neg hx]
def rkOK (r:Bool×Ty):Bool:=r.1 || r.2.one
theorem Jfo (s:S Ty.T):∀(rs:List (Bool×Ty)) (q:(K6 (rs.map (·.2))).T),(Qk val rs q).map (fun p=>if p.1 then AV.agg (p.2.map (encC s)) else Ks (p.2.map (encC s)))=(Qk val rs q).map (fun p=>if p.1 then AV.agg (p.2.map (encC ⟨[],[],[],[],none⟩)) else Ks (p.2.map (encC ⟨[],[],[],[],none⟩)))
 | [],_=>rfl
 | [a],q=>by
  have e:(expl val a.2 q).map (encC s)=(expl val a.2 q).map (encC ⟨[],[],[],[],none⟩):=(Kc s a.2 q).trans (Kc _ a.2 q).symm
  simp only [Qk,unL,As,Bk]
  rw [e]
 | a::b::r,q=>by simp only [Qk,unL,As,Kc,Jfo s (b::r)]
theorem Jb9 (s:S Ty.T):∀(rs:List (Bool×Ty)) (q:(K6 (rs.map (·.2))).T),∀p∈Qk val rs q,okCs s p.2
 | [],_,p,hp=>by cases hp
 | [a],q,p,hp=>by simp only [Qk,unL,Aa] at hp;subst hp;exact X4 s _ _
 | a::b::r,q,p,hp=>by
  simp only [Qk,unL,Ai] at hp
  rcases hp with rfl|hp
  ·exact X4 s _ _
  ·exact Jb9 s (b::r) _ p hp
theorem Joe (s s':S Ty.T) {p:Bool×List (C Ty.T)} (h:p.2.map (encC s)=p.2.map (encC s')):encV s (X5 p)=encV s' (X5 p):=by
 obtain ⟨b,l⟩:=p
 cases b with
 | true=>simp only [X5,encV];rw [h]
 | false =>
  match l,h with
  | [c],h=>simpa [X5,encV] using h
  | [],_=>rfl
  | _::_::_,_=>rfl
theorem Jb5 (s:S Ty.T) (rs:List (Bool×Ty)) (q:(K6 (rs.map (·.2))).T):encV s (jf val rs q)=resA rs q:=by
 unfold resA jf
 match rs,q with
 | [],q=>rfl
 | [a],q=>exact Joe _ _ ((Kc s a.2 q).trans (Kc _ a.2 q).symm)
 | a::b::r,q =>
  have e:=Jfo s (a::b::r) q
  cases r<;>exact congrArg AV.tup e
theorem Jer (s:S Ty.T) (rs:List (Bool×Ty)) (q:(K6 (rs.map (·.2))).T):okV s (jf val rs q):=by
 unfold jf
 split
 ·rename_i p hp
  have:=Jb9 s rs q p (by rw [hp];exact Aa.2 rfl)
  obtain ⟨b,l⟩:=p
  cases b with
  | true=>exact this
  | false =>
   match l,this with
   | [c],h=>exact h
   | [],_=>exact fun c hc=>by simp [X5,V.all] at hc;subst hc;exact Jo s rfl
   | _::_::_,_=>exact fun c hc=>by simp [X5,V.all] at hc;subst hc;exact Jo s rfl
 ·intro c hc
  simp only [V.all,Ao] at hc
  obtain ⟨p,hp,hc⟩:=hc
  exact Jb9 s rs q p hp c hc
end
end Go.Dn
namespace Go.Dn
open Go Go.Vv
set_option linter.unusedVariables false
set_option linter.unusedSimpArgs false
def Scl (v:AV):Prop:=(∃b,v=.bool b)∨(∃k n,v=.int k n)∨∃x,v=.str x
theorem scl_one {v:AV} (h:Scl v):v.scalar=true:=by
 rcases h with ⟨b,rfl⟩|⟨k,n,rfl⟩|⟨x,rfl⟩<;>rfl
theorem scl_agg {l:List AV} (h:∀v∈l,Scl v):(AV.agg l).scalar=true:=by
 simp only [AV.scalar,Ah]
 intro v hv
 rcases h v hv with ⟨b,rfl⟩|⟨k,n,rfl⟩|⟨x,rfl⟩<;>rfl
theorem scl_tup {l:List AV} (h:∀v∈l,Scl v∨∃m,v=.agg m∧∀u∈m,Scl u):(AV.tup l).scalar=true:=by
 simp only [AV.scalar,Ah]
 intro v hv
 rcases h v hv with (⟨b,rfl⟩|⟨k,n,rfl⟩|⟨x,rfl⟩)|⟨m,rfl,hm⟩
 ·rfl
 ·rfl
 ·rfl
 ·simp only [Ah]
  intro u hu
  rcases hm u hu with ⟨b,rfl⟩|⟨k,n,rfl⟩|⟨x,rfl⟩<;>rfl
theorem Zy:∀ {t:Ty} (h:t.flat=true) (x:t.T),∀v∈t.cs x,Scl v
 | .int k,_,x,v,hv=>by have hv:v∈[AV.int k x]:=hv;rw [Aa] at hv;exact .inr (.inl ⟨_,_,hv⟩)
 | .bool,_,x,v,hv=>by have hv:v∈[AV.bool x]:=hv;rw [Aa] at hv;exact .inl ⟨_,hv⟩
 | .str,_,x,v,hv=>by have hv:v∈[AV.str x]:=hv;rw [Aa] at hv;exact .inr (.inr ⟨_,hv⟩)
 | .u,_,x,v,hv=>by cases hv
 | .ls _,h,_,_,_=>by cases h
 | .bf _ _,h,_,_,_=>by cases h
 | .p a b,h,(x,y),v,hv=>by
  have hv:v∈a.cs x++b.cs y:=hv
  simp only [Ty.flat,Ac] at h
  rcases Ba.1 hv with hv|hv
  ·exact Zy h.1 x v hv
  ·exact Zy h.2 y v hv
theorem Jfr:∀ {rs:List (Bool×Ty)} {q:(K6 (rs.map (·.2))).T},∀p∈Qk val rs q,∃a∈rs,∃x:a.2.T,p=(a.1,expl val a.2 x)
 | [],_,p,hp=>by cases hp
 | [a],q,p,hp=>by simp only [Qk,unL,Aa] at hp;exact ⟨a,Aa.2 rfl,q,hp⟩
 | a::b::r,q,p,hp=>by
  simp only [Qk,unL,Ai] at hp
  rcases hp with rfl|hp
  ·exact ⟨a,Ae,_,rfl⟩
  ·obtain ⟨a',h1,x,h2⟩:=Jfr p hp
   exact ⟨a',Ab _ h1,x,h2⟩
theorem Jow (s:S Ty.T) {a:Bool×Ty} (hk:rkOK a=true) (hf:a.2.flat=true) (x:a.2.T) :
  (a.1=true∧∀v∈(expl val a.2 x).map (encC s),Scl v)∨(a.1=false∧∃c,expl val a.2 x=[c]∧Scl (encC s c)):=by
 have hs:=Zy hf x
 rw [←Kc s] at hs
 obtain ⟨b,t⟩:=a
 cases b with
 | true=>exact .inl ⟨rfl,hs⟩
 | false =>
  have ht:t.one=true:=by simpa [rkOK] using hk
  obtain ⟨v,hv⟩:=Jg3 ht x
  have hl:(expl val t x).length=1:=by rw [Xg];have:=Qs t x;rw [hv] at this;exact this.symm
  obtain ⟨c,hc⟩:=Dh.1 hl
  refine .inr ⟨rfl,c,hc,?_⟩
  have hs:∀v∈(expl val t x).map (encC s),Scl v:=hs
  rw [hc] at hs
  exact hs _ (Aa.2 rfl)
theorem Jg8 {rs:List (Bool×Ty)} (hk:rs.all rkOK=true) (hf:(rs.all fun r=>r.2.flat)=true) (q:(K6 (rs.map (·.2))).T):(resA rs q).scalar=true:=by
 have hk:=Ah.1 hk
 have hf:=Ah.1 hf
 have hm:=Jfr (rs:=rs) (q:=q)
 unfold resA jf
 split
 ·rename_i p hp
  obtain ⟨a,ha,x,rfl⟩:=hm p (by rw [hp];exact Aa.2 rfl)
  rcases Jow ⟨[],[],[],[],none⟩ (hk a ha) (hf a ha) x with ⟨e,h⟩|⟨e,c,hc,h⟩
  ·rw [e];exact scl_agg h
  ·rw [e,hc];exact scl_one h
 ·refine scl_tup fun v hv=>?_
  obtain ⟨p,hp,rfl⟩:=Aq.1 hv
  obtain ⟨a,ha,x,rfl⟩:=hm p hp
  rcases Jow ⟨[],[],[],[],none⟩ (hk a ha) (hf a ha) x with ⟨e,h⟩|⟨e,c,hc,h⟩
  ·exact .inr ⟨_,by simp only [e,if_true],h⟩
  ·refine .inl ?_
   simp only [e,hc,As,Bk,Ks]
   exact h
theorem call_sim {Γ:FuncId→Option Ctr} (hΓ:∀f c,Γ f=some c→c.ok=true∧c.rs.all rkOK=true):Ql (callC Γ) Γ:=by
 intro α base g0 s r c f args k hi hc h
 obtain ⟨ok1,ok2⟩:=hΓ f c hc
 obtain ⟨x,hx,⟨us,ns,q1,q2⟩,hsn⟩:=Jhg ok1 h
 have hargs:(args.map (ev val s)).map (encV s)=args.map (enc s).ev:=by
  rw [Bj]
  exact Br fun y _=>(Js s y).symm
 rw [hargs] at q1 hsn
 simp only at hx
 have hcall:∀ {K:c.rT.T→Option α},val.call c x K=some r→∃q,c.fn x=some q∧K q=some r:=fun {K} e=>by
  have e:Jas (c.fn x) K=some r:=e
  cases hq:c.fn x with
  | none=>rw [hq] at e;cases e
  | some q=>rw [hq] at e;exact ⟨q,rfl,e⟩
 split at hx
 ·split at hx
  ·rename_i hf
   obtain ⟨q,hq,hx⟩:=hcall hx
   refine ⟨_,_,_,.inr ⟨f,args,rfl,.inl rfl⟩,.same hi ?_ (Jer s c.rs q),hx⟩
   simp only [Ja]
   rw [show (enc s).h=encH s from rfl,q1]
   simp only [calQ]
   rw [Jjh hc ok1 q2 hq]
   simp only [retQ,Jg8 ok2 hf q,if_true,Jb5]
  ·cases hx
 ·rename_i hp
  have hsn:=hsn (by simpa using hp)
  obtain ⟨ps,s1,s2,s3⟩:=hsn
  have hs:Jai (encH s) (args.map (enc s).ev)=some (ps.map (·.1),ps.flatMap (·.2)):=by simp only [Jai,s1]
  split at hx
  ·rename_i hb
   obtain ⟨q,hq,hx⟩:=hcall hx
   refine ⟨_,_,_,.inl rfl,.same hi ?_ (Jer s c.rs q),hx⟩
   simp only [Ja]
   rw [show (enc s).h=encH s from rfl,hs]
   simp only
   rw [Jjh hc ok1 s2 hq]
   simp only [Jb5]
   rw [if_pos]
   rw [Bool.or_eq_true] at hb
   rcases hb with hb|hb
   ·refine .inl (List.eq_nil_iff_forall_not_mem.2 fun g hg=>?_)
    have:=(s3 g).1 hg
    rw [Da.1 hb] at this
    cases this
   ·exact .inr (Jg8 ok2 hb q)
  ·obtain ⟨q,hq,hx⟩:=hcall hx
   obtain ⟨f1,f2,f3⟩:=Yg ((args.map (ev val s)).flatMap fun v=>v.cells.flatMap (Jt s.ob 4)) hi (Jt6 hi fun v hv=>by obtain ⟨x,-,rfl⟩:=Aq.1 hv;exact Jaf hi x)
   refine ⟨_,_,_,.inr ⟨f,args,rfl,.inr rfl⟩,⟨?_,f1,f2,Jer _ c.rs q⟩,hx⟩
   simp only [Ja]
   rw [show (enc s).h=encH s from rfl,hs]
   simp only
   rw [Jjh hc ok1 s2 hq]
   simp only [Jb5,f3]
   rw [Jrt s3]
end Go.Dn
namespace Go.Dn
open Go Go.Vv
set_option linter.unusedVariables false
set_option linter.unusedSimpArgs false
structure On (s s':S Ty.T):Prop where
 lo:s'.lo=s.lo
 ok:∀c,okC s c→okC s' c∧encC s' c=encC s c
theorem On.refl (s:S Ty.T):On s s:=⟨rfl,fun _ h=>⟨h,rfl⟩⟩
theorem On.trans {a b c:S Ty.T} (h:On a b) (k:On b c):On a c :=
 ⟨k.lo.trans h.lo,fun x hx=>⟨(k.ok x (h.ok x hx).1).1,((k.ok x (h.ok x hx).1).2).trans (h.ok x hx).2⟩⟩
theorem Stab.on {s s':S Ty.T} (h:Stab s s'):On s s':=⟨h.lo,h.ok⟩
theorem On.put (s:S Ty.T) (d:Option Nat) (v:V Ty.T):On s (s.put d v):=by
 cases d with
 | none=>exact .refl s
 | some d=>exact ⟨rfl,fun c hc=>⟨hc,Jib s (some d) v c⟩⟩
section
variable {call:Vv.Call} {base g0:Nat} {s:S Ty.T} {α:Type} {r:α}
theorem Zq {g:Nat} {b:Bool} (h:(enc s).f g=.bool b):enc (s.put (some g) (.c (.kb b)))=enc s:=by
 rw [Jih]
 show (⟨upd (enc s).f g (.bool b),encH s⟩:St)=⟨(enc s).f,encH s⟩
 congr 1
 funext x
 simp only [upd]
 split
 ·rename_i hx;rw [hx,h]
 ·rfl
theorem okKb {s:S Ty.T} {b:Bool}:okV s (.c (.kb b)):=Km (Jo s rfl)
theorem okTp {s:S Ty.T}:okV s (.tp []):=fun c hc=>by cases hc
def StepTo (call:Vv.Call) (base:Nat) (s:S Ty.T) (o:LOper) (k:LOp→S Ty.T→Option α) (r:α):Prop :=
 ∃op' s',Alt o.op op'∧Qi call base { o with op:=op' } (enc s)=some (enc s')∧Inv s'∧On s s'∧k op' s'=some r
theorem StepTo.of {o:LOper} {k:LOp→S Ty.T→Option α} {s1:S Ty.T} (he:enc s1=enc s) (ho:On s s1) (h:StepTo call base s1 o k r):StepTo call base s o k r:=by
 obtain ⟨op',s',a,b,c,d,e⟩:=h
 exact ⟨op',s',a,by rw [←he];exact b,c,ho.trans d,e⟩
theorem Jsw {cx:Cx} {o:LOper} {k:LOp→S Ty.T→Option α} (hC:Ql call cx.ct) (hi:Inv s)
  (hg:∀g want,o.guard=some (g,want)→(enc s).f g=.bool want) (h:opD val cx.ct cx.ty s (base+o.dst.getD 0) o.op (fun op v s'=>k op (s'.put o.dst v))=some r):StepTo call base s o k r:=by
 obtain ⟨op',v,s',a,⟨b1,b2,b3,b4⟩,c⟩:=op_sim (call:=call) (base:=base) hC hi h
 refine ⟨op',s'.put o.dst v,a,?_,b3.put b4 o.dst,b2.on.trans (.put s' o.dst v),c⟩
 have e:enc (s'.put o.dst v)=(enc s).put o.dst (encV s' v) (encH s'):=by
  rw [Jih,Yv hi b2]
  cases o.dst<;>rfl
 rw [e]
 unfold Qi
 cases hgd:o.guard with
 | none=>simp only;rw [b1]
 | some p =>
  obtain ⟨g,want⟩:=p
  simp only
  rw [hg g want hgd]
  simp only [if_true]
  rw [b1]
theorem Jdo {o:LOper} {k:LOp→S Ty.T→Option α} (hi:Inv s) {g:Nat} {want:Bool} (hg:o.guard=some (g,want)) (hv:(enc s).f g=.bool (!want)∨(enc s).f g=.tup []) (h:k o.op (s.put o.dst (.tp []))=some r):StepTo call base s o k r:=by
 refine ⟨o.op,s.put o.dst (.tp []),.inl rfl,?_,hi.put okTp o.dst,.put s o.dst _,h⟩
 have e:enc (s.put o.dst (.tp []))=(enc s).put o.dst (.tup []) (enc s).h:=by rw [Jih];rfl
 rw [e]
 unfold Qi
 rw [hg]
 rcases hv with hv|hv
 ·simp only [hv]
  rw [if_neg (by cases want<;>simp)]
 ·simp only [hv]
theorem pick_sim {o:LOp} {run:S Ty.T→Option α} (hi:Inv s) (h:Jub val s o run=some r):∃s1,enc s1=enc s∧On s s1∧Inv s1∧run s1=some r:=by
 have same:run s=some r→∃s1,enc s1=enc s∧On s s1∧Inv s1∧run s1=some r:=fun h=>⟨s,rfl,.refl s,hi,h⟩
 unfold Jub at h
 split at h
 ·rename_i n a b
  split at h
  ·rename_i t ht
   have hf:∀q:Bool,(t:Bool)=q→(enc s).f n=.bool q:=fun q e=>by show encV s (s.at n)=_;rw [ht,←e];rfl
   rcases X9 h with ⟨e,h⟩|⟨e,h⟩
   ·exact ⟨_,Zq (hf _ e),.put s _ _,hi.put okKb _,h⟩
   ·exact ⟨_,Zq (hf _ e),.put s _ _,hi.put okKb _,h⟩
  ·exact same h
 ·exact same h
theorem Jpu {cx:Cx} {o:LOper} {k:LOp→S Ty.T→Option α} (hC:Ql call cx.ct) (hi:Inv s) (h:Jsi val cx base s o k=some r):StepTo call base s o k r:=by
 have go:∀ {s:S Ty.T},Inv s→(∀g want,o.guard=some (g,want)→(enc s).f g=.bool want)→Jub val s o.op (fun s=>opD val cx.ct cx.ty s (base+o.dst.getD 0) o.op fun op v s'=>k op (s'.put o.dst v))=some r→StepTo call base s o k r:=fun {s} hi hg h=>by
  obtain ⟨s1,e1,o1,i1,h⟩:=pick_sim hi h
  exact .of e1 o1 (Jsw hC i1 (fun g w e=>by rw [e1];exact hg g w e) h)
 unfold Jsi Jj4 at h
 split at h
 ·rename_i hg
  exact go hi (fun g w e=>by rw [hg] at e;cases e) h
 ·rename_i g want hg
  split at h
  ·rename_i b hb
   have hf:(enc s).f g=.bool b:=by show encV s (s.at g)=_;rw [hb];rfl
   split at h
   ·rename_i e
    subst e
    exact go hi (fun g' w e=>by rw [hg] at e;injection e with e;injection e with e1 e2;subst e1;subst e2;exact hf) h
   ·rename_i e
    exact Jdo hi hg (.inl (by rw [hf];cases b<;>cases want<;>simp_all)) h
  ·rename_i t ht
   have hf:∀q:Bool,(t:Bool)=q→(enc s).f g=.bool q:=fun q e=>by show encV s (s.at g)=_;rw [ht,←e];rfl
   have run:∀q:Bool,(t:Bool)=q→want=q→Jub val (s.put (some g) (.c (.kb q))) o.op (fun s=>opD val cx.ct cx.ty s (base+o.dst.getD 0) o.op fun op v s'=>k op (s'.put o.dst v))=some r→StepTo call base s o k r:=fun q e1 e2 h=>by
    have e:=Zq (hf q e1)
    refine .of e (.put s _ _) (go (hi.put okKb _) (fun g' w e3=>?_) h)
    rw [hg] at e3
    injection e3 with e3
    injection e3 with e4 e5
    subst e4
    subst e5
    rw [e,hf q e1,e2]
   have skp:∀q:Bool,(t:Bool)=q→want=!q→k o.op ((s.put (some g) (.c (.kb q))).put o.dst (.tp []))=some r→StepTo call base s o k r:=fun q e1 e2 h=>by
    have e:=Zq (hf q e1)
    exact .of e (.put s _ _) (Jdo (hi.put okKb _) hg (.inl (by rw [e,hf q e1,e2,Bool.not_not])) h)
   split at h
   ·rename_i hw
    rcases X9 h with ⟨e,h⟩|⟨e,h⟩
    ·exact run true e hw h
    ·exact skp false e hw h
   ·rename_i hw
    have hw:want=false:=by simpa using hw
    rcases X9 h with ⟨e,h⟩|⟨e,h⟩
    ·exact skp true e hw h
    ·exact run false e hw h
  ·rename_i ht
   exact Jdo hi hg (.inr (by show encV s (s.at g)=_;rw [ht];rfl)) h
  ·cases h
end
end Go.Dn
namespace Go.Dn
open Go Go.Vv
set_option linter.unusedVariables false
set_option linter.unusedSimpArgs false
def AltL:List (Nat×LOper)→List (Nat×LOper)→Prop
 | [],[]=>True
 | p::l,q::m=>q.1=p.1∧(∃op',Alt p.2.op op'∧q.2={ p.2 with op:=op' })∧AltL l m
 | _,_=>False
theorem Alt.isNew {a b:LOp} (h:Alt a b):b.isNew=a.isNew:=by
 rcases h with rfl|⟨f,args,rfl,rfl|rfl⟩<;>rfl
section
variable {call:Vv.Call} {base:Nat}
def Jhd:AV→Option Nat
 | .ptr g _ _=>some g
 | .arr g _ _ _=>some g
 | .map g _=>some g
 | _=>none
theorem Je4 {ds:List Nat} {h:Heap} {g:Nat} (e:inNm base ds g=false):Kb base ds h g=h g:=by simp [Kb,e]
variable {ds:List Nat} {h:Heap} {x:AV} (hx:∀g,Jhd x=some g→inNm base ds g=false)
include hx
theorem Jts (ag:Bool) (n:Nat):Yk (Kb base ds h) ag n x=Yk h ag n x:=by
 have e:Q2 (Kb base ds h) x=Q2 h x:=by
  cases x<;>try rfl
  unfold Q2
  dsimp only
  rw [Je4 (hx _ rfl)]
 unfold Yk
 rw [e]
theorem Jq6 (o:Nat):Xw (Kb base ds h) o x=Xw h o x:=by
 cases x<;>try rfl
 rename_i g ver off
 have e:cur (Kb base ds h) g ver=cur h g ver:=by
  unfold cur
  rw [Je4 (hx _ rfl)]
 simp only [Xw,e]
theorem Jq3 (e:Nat) (i:AV):Q6 (Kb base ds h) e x i=Q6 h e x i:=by
 cases x<;>cases i<;>try rfl
 rename_i g ver off len k i
 have e1:curA (Kb base ds h) g ver e=curA h g ver e:=by
  unfold curA
  rw [Je4 (hx _ rfl)]
 simp only [Q6,e1]
theorem len_mask:lenV (Kb base ds h) x=lenV h x:=by
 cases x<;>try rfl
 rename_i g ver off len
 have e1:Qa (Kb base ds h) g ver=Qa h g ver:=by
  unfold Qa
  rw [Je4 (hx _ rfl)]
 simp only [lenV,e1]
end
theorem offV_enc {base:Nat} {ds:List Nat} {v:V Ty.T} (hv:offV base ds v=true) (s:S Ty.T):∀g,Jhd (encV s v)=some g→inNm base ds g=false:=by
 intro g hg
 unfold offV at hv
 split at hv
 ·simp only [encV,encC,Jhd,Option.some.injEq] at hg
  subst hg;simpa using hv
 ·simp only [encV,encC,Jhd,Option.some.injEq] at hg
  subst hg;simpa using hv
 ·rename_i t x
  have hf:=Yc t x
  simp only [encV,encC] at hg
  generalize t.cs x=l at hf hg
  match l,hf,hg with
  | [],_,hg=>cases hg
  | [a],hf,hg=>cases a<;>simp [AV.flat] at hf<;>cases hg
  | _::_::_,_,hg=>cases hg
 ·cases hg
 ·simp only [encV,encC,Jhd,Option.some.injEq] at hg
  subst hg;simpa using hv
 ·cases hv
section
variable {call:Vv.Call} {base:Nat}
theorem Ja6 {σ:St} {g0:Nat} {ds:List Nat} {op:LOp} {f:Heap→Option AV} {r:AV×Heap} (hc:op.cls=1) (he:∀h,Ja call base ⟨σ.f,h⟩ g0 op=match f h with|some v=>some (v,h)|none=>none) (hf:f (Kb base ds σ.h)=f σ.h) (h:Ja call base σ g0 op=some r):Ja call base σ g0 (.msk ds op)=some r:=by
 have h1:Ja call base σ g0 op=match f σ.h with|some v=>some (v,σ.h)|none=>none:=he σ.h
 rw [h1] at h
 show (if op.cls=1 then mskR σ.h (Ja call base ⟨σ.f,Kb base ds σ.h⟩ g0 op) else none)=_
 rw [if_pos hc,he,hf]
 cases hv:f σ.h with
 | none=>rw [hv] at h;cases h
 | some v=>rw [hv] at h;exact h
theorem Jr7 {s:S Ty.T} {dst:Option Nat} {ds:List Nat} {op:LOp} {r:AV×Heap} (h:Ja call base (enc s) (base+dst.getD 0) op=some r):Ja call base (enc s) (base+dst.getD 0) (Jab val s base dst op ds)=some r:=by
 have off:∀ {x:LO},offV base ds (ev val s x)=true→∀g,Jhd ((enc s).ev x)=some g→inNm base ds g=false:=fun hx=>by
  rw [Js];exact offV_enc hx s
 have evf:∀(x:LO) (h:Heap),(St.mk (enc s).f h).ev x=(enc s).ev x:=fun x h=>by cases x<;>rfl
 unfold Jab
 split
 ·rename_i ag n x
  split
  ·rename_i hx
   exact Ja6 (f:=fun h=>Yk h ag n ((enc s).ev x)) rfl (fun h=>by simp only [Ja,evf];cases Yk h ag n ((enc s).ev x)<;>rfl) (Jts (off hx) ag n) h
  ·exact h
 ·rename_i o x
  split
  ·rename_i hx
   exact Ja6 (f:=fun h=>Xw h o ((enc s).ev x)) rfl (fun h=>by simp only [Ja,evf];cases Xw h o ((enc s).ev x)<;>rfl) (Jq6 (off hx) o) h
  ·exact h
 ·rename_i e x i
  split
  ·rename_i hx
   exact Ja6 (f:=fun h=>Q6 h e ((enc s).ev x) ((enc s).ev i)) rfl (fun h=>by simp only [Ja,evf];cases Q6 h e ((enc s).ev x) ((enc s).ev i)<;>rfl) (Jq3 (off hx) e _) h
  ·exact h
 ·rename_i x
  split
  ·rename_i hx
   exact Ja6 (f:=fun h=>(lenV h ((enc s).ev x)).map fun n=>AV.int .i64 n) rfl (fun h=>by simp only [Ja,evf];cases lenV h ((enc s).ev x)<;>rfl) (by rw [len_mask (off hx)]) h
  ·exact h
 ·rename_i n x y
  split
  ·rename_i hx
   have hn:nwOK base ds (base+dst.getD 0) ((enc s).ev x)=true:=by
    rw [Js]
    unfold onV at hx
    split at hx
    ·rename_i g ver o e
     rw [e]
     exact hx
    ·cases hx
   simp only [Ja] at h ⊢
   rw [if_pos hn]
   exact h
  ·exact h
 ·rename_i x
  split
  ·rename_i hx
   refine Ja6 (f:=fun h=>match (enc s).ev x with
    | .ptr g v o=>if cur h g v then some (.ptr g v o) else none
    | .rptr l=>some (.rptr l)
    | .fn f caps=>some (.fn f caps)
    | .bfn f l=>some (.bfn f l)
    | _=>none) rfl (fun h=>?_) ?_ h
   ·simp only [Ja,evf]
    cases (enc s).ev x<;>try rfl
    rename_i g v o
    simp only
    cases cur h g v<;>rfl
   ·have ho:=off hx
    cases hv:(enc s).ev x<;>try rfl
    rename_i g v o
    rw [hv] at ho
    have e:cur (Kb base ds (enc s).h) g v=cur (enc s).h g v:=by unfold cur;rw [Je4 (ho _ rfl)]
    simp only [e]
  ·exact h
 ·rename_i e b t z x y
  split
  ·rename_i hx
   have hn:nwOK base ds (base+dst.getD 0) ((enc s).ev x)=true:=by
    rw [Js]
    unfold onA at hx
    split at hx
    ·rename_i g ver e
     rw [e]
     exact hx
    ·rename_i e
     rw [e]
     exact hx
    ·cases hx
   simp only [Ja] at h ⊢
   unfold apnV
   rw [if_pos hn]
   exact h
  ·exact h
 ·exact h
theorem Jnn {s:S Ty.T} {σ:St} {g0:Nat} {dst:Option Nat} {ds:List Nat} {op:LOp} {r:AV×Heap} (h:Ja call base σ g0 (Jab val s base dst op ds)=some r):Ja call base σ g0 op=some r:=by
 obtain ⟨v,h1⟩:=r
 unfold Jab at h
 split at h
 ·split at h
  ·exact Jl4 h
  ·exact h
 ·split at h
  ·exact Jl4 h
  ·exact h
 ·split at h
  ·exact Jl4 h
  ·exact h
 ·split at h
  ·exact Jl4 h
  ·exact h
 ·split at h
  ·exact ston_ev h
  ·exact h
 ·split at h
  ·exact Jl4 h
  ·exact h
 ·split at h
  ·simp only [Ja] at h ⊢
   unfold apnV at h
   split at h
   ·exact h
   ·cases h
  ·exact h
 ·exact h
theorem Jrz (s:S Ty.T) (dst:Option Nat) (ds:List Nat) (op:LOp):(Jab val s base dst op ds).isNew=op.isNew:=by
 unfold Jab
 split<;>(try split)<;>rfl
theorem Jv6 {o:LOper} {σ σ':St} {op:LOp} (hk:∀r,Ja call base σ (base+o.dst.getD 0) o.op=some r→Ja call base σ (base+o.dst.getD 0) op=some r) (h:Qi call base o σ=some σ'):Qi call base { o with op:=op } σ=some σ':=by
 unfold Qi at h ⊢
 have key:(match Ja call base σ (base+o.dst.getD 0) o.op with|some (v,h)=>some (σ.put o.dst v h)|none=>none)=some σ'→(match Ja call base σ (base+o.dst.getD 0) op with|some (v,h)=>some (σ.put o.dst v h)|none=>none)=some σ':=fun h=>by
  cases hr:Ja call base σ (base+o.dst.getD 0) o.op with
  | none=>rw [hr] at h;cases h
  | some r=>rw [hr] at h;rw [hk r hr];exact h
 dsimp only at h ⊢
 split at h
 ·exact key h
 ·split at h
  ·split at h
   ·rename_i hb;rw [if_pos hb];exact key h
   ·rename_i hb;rw [if_neg hb];exact h
  ·exact h
  ·cases h
def MskL (call:Vv.Call) (base:Nat):List (Nat×LOper)→List (Nat×LOper)→Prop
 | [],[]=>True
 | p::l,q::m=>q.1=p.1∧(∀σ σ',Qi call base q.2 σ=some σ'→Qi call base p.2 σ=some σ')∧MskL call base l m
 | _,_=>False
theorem MskL.mem:∀ {l m:List (Nat×LOper)},MskL call base l m→∀q∈m,∃p∈l,q.1=p.1∧∀σ σ',Qi call base q.2 σ=some σ'→Qi call base p.2 σ=some σ'
 | [],[],_,q,hq=>by cases hq
 | p::l,p'::m,h,q,hq=>by
  obtain ⟨h1,h2,h3⟩:=h
  rcases Ai.1 hq with rfl|hq
  ·exact ⟨p,Ae,h1,h2⟩
  ·obtain ⟨p0,a,b⟩:=MskL.mem h3 q hq
   exact ⟨p0,Ab _ a,b⟩
 | [],_::_,h,_,_=>h.elim
 | _::_,[],h,_,_=>h.elim
variable {α:Type} {r:α}
theorem Jpq {cx:Cx} (hC:Ql call cx.ct):∀ {L acc:List (Nat×LOper)} {acc2:List (List Nat→Nat×LOper)} {ds:List Nat} {s:S Ty.T} {k:List (Nat×LOper)→List (Nat×LOper)→S Ty.T→Option α},Inv s→jk val cx base L acc acc2 ds s k=some r →
  ∃(L':List (Nat×LOper)) (M:List (List Nat→Nat×LOper)) (ds':List Nat) (s':S Ty.T),AltL L L'∧(∀ds,MskL call base L' (M.map fun f=>f ds))∧Qb call base (L'.map (·.2)) (enc s)=some (enc s')∧(∀ds,Qb call base ((M.map fun f=>f ds).map (·.2)) (enc s)=some (enc s'))∧Inv s'∧On s s'∧k (acc.reverse++L') ((acc2.reverse++M).map fun f=>f ds') s'=some r
 | [],acc,acc2,ds,s,k,hi,h=>⟨[],[],ds,s,trivial,fun _=>trivial,rfl,fun _=>rfl,hi,.refl s,by rw [Am,Am];exact h⟩
 | p::L,acc,acc2,ds,s,k,hi,h=>by
  simp only [jk] at h
  split at h
  ·cases h
  ·rename_i hn
   obtain ⟨op',s1,a,b,c,d,e⟩:=Jpu (call:=call) hC hi h
   obtain ⟨L',M,ds',s',a',m',b',b2',c',d',e'⟩:=Jpq hC c e
   refine ⟨(p.1,{ p.2 with op:=op' })::L',(fun ds=>(p.1,{ p.2 with op:=Jab val s base p.2.dst op' ds }))::M,ds',s',⟨rfl,⟨op',a,rfl⟩,a'⟩,fun ds=>⟨rfl,fun σ σ' hσ=>?_,m' ds⟩,?_,fun ds=>?_,c',d.trans d',by simpa using e'⟩
   ·exact Jv6 (o:={ p.2 with op:=Jab val s base p.2.dst op' ds }) (op:=op') (fun r hr=>Jnn hr) hσ
   all_goals
    have hx:∀op'':LOp,op''.isNew=op'.isNew→¬(op''.isNew=true∧((enc s).h (base+p.2.dst.getD 0)).isSome=true):=fun op'' ho hx=>by
     apply hn
     simp only [Juo,Ac]
     rw [ho,a.isNew] at hx
     refine ⟨hx.1,?_⟩
     have hx:=hx.2
     cases hl:s.has (base+p.2.dst.getD 0) with
     | true=>rfl
     | false =>
      have:(enc s).h (base+p.2.dst.getD 0)=none:=Jfl hl
      rw [this] at hx
      simp at hx
    simp only [As,Qb]
   ·have hD:K9 call base { p.2 with op:=op' } (enc s)=some (enc s1):=by
     unfold K9
     rw [if_neg (hx op' rfl)]
     exact b
    rw [hD]
    exact b'
   ·have hD:K9 call base { p.2 with op:=Jab val s base p.2.dst op' ds } (enc s)=some (enc s1):=by
     unfold K9
     rw [if_neg (hx _ (Jrz s p.2.dst ds op'))]
     exact Jv6 (o:={ p.2 with op:=op' }) (fun r hr=>Jr7 hr) b
    rw [hD]
    exact b2' ds
theorem Jqg {cx:Cx} (hC:Ql call cx.ct) {L:List (Nat×LOper)} {ds:List Nat} {s:S Ty.T} {k:List (Nat×LOper)→List (Nat×LOper)→S Ty.T→Option α} (hi:Inv s) (h:jk val cx base L [] [] ds s k=some r) :
  ∃L' L2 s',AltL L L'∧MskL call base L' L2∧Qb call base (L'.map (·.2)) (enc s)=some (enc s')∧Qb call base (L2.map (·.2)) (enc s)=some (enc s')∧Inv s'∧On s s'∧k L' L2 s'=some r:=by
 obtain ⟨L',M,ds',s',a,b,c,d,e,f,g⟩:=Jpq hC hi h
 exact ⟨L',_,s',a,b ds',c,d ds',e,f,g⟩
end
end Go.Dn
namespace Go.Dn
open Go Go.Vv
set_option linter.unusedVariables false
set_option linter.unusedSimpArgs false
theorem On.okV {s s':S Ty.T} (h:On s s') {v:V Ty.T} (hv:Dn.okV s v):Dn.okV s' v:=fun c hc=>(h.ok c (hv c hc)).1
theorem On.encV {s s':S Ty.T} (h:On s s') {v:V Ty.T} (hv:Dn.okV s v):Dn.encV s' v=Dn.encV s v:=by
 have e:∀l:List (C Ty.T),(∀c∈l,okC s c)→l.map (encC s')=l.map (encC s):=fun l hl=>Br fun c hc=>(h.ok c (hl c hc)).2
 cases v with
 | c x=>exact (h.ok x (hv x (Aa.2 rfl))).2
 | ag l=>exact congrArg AV.agg (e l hv)
 | tp l =>
  refine congrArg AV.tup (Br fun p hp=>?_)
  rw [e p.2 fun c hc=>hv c (Ao.2 ⟨p,hp,hc⟩)]
structure Fm where
 nt:Nat
 act:Act
 lo:Option (Nat×Loop)
 d:Nat
def MD:List Deferred→List Fm→Prop
 | _,[]=>True
 | ds,f::r=>(∀d∈ds,∃q,d={ target:=.collected q,args:=#[] }∧f.d≤q)∧(∀q,{ target:=.collected q,args:=#[] }∈f.act.defers→q<f.d)∧(∀p∈r,p.d≤f.d)∧MD f.act.defers r
theorem MD.lt:∀ {ds:List Deferred} {f:Fm} {r:List Fm},MD ds (f::r)→∀p∈f::r,∀q,({ target:=.collected q,args:=#[] }:Deferred)∈p.act.defers→q<f.d
 | ds,f,[],h,p,hp,q,hq=>by
  have:=Aa.1 hp
  subst this
  exact h.2.1 q hq
 | ds,f,g::r,h,p,hp,q,hq=>by
  rcases Ai.1 hp with rfl|hp
  ·exact h.2.1 q hq
  ·exact Nat.lt_of_lt_of_le (MD.lt h.2.2.2 p hp q hq) (h.2.2.1 g Ae)
structure RepF (nt:Nat) (w:World) (S:Nat→Prop) (s:Dn.S Ty.T) (μ:Gh) (a:Act) (fs:List Fm):Prop where
 fr:RepS nt w S (enc s) μ a
 len:fs.length=s.lo.length
 lo:∀(i:Nat) (l:List (Nat×V Ty.T)) (b:Fm),s.lo[i]?=some l→fs[i]?=some b→∀d v,look d l=some v→Rep w S (encH s) μ (encV s v) (b.act.tmps.getD d undef)
 sz:∀p∈fs,Marks w S p.act.defers∧p.nt≤p.act.tmps.size∧p.d≤w.heap.size
 md:MD a.defers fs
 lp:∀p∈fs,∀j r,p.lo=some (j,r)→w.heap[μ.l j]?=some (.loop r)∧¬S (μ.l j)∧∀p'∈fs,∀i q,p'.lo=some (i,q)→i≠j→μ.l i≠μ.l j
 iv:Inv s
theorem RepF.under {nt:Nat} {w w':World} {S S':Nat→Prop} {s:Dn.S Ty.T} {h':Heap} {μ μ':Gh} {a:Act} {fs:List Fm} (h:RepF nt w S s μ a fs) (ev:Evo w S (encH s) μ w' S' h' μ') :
  (∀p∈fs,Marks w' S' p.act.defers∧p.nt≤p.act.tmps.size∧p.d≤w'.heap.size)∧∀p∈fs,∀j r,p.lo=some (j,r)→w'.heap[μ'.l j]?=some (.loop r)∧¬S' (μ'.l j)∧∀p'∈fs,∀i q,p'.lo=some (i,q)→i≠j→μ'.l i≠μ'.l j:=by
 refine ⟨fun p hp=>⟨h.fr.hp.marks (h.sz p hp).1 ev,(h.sz p hp).2.1,Nat.le_trans (h.sz p hp).2.2 ev.size⟩,fun p hp j r hl=>?_⟩
 obtain ⟨h1,h2,h3⟩:=h.lp p hp j r hl
 have hn:=h.fr.hp.no_own h1 (by intros;simp) (by intros;simp)
 have hlt:=(Array.getElem?_eq_some_iff.1 h1).1
 rw [ev.lp]
 refine ⟨(ev.keep _ hlt hn).trans h1,fun hs=>?_,h3⟩
 rcases ev.st2 _ hs with q|q|q
 ·exact h2 q
 ·omega
 ·exact hn q
theorem RepF.step {nt:Nat} {w w':World} {S S':Nat→Prop} {s s':Dn.S Ty.T} {μ μ':Gh} {a a':Act} {fs:List Fm} (h:RepF nt w S s μ a fs) (ed:a'.defers=a.defers) (hs:RepS nt w' S' (enc s') μ' a') (on:On s s') (iv:Inv s')
  (ev:Evo w S (encH s) μ w' S' (encH s') μ') (vv:EvoV (encH s) μ (encH s') μ'):RepF nt w' S' s' μ' a' fs :=
 ⟨hs,by rw [on.lo];exact h.len,fun i l b hl hb d v hv=>by
  rw [on.lo] at hl
  have ok:=h.iv.lo l (Au hl) (d,v) (Ko hv)
  rw [on.encV ok]
  exact (h.lo i l b hl hb d v hv).evo h.fr.hp ev vv,(h.under ev).1,by rw [ed];exact h.md,(h.under ev).2,iv⟩
theorem Jbi {d:Nat} {v:V Ty.T} {sl:List (Nat×V Ty.T)}:∀ {n:List Nat},look d (kept sl n)=some v→look d sl=some v
 | [],h=>by cases h
 | k::r,h=>by
  simp only [kept] at h
  split at h
  ·rename_i u hu
   rw [Ju] at h
   split at h
   ·rename_i hk
    injection h with h
    subst h
    subst hk
    exact hu
   ·exact Jbi h
  ·exact Jbi h
theorem Ji6 {sl:List (Nat×V Ty.T)}:∀ {n:List Nat} {p:Nat×V Ty.T},p∈kept sl n→p∈sl
 | [],p,h=>by cases h
 | k::r,p,h=>by
  simp only [kept] at h
  split at h
  ·rename_i u hu
   rcases Ai.1 h with rfl|h
   ·exact Ko hu
   ·exact Ji6 h
  ·exact Ji6 h
theorem RepF.push {nt nt':Nat} {w:World} {S:Nat→Prop} {s:Dn.S Ty.T} {μ:Gh} {a a':Act} {fs:List Fm} (h:RepF nt w S s μ a fs) {n:List Nat} {sl:List (Nat×V Ty.T)} (ok:∀p∈sl,okV s p.2)
  {lo:Option (Nat×Loop)} (hlo:∀j r,lo=some (j,r)→w.heap[μ.l j]?=some (.loop r)∧¬S (μ.l j)∧∀p'∈fs,∀i q,p'.lo=some (i,q)→i≠j→μ.l i≠μ.l j)
  (hs:RepS nt' w S (enc ⟨sl,kept s.sl n::s.lo,s.ob,s.ln,s.mo⟩) μ a') (hd:a'.defers=[]):RepF nt' w S ⟨sl,kept s.sl n::s.lo,s.ob,s.ln,s.mo⟩ μ a' (⟨nt,a,lo,w.heap.size⟩::fs) where
 fr:=hs
 len:=by simp [h.len]
 lo i l b hl hb d v hv:=by
  have e:∀v,Dn.encV ⟨sl,kept s.sl n::s.lo,s.ob,s.ln,s.mo⟩ v=Dn.encV s v:=fun v=>by
   have e:encC ⟨sl,kept s.sl n::s.lo,s.ob,s.ln,s.mo⟩=encC s:=by funext c;cases c<;>rfl
   cases v<;>simp only [Dn.encV,e]
  have eh:encH ⟨sl,kept s.sl n::s.lo,s.ob,s.ln,s.mo⟩=encH s:=by
   have e:encC ⟨sl,kept s.sl n::s.lo,s.ob,s.ln,s.mo⟩=encC s:=by funext c;cases c<;>rfl
   funext g
   simp only [encH]
   cases look g s.ob with
   | none=>rfl
   | some o=>cases o<;>simp only [Bd,Dn.encO,e]
  rw [e,eh]
  cases i with
  | zero =>
   simp only [Bh,Option.some.injEq] at hl hb
   subst hl
   subst hb
   have:=h.fr.fr d
   have hd:=Jbi hv
   have e2:(enc s).f d=Dn.encV s v:=by show Dn.encV s (s.at d)=_;rw [show s.at d=v by simp [Dn.S.at,hd]]
   rw [e2] at this
   exact this
  | succ i=>exact h.lo i l b (by simpa using hl) (by simpa using hb) d v hv
 sz p hp:=by
  rcases Ai.1 hp with rfl|hp
  ·exact ⟨h.fr.df,h.fr.sz,Az _⟩
  ·exact h.sz p hp
 md:=⟨by rw [hd];exact fun d hd=>(by cases hd),fun q hq=>(by
  obtain ⟨q',e,hb,-⟩:=h.fr.df.2 _ hq
  injection e with e
  injection e with e
  subst e
  exact (Array.getElem?_eq_some_iff.1 hb).1),fun p hp=>(h.sz p hp).2.2,h.md⟩
 lp p hp j r hl:=by
  rcases Ai.1 hp with rfl|hp
  ·refine ⟨(hlo j r hl).1,(hlo j r hl).2.1,fun p' hp' i q hq hne=>?_⟩
   rcases Ai.1 hp' with rfl|hp'
   ·rw [hl] at hq;injection hq with hq;injection hq with e1 e2;exact (hne e1.symm).elim
   ·exact (hlo j r hl).2.2 p' hp' i q hq hne
  ·refine ⟨(h.lp p hp j r hl).1,(h.lp p hp j r hl).2.1,fun p' hp' i q hq hne=>?_⟩
   rcases Ai.1 hp' with rfl|hp'
   ·exact ((hlo i q hq).2.2 p hp j r hl (Ne.symm hne)).symm
   ·exact (h.lp p hp j r hl).2.2 p' hp' i q hq hne
 iv:=by
  refine ⟨ok,fun l hl p hp=>?_,h.iv.ob,h.iv.mo⟩
  rcases Ai.1 hl with rfl|hl
  ·exact h.iv.sl p (Ji6 hp)
  ·exact h.iv.lo l hl p hp
theorem RepF.pop {nt nt':Nat} {w:World} {S:Nat→Prop} {s:Dn.S Ty.T} {μ:Gh} {a a':Act} {lo0:Option (Nat×Loop)} {d0:Nat} {fs:List Fm} (h:RepF nt' w S s μ a' (⟨nt,a,lo0,d0⟩::fs)):RepF nt w S s.pop μ a fs:=by
 obtain ⟨sl,lo,ob,ln,mo⟩:=s
 have hl:=h.len
 cases lo with
 | nil=>simp at hl
 | cons l r =>
  have ec:encC ⟨sl,l::r,ob,ln,mo⟩=encC ⟨l,r,ob,ln,mo⟩:=by funext c;cases c<;>rfl
  have e:∀v,Dn.encV ⟨sl,l::r,ob,ln,mo⟩ v=Dn.encV ⟨l,r,ob,ln,mo⟩ v:=fun v=>by cases v<;>simp only [Dn.encV,ec]
  have eh:encH ⟨sl,l::r,ob,ln,mo⟩=encH ⟨l,r,ob,ln,mo⟩:=by
   funext g
   simp only [encH]
   cases look g ob with
   | none=>rfl
   | some o=>cases o<;>simp only [Bd,Dn.encO,ec]
  have hp:RepH w S (encH ⟨l,r,ob,ln,mo⟩) μ:=eh▸h.fr.hp
  refine ⟨⟨fun d=>?_,hp,(h.sz _ Ae).1,(h.sz _ Ae).2.1⟩,(by simpa using hl:fs.length=r.length),fun i l' b hl' hb d v hv=>?_,fun p hp=>h.sz p (Ab _ hp),h.md.2.2.2,fun p hp j r hl=>⟨(h.lp p (Ab _ hp) j r hl).1,(h.lp p (Ab _ hp) j r hl).2.1,fun p' hp'=>(h.lp p (Ab _ hp) j r hl).2.2 p' (Ab _ hp')⟩,⟨fun p hp=>h.iv.lo l Ae p hp,fun l' hl'=>h.iv.lo l' (Ab _ hl'),h.iv.ob,h.iv.mo⟩⟩
  ·show Rep w S (encH ⟨l,r,ob,ln,mo⟩) μ (Dn.encV ⟨l,r,ob,ln,mo⟩ (Dn.S.at ⟨l,r,ob,ln,mo⟩ d)) _
   unfold Dn.S.at
   cases hd:look d l with
   | none=>exact .any _
   | some v =>
    have:=h.lo 0 l ⟨nt,a,lo0,d0⟩ rfl rfl d v hd
    rw [e,eh] at this
    exact this
  ·have hl':r[i]?=some l':=hl'
   have:=h.lo (i+1) l' b (by simpa using hl') (by simpa using hb) d v hv
   rw [e,eh] at this
   exact this
end Go.Dn
namespace Go.Dn
open Go Go.Vv
set_option linter.unusedVariables false
set_option linter.unusedSimpArgs false
theorem mode_one (m:CM) (d:Option Nat):Jgu [(d.getD 0,m)] d=m:=by simp [Jgu]
theorem Jul {P:Program} {dst:Option Nat} {op:Op} {f:FuncId} {args:List LO} (h:Qu P [] dst op=some (.callp f args)) (m:CM) :
  Qu P [(dst.getD 0,m)] dst op=some (match m with|.p=>.callp f args|.z=>.callz f args|.q=>.callq f args):=by
 cases op
 case call c =>
  simp only [Qu] at h ⊢
  rw [mode_one]
  repeat' split at h
  all_goals first|(cases h;done)|(simp at h;done)|skip
  all_goals first|(simp only [*];done)|skip
  injection h with h
  injection h with h1 h2
  subst h1
  subst h2
  rfl
 all_goals
  simp only [Qu] at h
  repeat' split at h
  all_goals first|(cases h;done)|(simp at h;done)|contradiction
theorem Jbt {P:Program} {nt:Nat} {ops:Array Oper} {o:Oper} {x:LOper} (h:comp P [] nt ops o=some x) {op':LOp} (a:Alt x.op op'):∃cm,comp P cm nt ops o=some { x with op:=op' }:=by
 rcases a with rfl|⟨f,args,hx,ha⟩
 ·exact ⟨[],h⟩
 ·obtain ⟨m,hm⟩:∃m:CM,op'=(match m with|.p=>.callp f args|.z=>.callz f args|.q=>.callq f args):=by
   rcases ha with rfl|rfl
   ·exact ⟨.q,rfl⟩
   ·exact ⟨.z,rfl⟩
  refine ⟨[(o.dst.getD 0,m)],?_⟩
  unfold comp at h ⊢
  cases hc:Qu P [] o.dst o.op with
  | none=>rw [hc] at h;cases h
  | some lop =>
   rw [hc] at h
   simp only at h
   have hl:lop=.callp f args:=by
    rw [←hx]
    split at h
    ·split at h
     ·injection h with h;rw [←h]
     ·split at h
      ·split at h
       ·injection h with h;rw [←h]
       ·cases h
      ·cases h
    ·cases h
   rw [Jul (by rw [hc,hl]) m,←hm]
   simp only
   split at h
   ·rename_i hd
    rw [if_pos hd]
    split at h
    ·rename_i hg
     injection h with h
     rw [←h]
    ·rename_i j want hg
     split at h
     ·rename_i d hj
      split at h
      ·rename_i hlt
       rw [if_pos hlt]
       injection h with h
       rw [←h]
      ·cases h
     ·cases h
   ·cases h
theorem AltL.mem:∀ {L L':List (Nat×LOper)},AltL L L'→∀q∈L',∃p∈L,q.1=p.1∧∃op',Alt p.2.op op'∧q.2={ p.2 with op:=op' }
 | [],[],_,q,hq=>by cases hq
 | p::l,p'::m,h,q,hq=>by
  obtain ⟨h1,h2,h3⟩:=h
  rcases Ai.1 hq with rfl|hq
  ·exact ⟨p,Ae,h1,h2⟩
  ·obtain ⟨p0,a,b⟩:=AltL.mem h3 q hq
   exact ⟨p0,Ab _ a,b⟩
 | [],_::_,h,_,_=>h.elim
 | _::_,[],h,_,_=>h.elim
theorem draw_den {ro:Option Nat} {P:Program} {nt:Nat} {ops:Array Oper} {call:Vv.Call} {base:Nat} {Q:Exit→Act→World→Prop} {cx:Cx} {α:Type} {r:α} (hC:Ql call cx.ct) (hcall:Xo P call) (hm:P.follows .mixedOrders=true)
  {w:World} {S:Nat→Prop} {s:Dn.S Ty.T} {μ:Gh} {a:Act} {fs:List Fm} (h:RepF nt w S s μ a fs) {id:Nat} {l:List Nat} {L:List (Nat×LOper)} (hc:Y8 P [] nt ops l=some L) {ds:List Nat} {k:List (Nat×LOper)→List (Nat×LOper)→Dn.S Ty.T→Option α}
  (hden:jk val cx base L [] [] ds s k=some r) (hk:∀L' L2 s',k L' L2 s'=some r→Jgq ops L'=true∨Jgq ops L2=true)
  (hQ:∀a' w' S' μ' s' L' L2,RepF nt w' S' s' μ' a' fs→Evo w S (encH s) μ w' S' (encH s') μ'→k L' L2 s'=some r→Q .normal a' w'):(Code.region id ops true).wpIn (Fr ro) 0 P Q a w:=by
 obtain ⟨L',L2,s',aL,mL,he,he2,iv,on,hkr⟩:=Jqg (call:=call) hC h.iv hden
 have one:∀q∈L',∃(cm:List (Nat×CM)) (o:Oper),ops[q.1]?=some o∧comp P cm nt ops o=some q.2:=fun q hq=>by
  obtain ⟨p,hp,e1,op',al,e2⟩:=aL.mem q hq
  obtain ⟨o,h1,h2⟩:=Jff hc p hp
  obtain ⟨cm,h3⟩:=Jbt h2 al
  exact ⟨cm,o,by rw [e1];exact h1,by rw [e2];exact h3⟩
 rcases hk _ _ _ hkr with hd|hd
 ·refine Jur hcall hm h.fr (L:=L') (fun q hq=>?_) hd he fun a' w' S' μ' r0 r1 r2 r3=>hQ a' w' S' μ' s' L' L2 (h.step r0 r1 on iv r2 r3) r2 hkr
  obtain ⟨cm,o,h1,h2⟩:=one q hq
  exact ⟨cm,o,q.2,h1,h2,fun _ _ h=>h⟩
 ·refine Jur hcall hm h.fr (L:=L2) (fun q hq=>?_) hd he2 fun a' w' S' μ' r0 r1 r2 r3=>hQ a' w' S' μ' s' L' L2 (h.step r0 r1 on iv r2 r3) r2 hkr
  obtain ⟨p,hp,e1,hst⟩:=mL.mem q hq
  obtain ⟨cm,o,h1,h2⟩:=one p hp
  exact ⟨cm,o,p.2,by rw [e1];exact h1,h2,hst⟩
theorem AltL.idx:∀ {l m:List (Nat×LOper)},AltL l m→m.map (·.1)=l.map (·.1)
 | [],[],_=>rfl
 | p::l,q::m,h=>by simp only [As,h.1,h.2.2.idx]
 | [],_::_,h=>h.elim
 | _::_,[],h=>h.elim
theorem Jax {P:Program} {cm:List (Nat×CM)} {nt:Nat} {ops:Array Oper}:∀ {l:List Nat} {A B:List (Nat×LOper)},Y8 P cm nt ops l=some (A++B)→Y8 P cm nt ops (A.map (·.1))=some A∧Y8 P cm nt ops (B.map (·.1))=some B
 | [],A,B,h=>by
  simp only [Y8,Option.some.injEq] at h
  obtain ⟨rfl,rfl⟩:=List.append_eq_nil_iff.1 h.symm
  exact ⟨rfl,rfl⟩
 | i::l,A,B,h=>by
  unfold Y8 at h
  split at h
  ·rename_i o ho
   split at h
   ·rename_i x m hx hm
    injection h with h
    cases A with
    | nil =>
     simp only [List.nil_append] at h
     subst h
     have ih:=Jax (A:=[]) (B:=m) hm
     refine ⟨rfl,?_⟩
     simp only [As,Y8,ho,hx,ih.2]
    | cons a A =>
     simp only [Db,List.cons.injEq] at h
     obtain ⟨rfl,rfl⟩:=h
     have ih:=Jax hm
     refine ⟨?_,ih.2⟩
     simp only [As,Y8,ho,hx,ih.1]
   ·cases h
  ·cases h
theorem Jle {P:Program} {cm:List (Nat×CM)} {nt:Nat} {ops:Array Oper}:∀ {l:List Nat} {L:List (Nat×LOper)},Y8 P cm nt ops l=some L→∃os:List Oper,l.map (fun i=>ops[i]?)=os.map some
 | [],L,h=>⟨[],rfl⟩
 | i::l,L,h=>by
  unfold Y8 at h
  split at h
  ·rename_i o ho
   split at h
   ·rename_i x m hx hm
    obtain ⟨os,e⟩:=Jle hm
    exact ⟨o::os,by simp [ho,e]⟩
   ·cases h
  ·cases h
theorem Jsr {ro:Option Nat} {P:Program} {nt:Nat} {ops:Array Oper} {call:Vv.Call} {base:Nat} {Q:Exit→Act→World→Prop} {cx:Cx} {α:Type} {r:α} (hC:Ql call cx.ct) (hcall:Xo P call) (hm:P.follows .mixedOrders=true)
  {w:World} {S:Nat→Prop} {s:Dn.S Ty.T} {μ:Gh} {a:Act} {fs:List Fm} (h:RepF nt w S s μ a fs) {id:Nat} {l:List Nat} {L R:List (Nat×LOper)} (hc:Y8 P [] nt ops l=some (L++R)) {ds:List Nat} {k:List (Nat×LOper)→List (Nat×LOper)→Dn.S Ty.T→Option α}
  (hden:jk val cx base L [] [] ds s k=some r) (hk:∀L' L2 s',k L' L2 s'=some r→Jh1 ops L' (R.map (·.1))=true)
  (hQ:∀a' w' S' μ' s' L' L2 os,RepF nt w' S' s' μ' a' fs→Evo w S (encH s) μ w' S' (encH s') μ'→k L' L2 s'=some r→Y8 P [] nt ops (R.map (·.1))=some R→(R.map (·.1)).map (fun i=>ops[i]?)=os.map some→wpListIn (Fr ro) 0 P ops Q os a' w'):(Code.region id ops true).wpIn (Fr ro) 0 P Q a w:=by
 obtain ⟨L',L2,s',aL,mL,he,he2,iv,on,hkr⟩:=Jqg (call:=call) hC h.iv hden
 obtain ⟨hcL,hcR⟩:=Jax hc
 obtain ⟨os,hos⟩:=Jle hcR
 have hcc:∀q∈L',∃(cm:List (Nat×CM)) (o:Oper),ops[q.1]?=some o∧comp P cm nt ops o=some q.2:=fun q hq=>by
  obtain ⟨p,hp,e1,op',al,e2⟩:=aL.mem q hq
  obtain ⟨o,h1,h2⟩:=Jff hcL p hp
  obtain ⟨cm,h3⟩:=Jbt h2 al
  exact ⟨cm,o,by rw [e1];exact h1,by rw [e2];exact h3⟩
 have hsp:=hk _ _ _ hkr
 have hfin:∀(a':Act) (w':World) (S':Nat→Prop) (μ':Gh),a'.defers=a.defers→RepS nt w' S' (enc s') μ' a'→Evo w S (enc s).h μ w' S' (enc s').h μ'→EvoV (enc s).h μ (enc s').h μ'→wpListIn (Fr ro) 0 P ops Q os a' w' :=
  fun a' w' S' μ' r0 r1 r2 r3=>hQ a' w' S' μ' s' L' L2 os (h.step r0 r1 on iv r2 r3) r2 hkr hcR hos
 exact split_wp hcall hm h.fr hcc hsp hos he hfin
end Go.Dn
namespace Go.Dn
open Go Go.Vv
set_option linter.unusedVariables false
set_option linter.unusedSimpArgs false
theorem step_den {ro:Option Nat} {P:Program} {nt:Nat} {ops:Array Oper} {call:Vv.Call} {base:Nat} {Q:Exit→Act→World→Prop} {K:Act→World→Prop} {cx:Cx} {α:Type} {r:α} (hC:Ql call cx.ct) (hcall:Xo P call)
  {w:World} {S:Nat→Prop} {s:Dn.S Ty.T} {μ:Gh} {a:Act} {fs:List Fm} (h:RepF nt w S s μ a fs) {o:Oper} {lo:LOper} (hc:comp P [] nt ops o=some lo) {k:LOp→Dn.S Ty.T→Option α}
  (hden:Jsi val cx base s lo k=some r)
  (hK:∀a' w' S' μ' s' op',RepF nt w' S' s' μ' a' fs→Evo w S (encH s) μ w' S' (encH s') μ'→k op' s'=some r→K a' w') :
  if Region.wanted o (yielded ops a.tmps)=true then wpO ro P o a w K Q else K (a.put o.dst undef) w:=by
 obtain ⟨op',s',al,he,iv,on,hkr⟩:=Jpu (call:=call) hC h.iv hden
 obtain ⟨cm,hcm⟩:=Jbt hc al
 exact Jin hcall h.fr hcm he fun a' w' S' μ' r0 r1 r2 r3=>hK a' w' S' μ' s' op' (h.step r0 r1 on iv r2 r3) r2 hkr
theorem Jkd {P:Program} {nt:Nat} {ops:Array Oper} {cm:List (Nat×CM)} {w:World} {S:Nat→Prop} {σ:St} {μ:Gh} {a:Act} {o:Oper} {lo:LOper} (hs:RepS nt w S σ μ a) (hc:comp P cm nt ops o=some lo) :
  lo.dst=o.dst∧(lo.guard=none→Region.wanted o (yielded ops a.tmps)=true)∧∀g want,lo.guard=some (g,want) →
   (∀b,σ.f g=.bool b→Region.wanted o (yielded ops a.tmps)=(b==want))∧(σ.f g=.tup []→Region.wanted o (yielded ops a.tmps)=false):=by
 unfold comp at hc
 split at hc
 ·cases hc
 ·split at hc
  ·split at hc
   ·rename_i hg
    injection hc with hc
    subst hc
    exact ⟨rfl,(fun _=>by simp [Region.wanted,hg]),fun g want e=>by cases e⟩
   ·rename_i j want hg
    split at hc
    ·rename_i d hj
     split at hc
     ·rename_i hlt
      injection hc with hc
      subst hc
      refine ⟨rfl,(fun e=>by cases e),fun g want' e=>?_⟩
      injection e with e
      injection e with e1 e2
      subst e1
      subst e2
      have hrd:=hs.fr d
      refine ⟨fun b hb=>?_,fun hb=>?_⟩
      ·rw [hb] at hrd
       have hy:=zn hs hj hlt hrd.bool_inv
       simp [Region.wanted,hg,hy,valB]
      ·rw [hb] at hrd
       have hy:=zn hs hj hlt hrd.tup0_inv
       simp [Region.wanted,hg,hy,valB]
     ·cases hc
    ·cases hc
  ·cases hc
end Go.Dn
namespace Go.Dn
open Go Go.Vv
set_option linter.unusedVariables false
set_option linter.unusedSimpArgs false
inductive GR (h h':Heap) (θ:Nat→Option Nat) (R:List Nat):AV→AV→Prop
 | any (x:AV):GR h h' θ R x .any
 | snap {x u y:AV} {ns:List Nat} (k:Nat) (hs:Vv.snap h k x=some (u,ns)) (hn:∀g∈ns,g∈R) (hu:Up u y):GR h h' θ R x y
 | arr {g v off len n v':Nat} {o o':AObj} (ho:h g=some o) (ho':h' n=some o') (hv:v'≤o'.ver) (hθ:θ n=some g)
   (hc:v'=o'.ver→v=o.ver∧∀e el c z,o=.arr v e el c z→∃c' z',o'=.arr v' e el c' z'∧(c=[]↔c'=[])):GR h h' θ R (.arr g v off len) (.arr n v' off len)
 | ptr {g v off n v':Nat} {o o':AObj} (ho:h g=some o) (ho':h' n=some o') (hv:v'≤o'.ver) (hθ:θ n=some g) (hc:v'=o'.ver→v=o.ver):GR h h' θ R (.ptr g v off) (.ptr n v' off)
 | map {g v n v':Nat} {o o':AObj} (ho:h g=some o) (ho':h' n=some o') (hv:v'≤o'.ver) (hθ:θ n=some g) (hc:v'=o'.ver→v=o.ver):GR h h' θ R (.map g v) (.map n v')
 | same (x:AV) (hθ:θ=some) (hk:∀g o,h g=some o→∃o',h' g=some o'∧o'.ver=o.ver∧o.like o'):GR h h' θ R x x
 | yld (j:Nat):GR h h' θ R (.yld j) (.yld j)
 | new {n v' e:Nat} {el:TypeId} {z:Bool} (ho':h' n=some (.arr v' e el [] z)):GR h h' θ R .nils (.arr n v' 0 0)
 | fn (f:FuncId) (l l':List AV) (hl:l.length=l'.length) (hg:∀(i:Nat) (x y:AV),l[i]?=some x→l'[i]?=some y→GR h h' θ R x y):GR h h' θ R (.fn f l) (.fn f l')
 | agg (l l':List AV) (hl:l.length=l'.length) (hg:∀(i:Nat) (x y:AV),l[i]?=some x→l'[i]?=some y→GR h h' θ R x y):GR h h' θ R (.agg l) (.agg l')
 | tup (l l':List AV) (hl:l.length=l'.length) (hg:∀(i:Nat) (x y:AV),l[i]?=some x→l'[i]?=some y→GR h h' θ R x y):GR h h' θ R (.tup l) (.tup l')
structure GRL (h h':Heap) (θ:Nat→Option Nat) (R:List Nat) (l l':List AV):Prop where
 len:l.length=l'.length
 at':∀(i:Nat) (x y:AV),l[i]?=some x→l'[i]?=some y→GR h h' θ R x y
section
variable {h h':Heap} {θ:Nat→Option Nat} {R:List Nat}
theorem GR.flat {x:AV} (hf:x.flat=true):GR h h' θ R x x:=.snap 1 (zh h 0 x hf) (fun g hg=>by cases hg) (.refl x)
theorem GRL.nil:GRL h h' θ R [] []:=⟨rfl,fun i x y hx=>by simp at hx⟩
theorem GRL.cons {x y:AV} {l l':List AV} (hx:GR h h' θ R x y) (ht:GRL h h' θ R l l'):GRL h h' θ R (x::l) (y::l') :=
 ⟨by simp [ht.len],fun i a b ha hb=>by
  cases i with
  | zero=>simp at ha hb;subst ha;subst hb;exact hx
  | succ i=>exact ht.at' i a b (by simpa using ha) (by simpa using hb)⟩
theorem GRL.append {a b c d:List AV} (h1:GRL h h' θ R a c) (h2:GRL h h' θ R b d):GRL h h' θ R (a++b) (c++d):=by
 refine ⟨by simp [h1.len,h2.len],fun i x y hx hy=>?_⟩
 by_cases hi:i<a.length
 ·rw [Bw hi] at hx
  rw [Bw (by rw [←h1.len];exact hi)] at hy
  exact h1.at' i x y hx hy
 ·rw [Bv (by omega)] at hx
  rw [Bv (by rw [←h1.len];omega)] at hy
  exact h2.at' _ x y hx (by rw [h1.len];exact hy)
theorem GRL.set {a b:List AV} {x y:AV} (hl:GRL h h' θ R a b) (hx:GR h h' θ R x y) (i:Nat):GRL h h' θ R (a.set i x) (b.set i y):=by
 refine ⟨by simp [hl.len],fun j u v hu hv=>?_⟩
 rw [List.getElem?_set] at hu hv
 by_cases hij:i=j
 ·rw [if_pos hij] at hu hv
  split at hu
  ·split at hv
   ·injection hu with hu;injection hv with hv;subst hu;subst hv;exact hx
   ·cases hv
  ·cases hu
 ·rw [if_neg hij] at hu hv
  exact hl.at' j u v hu hv
theorem GRL.flat {l:List AV} (hf:l.all AV.flat=true):GRL h h' θ R l l :=
 ⟨rfl,fun i x y hx hy=>by rw [hx] at hy;injection hy with hy;subst hy;exact .flat (Ah.1 hf x (Au hx))⟩
theorem GRL.map {α:Type} {f f':α→AV} {l:List α} (hf:∀x∈l,GR h h' θ R (f x) (f' x)):GRL h h' θ R (l.map f) (l.map f'):=by
 induction l with
 | nil=>exact .nil
 | cons x l ih=>exact .cons (hf x Ae) (ih fun y hy=>hf y (Ab _ hy))
theorem GRL.ofSnL {k:Nat} {L U:List AV} {N:List Nat} (hs:SnL h k L U N) (hN:∀g∈N,(∃o,h g=some o∧o.freeze.fz=true)→g∈R):GRL h h' θ R L U:=by
 obtain ⟨ps,h1,h2,h3⟩:=hs
 obtain ⟨m1,m2⟩:=Xi h1
 refine ⟨by rw [←h2.len];simp [m1],fun i x y hx hy=>?_⟩
 obtain ⟨p,p1,p2⟩:=m2 i x hx
 refine .snap k (u:=p.1) (ns:=p.2) p2 (fun g hg=>hN g ?_ (Xc k (u:=p.1) (ns:=p.2) p2 g hg)) (h2.at' i p.1 y (by simp [p1]) hy)
 exact (h3 g).1 (Ao.2 ⟨p,Au p1,hg⟩)
end
inductive GO (h h':Heap) (θ:Nat→Option Nat) (R:List Nat) (g:Nat):AObj→AObj→Prop
 | box {v v':Nat} {c c':List AV} (hc:GRL h h' θ R c c'):GO h h' θ R g (.box v c) (.box v' c')
 | arr {v v' e:Nat} {el:TypeId} {z z':Bool} {c c':List AV} (hc:GRL h h' θ R c c') (hz:z'=true→z=true∨g∈R) (hz2:z=true→z'=true):GO h h' θ R g (.arr v e el c z) (.arr v' e el c' z')
 | map {v v':Nat} {es es':List (AV×AV)} (hl:es'.length=es.length) (hk:∀(i:Nat) (p q:AV×AV),es[i]?=some p→es'[i]?=some q→q.1=p.1∧GR h h' θ R p.2 q.2):GO h h' θ R g (.map v es false) (.map v' es' false)
structure GS (h h':Heap) (θ:Nat→Option Nat) (R:List Nat):Prop where
 ob:∀n o',h' n=some o'→(∃v e el z,o'=.arr v e el [] z)∨∃g o,θ n=some g∧h g=some o∧GO h h' θ R g o o'
 inj:∀n n' g,θ n=some g→θ n'=some g→(h' n).isSome=true→(h' n').isSome=true→n=n'
 own:∀n g o',θ n=some g→h' n=some o'→o'.fz=false→o'.live=true→g∉R
 nm:∀g∈R,∃o,h g=some o∧o.freeze.fz=true
theorem Kx {α:Type} {l l':List α} (h:l.length=l'.length):l=[]↔l'=[]:=by
 cases l<;>cases l'<;>simp at h ⊢
theorem GO.fz {h h':Heap} {θ:Nat→Option Nat} {R:List Nat} {x:Nat} {o o':AObj} (g:GO h h' θ R x o o'):(o'.fz=false→o.fz=false)∧o.live=o'.live:=by
 cases g with
 | box hc=>exact ⟨fun _=>rfl,rfl⟩
 | map hl hk=>exact ⟨fun _=>rfl,rfl⟩
 | @arr v v' e el z z' c c' hc hz hz2 =>
  refine ⟨fun q=>?_,?_⟩
  ·simp only [AObj.fz] at q ⊢
   cases z with
   | false=>rfl
   | true=>rw [hz2 rfl] at q;cases q
  have:=Kx hc.len
  cases c<;>cases c'<;>simp_all [AObj.live]
def Gh.via (μ:Gh) (θ:Nat→Option Nat):Gh:=⟨fun n=>match θ n with|some g=>μ.b g|none=>0,fun n=>match θ n with|some g=>μ.o g|none=>0,μ.l⟩
theorem Jis {μ:Gh} {θ:Nat→Option Nat} {n g:Nat} (h:θ n=some g):(Gh.via μ θ).b n=μ.b g:=by simp [Gh.via,h]
theorem via_o {μ:Gh} {θ:Nat→Option Nat} {n g:Nat} (h:θ n=some g):(Gh.via μ θ).o n=μ.o g:=by simp [Gh.via,h]
section
variable {w:World} {S:Nat→Prop} {h h':Heap} {μ:Gh} {θ:Nat→Option Nat} {R:List Nat}
theorem GR.rep (hp:RepH w S h μ) {S':Nat→Prop} (hS:∀b,S b→S' b) (hm:Met S' h μ R) (ev:Evo w S h μ w S' h' (Gh.via μ θ)):∀ {x y:AV},GR h h' θ R x y→∀ {v:Value},Rep w S h μ x v→Rep w S' h' (Gh.via μ θ) y v:=by
 intro x y g
 induction g with
 | any x=>exact fun _=>.any _
 | snap k hs hn hu=>exact fun hr=>.pure (hu.rep (Xa hp hS k hs hr fun g hg=>hm g (hn g hg)))
 | @arr g v off len n v' o o' ho ho' hv hθ hc =>
  intro cv hr
  cases hr with
  | pure hp=>cases hp
  | arr _ _ _ _ _ o1 ho1 hv1 h11 hr1 =>
   rw [ho] at ho1
   injection ho1 with ho1
   subst ho1
   refine .arr n v' off len cv o' ho' hv h11 fun e=>?_
   obtain ⟨e1,hcc⟩:=hc e
   obtain ⟨esz,el,cells,fz,eo,hk⟩:=hr1 e1
   obtain ⟨c',z',eo',hnil⟩:=hcc esz el cells fz eo
   refine ⟨esz,el,c',z',eo',?_⟩
   rw [Jis hθ,via_o hθ]
   exact ⟨fun q=>hk.1 (hnil.2 q),fun q=>hk.2 fun p=>q (hnil.1 p)⟩
 | @ptr g v off n v' o o' ho ho' hv hθ hc =>
  intro cv hr
  cases hr with
  | pure hp=>cases hp
  | ptr _ _ _ _ o1 ho1 hv1 h11 hr1 =>
   rw [ho] at ho1
   injection ho1 with ho1
   subst ho1
   exact .ptr n v' off cv o' ho' hv h11 fun e=>by rw [Jis hθ,via_o hθ];exact hr1 (hc e)
 | @map g v n v' o o' ho ho' hv hθ hc =>
  intro cv hr
  cases hr with
  | pure hp=>cases hp
  | map _ _ _ o1 ho1 hv1 h11 hr1 =>
   rw [ho] at ho1
   injection ho1 with ho1
   subst ho1
   exact .map n v' cv o' ho' hv h11 fun e=>by rw [Jis hθ];exact hr1 (hc e)
 | yld j =>
  intro cv hr
  cases hr with
  | pure hp=>cases hp
  | yld=>exact .yld j
 | same x hθ hk =>
  intro cv hr
  refine hr.evo hp ev fun g o ho=>?_
  obtain ⟨o',a,b,c⟩:=hk g o ho
  exact ⟨o',a,by omega,fun _=>⟨⟨Jis (by rw [hθ]),via_o (by rw [hθ])⟩,c⟩⟩
 | @new n v' e el z ho' =>
  intro cv hr
  have:=hr.nils_inv
  subst this
  exact .arr n v' 0 0 _ _ ho' (Az _) rfl fun _=>⟨e,el,[],z,rfl,fun _=>⟨rfl,rfl,none,rfl⟩,fun q=>(q rfl).elim⟩
 | fn f l l' hl hg ih =>
  intro cv hr
  obtain ⟨cs,rfl,h1,h2⟩:=hr.fn_inv
  refine .fn f l' cs (by rw [←hl];exact h1) fun i y hy=>?_
  obtain ⟨x,hx⟩:∃x,l[i]?=some x:=by
   have:i<l'.length:=(Ad.1 hy).1
   exact ⟨_,Ag (by omega)⟩
  exact ih i x y hx hy (h2 i x hx)
 | agg l l' hl hg ih =>
  intro cv hr
  obtain ⟨cs,rfl,h1,h2⟩:=hr.agg_inv
  have key:∀i y,l'[i]?=some y→∃x,l[i]?=some x:=fun i y hy=>by
   have:i<l'.length:=(Ad.1 hy).1
   exact ⟨_,Ag (by omega)⟩
  refine .agg l' cs (by rw [←hl];exact h1) (fun i y hy=>?_) fun i y hy=>?_
  ·obtain ⟨x,hx⟩:=key i y hy
   exact (h2 i x hx).2
  ·obtain ⟨x,hx⟩:=key i y hy
   exact ih i x y hx hy (h2 i x hx).1
 | tup l l' hl hg ih =>
  intro cv hr
  obtain ⟨cs,rfl,h1,h2⟩:=hr.tup_inv
  refine .tup l' cs (by rw [←hl];exact h1) fun i y hy=>?_
  obtain ⟨x,hx⟩:∃x,l[i]?=some x:=by
   have:i<l'.length:=(Ad.1 hy).1
   exact ⟨_,Ag (by omega)⟩
  exact ih i x y hx hy (h2 i x hx)
theorem GRL.holds (hp:RepH w S h μ) {S':Nat→Prop} (hS:∀b,S b→S' b) (hm:Met S' h μ R) (ev:Evo w S h μ w S' h' (Gh.via μ θ)) {c c':List AV} (g:GRL h h' θ R c c') {o:Nat} {cs:Array Value} (hh:HoldsAt w S h μ o c cs):HoldsAt w S' h' (Gh.via μ θ) o c' cs:=by
 intro i y hy
 obtain ⟨x,hx⟩:∃x,c[i]?=some x:=by
  have:i<c'.length:=(Ad.1 hy).1
  exact ⟨_,Ag (by rw [g.len];omega)⟩
 exact ⟨(g.at' i x y hx hy).rep hp hS hm ev (hh i x hx).1,(hh i x hx).2⟩
theorem Jou (hp:RepH w S h μ) (gs:GS h h' θ R):∃S':Nat→Prop,RepH w S' h' (Gh.via μ θ)∧Evo w S h μ w S' h' (Gh.via μ θ)∧∀ {x y:AV},GR h h' θ R x y→∀ {v:Value},Rep w S h μ x v→Rep w S' h' (Gh.via μ θ) y v:=by
 obtain ⟨f1,f2,f3⟩:=Jfi hp gs.nm
 have hS:∀b,S b→(fun b=>S b∨Liv h μ R b) b:=fun b hb=>.inl hb
 have hm:Met (fun b=>S b∨Liv h μ R b) h μ R:=fun g hg o ho hl=>.inr ⟨g,hg,o,ho,hl,rfl⟩
 have old:∀n o',h' n=some o'→o'.live=true→∃g o,θ n=some g∧h g=some o∧GO h h' θ R g o o':=fun n o' ho hl=>by
  rcases gs.ob n o' ho with ⟨v,e,el,z,rfl⟩|hx
  ·cases hl
  ·exact hx
 have ev:Evo w S h μ w (fun b=>S b∨Liv h μ R b) h' (Gh.via μ θ):=by
  refine ⟨rfl,rfl,⟨rfl,Az _⟩,Az _,fun _ _ _=>rfl,fun _ cs _ _ hc=>⟨cs,hc,rfl⟩,fun b hb=>.inl hb,f2.st2,?_,rfl⟩
  rintro b ⟨n,o',ho,hz,hl,e⟩
  obtain ⟨g,x,t1,t2,t3⟩:=old n o' ho hl
  exact .inl ⟨g,x,t2,t3.fz.1 hz,t3.fz.2▸hl,by rw [←e,Jis t1]⟩
 refine ⟨fun b=>S b∨Liv h μ R b,⟨fun n o' ho=>?_,fun n n' o o' h1 h2 l1 l2 e=>?_,fun n o' ho hz hl=>?_,f1.lt⟩,ev,fun g _ hr=>g.rep hp hS hm ev hr⟩
 ·rcases gs.ob n o' ho with ⟨v,e,el,z,rfl⟩|⟨g,o,hθ,hg,go⟩
  ·exact fun q=>(q rfl).elim
  ·have hob:=hp.ob g o hg
   rw [Jis hθ,via_o hθ]
   cases go with
   | box hc =>
    obtain ⟨cs,el,b1,b2,b3⟩:=hob
    exact ⟨cs,el,b1,by rw [←hc.len];exact b2,hc.holds hp hS hm ev b3⟩
   | @map v v' es es' hl hk =>
    obtain ⟨mes,clock,b1,b2,b3,b4⟩:=hob
    refine ⟨mes,clock,b1,⟨by rw [hl];exact b2.1,b2.2⟩,(fun q=>by cases q),fun i k v hi=>?_⟩
    have hlt:i<es.length:=by have:=(Ad.1 hi).1;omega
    obtain ⟨e1,e2⟩:=hk i es[i] (k,v) (Ag hlt) hi
    obtain ⟨e,c1,c2,c3⟩:=b4 i es[i].1 es[i].2 (Ag hlt)
    have e1:k=es[i].1:=e1
    exact ⟨e,c1,by rw [e1];exact c2.mono hS (fun _ _=>rfl),e2.rep hp hS hm ev c3⟩
   | arr hc hz hz2 =>
    intro hne
    have hne0:=fun q=>hne ((Kx hc.len).1 q)
    obtain ⟨cs,b1,b2,b3,b4⟩:=hob hne0
    refine ⟨cs,b1,by rw [←hc.len];exact b2,hc.holds hp hS hm ev b3,fun q=>?_⟩
    rcases hz q with q|q
    ·exact .inl (b4 q)
    ·exact hm g q _ hg (J5.2 hne0)
 ·obtain ⟨g,x,t1,t2,t3⟩:=old n o h1 l1
  obtain ⟨g',x',t1',t2',t3'⟩:=old n' o' h2 l2
  rw [Jis t1,Jis t1'] at e
  have:=hp.inj g g' x x' t2 t2' (t3.fz.2▸l1) (t3'.fz.2▸l2) e
  subst this
  exact gs.inj n n' g t1 t1' (by rw [h1];rfl) (by rw [h2];rfl)
 ·obtain ⟨g,x,t1,t2,t3⟩:=old n o' ho hl
  rw [Jis t1]
  rintro (hs|⟨g2,hg2,o2,ho2,hl2,e⟩)
  ·exact hp.own g x t2 (t3.fz.1 hz) (t3.fz.2▸hl) hs
  ·have:=hp.inj g2 g o2 x ho2 t2 hl2 (t3.fz.2▸hl) e
   subst this
   exact gs.own n _ o' t1 ho hz hl hg2
end
structure GF (s s':S Ty.T) (θ:Nat→Option Nat) (R:List Nat):Prop where
 gs:GS (encH s) (encH s') θ R
 sl:∀d v,look d s'.sl=some v→GR (encH s) (encH s') θ R (encV s (s.at d)) (encV s' v)
 len:s'.lo.length=s.lo.length
 lo:∀(i:Nat) (l l':List (Nat×V Ty.T)) (d:Nat) (v':V Ty.T),s.lo[i]?=some l→s'.lo[i]?=some l'→look d l'=some v'→GR (encH s) (encH s') θ R (encV s ((look d l).getD (.c .any))) (encV s' v')
 iv:Inv s'
theorem RepF.ghost {nt:Nat} {w:World} {S:Nat→Prop} {s s':Dn.S Ty.T} {μ:Gh} {a:Act} {fs:List Fm} {θ:Nat→Option Nat} {R:List Nat} (h:RepF nt w S s μ a fs) (g:GF s s' θ R) :
  ∃S' μ',RepF nt w S' s' μ' a fs∧Evo w S (encH s) μ w S' (encH s') μ':=by
 obtain ⟨S',r1,r2,r3⟩:=Jou h.fr.hp g.gs
 refine ⟨S',_,⟨⟨fun d=>?_,r1,h.fr.hp.marks h.fr.df r2,h.fr.sz⟩,by rw [g.len];exact h.len,fun i l' b hl' hb d v' hv'=>?_,(h.under r2).1,h.md,(h.under r2).2,g.iv⟩,r2⟩
 ·show Rep _ _ _ _ (encV s' (s'.at d)) _
  unfold Dn.S.at
  cases hd:look d s'.sl with
  | none=>exact .any _
  | some v=>exact r3 (g.sl d v hd) (h.fr.fr d)
 ·obtain ⟨l,hl⟩:∃l,s.lo[i]?=some l:=by
   have:i<s'.lo.length:=(Ad.1 hl').1
   exact ⟨_,Ag (by rw [←g.len];exact this)⟩
  have hg:=g.lo i l l' d v' hl hl' hv'
  cases hv:look d l with
  | none=>rw [hv] at hg;exact r3 hg (.any _)
  | some v=>rw [hv] at hg;exact r3 hg (h.lo i l b hl hb d v hv)
end Go.Dn
namespace Go.Dn
open Go Go.Vv
set_option linter.unusedVariables false
set_option linter.unusedSimpArgs false
section
variable {s:S Ty.T} {h':Heap} {θ:Nat→Option Nat} {R:List Nat}
theorem Jha {l:List AV} (h:l.all AV.flat=true):Ks l=.any∨(Ks l).flat=true:=by
 match l,h with
 | [],_=>exact .inl rfl
 | [x],h=>exact .inr (by simpa [Ks] using h)
 | _::_::_,_=>exact .inl rfl
theorem GR.one {h:Heap} {t:Ty} (x:t.T):GR h h' θ R (Ks (t.cs x)) (Ks (t.cs x)):=by
 rcases Jha (Yc t x) with e|e
 ·rw [e];exact .any _
 ·exact .flat e
theorem Jhh {t:Ty} {c:C Ty.T} {x:t.T} (h:Qd val t c=some x) (ht:t.one=false):c=.lf t x:=by
 unfold Qd at h
 split at h
 ·obtain ⟨rfl,rfl⟩:=Kf h;rfl
 ·obtain ⟨rfl,_⟩:=Kf h;cases ht
 ·cases h
theorem Jtb {n:Nat} {t:Ty} {c:C Ty.T} {x:t.T} (h:K4 val s.ob n t c=some x) (ht:t.one=false):c=.lf t x:=by
 cases n with
 | zero=>exact Jhh h ht
 | succ n =>
  simp only [K4] at h
  split at h
  ·split at h
   ·cases ht
   ·cases h
  ·split at h
   ·cases ht
   ·cases h
  ·exact Jhh h ht
theorem Jux {n:Nat} {t:Ty} {c:C Ty.T} {x:t.T} (h:K4 val s.ob n t c=some x) (hN:∀g∈Jt s.ob n c,(∃o,encH s g=some o∧o.freeze.fz=true)→g∈R):GR (encH s) h' θ R (encC s c) (Ks (t.cs x)):=by
 cases ht:t.one with
 | false =>
  have:=Jtb h ht
  subst this
  exact .one x
 | true =>
  obtain ⟨u,ns,a,b,d⟩:=Xd n (n+1) (Az _) t c x ht h
  refine .snap (n+1) a (fun g hg=>hN g ((d g).1 hg) (Xc _ (u:=u) (ns:=ns) a g hg)) ?_
  rw [Jg5 ht x] at b
  exact b.at' 0 u _ rfl rfl
theorem leafW_lf {n:Nat} {t:Ty} {v:t.T}:K4 val s.ob n t (.lf t v)=some v:=by
 cases n<;>simp [K4,Qd,cast?]
theorem Jb4 {ob:List (Nat×Ob Ty.T)} {n:Nat}:∀(t:Ty) (v:t.T) (c:C Ty.T),c∈expl val t v→Jt ob n c=[]
 | .u,v,c,h=>by cases h
 | .p a b,v,c,h=>by
  simp only [expl] at h
  rcases Ba.1 h with h|h
  ·exact Jb4 a _ c h
  ·exact Jb4 b _ c h
 | .int k,v,c,h=>by simp only [expl,Aa] at h;subst h;exact Yd _ _ _ _
 | .bool,v,c,h=>by simp only [expl,Aa] at h;subst h;exact Yd _ _ _ _
 | .str,v,c,h=>by simp only [expl,Aa] at h;subst h;exact Yd _ _ _ _
 | .ls t,v,c,h=>by simp only [expl,Aa] at h;subst h;exact Yd _ _ _ _
 | .bf f t,v,c,h=>by simp only [expl,Aa] at h;subst h;exact Yd _ _ _ _
section
variable {lw:(t:Ty)→C Ty.T→Option t.T} (hl:∀(t:Ty) (v:t.T),lw t (.lf t v)=some v)
include hl
theorem Jbs:∀(t:Ty) (v:t.T) (r:List (C Ty.T)),impl val lw t (expl val t v++r)=some (v,r)
 | .u,v,r=>rfl
 | .p a b,v,r=>by
  simp only [expl,impl,Bm]
  rw [Jbs a]
  simp only [Ap]
  rw [Jbs b]
  rfl
 | .int k,v,r=>by simp [expl,impl,hl]
 | .bool,v,r=>by simp [expl,impl,hl]
 | .str,v,r=>by simp [expl,impl,hl]
 | .ls t,v,r=>by simp [expl,impl,hl]
 | .bf f t,v,r=>by simp [expl,impl,hl]
theorem Jiw {t1:Ty} {c:C Ty.T} {y:t1.T} (hc:lw t1 c=some y):∀(t:Ty) (v:t.T) (off:Nat),tyAt t off=some t1→off<t.sz∧∃x,∀r,impl val lw t ((expl val t v).set off c++r)=some (x,r)
 | .u,v,off,h=>by cases h
 | .p a b,v,off,h=>by
  simp only [tyAt] at h
  split at h
  ·rename_i ho
   obtain ⟨h1,x,hx⟩:=Jiw hc a (val.fs v) off h
   refine ⟨by simp only [Ty.sz];omega,val.pr x (val.sn v),fun r=>?_⟩
   simp only [expl]
   rw [List.set_append_left _ _ (by rw [Xg];exact ho),Bm]
   simp only [impl]
   rw [hx]
   simp only [Ap]
   rw [Jbs hl b]
   rfl
  ·rename_i ho
   obtain ⟨h1,x,hx⟩:=Jiw hc b (val.sn v) (off - a.sz) h
   refine ⟨by simp only [Ty.sz];omega,val.pr (val.fs v) x,fun r=>?_⟩
   simp only [expl]
   rw [Bp _ _ (by rw [Xg];omega),Bm,Xg]
   simp only [impl]
   rw [Jbs hl a]
   simp only [Ap]
   rw [hx]
   rfl
 | .int k,v,off,h=>by
  simp only [tyAt] at h
  split at h
  ·rename_i h0;subst h0;injection h with h;subst h
   exact ⟨Bg,y,fun r=>by simp [expl,impl,hc]⟩
  ·cases h
 | .bool,v,off,h=>by
  simp only [tyAt] at h
  split at h
  ·rename_i h0;subst h0;injection h with h;subst h
   exact ⟨Bg,y,fun r=>by simp [expl,impl,hc]⟩
  ·cases h
 | .str,v,off,h=>by
  simp only [tyAt] at h
  split at h
  ·rename_i h0;subst h0;injection h with h;subst h
   exact ⟨Bg,y,fun r=>by simp [expl,impl,hc]⟩
  ·cases h
 | .ls t,v,off,h=>by
  simp only [tyAt] at h
  split at h
  ·rename_i h0;subst h0;injection h with h;subst h
   exact ⟨Bg,y,fun r=>by simp [expl,impl,hc]⟩
  ·cases h
 | .bf f t,v,off,h=>by
  simp only [tyAt] at h
  split at h
  ·rename_i h0;subst h0;injection h with h;subst h
   exact ⟨Bg,y,fun r=>by simp [expl,impl,hc]⟩
  ·cases h
end
theorem Jc3 {α:Type} (f:α→α) (x:α):∀l:List α,Qy (l++[x]) f=l++[f x]
 | []=>rfl
 | [y]=>rfl
 | y::z::l=>by
  have:=Jc3 f x (z::l)
  simp only [Db] at this
  simp only [Db,Qy]
  rw [this]
theorem Jfy {α:Type} (f:α→α):∀l:List α,(Qy l f).length=l.length
 | []=>rfl
 | [y]=>rfl
 | y::z::l=>by
  have:=Jfy f (z::l)
  simp only [Qy,Bz] at this ⊢
  omega
theorem Jqe {n:Nat} {t:Ty} {l l0:List t.T} {nest:Option (Nat×C Ty.T)} (h:mlN val (K4 val s.ob n) t l nest=some l0) (hN:∀p,nest=some p→∀g∈Jt s.ob n p.2,(∃o,encH s g=some o∧o.freeze.fz=true)→g∈R) :
  l0.length=l.length∧GRL (encH s) h' θ R (Ky (l.flatMap t.cs) l.length t.sz (encC s) nest) (l0.flatMap t.cs):=by
 cases nest with
 | none =>
  injection h with h
  subst h
  exact ⟨rfl,.flat (Ku t l)⟩
 | some p =>
  obtain ⟨off,c⟩:=p
  simp only [mlN] at h
  cases ht:tyAt t off with
  | none=>rw [ht] at h;cases h
  | some t1 =>
   rw [ht] at h
   simp only [Ap] at h
   cases hc:K4 val s.ob n t1 c with
   | none=>rw [hc] at h;cases h
   | some y =>
    rw [hc] at h
    simp only [Ap] at h
    injection h with h
    subst h
    refine ⟨Jfy _ l,?_⟩
    rcases List.eq_nil_or_concat l with rfl|⟨i,x,rfl⟩
    ·exact .nil
    ·rw [List.concat_eq_append]
     obtain ⟨h1,z,hz⟩:=Jiw (lw:=K4 val s.ob n) (fun t v=>leafW_lf) hc t x off ht
     have e1:setF val (K4 val s.ob n) t off c x=z:=by
      have:=hz []
      rw [Am] at this
      simp only [setF,this]
     have e2:(show List t.T from val.ml (t:=t) (i++[x]) (setF val (K4 val s.ob n) t off c))=i++[z]:=by
      show Qy (i++[x]) _=_
      rw [Jc3,e1]
     rw [show val.ml (t:=t) (i++[x]) (setF val (K4 val s.ob n) t off c)=i++[z] from e2]
     have e3:Ky ((i++[x]).flatMap t.cs) (i++[x]).length t.sz (encC s) (some (off,c))=i.flatMap t.cs++(t.cs x).set off (encC s c):=by
      simp only [Ky,Aw,Av,Dc,Am,Ax,Bz,List.length_nil,Dd,Nat.add_sub_cancel]
      rw [Bp _ _ (by rw [Jq];omega),Jq,Bl]
     rw [e3,Aw]
     refine .append (.flat (Ku t i)) ?_
     simp only [Av,Dc,Am]
     obtain ⟨l1,q1,q2⟩:=ji (Xd (s:=s) n (n+1) (Az _)) t (hz [])
     rw [Am,Am] at q1
     subst q1
     have e4:((expl val t x).set off c).map (encC s)=(t.cs x).set off (encC s c):=by rw [List.map_set,Kc]
     rw [e4] at q2
     refine .ofSnL q2 fun g hg hrow=>?_
     obtain ⟨c',hc',hg2⟩:=Ao.1 hg
     rcases By hc' with hm|e
     ·rw [Jb4 t x c' hm] at hg2;cases hg2
     ·rw [e] at hg2;exact hN _ rfl g hg2 hrow
end
theorem Jn7 {h h':Heap} {θ:Nat→Option Nat} {R:List Nat} {kt vt:Ty} {es:List (kt.T×vt.T)} {i:Nat} {p:AV×AV} (hp:(encE kt vt es)[i]?=some p):GR h h' θ R p.2 p.2:=by
 unfold encE at hp
 rw [Bb] at hp
 obtain ⟨e,-,rfl⟩:=Option.map_eq_some_iff.1 hp
 show GR h h' θ R (avT vt e.2) (avT vt e.2)
 unfold avT
 split
 ·have:=GRL.flat (h:=h) (h':=h') (θ:=θ) (R:=R) (Ku vt [e.2])
  simp only [Av,Dc,Am] at this
  exact .agg _ _ this.len this.at'
 ·exact .one e.2
end Go.Dn
namespace Go.Dn
open Go Go.Vv
set_option linter.unusedVariables false
set_option linter.unusedSimpArgs false
def rowy (h:Heap) (g:Nat):Bool:=match h g with
 | some o=>o.freeze.fz
 | none=>false
theorem Q3 {h:Heap} {g:Nat}:rowy h g=true↔∃o,h g=some o∧o.freeze.fz=true:=by
 unfold rowy
 cases h g with
 | none=>simp
 | some o=>simp
theorem Ja2 {x:Nat}:∀ {l:List Nat},memN x l=true↔x∈l
 | []=>by simp [memN]
 | y::r=>by
  simp only [memN]
  cases h:Nat.beq x y with
  | true=>have:=Bc h;subst this;simp
  | false =>
   have:x≠y:=fun e=>by subst e;simp at h
   simp [Ja2,this]
theorem Yn {g:Nat}:∀ {ns:List Nat} {s:S Ty.T},g∉ns→look g (J8 s ns).ob=look g s.ob
 | [],s,_=>rfl
 | k::r,s,h=>by
  have h1:g∉r:=fun q=>h (Ab _ q)
  have h2:k≠g:=fun q=>h (q▸Ae)
  simp only [J8]
  split
  ·rw [Yn h1,J2,if_neg h2]
  ·rw [Yn h1,J2,if_neg h2]
  ·exact Yn h1
section
variable {nt:Nat} {w:World} {S:Nat→Prop} {s:Dn.S Ty.T} {μ:Gh} {a:Act} {fs:List Fm}
theorem Jnw (h:RepF nt w S s μ a fs) {g v e:Nat} {el:TypeId} {z:Bool} {o o':Ob Ty.T} {ns:List Nat} {c c':List AV} (ho:look g s.ob=some o) (hg:g∉ns) (hns:∀g∈ns,∃o,look g s.ob=some o) (hv:o'.ver=o.ver) (hl:o'.lenO=o.lenO)
  (he:encO s o=.arr v e el c z) (he':∀s',Stab s s'→encO s' o'=.arr v e el c' z) (hk:okCs s o'.kids)
  (hc:∀h':Heap,(∀g o,encH s g=some o→∃o',h' g=some o'∧o'.ver=o.ver∧o.like o')→GRL (encH s) h' some (ns.filter (rowy (encH s))) c c') :
  ∃S' μ',RepF nt w S' ((J8 s ns).obj g o') μ' a fs∧Evo w S (encH s) μ w S' (encH ((J8 s ns).obj g o')) μ':=by
 obtain ⟨f1,f2,f3⟩:=Yg ns h.iv hns
 have st2:Stab (J8 s ns) ((J8 s ns).obj g o'):=Qg fun o0 h0=>by
  rw [Yn hg,ho] at h0
  injection h0 with h0
  subst h0
  exact ⟨hv.symm,hl.symm⟩
 have st:=f1.trans st2
 have hlk:∀g',look g' ((J8 s ns).obj g o').ob=if g=g' then some o' else look g' (J8 s ns).ob:=fun g'=>J2 g g' o'
 have iv:=Yb f2 st2 hlk (fun x hx=>((st.ok x (hk x hx)).1)) (by rw [Jhj];exact h.iv.free ho)
 have hh:=Qw f2 st2 hlk
 rw [f3,he' _ st] at hh
 have hgs:encH s g=some (.arr v e el c z):=by rw [Jf ho,he]
 have lenc:∀h':Heap,(∀g o,encH s g=some o→∃o',h' g=some o'∧o'.ver=o.ver∧o.like o')→c.length=c'.length:=fun h' q=>(hc h' q).len
 have lenc:c.length=c'.length:=lenc (encH s) fun g o ho=>⟨o,ho,rfl,.refl o⟩
 have keep:∀g1 o1,encH s g1=some o1→∃o2,encH ((J8 s ns).obj g o') g1=some o2∧o2.ver=o1.ver∧o1.like o2:=fun g1 o1 h1=>by
  rw [hh]
  by_cases e1:g1=g
  ·subst e1
   rw [hgs] at h1
   injection h1 with h1
   subst h1
   exact ⟨_,Jc _ _ _,rfl,rfl,rfl,Kx lenc⟩
  ·rw [Jb _ _ _ _ e1]
   unfold Je
   split
   ·rw [h1];exact ⟨o1.freeze,rfl,Jgv o1,Jfe o1⟩
   ·exact ⟨o1,h1,rfl,.refl o1⟩
 have hc:=hc _ keep
 have gs:GS (encH s) (encH ((J8 s ns).obj g o')) some (ns.filter (rowy (encH s))):=by
  refine ⟨fun n o1 h1=>?_,fun n n' g' h1 h2 _ _=>?_,fun n g' o1 h1 h2 h3 h4=>?_,fun g' hg'=>Q3.1 (Aj.1 hg').2⟩
  ·right
   have same:∀x,GR (encH s) (encH ((J8 s ns).obj g o')) some (ns.filter (rowy (encH s))) x x:=fun x=>.same x rfl keep
   have sameL:∀l,GRL (encH s) (encH ((J8 s ns).obj g o')) some (ns.filter (rowy (encH s))) l l:=fun l=>⟨rfl,fun i x y hx hy=>by rw [hx] at hy;injection hy with hy;subst hy;exact same x⟩
   rw [hh] at h1
   by_cases e1:n=g
   ·subst e1
    rw [Jc] at h1
    injection h1 with h1
    subst h1
    exact ⟨n,_,rfl,hgs,.arr hc (fun q=>.inl q) fun q=>q⟩
   ·rw [Jb _ _ _ _ e1] at h1
    unfold Je at h1
    split at h1
    ·rename_i hn
     cases h2:encH s n with
     | none=>rw [h2] at h1;cases h1
     | some o2 =>
      rw [h2] at h1
      injection h1 with h1
      subst h1
      refine ⟨n,o2,rfl,h2,?_⟩
      cases o2 with
      | box v1 c1=>exact .box (sameL c1)
      | arr v1 e1 t1 c1 z1=>exact .arr (sameL c1) (fun _=>.inr (Aj.2 ⟨hn,Q3.2 ⟨_,h2,rfl⟩⟩)) (fun _=>rfl)
      | map v1 e1 z1 =>
       have:z1=false:=Jqf h2
       subst this
       exact .map rfl fun i p q hp hq=>by rw [hp] at hq;injection hq with hq;subst hq;exact ⟨rfl,same _⟩
    ·refine ⟨n,o1,rfl,h1,?_⟩
     cases o1 with
     | box v1 c1=>exact .box (sameL c1)
     | arr v1 e1 t1 c1 z1=>exact .arr (sameL c1) (fun q=>.inl q) (fun q=>q)
     | map v1 e1 z1 =>
      have:z1=false:=Jqf h1
      subst this
      exact .map rfl fun i p q hp hq=>by rw [hp] at hq;injection hq with hq;subst hq;exact ⟨rfl,same _⟩
  ·injection h1 with h1;injection h2 with h2;omega
  ·injection h1 with h1
   subst h1
   intro hn
   obtain ⟨hn,hr⟩:=Aj.1 hn
   rw [hh] at h2
   by_cases e1:n=g
   ·subst e1;exact hg hn
   ·rw [Jb _ _ _ _ e1] at h2
    unfold Je at h2
    rw [if_pos hn] at h2
    obtain ⟨o2,q1,q2⟩:=Q3.1 hr
    rw [q1] at h2
    injection h2 with h2
    subst h2
    rw [q2] at h3
    cases h3
 obtain ⟨S',r1,r2,r3⟩:=Jou h.fr.hp gs
 refine ⟨S',_,h.step rfl ⟨fun d=>?_,r1,h.fr.hp.marks h.fr.df r2,h.fr.sz⟩ st.on iv r2 fun g1 o1 h1=>?_,r2⟩
 ·rw [Yv h.iv st]
  exact r3 (.same _ rfl keep) (h.fr.fr d)
 ·obtain ⟨o2,a,b,c⟩:=keep g1 o1 h1
  exact ⟨o2,a,by omega,fun _=>⟨⟨rfl,rfl⟩,c⟩⟩
theorem Js9 {ι:Ty→Type}:∀(l:List (C ι)) (j:Nat) {k:Nat} {c:C ι},Jac.go j l=some (k,c)→j≤k∧l[k - j]?=some c
 | [],j,k,c,h=>by simp [Jac.go] at h
 | x::r,j,k,c,h=>by
  have next:Jac.go (j+1) r=some (k,c)→j≤k∧(x::r)[k - j]?=some c:=fun h=>by
   obtain ⟨a,b⟩:=Js9 r (j+1) h
   refine ⟨by omega,?_⟩
   rw [show k - j=(k - (j+1))+1 by omega,De]
   exact b
  cases x with
  | own g v =>
   simp only [Jac.go,Option.some.injEq,Bo] at h
   obtain ⟨rfl,rfl⟩:=h
   exact ⟨Az _,by simp⟩
  | k v =>
   cases v with
   | nils =>
    simp only [Jac.go,Option.some.injEq,Bo] at h
    obtain ⟨rfl,rfl⟩:=h
    exact ⟨Az _,by simp⟩
   | _=>exact next (by simpa only [Jac.go] using h)
  | _=>exact next (by simpa only [Jac.go] using h)
theorem Jkk {ι:Ty→Type} {e:Nat} {x:List (C ι)} {j:Nat} {c:C ι} (h:Jac e x=some (j,c)):j<e∧x[x.length - e+j]?=some c:=by
 obtain ⟨-,b⟩:=Js9 _ _ h
 rw [Nat.sub_zero,Bs] at b
 have:=(Ad.1 b).1
 exact ⟨by omega,b⟩
theorem lit_gr {h':Heap} {R:List Nat} {t:Ty} {e:Nat} {keep:Bool} {A A':List AV} {x:List (C Ty.T)} {l0 l:List t.T} {m:Nat} (hA:GRL (encH s) h' some R A A') (hA':A'=l0.flatMap t.cs) (hte:t.sz=e) (he:0<e)
  (hl:Zi val (K4 val s.ob 4) t m (litX keep e x)=some l)
  (hR:∀g∈(litX keep e x).flatMap (Jt s.ob 4),(∃o,encH s g=some o∧o.freeze.fz=true)→g∈R)
  (hkeep:∀g o,encH s g=some o→∃o',h' g=some o'∧o'.ver=o.ver∧o.like o') (hx:x.length=0→(z6 keep e x)=none∨l0=[]) {ec:C Ty.T→AV} (hec:∀c∈x,ec c=encC s c) :
  x.length=l.length * e∧GRL (encH s) h' some R (A++x.map (encC s)) (Ky ((l0++l).flatMap t.cs) (l0++l).length t.sz ec (z6 keep e x)):=by
 have hs:=zf (Xd (s:=s) 4 5 (by omega)) t m hl
 have hB:=GRL.ofSnL (h':=h') (θ:=some) hs hR
 have hlen:=hs.len
 rw [Jq,Bf,hte] at hlen
 cases hn:z6 keep e x with
 | none =>
  simp only [litX,hn] at hB hlen
  refine ⟨hlen,?_⟩
  simp only [Ky,Aw]
  rw [←hA']
  exact hA.append hB
 | some p =>
  obtain ⟨j,c⟩:=p
  have hn':Jac e x=some (j,c):=by
   unfold z6 at hn
   split at hn
   ·exact hn
   ·cases hn
  obtain ⟨hj,hc⟩:=Jkk hn'
  simp only [litX,hn] at hB hlen
  have e0:(Jm1 x (x.length - e+j)).length=x.length:=by simp [Jm1]
  rw [e0] at hlen
  refine ⟨hlen,?_⟩
  have hxl:x.length - e+j<x.length:=(Ad.1 hc).1
  have e1:x.map (encC s)=((Jm1 x (x.length - e+j)).map (encC s)).set (x.length - e+j) (encC s c):=by
   simp only [Jm1,List.map_set,List.set_set]
   symm
   exact Jqm (by rw [Bb,hc];rfl)
  have hal:A.length=l0.length * e:=by rw [hA.len,hA',Jq,hte]
  have e2:Ky ((l0++l).flatMap t.cs) (l0++l).length t.sz ec (some (j,c))=(A'++l.flatMap t.cs).set (A.length+(x.length - e+j)) (encC s c):=by
   simp only [Ky,Aw,←hA']
   rw [hec c (Au hc),hal,hlen,hte,Ax]
   congr 1
   obtain ⟨k,hk⟩:∃k,l.length=k+1:=by
    cases hll:l.length with
    | zero=>rw [hll] at hlen;omega
    | succ k=>exact ⟨k,rfl⟩
   rw [hk,show l0.length+(k+1) - 1=l0.length+k by omega,Dm,Dm,Nat.one_mul]
   omega
  rw [e2,e1]
  have e3:A++((Jm1 x (x.length - e+j)).map (encC s)).set (x.length - e+j) (encC s c)=(A++(Jm1 x (x.length - e+j)).map (encC s)).set (A.length+(x.length - e+j)) (encC s c):=by
   rw [Bp _ _ (by omega),Bl]
  rw [e3]
  exact (hA.append hB).set (.same _ rfl hkeep) _
end
end Go.Dn
namespace Go.Dn
open Go Go.Vv
set_option linter.unusedVariables false
set_option linter.unusedSimpArgs false
section
variable {nt:Nat} {w:World} {S:Nat→Prop} {s:Dn.S Ty.T} {μ:Gh} {a:Act} {fs:List Fm}
theorem Jum {keep:Bool} {e:Nat} {x:List (C Ty.T)} {p:Nat×C Ty.T} (h:z6 keep e x=some p):p.2∈x:=by
 unfold z6 at h
 split at h
 ·obtain ⟨j,c⟩:=p
  exact Au (Jkk h).2
 ·cases h
theorem Juh {keep:Bool} {e:Nat} {x:List (C Ty.T)} (h:okCs s x):okCs s (litX keep e x):=by
 unfold litX
 split
 ·intro c hc
  rcases By hc with hc|rfl
  ·exact h c hc
  ·exact Jo s rfl
 ·exact h
theorem Ju5 (hi:Inv s) {v e:Nat} {el:TypeId} {t:Ty} {l:t.ls.T} {x:List (C Ty.T)} {nst:Option (Nat×C Ty.T)} {z:Bool} (ok:okCs s (Ob.kids (.row v e el t l x nst z:Ob Ty.T))):∀g∈Jgk s.ob nst,∃o,look g s.ob=some o:=fun g hg=>by
 cases nst with
 | none=>cases hg
 | some p=>exact Ji1 hi 4 (ok p.2 (by simp [Ob.kids])) g hg
theorem lenDiv {n e m:Nat} (h:n=m * e) (he:0<e):n / e=m:=by rw [h];exact Bt _ he
def Goes (nt:Nat) (w:World) (S:Nat→Prop) (s:Dn.S Ty.T) (μ:Gh) (a:Act) (fs:List Fm) (s':Dn.S Ty.T):Prop:=∃S' μ',RepF nt w S' s' μ' a fs∧Evo w S (encH s) μ w S' (encH s') μ'
theorem Goes.ite {c:Prop} [Decidable c] {x y:Dn.S Ty.T} (h1:c→Goes nt w S s μ a fs x) (h2:¬c→Goes nt w S s μ a fs y):Goes nt w S s μ a fs (if c then x else y):=by
 split
 ·exact h1 (by assumption)
 ·exact h2 (by assumption)
theorem Jvn (ty:TypeId→Option Ty) (keep:Bool) (h:RepF nt w S s μ a fs) (g:Nat) :
  Goes nt w S s μ a fs (Jlf val ty keep s g):=by
 have same:Goes nt w S s μ a fs s:=⟨S,μ,h,.refl⟩
 have kid:∀ {keep e} {x:List (C Ty.T)} {c},c∈Ob.kids (.row 0 0 0 .u ([]:List Unit) [] (z6 keep e x) false:Ob Ty.T)→c∈x:=fun {keep e x c} hc=>by
  simp only [Ob.kids,Am] at hc
  cases hn:z6 keep e x with
  | none=>rw [hn] at hc;cases hc
  | some p=>rw [hn] at hc;rw [Aa] at hc;subst hc;exact Jum hn
 have nest:∀ {keep e} {x:List (C Ty.T)} {s'} (l:List AV) (n sz:Nat),Stab s s'→okCs s x→Ky l n sz (encC s') (z6 keep e x)=Ky l n sz (encC s) (z6 keep e x):=fun {keep e x s'} l n sz st ok=>by
  cases hn:z6 keep e x with
  | none=>rfl
  | some p=>simp only [Ky];rw [(st.ok p.2 (ok p.2 (Jum hn))).2]
 unfold Jlf
 split
 ·rename_i v e el x z ho
  have okx:okCs s x:=fun c hc=>h.iv.ob g _ ho c hc
  split
  ·rename_i t ht
   refine .ite (fun hc=>?_) fun _=>same
   obtain ⟨hte,he⟩:=hc
   split
   ·rename_i l hl
    refine .ite (fun _=>same) fun hg=>?_
    have hg:g∉(litX keep e x).flatMap (Jt s.ob 4):=fun q=>hg (Ja2.2 q)
    have key:=fun (h':Heap) (hk:∀g o,encH s g=some o→∃o',h' g=some o'∧o'.ver=o.ver∧o.like o') =>
     lit_gr (s:=s) (h':=h') (R:=Di (rowy (encH s)) ((litX keep e x).flatMap (Jt s.ob 4))) (A:=[]) (A':=[]) (l0:=[]) .nil rfl hte he hl (fun g hg hr=>Aj.2 ⟨hg,Q3.2 hr⟩) hk (fun _=>.inr rfl) (ec:=encC s) (fun _ _=>rfl)
    have k0:=key (encH s) (fun g o ho=>⟨o,ho,rfl,.refl o⟩)
    refine Jnw h ho hg (Jd5 h.iv (Juh okx)) rfl ?_ (c:=x.map (encC s)) (c':=Ky (l.flatMap t.cs) l.length t.sz (encC s) (z6 keep e x)) rfl (fun s' st=>?_) (fun c hc=>okx c (kid hc)) fun h' hk=>(key h' hk).2
    ·show List.length (α:=t.T) l+0 / e=x.length / e
     rw [Nat.zero_div,lenDiv k0.1 he]
     rfl
    ·simp only [encO,Bk,Am]
     rw [nest _ _ _ st okx]
   ·exact same
  ·exact same
 ·rename_i v e el t l x nst z ho
  have oks:okCs s (Ob.kids (.row v e el t l x nst z:Ob Ty.T)):=fun c hc=>h.iv.ob g _ ho c hc
  have okx:okCs s x:=fun c hc=>oks c (by simp only [Ob.kids];exact Af _ hc)
  refine .ite (fun hx=>?_) fun hx=>.ite (fun hc=>?_) fun _=>same
  ·split
   ·rename_i p
    refine .ite (fun hc=>?_) fun _=>same
    obtain ⟨hte,he⟩:=hc
    split
    ·rename_i l0 hl0
     refine .ite (fun _=>same) fun hg=>?_
     have hg:g∉Jt s.ob 4 p.2:=fun q=>hg (Ja2.2 q)
     have m1:=fun (h':Heap)=>Jqe (s:=s) (h':=h') (θ:=some) (R:=Di (rowy (encH s)) (Jt s.ob 4 p.2)) hl0 (fun p' hp g hg2 hr=>Aj.2 ⟨by injection hp with hp;subst hp;exact hg2,Q3.2 hr⟩)
     have hll:List.length (α:=t.T) l0=List.length (α:=t.T) l:=(m1 (encH s)).1
     have hx0:x=[]:=Da.1 hx
     subst hx0
     refine Jnw h ho hg (fun g' hg'=>Ji1 h.iv 4 (oks p.2 (by simp [Ob.kids])) g' hg') rfl ?_ (c:=Ky (Df (α:=t.T) t.cs l) (List.length (α:=t.T) l) t.sz (encC s) (some p)++[]) (c':=Df (α:=t.T) t.cs l0++[]) rfl (fun s' st=>?_) (fun c hc=>(by cases hc)) fun h' hk=>?_
     ·show List.length (α:=t.T) l0+0 / e=List.length (α:=t.T) l+0 / e
      rw [hll]
     ·simp only [encO,Ky,Bk]
     ·rw [Am,Am]
      exact (m1 h').2
    ·exact same
   ·exact same
  obtain ⟨hte,he⟩:=hc
  split
  ·rename_i l0 l' hl0 hl
   refine .ite (fun _=>same) fun hg=>?_
   have hg:g∉Jgk s.ob nst++(litX keep e x).flatMap (Jt s.ob 4):=fun q=>hg (Ja2.2 q)
   have m1:=fun (h':Heap)=>Jqe (s:=s) (h':=h') (θ:=some) (R:=Di (rowy (encH s)) (Jgk s.ob nst++(litX keep e x).flatMap (Jt s.ob 4))) hl0 (fun p hp g hg2 hr=>Aj.2 ⟨Ak _ (by subst hp;exact hg2),Q3.2 hr⟩)
   have hll:List.length (α:=t.T) l0=List.length (α:=t.T) l:=(m1 (encH s)).1
   have key:=fun (h':Heap) (hk:∀g o,encH s g=some o→∃o',h' g=some o'∧o'.ver=o.ver∧o.like o') =>
    lit_gr (s:=s) (h':=h') (R:=Di (rowy (encH s)) (Jgk s.ob nst++(litX keep e x).flatMap (Jt s.ob 4))) (m1 h').2 rfl hte he hl (fun g hg hr=>Aj.2 ⟨Af _ hg,Q3.2 hr⟩) hk (fun q=>by cases x<;>simp at hx q) (ec:=encC s) (fun _ _=>rfl)
   have k0:=key (encH s) (fun g o ho=>⟨o,ho,rfl,.refl o⟩)
   refine Jnw h ho hg (fun g' hg'=>(Ba.1 hg').elim (fun q=>Ju5 h.iv oks g' q) fun q=>Jd5 h.iv (Juh okx) g' q) rfl ?_ (c:=Ky (Df (α:=t.T) t.cs l) (List.length (α:=t.T) l) t.sz (encC s) nst++x.map (encC s)) (c':=Ky (Df (α:=t.T) t.cs ((show List t.T from l0)++(show List t.T from l'))) ((show List t.T from l0)++(show List t.T from l')).length t.sz (encC s) (z6 keep e x)) rfl (fun s' st=>?_) (fun c hc=>okx c (kid hc)) fun h' hk=>(key h' hk).2
   ·show List.length (α:=t.T) (val.ap (t:=t) l0 l')+0 / e=List.length (α:=t.T) l+x.length / e
    rw [Nat.zero_div,lenDiv k0.1 he]
    show List.length (α:=t.T) ((show List t.T from l0)++(show List t.T from l'))+0=_
    rw [Ax,←hll]
    rfl
   ·simp only [encO,Bk,Am]
    rw [nest _ _ _ st okx]
    rfl
  ·exact same
 ·rename_i v kt vt el ho
  have st:Stab s (s.obj g (.mp v kt vt (val.nl (.p kt vt)))):=Qg fun o0 h0=>by rw [ho] at h0;injection h0 with h0;subst h0;exact ⟨rfl,rfl⟩
  have hlk:=fun g'=>J2 (s:=s) g g' (.mp v kt vt (val.nl (.p kt vt)))
  have iv:=Yb h.iv st hlk (fun c hc=>by cases hc) (h.iv.free ho)
  have eh:encH (s.obj g (.mp v kt vt (val.nl (.p kt vt))))=encH s:=by
   rw [Qw h.iv st hlk]
   funext g1
   by_cases e1:g1=g
   ·subst e1;rw [Jc,Jf ho];rfl
   ·rw [Jb _ _ _ _ e1]
  refine ⟨S,μ,h.step rfl ?_ st.on iv (by rw [eh];exact .refl) (by rw [eh];exact .refl _ _),by rw [eh];exact .refl⟩
  rw [Yv h.iv st,eh]
  exact h.fr
 ·exact same
theorem Jky (ty:TypeId→Option Ty) (keep:Bool):∀(l:List Nat) {S:Nat→Prop} {s:Dn.S Ty.T} {μ:Gh},RepF nt w S s μ a fs →
  ∃S' μ',RepF nt w S' (l.foldl (Jlf val ty keep) s) μ' a fs∧Evo w S (encH s) μ w S' (encH (l.foldl (Jlf val ty keep) s)) μ'
 | [],S,s,μ,h=>⟨S,μ,h,.refl⟩
 | g::l,S,s,μ,h=>by
  obtain ⟨S1,μ1,h1,e1⟩:=Jvn ty keep h g
  obtain ⟨S2,μ2,h2,e2⟩:=Jky ty keep l h1
  exact ⟨S2,μ2,h2,e1.trans e2⟩
theorem Jtc (ty:TypeId→Option Ty) (keep:Bool) (n:Nat) (h:RepF nt w S s μ a fs) :
  ∃S' μ',RepF nt w S' (Jhk val ty keep n s) μ' a fs∧Evo w S (encH s) μ w S' (encH (Jhk val ty keep n s)) μ':=Jky ty keep _ h
end
end Go.Dn
namespace Go.Dn
open Go Go.Vv
set_option linter.unusedVariables false
set_option linter.unusedSimpArgs false
def inv (n:Nat):List (Nat×Nat)→Option Nat
 | []=>none
 | (g,k)::r=>if k=n then some g else inv n r
theorem zi:∀ {l:List Nat},Jgw l=true→l.Nodup
 | [],_=>List.nodup_nil
 | x::r,h=>by
  simp only [Jgw,Ac,Ar] at h
  refine Bq.2 ⟨fun q=>?_,zi h.2⟩
  rw [Ja2.2 q] at h
  cases h.1
theorem Jd9 {n g:Nat}:∀ {tb:List (Nat×Nat)},inv n tb=some g→(g,n)∈tb
 | [],h=>by cases h
 | (x,k)::r,h=>by
  simp only [inv] at h
  split at h
  ·rename_i e;injection h with h;subst h;subst e;exact Ae
  ·exact Ab _ (Jd9 h)
theorem Jm4 {n g:Nat}:∀ {tb:List (Nat×Nat)},(tb.map (·.2)).Nodup→(g,n)∈tb→inv n tb=some g
 | [],_,h=>by cases h
 | (x,k)::r,hn,h=>by
  simp only [As,Bq] at hn
  simp only [inv]
  rcases Ai.1 h with e|h
  ·injection e with e1 e2;subst e1;subst e2;rw [if_pos rfl]
  ·rw [if_neg (fun e=>hn.1 (by subst e;exact Aq.2 ⟨(g,k),h,rfl⟩))]
   exact Jm4 hn.2 h
theorem Jjd {α:Type} {g:Nat} {n:α}:∀ {tb:List (Nat×α)},(tb.map (·.1)).Nodup→(g,n)∈tb→look g tb=some n
 | [],_,h=>by cases h
 | (x,k)::r,hn,h=>by
  simp only [As,Bq] at hn
  rw [Ju]
  rcases Ai.1 h with e|h
  ·injection e with e1 e2;subst e1;subst e2;rw [if_pos rfl]
  ·rw [if_neg (fun e=>hn.1 (by subst e;exact Aq.2 ⟨(x,n),h,rfl⟩))]
   exact Jjd hn.2 h
theorem Jm0 {α β:Type} {f:α→Option β}:∀ {l:List α} {m:List β},mapL f l=some m→l.length=m.length∧∀(i:Nat) (x:α) (y:β),l[i]?=some x→m[i]?=some y→f x=some y
 | [],m,h=>by injection h with h;subst h;exact ⟨rfl,fun i x y hx=>by simp at hx⟩
 | x::r,m,h=>by
  simp only [mapL] at h
  cases hx:f x with
  | none=>rw [hx] at h;cases h
  | some y =>
   rw [hx] at h
   simp only [Ap] at h
   cases hr:mapL f r with
   | none=>rw [hr] at h;cases h
   | some m' =>
    rw [hr] at h
    injection h with h
    subst h
    obtain ⟨a,b⟩:=Jm0 hr
    refine ⟨by simp [a],fun i u v hu hv=>?_⟩
    cases i with
    | zero=>simp at hu hv;subst hu;subst hv;exact hx
    | succ i=>exact b i u v (by simpa using hu) (by simpa using hv)
theorem Jcr {s:S Ty.T} {tb:List (Nat×Nat)} {d:Nat} {v:V Ty.T}:∀ {l:List (Nat×V Ty.T)},look d (Jhw val s tb l)=some v→∃v0,look d l=some v0∧v=renV val s tb v0
 | [],h=>by cases h
 | (k,x)::r,h=>by
  simp only [Jhw] at h
  rw [Ju] at h ⊢
  split
  ·rename_i e
   rw [if_pos e] at h
   injection h with h
   exact ⟨x,rfl,h.symm⟩
  ·rename_i e
   rw [if_neg e] at h
   exact Jcr h
theorem zm {s:S Ty.T} {tb0:List (Nat×Nat)} {n:Nat} {o':Ob Ty.T}:∀ {tb:List (Nat×Nat)},look n (Jdc val s tb0 tb)=some o'→∃g o,(g,n)∈tb∧look g s.ob=some o∧frozen s g=false∧o'=renO val s tb0 o
 | [],h=>by cases h
 | (g,k)::r,h=>by
  have next:look n (Jdc val s tb0 r)=some o'→∃g' o,(g',n)∈(g,k)::r∧look g' s.ob=some o∧frozen s g'=false∧o'=renO val s tb0 o:=fun h=>by
   obtain ⟨g',o,a,b⟩:=zm h
   exact ⟨g',o,Ab _ a,b⟩
  simp only [Jdc] at h
  split at h
  ·rename_i o ho
   split at h
   ·exact next h
   ·rename_i hf
    rw [Ju] at h
    split at h
    ·rename_i e
     injection h with h
     subst e
     exact ⟨g,o,Ae,ho,by simpa using hf,h.symm⟩
    ·exact next h
  ·exact next h
theorem Jg6 {s:S Ty.T} {tb0:List (Nat×Nat)} {n g:Nat} {o:Ob Ty.T} (ho:look g s.ob=some o) (hf:frozen s g=false):∀ {tb:List (Nat×Nat)},(tb.map (·.2)).Nodup→(g,n)∈tb→look n (Jdc val s tb0 tb)=some (renO val s tb0 o)
 | [],_,h=>by cases h
 | (x,k)::r,hn,h=>by
  simp only [As,Bq] at hn
  rcases Ai.1 h with e|h
  ·injection e with e1 e2
   subst e1
   subst e2
   simp only [Jdc,ho,hf]
   rw [if_neg (by decide),Ju,if_pos rfl]
  ·have ih:=Jg6 (tb0:=tb0) ho hf hn.2 h
   have hk:k≠n:=fun e=>hn.1 (by subst e;exact Aq.2 ⟨(g,k),h,rfl⟩)
   simp only [Jdc]
   split
   ·split
    ·exact ih
    ·rw [Ju,if_neg hk];exact ih
   ·exact ih
section
variable {s:S Ty.T} {tb:List (Nat×Nat)}
theorem renO_len (o:Ob Ty.T):(renO val s tb o).lenO=o.lenO:=by cases o<;>simp [renO,Ob.lenO]
theorem renO_ver (o:Ob Ty.T):(renO val s tb o).ver=0:=by cases o<;>rfl
def frzL (s:S Ty.T):List Nat:=(s.ob.map (·.1)).filter (frozen s)
theorem frzL_iff {g:Nat} (h:frozen s g=true):g∈frzL s:=by
 refine Aj.2 ⟨?_,h⟩
 unfold frozen at h
 cases ho:look g s.ob with
 | none=>rw [ho] at h;cases h
 | some o=>exact Aq.2 ⟨(g,o),Ko ho,rfl⟩
def thM (m:Option (Mo Ty.T)) (tb:List (Nat×Nat)) (n:Nat):Option Nat:=if moN m n=true then some n else inv n tb
structure TbOK (s:S Ty.T) (tb:List (Nat×Nat)) (s':S Ty.T):Prop where
 n1:(tb.map (·.1)).Nodup
 n2:(tb.map (·.2)).Nodup
 ob:s'.ob=Jdc val s tb tb
 mo:s'.mo=s.mo
 nm:∀p∈tb,moN s.mo p.1=false∧moN s.mo p.2=false
 iv:Inv s
theorem cur_some {g v:Nat} (h:s.cur g v=true):∃o,look g s.ob=some o∧o.ver=v:=by
 unfold S.cur at h
 cases ho:look g s.ob with
 | none=>rw [ho] at h;cases h
 | some o=>rw [ho] at h;exact ⟨o,rfl,by simpa using h⟩
variable {s':S Ty.T}
theorem TbOK.at (t:TbOK s tb s') {g v n:Nat} (hc:s.cur g v=true) (hf:frozen s g=false) (hn:look g tb=some n):∃o,look g s.ob=some o∧o.ver=v∧look n s'.ob=some (renO val s tb o)∧thM s.mo tb n=some g:=by
 obtain ⟨o,h1,h2⟩:=cur_some hc
 have hm:=Ko hn
 exact ⟨o,h1,h2,by rw [t.ob];exact Jg6 h1 hf t.n2 hm,by unfold thM;rw [if_neg (by rw [(t.nm _ hm).2];exact Bu)];exact Jm4 t.n2 hm⟩
theorem jm (hi:Inv s) {g:Nat} (h:moN s.mo g=true):look g s.ob=none:=by
 cases hl:look g s.ob with
 | none=>rfl
 | some o=>rw [hi.free hl] at h;cases h
theorem TbOK.look' (t:TbOK s tb s') {n:Nat} {o:Ob Ty.T} (h:look n s'.ob=some o):moN s.mo n=false:=by
 rw [t.ob] at h
 obtain ⟨g,o1,a,-⟩:=zm h
 exact (t.nm _ a).2
theorem TbOK.same (t:TbOK s tb s') {n:Nat} {o:AObj} (h:moAt s.mo n=some o):encH s n=some o∧encH s' n=some o∧thM s.mo tb n=some n:=by
 have hn:=(X7 h).1
 refine ⟨?_,?_,by unfold thM;rw [if_pos hn]⟩
 ·simp only [encH,jm t.iv hn];exact h
 ·have:look n s'.ob=none:=by
   cases hl:look n s'.ob with
   | none=>rfl
   | some o=>rw [t.look' hl] at hn;cases hn
  simp only [encH,this,t.mo]
  exact h
theorem Jig {kt vt:Ty}:∀ {l:List (kt.T×List vt.T)} {k i:Nat} {p:AV×AV},(moEs kt vt k l)[i]?=some p→∃e,nthL l i=some e∧p=(avT kt e.1,.arr (mB+(k+i)) e.2.length 0 e.2.length)
 | [],k,i,p,h=>by simp [moEs] at h
 | e::r,k,0,p,h=>by
  simp only [moEs,Bh,Option.some.injEq] at h
  exact ⟨e,rfl,h.symm⟩
 | e::r,k,i+1,p,h=>by
  simp only [moEs,De] at h
  obtain ⟨e',h1,h2⟩:=Jig h
  exact ⟨e',h1,by rw [h2,show k+1+i=k+(i+1) by omega]⟩
theorem Jpj {m:Mo Ty.T} (hm:m.g<mB) {i:Nat} {e:m.kt.T×List m.vt.T} (h:nthL (α:=m.kt.T×List m.vt.T) m.es i=some e):moAt (some m) (mB+i)=some (Zu m.vt m.el e.2):=by
 show m.at (mB+i)=_
 unfold Mo.at
 rw [if_neg (by omega),if_pos (Nat.le_add_right _ _),Bl,h]
 rfl
theorem Jlh {θ:Nat→Option Nat} {R:List Nat} (iv:Inv s) (same:∀ {n o},moAt s.mo n=some o→encH s n=some o∧encH s' n=some o∧θ n=some n) {n:Nat} {o:AObj} (h:moAt s.mo n=some o):GO (encH s) (encH s') θ R n o o:=by
 obtain ⟨-,m,hm,⟨-,rfl⟩|⟨-,-,e,-,rfl⟩⟩:=X7 h
 ·refine .map rfl fun i p q hp hq=>?_
  rw [hp] at hq
  injection hq with hq
  subst hq
  obtain ⟨e,h1,h2⟩:=Jig hp
  refine ⟨rfl,?_⟩
  rw [h2]
  rw [Dd]
  have hr:=Jpj (iv.mo m hm).1 h1
  rw [←hm] at hr
  obtain ⟨a,b,c⟩:=same hr
  exact .arr a b (Az _) c fun _=>⟨rfl,fun e' el c z q=>⟨c,z,q,Iff.rfl⟩⟩
 ·exact .arr (.flat (Ku _ _)) (fun q=>by cases q) fun q=>q
theorem Jh9 (t:TbOK s tb s') (c:C Ty.T):okC s' (renC val s tb c):=by
 have leaf:∀ {c:C Ty.T},refs c=[]→okC s' c:=fun h=>Jo s' h
 have rd:∀g c,okC s' (rdF val s g c):=fun g c=>by
  unfold rdF
  split
  ·split
   ·split
    ·exact leaf rfl
    ·exact leaf rfl
   ·exact leaf rfl
  ·exact leaf rfl
 have nm:∀ {g v n:Nat} {c':C Ty.T},s.cur g v=true→frozen s g=false→look g tb=some n→refs c'=[(n,0)]→okC s' c':=fun hc hf hn hr r hr'=>by
  rw [hr,Aa] at hr'
  subst hr'
  obtain ⟨o,-,-,h,-⟩:=t.at hc hf hn
  exact ⟨_,h,Dj _⟩
 cases c with
 | any=>exact leaf rfl
 | lf t v=>exact leaf rfl
 | kb b=>exact leaf rfl
 | k v=>simp only [renC];split<;>exact leaf rfl
 | rp t v o=>exact leaf rfl
 | map g v =>
  simp only [renC]
  split
  ·rename_i hc
   simp only [Ac,Ar] at hc
   split
   ·rename_i n hn;exact nm (c':=.map n 0) hc.1 hc.2 hn rfl
   ·exact leaf rfl
  ·exact leaf rfl
 | yl j=>exact leaf rfl
 | own g v =>
  simp only [renC]
  split
  ·rename_i hc
   split
   ·exact rd _ _
   ·rename_i hf
    split
    ·rename_i n hn;exact nm hc (by simpa using hf) hn rfl
    ·exact leaf rfl
  ·exact leaf rfl
 | part g v a b =>
  simp only [renC]
  split
  ·rename_i hc
   split
   ·exact rd _ _
   ·rename_i hf
    split
    ·rename_i n hn;exact nm hc (by simpa using hf) hn rfl
    ·exact leaf rfl
  ·exact leaf rfl
 | ptr g v o =>
  simp only [renC]
  split
  ·rename_i hc
   simp only [Ac,Ar] at hc
   split
   ·rename_i n hn;exact nm hc.1 hc.2 hn rfl
   ·exact leaf rfl
  ·exact leaf rfl
 | pti g v e i o =>
  simp only [renC]
  split
  ·rename_i hc
   simp only [Ac,Ar] at hc
   split
   ·rename_i n hn;exact nm hc.1 hc.2 hn rfl
   ·exact leaf rfl
  ·exact leaf rfl
 | fn f l =>
  simp only [renC]
  split
  ·rename_i m hm
   obtain ⟨hl,hp⟩:=Jm0 hm
   intro r hr
   simp only [refs,Aq] at hr
   obtain ⟨x,hx,rfl⟩:=hr
   obtain ⟨i,hi⟩:=Be hx
   obtain ⟨y,hy⟩:∃y,l[i]?=some y:=by
    have:=(Ad.1 hi).1
    exact ⟨_,Ag (by omega)⟩
   have:=hp i y x hy hi
   split at this
   ·rename_i hc
    simp only [Ac,Ar] at hc
    cases hn:look y.1 tb with
    | none=>rw [hn] at this;cases this
    | some n =>
     rw [hn] at this
     injection this with this
     subst this
     exact nm (c':=.own n 0) hc.1 hc.2 hn rfl (n,0) (Aa.2 rfl)
   ·cases this
  ·exact leaf rfl
theorem encO_arr {o:Ob Ty.T} {v e:Nat} {el:TypeId} {c:List AV} {z:Bool} (h:encO s o=.arr v e el c z):∃c' z',encO s' (renO val s tb o)=.arr 0 e el c' z'∧(c=[]↔c'=[]):=by
 cases o with
 | box=>simp [encO] at h
 | mp=>simp [encO] at h
 | em=>simp [encO] at h
 | lit v1 e1 el1 cs z1 =>
  simp only [encO,AObj.arr.injEq] at h
  obtain ⟨rfl,rfl,rfl,rfl,rfl⟩:=h
  exact ⟨_,_,rfl,Kx (by simp)⟩
 | row v1 e1 el1 t1 l x nest z1 =>
  simp only [encO,AObj.arr.injEq] at h
  obtain ⟨rfl,rfl,rfl,rfl,rfl⟩:=h
  exact ⟨_,_,rfl,Kx (by simp [Qv])⟩
theorem Jfs (t:TbOK s tb s') (c:C Ty.T):GR (encH s) (encH s') (thM s.mo tb) (frzL s) (encC s c) (encC s' (renC val s tb c)):=by
 have rd:∀g c,GR (encH s) (encH s') (thM s.mo tb) (frzL s) (encC s c) (encC s' (rdF val s g c)):=fun g c=>by
  unfold rdF
  split
  ·split
   ·rename_i l hl
    split
    ·rename_i hn
     exact Jux hl fun g hg _=>frzL_iff (Ah.1 hn g hg)
    ·exact .any _
   ·exact .any _
  ·exact .any _
 have ar:∀ {g v n off len:Nat},s.cur g v=true→frozen s g=false→look g tb=some n→GR (encH s) (encH s') (thM s.mo tb) (frzL s) (.arr g v off len) (.arr n 0 off len):=fun hc hf hn=>by
  obtain ⟨o,h1,h2,h3,h4⟩:=t.at hc hf hn
  refine .arr (Jf h1) (Jf h3) (Dj _) h4 fun _=>⟨by rw [Qc,h2],fun e el c z h=>encO_arr h⟩
 have pr:∀ {g v n off:Nat},s.cur g v=true→frozen s g=false→look g tb=some n→GR (encH s) (encH s') (thM s.mo tb) (frzL s) (.ptr g v off) (.ptr n 0 off):=fun hc hf hn=>by
  obtain ⟨o,h1,h2,h3,h4⟩:=t.at hc hf hn
  exact .ptr (Jf h1) (Jf h3) (Dj _) h4 fun _=>by rw [Qc,h2]
 cases c with
 | any=>exact .any _
 | lf t v=>exact .one v
 | kb b=>exact .flat rfl
 | k v =>
  simp only [renC]
  split
  ·rename_i hf
   rw [Bool.or_eq_true] at hf
   rcases hf with hf|hf
   ·exact .flat hf
   ·cases v<;>try (cases hf;done)
    rename_i g v
    cases hm:s.mo with
    | none=>rw [hm] at hf;cases hf
    | some m =>
     rw [hm] at hf
     simp only [moC,Ac] at hf
     have e1:=Bc hf.1
     have e2:=Bc hf.2
     subst e1
     subst e2
     have hr:moAt s.mo m.g=some (.map 0 (moEs m.kt m.vt 0 m.es) false):=by
      rw [hm]
      show m.at m.g=_
      unfold Mo.at
      rw [if_pos rfl]
     obtain ⟨a,b,c⟩:=t.same hr
     rw [hm] at c
     exact .map a b (Az _) c fun _=>rfl
  ·exact .any _
 | rp t v o=>exact .flat rfl
 | map g v =>
  simp only [renC]
  split
  ·rename_i hc
   simp only [Ac,Ar] at hc
   split
   ·rename_i n hn
    obtain ⟨o,h1,h2,h3,h4⟩:=t.at hc.1 hc.2 hn
    exact .map (Jf h1) (Jf h3) (Dj _) h4 fun _=>by rw [Qc,h2]
   ·exact .any _
  ·exact .any _
 | yl j=>exact .yld j
 | own g v =>
  simp only [renC]
  split
  ·rename_i hc
   split
   ·exact rd _ _
   ·rename_i hf
    have hf:frozen s g=false:=by simpa using hf
    split
    ·rename_i n hn
     obtain ⟨o,h1,h2,h3,h4⟩:=t.at hc hf hn
     have e1:Ki s g v=o.lenO:=by simp [Ki,h1,h2]
     have e2:Ki s' n 0=o.lenO:=by simp [Ki,h3,renO_ver,renO_len]
     simp only [encC,e1,e2]
     exact ar hc hf hn
    ·exact .any _
  ·exact .any _
 | part g v a b =>
  simp only [renC]
  split
  ·rename_i hc
   split
   ·exact rd _ _
   ·rename_i hf
    have hf:frozen s g=false:=by simpa using hf
    split
    ·rename_i n hn;exact ar hc hf hn
    ·exact .any _
  ·exact .any _
 | ptr g v o =>
  simp only [renC]
  split
  ·rename_i hc
   simp only [Ac,Ar] at hc
   split
   ·rename_i n hn;exact pr hc.1 hc.2 hn
   ·exact .any _
  ·exact .any _
 | pti g v e i o =>
  simp only [renC]
  split
  ·rename_i hc
   simp only [Ac,Ar] at hc
   split
   ·rename_i n hn;exact pr hc.1 hc.2 hn
   ·exact .any _
  ·exact .any _
 | fn f l =>
  simp only [renC]
  split
  ·rename_i m hm
   obtain ⟨hl,hp⟩:=Jm0 hm
   simp only [encC]
   refine .fn f _ _ (by simp [hl]) fun i x y hx hy=>?_
   rw [Bb] at hx hy
   cases hlx:l[i]? with
   | none=>rw [hlx] at hx;cases hx
   | some u =>
    cases hmx:m[i]? with
    | none=>rw [hmx] at hy;cases hy
    | some r =>
     rw [hlx] at hx
     rw [hmx] at hy
     injection hx with hx
     injection hy with hy
     subst hx
     subst hy
     have:=hp i u r hlx hmx
     split at this
     ·rename_i hc
      simp only [Ac,Ar] at hc
      cases hn:look u.1 tb with
      | none=>rw [hn] at this;cases this
      | some n =>
       rw [hn] at this
       injection this with this
       subst this
       exact pr hc.1 hc.2 hn
     ·cases this
  ·exact .any _
theorem Jv3 (t:TbOK s tb s') (v:V Ty.T):GR (encH s) (encH s') (thM s.mo tb) (frzL s) (encV s v) (encV s' (renV val s tb v)):=by
 have L:∀l:List (C Ty.T),GRL (encH s) (encH s') (thM s.mo tb) (frzL s) (l.map (encC s)) ((l.map (renC val s tb)).map (encC s')):=fun l=>by
  rw [Bj]
  exact .map fun c _=>Jfs t c
 cases v with
 | c x=>exact Jfs t x
 | ag l=>exact .agg _ _ (L l).len (L l).at'
 | tp l =>
  simp only [encV,renV,Bj]
  have:=GRL.map (h:=encH s) (h':=encH s') (θ:=thM s.mo tb) (R:=frzL s) (l:=l) (f:=fun p=>if p.1 then AV.agg (p.2.map (encC s)) else Ks (p.2.map (encC s)))
   (f':=(fun p:Bool×List (C Ty.T)=>if p.1 then AV.agg (p.2.map (encC s')) else Ks (p.2.map (encC s'))) ∘ fun p:Bool×List (C Ty.T)=>(p.1,p.2.map (renC val s tb))) fun p _=>?_
  ·exact .tup _ _ this.len this.at'
  ·obtain ⟨b,q⟩:=p
   cases b with
   | true=>exact .agg _ _ (L q).len (L q).at'
   | false =>
    show GR _ _ _ _ (Ks (q.map (encC s))) (Ks ((q.map (renC val s tb)).map (encC s')))
    match q with
    | []=>exact .any _
    | [c]=>exact Jfs t c
    | _::_::_=>exact .any _
theorem Jvv (t:TbOK s tb s') (v:V Ty.T):okV s' (renV val s tb v):=by
 intro c hc
 have L:∀l:List (C Ty.T),c∈l.map (renC val s tb)→okC s' c:=fun l h=>by
  obtain ⟨x,-,rfl⟩:=Aq.1 h
  exact Jh9 t x
 cases v with
 | c x=>simp only [renV,V.all,Aa] at hc;subst hc;exact Jh9 t x
 | ag l=>exact L l hc
 | tp l =>
  simp only [renV,V.all,Ao,Aq] at hc
  obtain ⟨p,⟨q,-,rfl⟩,hc⟩:=hc
  exact L _ hc
theorem renO_gr (t:TbOK s tb s') (g:Nat) (o:Ob Ty.T):GO (encH s) (encH s') (thM s.mo tb) (frzL s) g (encO s o) (encO s' (renO val s tb o)):=by
 have L:∀l:List (C Ty.T),GRL (encH s) (encH s') (thM s.mo tb) (frzL s) (l.map (encC s)) ((l.map (renC val s tb)).map (encC s')):=fun l=>by
  rw [Bj]
  exact .map fun c _=>Jfs t c
 cases o with
 | box v cs=>exact .box (L cs)
 | mp v kt vt es =>
  refine .map rfl fun i p q hp hq=>?_
  have hp:(encE kt vt es)[i]?=some p:=hp
  have hq:(encE kt vt es)[i]?=some q:=hq
  rw [hp] at hq
  injection hq with hq
  subst hq
  exact ⟨rfl,Jn7 hp⟩
 | em v kt vt el=>exact .map rfl fun i p q hp hq=>by simp at hp
 | lit v e el cs z=>exact .arr (L cs) (fun q=>.inl q) fun q=>q
 | row v e el ty l x nest z =>
  refine .arr (.append ?_ (L x)) (fun q=>.inl q) fun q=>q
  cases nest with
  | none=>exact .flat (Ku ty l)
  | some p=>exact (GRL.flat (Ku ty l)).set (Jfs t p.2) _
theorem Juj (t:TbOK s tb s') (o:Ob Ty.T):okCs s' (renO val s tb o).kids:=by
 intro c hc
 have L:∀l:List (C Ty.T),c∈l.map (renC val s tb)→okC s' c:=fun l h=>by
  obtain ⟨x,-,rfl⟩:=Aq.1 h
  exact Jh9 t x
 cases o with
 | mp v kt vt es=>cases hc
 | em v kt vt el=>cases hc
 | box v cs=>exact L _ hc
 | lit v e el cs z=>exact L _ hc
 | row v e el ty l x nest z =>
  simp only [renO,Ob.kids,Ba] at hc
  rcases hc with hc|hc
  ·cases nest with
   | none=>cases hc
   | some p=>simp only [Bd,Aa] at hc;subst hc;exact Jh9 t _
  ·exact L _ hc
end
section
variable {nt:Nat} {w:World} {S:Nat→Prop} {s:Dn.S Ty.T} {μ:Gh} {a:Act} {fs:List Fm}
theorem Jif (keep:List Nat) (h:RepF nt w S s μ a fs):Goes nt w S s μ a fs (Jam val keep s):=by
 unfold Jam canonT
 simp only
 generalize Jvi s 300 _ _=tb
 split
 ·rename_i hn
  simp only [Ac] at hn
  refine h.ghost (θ:=thM s.mo tb) (R:=frzL s) ?_
  generalize hs':(⟨Jhw val s tb (kept s.sl keep),s.lo.map (Jhw val s tb),Jdc val s tb tb,[],s.mo⟩:Dn.S Ty.T)=s'
  have t:TbOK s tb s':=⟨zi hn.1.1,zi hn.1.2,by rw [←hs'],by rw [←hs'],fun p hp=>by
   have:=Ah.1 hn.2 p hp
   simp only [Ac,Ar] at this
   exact this,h.iv⟩
  have look_of:∀n o',encH s' n=some o'→(∃g o,inv n tb=some g∧moN s.mo n=false∧look g s.ob=some o∧frozen s g=false∧o'=encO s' (renO val s tb o))∨moAt s.mo n=some o':=fun n o' ho=>by
   rcases Jbw ho with ⟨o1,hl,ho⟩|⟨-,ho⟩
   ·have hn':=t.look' hl
    rw [t.ob] at hl
    obtain ⟨g,o,a,b,c,rfl⟩:=zm hl
    exact .inl ⟨g,o,Jm4 t.n2 a,hn',b,c,ho⟩
   ·rw [t.mo] at ho
    exact .inr ho
  refine ⟨⟨fun n o' ho=>?_,fun n n' g h1 h2 _ _=>?_,fun n g o' h1 h2 h3 h4=>?_,fun g hg=>?_⟩,fun d v hd=>?_,by rw [←hs'];simp,fun i l l' d v' hl hl' hd=>?_,⟨fun p hp=>?_,fun l hl p hp=>?_,fun g o ho=>?_,fun m hm=>?_⟩⟩
  ·rcases look_of n o' ho with ⟨g,o,a,a2,b,c,rfl⟩|hm
   ·exact .inr ⟨g,_,by unfold thM;rw [if_neg (by rw [a2];exact Bu)];exact a,Jf b,renO_gr t g o⟩
   ·exact .inr ⟨n,o',(t.same hm).2.2,(t.same hm).1,Jlh t.iv (fun h=>t.same h) hm⟩
  ·unfold thM at h1 h2
   split at h1<;>split at h2
   ·injection h1 with h1;injection h2 with h2;omega
   ·rename_i m1 m2
    injection h1 with h1
    subst h1
    have:=(t.nm _ (Jd9 h2)).1
    rw [m1] at this
    cases this
   ·rename_i m1 m2
    injection h2 with h2
    subst h2
    have:=(t.nm _ (Jd9 h1)).1
    rw [m2] at this
    cases this
   ·have a:=Jjd t.n1 (Jd9 h1)
    have b:=Jjd t.n1 (Jd9 h2)
    rw [a] at b
    injection b
  ·rcases look_of n o' h2 with ⟨g',o,a,a2,b,c,rfl⟩|hm
   rotate_left
   ·rw [(t.same hm).2.2] at h1
    injection h1 with h1
    subst h1
    intro hg
    have:=(Aj.1 hg).2
    unfold frozen at this
    rw [jm h.iv (X7 hm).1] at this
    cases this
   have h1:inv n tb=some g:=by unfold thM at h1;rw [if_neg (by rw [a2];exact Bu)] at h1;exact h1
   rw [a] at h1
   injection h1 with h1
   subst h1
   intro hg
   have:=(Aj.1 hg).2
   rw [c] at this
   cases this
  ·have hf:=(Aj.1 hg).2
   unfold frozen at hf
   cases ho:look g s.ob with
   | none=>rw [ho] at hf;cases hf
   | some o =>
    rw [ho] at hf
    refine ⟨_,Jf ho,?_⟩
    cases o with
    | box=>cases hf
    | mp=>cases hf
    | em=>cases hf
    | lit=>rfl
    | row=>rfl
  ·rw [←hs'] at hd
   obtain ⟨v0,h0,rfl⟩:=Jcr hd
   have:s.at d=v0:=by simp [Dn.S.at,Jbi h0]
   rw [this]
   exact Jv3 t v0
  ·rw [←hs'] at hl'
   simp only [Bb,hl,Bd,Option.some.injEq] at hl'
   subst hl'
   obtain ⟨v0,h0,rfl⟩:=Jcr hd
   rw [h0]
   exact Jv3 t v0
  ·rw [←hs'] at hp
   have:∀l:List (Nat×V Ty.T),p∈Jhw val s tb l→okV s' p.2:=fun l=>by
    induction l with
    | nil=>intro h;cases h
    | cons x r ih =>
     intro h
     rcases Ai.1 h with rfl|h
     ·exact Jvv t _
     ·exact ih h
   exact this _ hp
  ·rw [←hs'] at hl
   obtain ⟨l0,-,rfl⟩:=Aq.1 hl
   have:∀l:List (Nat×V Ty.T),p∈Jhw val s tb l→okV s' p.2:=fun l=>by
    induction l with
    | nil=>intro h;cases h
    | cons x r ih =>
     intro h
     rcases Ai.1 h with rfl|h
     ·exact Jvv t _
     ·exact ih h
   exact this _ hp
  ·rw [t.ob] at ho
   obtain ⟨g,o,a,b,c,rfl⟩:=zm ho
   exact Juj t o
  ·have hm':=hm
   rw [t.mo] at hm'
   exact ⟨(h.iv.mo m hm').1,(h.iv.mo m hm').2.1,fun g o hg=>by rw [t.mo];exact t.look' hg⟩
 ·refine h.ghost (θ:=fun _=>none) (R:=[]) ⟨⟨fun n o' ho=>?_,fun n n' g h1=>(by cases h1),fun n g o' h1=>(by cases h1),fun g hg=>(by cases hg)⟩,fun d v hd=>(by cases hd),by simp,fun i l l' d v' hl hl' hd=>?_,⟨fun p hp=>(by cases hp),fun l hl p hp=>?_,fun g o ho=>(by cases ho),fun m hm=>(by cases hm)⟩⟩
  ·cases ho
  ·simp only [Bb,hl,Bd,Option.some.injEq] at hl'
   subst hl'
   cases hd
  ·obtain ⟨l0,-,rfl⟩:=Aq.1 hl
   cases hp
end
end Go.Dn
namespace Go.Dn
open Go Go.Vv
set_option linter.unusedVariables false
set_option linter.unusedSimpArgs false
theorem Jjf (lw:(t:Ty)→C Ty.T→Option t.T):∀(t:Ty) (l:List (C Ty.T)),impl (dL wv) lw t l=impl val lw t l
 | .u,l=>rfl
 | .p a b,l=>by
  simp only [impl,Jjf lw a]
  congr 1
  funext x
  obtain ⟨x,l⟩:=x
  simp only [Jjf lw b]
  rfl
 | .int k,l=>rfl
 | .bool,l=>rfl
 | .str,l=>rfl
 | .ls t,l=>rfl
 | .bf f t,l=>rfl
theorem Jqn (lw:(t:Ty)→C Ty.T→Option t.T) (t:Ty):∀(n:Nat) (l:List (C Ty.T)),Zi (dL wv) lw t n l=Zi val lw t n l
 | 0,l=>rfl
 | n+1,l=>by
  cases l with
  | nil=>rfl
  | cons c l =>
   simp only [Zi,Jjf]
   congr 1
   funext x
   obtain ⟨x,l⟩:=x
   simp only [Jqn lw t n]
   rfl
theorem Jjj (ob:List (Nat×Ob Ty.T)):∀(n:Nat),@K4 Ty.T Option (dL wv) ob n=@K4 Ty.T Option val ob n
 | 0=>rfl
 | n+1=>by
  funext t c
  simp only [K4,rowW,Jqn,Jjj ob n]
  rfl
theorem Joc:∀(t:Ty) (v:t.T),expl (dL wv) t v=expl val t v
 | .u,v=>rfl
 | .p a b,v=>by simp only [expl,Joc a,Joc b];rfl
 | .int k,v=>rfl
 | .bool,v=>rfl
 | .str,v=>rfl
 | .ls t,v=>rfl
 | .bf f t,v=>rfl
theorem mlN_dL (lw:(t:Ty)→C Ty.T→Option t.T) (t:Ty) (l:List t.T) (n:Option (Nat×C Ty.T)):mlN (dL wv) lw t l n=mlN val lw t l n:=by
 cases n with
 | none=>rfl
 | some p =>
  simp only [mlN]
  have:setF (dL wv) lw t p.1 p.2=setF val lw t p.1 p.2:=by
   funext e
   simp only [setF,Jjf,Joc]
  rw [this]
  rfl
inductive Fx (s:S Ty.T) (sh:S U) (N:List Nat):C Ty.T→C Ty.T→Prop
 | any (x:C Ty.T):Fx s sh N x .any
 | lf {x:C Ty.T} {t:Ty} {v:t.T} (h:K4 val s.ob 4 t x=some v) (hN:∀g∈Jt s.ob 4 x,g∈N):Fx s sh N x (.lf t v)
 | leaf {x:C Ty.T} (hr:refs x=[]) (he:∀s s',encC s' x=encC s x) (hf:(encC s x).flat=true):Fx s sh N x x
 | ref {x:C Ty.T} (h:∀r∈refs x,∃o,look r.1 sh.ob=some o∧o.ver=r.2) (hr:∃r,r∈refs x):Fx s sh N x x
 | fn {f:FuncId} {c:List (Nat×Nat×Nat)} (h:∀r∈refs (.fn f c:C Ty.T),∃o,look r.1 sh.ob=some o∧o.ver=r.2):Fx s sh N (.fn f c) (.fn f c)
 | yl (j:Nat):Fx s sh N (.yl j) (.yl j)
 | mo {g v:Nat} (h:moC sh.mo (.map g v)=true):Fx s sh N (.k (.map g v)) (.k (.map g v))
 | new {g v:Nat} (h:∃o,look g sh.ob=some o∧o.ver=v) (h0:look g s.ob=none):Fx s sh N (.k .nils) (.own g v)
def okSh (sh:S U) (c:C U):Prop:=S.shut.ok sh c=true
theorem Jo0 {sh:S U} {c:C U} (h:okSh sh c):∀r∈refs c,∃o,look r.1 sh.ob=some o∧o.ver=r.2:=by
 intro r hr
 unfold okSh S.shut.ok at h
 rw [Ac] at h
 have:=Ah.1 h.1 r hr
 cases ho:look r.1 sh.ob with
 | none=>rw [ho] at this;cases this
 | some o=>rw [ho] at this;exact ⟨o,rfl,by simpa using this⟩
section
variable {s:S Ty.T} {sh:S U} {N:List Nat} {r:List Ty}
theorem Jn0 {h:HL Ty.T r} {c:C U} {x:C Ty.T} {h1:HL Ty.T (ltC r c)} (hf:fitC (dL wv) s.ob h c x=some h1) (hs:okSh sh c) (hN:∀g∈readC s.ob c x,g∈N):∃y,mkC c h1=(y,h)∧Fx s sh N x y:=by
 have hk:=Jo0 hs
 unfold fitC at hf
 split at hf
 ·injection hf with hf;subst hf;exact ⟨_,rfl,.any _⟩
 ·rename_i t u
  rw [Jjj] at hf
  cases hl:K4 val s.ob 4 t x with
  | none=>rw [hl] at hf;cases hf
  | some v=>rw [hl] at hf;injection hf with hf;subst hf;exact ⟨_,rfl,.lf hl hN⟩
 ·split at hf
  ·rename_i e;subst e;injection hf with hf;subst hf;exact ⟨_,rfl,.leaf rfl (fun _ _=>rfl) rfl⟩
  ·cases hf
 ·injection hf with hf;subst hf;exact ⟨_,rfl,.leaf rfl (fun _ _=>rfl) rfl⟩
 ·injection hf with hf;subst hf;exact ⟨_,rfl,.leaf rfl (fun _ _=>rfl) rfl⟩
 ·injection hf with hf;subst hf;exact ⟨_,rfl,.leaf rfl (fun _ _=>rfl) rfl⟩
 ·injection hf with hf;subst hf;exact ⟨_,rfl,.leaf rfl (fun _ _=>rfl) rfl⟩
 ·split at hf
  ·rename_i e;obtain ⟨rfl,rfl⟩:=e;injection hf with hf;subst hf;exact ⟨_,rfl,.ref hk ⟨_,Aa.2 rfl⟩⟩
  ·cases hf
 ·split at hf
  ·rename_i e;injection hf with hf;subst hf;exact ⟨_,rfl,.new (hk _ (Aa.2 rfl)) (by simpa using e)⟩
  ·cases hf
 ·split at hf
  ·rename_i e;obtain ⟨rfl,rfl⟩:=e;injection hf with hf;subst hf;exact ⟨_,rfl,.ref hk ⟨_,Aa.2 rfl⟩⟩
  ·cases hf
 ·split at hf
  ·rename_i e;obtain ⟨rfl,rfl,rfl⟩:=e;injection hf with hf;subst hf;exact ⟨_,rfl,.ref hk ⟨_,Aa.2 rfl⟩⟩
  ·cases hf
 ·split at hf
  ·rename_i e;obtain ⟨rfl,rfl,rfl,rfl⟩:=e;injection hf with hf;subst hf;exact ⟨_,rfl,.ref hk ⟨_,Aa.2 rfl⟩⟩
  ·cases hf
 ·split at hf
  ·rename_i t u o t' v o' e
   subst e
   cases hc:cast? t' t v with
   | none=>rw [hc] at hf;cases hf
   | some y =>
    rw [hc] at hf
    injection hf with hf
    subst hf
    obtain ⟨rfl,rfl⟩:=Kf hc
    exact ⟨_,rfl,.leaf rfl (fun _ _=>rfl) rfl⟩
  ·cases hf
 ·split at hf
  ·rename_i e;obtain ⟨rfl,rfl⟩:=e;injection hf with hf;subst hf;exact ⟨_,rfl,.fn hk⟩
  ·cases hf
 ·split at hf
  ·rename_i e;obtain ⟨rfl,rfl⟩:=e;injection hf with hf;subst hf;exact ⟨_,rfl,.ref hk ⟨_,Aa.2 rfl⟩⟩
  ·cases hf
 ·split at hf
  ·rename_i e;subst e;injection hf with hf;subst hf;exact ⟨_,rfl,.yl _⟩
  ·cases hf
 ·split at hf
  ·rename_i g v g' v' e
   obtain ⟨rfl,rfl⟩:=e
   injection hf with hf
   subst hf
   unfold okSh S.shut.ok at hs
   rw [Ac] at hs
   exact ⟨_,rfl,.mo (by simpa [AV.flat] using hs.2)⟩
  ·cases hf
 ·cases hf
structure FxL (s:S Ty.T) (sh:S U) (N:List Nat) (l m:List (C Ty.T)):Prop where
 len:l.length=m.length
 at':∀(i:Nat) (x y:C Ty.T),l[i]?=some x→m[i]?=some y→Fx s sh N x y
theorem FxL.nil:FxL s sh N [] []:=⟨rfl,fun i x y hx=>by simp at hx⟩
theorem FxL.cons {x y:C Ty.T} {l m:List (C Ty.T)} (hx:Fx s sh N x y) (ht:FxL s sh N l m):FxL s sh N (x::l) (y::m) :=
 ⟨by simp [ht.len],fun i a b ha hb=>by
  cases i with
  | zero=>simp at ha hb;subst ha;subst hb;exact hx
  | succ i=>exact ht.at' i a b (by simpa using ha) (by simpa using hb)⟩
theorem za {h:HL Ty.T r}:∀ {l:List (C U)} {m:List (C Ty.T)} {h1:HL Ty.T (ltCs r l)},Jf8 (dL wv) s.ob h l m=some h1→(∀c∈l,okSh sh c)→(∀g∈Je2 s.ob l m,g∈N)→∃ys,mkCs l h1=(ys,h)∧FxL s sh N m ys
 | [],[],h1,hf,_,_=>by injection hf with hf;subst hf;exact ⟨[],rfl,.nil⟩
 | c::l,x::m,h1,hf,hs,hN=>by
  simp only [Jf8] at hf
  cases hb:Jf8 (dL wv) s.ob h l m with
  | none=>rw [hb] at hf;cases hf
  | some h2 =>
   rw [hb] at hf
   obtain ⟨ys,a,b⟩:=za hb (fun c hc=>hs c (Ab _ hc)) fun g hg=>hN g (Af _ hg)
   obtain ⟨y,c1,d⟩:=Jn0 (N:=N) (sh:=sh) hf (hs c Ae) fun g hg=>hN g (Ak _ hg)
   exact ⟨y::ys,by simp only [mkCs,c1,a],.cons d b⟩
 | [],_::_,h1,hf,_,_=>by cases hf
 | _::_,[],h1,hf,_,_=>by cases hf
end
end Go.Dn
namespace Go.Dn
open Go Go.Vv
set_option linter.unusedVariables false
set_option linter.unusedSimpArgs false
structure FxP (s:S Ty.T) (sh:S U) (N:List Nat) (l m:List (Bool×List (C Ty.T))):Prop where
 len:l.length=m.length
 at':∀(i:Nat) (x y:Bool×List (C Ty.T)),l[i]?=some x→m[i]?=some y→x.1=y.1∧FxL s sh N x.2 y.2
inductive Fv (s:S Ty.T) (sh:S U) (N:List Nat):V Ty.T→V Ty.T→Prop
 | any (x:V Ty.T):Fv s sh N x (.c .any)
 | c {x y:C Ty.T} (h:Fx s sh N x y):Fv s sh N (.c x) (.c y)
 | ag {l m:List (C Ty.T)} (h:FxL s sh N l m):Fv s sh N (.ag l) (.ag m)
 | tp {l m:List (Bool×List (C Ty.T))} (h:FxP s sh N l m):Fv s sh N (.tp l) (.tp m)
inductive Fo (s:S Ty.T) (sh:S U) (N:List Nat):Option (Ob Ty.T)→Nat→Ob Ty.T→Prop
 | box {v:Nat} {cs ys:List (C Ty.T)} (h:FxL s sh N cs ys):Fo s sh N (some (.box v cs)) v (.box v ys)
 | lit {v e:Nat} {el:TypeId} {cs ys:List (C Ty.T)} {z:Bool} (h:FxL s sh N cs ys):Fo s sh N (some (.lit v e el cs z)) v (.lit v e el ys z)
 | row0 {v e:Nat} {el:TypeId} {t:Ty} {l:List t.T} {x ys:List (C Ty.T)} {z:Bool} (h:FxL s sh N x ys):Fo s sh N (some (.row v e el t l x none z)) v (.row v e el t l ys none z)
 | row1 {v e:Nat} {el:TypeId} {t:Ty} {l:List t.T} {x ys:List (C Ty.T)} {off:Nat} {c y:C Ty.T} {z:Bool} (h:FxL s sh N x ys) (hy:Fx s sh N c y):Fo s sh N (some (.row v e el t l x (some (off,c)) z)) v (.row v e el t l ys (some (off,y)) z)
 | row2 {v e:Nat} {el:TypeId} {t:Ty} {l l':List t.T} {x ys:List (C Ty.T)} {off:Nat} {c:C Ty.T} {z:Bool} (h:FxL s sh N x ys) (hl:mlN val (K4 val s.ob 4) t l (some (off,c))=some l') (hN:∀g∈Jt s.ob 4 c,g∈N) :
   Fo s sh N (some (.row v e el t l x (some (off,c)) z)) v (.row v e el t l' ys none z)
 | new0 {v e:Nat} {el:TypeId} {t:Ty} {z:Bool}:Fo s sh N none v (.row v e el t ([]:List t.T) [] none z)
 | new1 {v e:Nat} {el:TypeId} {t:Ty} {off g v':Nat} {z:Bool} (h:∃o,look g sh.ob=some o∧o.ver=v'):Fo s sh N none v (.row v e el t ([]:List t.T) [] (some (off,.own g v')) z)
 | mp {v:Nat} {kt vt:Ty} {es:List (kt.T×vt.T)}:Fo s sh N (some (.mp v kt vt es)) v (.mp v kt vt es)
def okShV (sh:S U):V U→Prop
 | .c x=>okSh sh x
 | .ag l=>∀c∈l,okSh sh c
 | .tp l=>∀q∈l,∀c∈q.2,okSh sh c
section
variable {s:S Ty.T} {sh:S U} {N:List Nat} {r:List Ty}
theorem Jsz {h:HL Ty.T r}:∀ {l:List (Bool×List (C U))} {m:List (Bool×List (C Ty.T))} {h1:HL Ty.T (ltP r l)},fitP (dL wv) s.ob h l m=some h1→(∀q∈l,∀c∈q.2,okSh sh c)→(∀g∈readP s.ob l m,g∈N) →
  ∃ys,mkP l h1=(ys,h)∧FxP s sh N m ys
 | [],[],h1,hf,_,_=>by injection hf with hf;subst hf;exact ⟨[],rfl,rfl,fun i x y hx=>by simp at hx⟩
 | (a,p)::l,(b,x)::m,h1,hf,hs,hN=>by
  simp only [fitP] at hf
  split at hf
  ·rename_i e
   subst e
   cases hb:fitP (dL wv) s.ob h l m with
   | none=>rw [hb] at hf;cases hf
   | some h2 =>
    rw [hb] at hf
    obtain ⟨ys,a1,b1⟩:=Jsz hb (fun c hc=>hs c (Ab _ hc)) fun g hg=>hN g (Af _ hg)
    obtain ⟨y,c1,d⟩:=za (N:=N) (sh:=sh) hf (hs _ Ae) fun g hg=>hN g (Ak _ hg)
    refine ⟨(a,y)::ys,by simp only [mkP,c1,a1],by simp [b1.len],fun i u v hu hv=>?_⟩
    cases i with
    | zero=>simp at hu hv;subst hu;subst hv;exact ⟨rfl,d⟩
    | succ i=>exact b1.at' i u v (by simpa using hu) (by simpa using hv)
  ·cases hf
 | [],_::_,h1,hf,_,_=>by cases hf
 | (_,_)::_,[],h1,hf,_,_=>by cases hf
theorem fitV_ok {h:HL Ty.T r} {v:V U} {x:V Ty.T} {h1:HL Ty.T (ltV r v)} (hf:fitV (dL wv) s.ob h v x=some h1) (hs:okShV sh v) (hN:∀g∈readV s.ob v x,g∈N):∃y,mkV v h1=(y,h)∧Fv s sh N x y:=by
 cases v with
 | c c =>
  cases x with
  | c x =>
   obtain ⟨y,a,b⟩:=Jn0 (N:=N) (sh:=sh) hf hs hN
   exact ⟨.c y,by simp only [mkV,a],.c b⟩
  | ag l=>cases c<;>first|(injection hf with hf;subst hf;exact ⟨_,rfl,.any _⟩)|cases hf
  | tp l=>cases c<;>first|(injection hf with hf;subst hf;exact ⟨_,rfl,.any _⟩)|cases hf
 | ag l =>
  cases x with
  | ag m =>
   obtain ⟨y,a,b⟩:=za (N:=N) (sh:=sh) hf hs hN
   exact ⟨.ag y,by simp only [mkV,a],.ag b⟩
  | _=>cases hf
 | tp l =>
  cases x with
  | tp m =>
   obtain ⟨y,a,b⟩:=Jsz (N:=N) (sh:=sh) hf hs hN
   exact ⟨.tp y,by simp only [mkV,a],.tp b⟩
  | _=>cases hf
theorem Xx {α:Type} {c:Prop} [Decidable c] {x:Option α} {y:α} (h:(if c then x else none)=some y):c∧x=some y:=by
 split at h
 ·exact ⟨by assumption,h⟩
 ·cases h
theorem fitO_ok {h:HL Ty.T r} {p:Ob U} {o:Ob Ty.T} {h1:HL Ty.T (ltO r p)} (hf:fitO (dL wv) s.ob h p o=some h1) (hs:∀c∈p.kids,okSh sh c) (hN:∀g∈Jqx s.ob p o,g∈N):∃y,mkO p h1=(y,h)∧Fo s sh N (some o) p.ver y:=by
 unfold fitO at hf
 split at hf
 ·have hc:=Xx hf;clear hf;obtain ⟨e,hf⟩:=hc
  subst e
  obtain ⟨y,a,b⟩:=za (N:=N) (sh:=sh) hf hs hN
  exact ⟨_,by simp only [mkO,a],.box b⟩
 ·have hc:=Xx hf;clear hf;obtain ⟨e,hf⟩:=hc
  obtain ⟨rfl,rfl,rfl,rfl⟩:=e
  obtain ⟨y,a,b⟩:=za (N:=N) (sh:=sh) hf hs hN
  exact ⟨_,by simp only [mkO,a],.lit b⟩
 ·rename_i v e el t u x nest fz v' e' el' t' l x' nest' fz'
  have hc:=Xx hf;clear hf;obtain ⟨e,hf⟩:=hc
  ·obtain ⟨rfl,rfl,rfl,rfl⟩:=e
   cases hn:fitN (dL wv) s.ob h nest nest' with
   | none=>rw [hn] at hf;cases hf
   | some h2 =>
    rw [hn] at hf
    simp only [Ap] at hf
    cases hx:Jf8 (dL wv) s.ob h2 x x' with
    | none=>rw [hx] at hf;cases hf
    | some h3 =>
     rw [hx] at hf
     simp only [Ap] at hf
     obtain ⟨ys,a,b⟩:=za (N:=N) (sh:=sh) hx (fun c hc=>hs c (by simp only [Ob.kids];exact Af _ hc)) (fun g hg=>hN g (by simp only [Jqx];exact Ak _ hg))
     have cst:∀ {L:List t'.T},((cast? (ι:=Ty.T) (.ls t') (.ls t) L:Option (Ty.ls t).T).map fun l=>(⟨l,h3⟩:HL Ty.T (.ls t::ltCs (ltN r nest) x)))=some h1→∃e:t'=t,h1=⟨e▸L,h3⟩:=fun {L} hq=>by
      cases hc:cast? (ι:=Ty.T) (.ls t') (.ls t) L with
      | none=>rw [hc] at hq;cases hq
      | some l1 =>
       rw [hc] at hq
       injection hq with hq
       obtain ⟨e1,e2⟩:=Kf hc
       injection e1 with e1
       subst e1
       exact ⟨rfl,by rw [←hq,e2]⟩
     cases nest with
     | none =>
      cases nest' with
      | none =>
       injection hn with hn
       subst hn
       obtain ⟨rfl,rfl⟩:=cst hf
       exact ⟨_,by simp only [mkO,a,mkN],.row0 b⟩
      | some q =>
       obtain ⟨off,c⟩:=q
       injection hn with hn
       subst hn
       have e0:mlN (dL wv) (K4 (dL wv) s.ob 4) t' l (some (off,c))=mlN val (K4 val s.ob 4) t' l (some (off,c)):=by rw [Jjj];exact mlN_dL _ t' l _
       have hf:((mlN (dL wv) (K4 (dL wv) s.ob 4) t' l (some (off,c))).bind fun l=>Option.map (fun l=>(⟨l,h3⟩:HL Ty.T (.ls t::ltCs (ltN r none) x))) (cast? (ι:=Ty.T) (.ls t') (.ls t) l))=some h1:=hf
       rw [e0] at hf
       cases hm:mlN val (K4 val s.ob 4) t' l (some (off,c)) with
       | none=>rw [hm] at hf;cases hf
       | some l' =>
        rw [hm] at hf
        obtain ⟨rfl,rfl⟩:=cst hf
        exact ⟨_,by simp only [mkO,a,mkN],.row2 b hm fun g hg=>hN g (by simp only [Jqx];exact Af _ hg)⟩
     | some p =>
      obtain ⟨po,pc⟩:=p
      cases nest' with
      | none=>simp at hf
      | some q =>
       obtain ⟨off,c⟩:=q
       simp only [fitN] at hn
       have hc:=Xx hn;clear hn;obtain ⟨e,hn⟩:=hc
       ·subst e
        obtain ⟨y,c1,d⟩:=Jn0 (N:=N) (sh:=sh) hn (hs pc (by simp [Ob.kids])) fun g hg=>hN g (by simp only [Jqx];exact Af _ hg)
        obtain ⟨rfl,rfl⟩:=cst hf
        exact ⟨_,by simp only [mkO,a,mkN,c1],.row1 b d⟩
 ·rename_i v kt vt u v' kt' vt' es
  have hc:=Xx hf;clear hf;obtain ⟨e,hf⟩:=hc
  subst e
  cases hc:cast? (ι:=Ty.T) (.ls (.p kt' vt')) (.ls (.p kt vt)) es with
  | none=>rw [hc] at hf;cases hf
  | some l1 =>
   rw [hc] at hf
   injection hf with hf
   obtain ⟨e1,e2⟩:=Kf hc
   injection e1 with e1
   injection e1 with e1 e3
   subst e1
   subst e3
   subst hf
   subst e2
   exact ⟨_,rfl,.mp⟩
 ·cases hf
theorem Jt7 {h:HL Ty.T r} {p:Ob U} {h1:HL Ty.T (ltO r p)} (hf:Juw (dL wv) h p=some h1) (hs:∀c∈p.kids,okSh sh c):∃y,mkO p h1=(y,h)∧Fo s sh N none p.ver y:=by
 unfold Juw at hf
 split at hf
 ·injection hf with hf;subst hf;exact ⟨_,rfl,.new0⟩
 ·injection hf with hf
  subst hf
  exact ⟨_,rfl,.new1 (Jo0 (hs _ (by simp [Ob.kids];rfl)) _ (Aa.2 rfl))⟩
 ·cases hf
def FOb (s:S Ty.T) (sh:S U) (N:List Nat):List (Nat×Ob U)→List (Nat×Ob Ty.T)→Prop
 | [],[]=>True
 | (a,p)::l,(b,o)::m=>b=a∧Fo s sh N (look a s.ob) p.ver o∧FOb s sh N l m
 | _,_=>False
theorem FOb.at1 {n:Nat}:∀ {l:List (Nat×Ob U)} {m:List (Nat×Ob Ty.T)} {p:Ob U},FOb s sh N l m→look n l=some p→∃o,look n m=some o∧Fo s sh N (look n s.ob) p.ver o
 | [],_,p,_,h=>by cases h
 | (a,q)::l,[],p,hf,h=>hf.elim
 | (a,q)::l,(b,o)::m,p,hf,h=>by
  obtain ⟨rfl,h1,h2⟩:=hf
  rw [Ju] at h ⊢
  split at h
  ·rename_i e
   injection h with h
   subst h
   subst e
   rw [if_pos rfl]
   exact ⟨o,rfl,h1⟩
  ·rename_i e
   rw [if_neg e]
   exact FOb.at1 h2 h
theorem FOb.at2 {n:Nat}:∀ {l:List (Nat×Ob U)} {m:List (Nat×Ob Ty.T)} {o:Ob Ty.T},FOb s sh N l m→look n m=some o→∃p,look n l=some p
 | _,[],p,_,h=>by cases h
 | [],_::_,p,hf,h=>hf.elim
 | (a,q)::l,(b,o1)::m,o,hf,h=>by
  obtain ⟨rfl,h1,h2⟩:=hf
  rw [Ju] at h ⊢
  split at h
  ·rename_i e
   rw [if_pos e]
   exact ⟨q,rfl⟩
  ·rename_i e
   rw [if_neg e]
   exact FOb.at2 h2 h
theorem Jqh {h:HL Ty.T r}:∀ {l:List (Nat×Ob U)} {h1:HL Ty.T (ltOb r l)},Jm9 (dL wv) s.ob h l=some h1→(∀p∈l,∀c∈p.2.kids,okSh sh c)→(∀p∈l,∀o,look p.1 s.ob=some o→∀g∈Jqx s.ob p.2 o,g∈N) →
  ∃ys,mkOb l h1=(ys,h)∧FOb s sh N l ys
 | [],h1,hf,_,_=>by injection hf with hf;subst hf;exact ⟨[],rfl,trivial⟩
 | (a,p)::l,h1,hf,hs,hN=>by
  simp only [Jm9] at hf
  cases hb:Jm9 (dL wv) s.ob h l with
  | none=>rw [hb] at hf;cases hf
  | some h2 =>
   rw [hb] at hf
   obtain ⟨ys,a1,b1⟩:=Jqh hb (fun c hc=>hs c (Ab _ hc)) fun q hq=>hN q (Ab _ hq)
   have hs1:=hs _ Ae
   cases ho:look a s.ob with
   | none =>
    rw [ho] at hf
    obtain ⟨y,c,d⟩:=Jt7 (s:=s) (N:=N) (sh:=sh) hf hs1
    exact ⟨(a,y)::ys,by simp only [mkOb,c,a1],rfl,by rw [ho];exact d,b1⟩
   | some o =>
    rw [ho] at hf
    obtain ⟨y,c,d⟩:=fitO_ok (N:=N) (sh:=sh) hf hs1 (hN _ Ae o ho)
    exact ⟨(a,y)::ys,by simp only [mkOb,c,a1],rfl,by rw [ho];exact d,b1⟩
def FSl (s:S Ty.T) (sh:S U) (N:List Nat) (sl:List (Nat×V Ty.T)):List (Nat×V U)→List (Nat×V Ty.T)→Prop
 | [],[]=>True
 | (a,_)::l,(b,v)::m=>b=a∧Fv s sh N ((look a sl).getD (.c .any)) v∧FSl s sh N sl l m
 | _,_=>False
theorem FSl.mem {sl:List (Nat×V Ty.T)}:∀ {l:List (Nat×V U)} {m:List (Nat×V Ty.T)},FSl s sh N sl l m→∀p∈m,Fv s sh N ((look p.1 sl).getD (.c .any)) p.2
 | _,[],_,p,h=>by cases h
 | [],_::_,hf,p,h=>hf.elim
 | (a,q)::l,(b,v)::m,hf,p,h=>by
  obtain ⟨rfl,h1,h2⟩:=hf
  rcases Ai.1 h with rfl|h
  ·exact h1
  ·exact FSl.mem h2 p h
theorem Jh2 {h:HL Ty.T r} {sl:List (Nat×V Ty.T)}:∀ {l:List (Nat×V U)} {h1:HL Ty.T (ltSl r l)},Jjp (dL wv) s.ob h sl l=some h1→(∀p∈l,okShV sh p.2)→(∀g∈Jl0 s.ob l sl,g∈N)→∃ys,mkSl l h1=(ys,h)∧FSl s sh N sl l ys
 | [],h1,hf,_,_=>by injection hf with hf;subst hf;exact ⟨[],rfl,trivial⟩
 | (a,p)::l,h1,hf,hs,hN=>by
  simp only [Jjp] at hf
  cases hb:Jjp (dL wv) s.ob h sl l with
  | none=>rw [hb] at hf;cases hf
  | some h2 =>
   rw [hb] at hf
   obtain ⟨ys,a1,b1⟩:=Jh2 hb (fun c hc=>hs c (Ab _ hc)) fun g hg=>hN g (by simp only [Jl0,Av];exact Af _ hg)
   have hf:fitV (dL wv) s.ob h2 p ((look a sl).getD (.c .any))=some h1:=hf
   obtain ⟨y,c,d⟩:=fitV_ok (N:=N) (sh:=sh) hf (hs _ Ae) fun g hg=>hN g (by simp only [Jl0,Av];exact Ak _ hg)
   exact ⟨(a,y)::ys,by simp only [mkSl,c,a1],rfl,d,b1⟩
def FLo (s:S Ty.T) (sh:S U) (N:List Nat):List (List (Nat×V Ty.T))→List (List (Nat×V U))→List (List (Nat×V Ty.T))→Prop
 | [],[],[]=>True
 | q::m,l::ls,y::ys=>FSl s sh N q l y∧FLo s sh N m ls ys
 | _,_,_=>False
theorem FLo.at:∀ {m:List (List (Nat×V Ty.T))} {l:List (List (Nat×V U))} {ys:List (List (Nat×V Ty.T))},FLo s sh N m l ys→ys.length=m.length∧∀(i:Nat) (q y:List (Nat×V Ty.T)),m[i]?=some q→ys[i]?=some y→∃l,FSl s sh N q l y
 | [],[],[],_=>⟨rfl,fun i q y h=>by simp at h⟩
 | q::m,l::ls,y::ys,h=>by
  obtain ⟨h1,h2⟩:=h
  obtain ⟨a,b⟩:=FLo.at h2
  refine ⟨by simp [a],fun i u v hu hv=>?_⟩
  cases i with
  | zero=>simp at hu hv;subst hu;subst hv;exact ⟨l,h1⟩
  | succ i=>exact b i u v (by simpa using hu) (by simpa using hv)
 | [],[],_::_,h=>h.elim
 | [],_::_,_,h=>h.elim
 | _::_,[],_,h=>h.elim
 | _::_,_::_,[],h=>h.elim
theorem Jpp {h:HL Ty.T r}:∀ {l:List (List (Nat×V U))} {m:List (List (Nat×V Ty.T))} {h1:HL Ty.T (ltLo r l)},Jk3 (dL wv) s.ob h l m=some h1→(∀q∈l,∀p∈q,okShV sh p.2)→(∀g∈Js7 s.ob l m,g∈N)→∃ys,mkLo l h1=(ys,h)∧FLo s sh N m l ys
 | [],[],h1,hf,_,_=>by injection hf with hf;subst hf;exact ⟨[],rfl,trivial⟩
 | p::l,q::m,h1,hf,hs,hN=>by
  simp only [Jk3] at hf
  cases hb:Jk3 (dL wv) s.ob h l m with
  | none=>rw [hb] at hf;cases hf
  | some h2 =>
   rw [hb] at hf
   obtain ⟨ys,a1,b1⟩:=Jpp hb (fun c hc=>hs c (Ab _ hc)) fun g hg=>hN g (Af _ hg)
   obtain ⟨y,c,d⟩:=Jh2 (N:=N) (sh:=sh) hf (hs _ Ae) fun g hg=>hN g (Ak _ hg)
   exact ⟨y::ys,by simp only [mkLo,c,a1],d,b1⟩
 | [],_::_,h1,hf,_,_=>by cases hf
 | _::_,[],h1,hf,_,_=>by cases hf
structure Fit (s:S Ty.T) (sh:S U) (N:List Nat) (s':S Ty.T):Prop where
 sl:FSl s sh N s.sl sh.sl s'.sl
 lo:FLo s sh N s.lo sh.lo s'.lo
 ob:FOb s sh N sh.ob s'.ob
 out:∀g∈N,look g sh.ob=none
 mo:s'.mo=s.mo
 mg:∀m,sh.mo=some m→∃m',s.mo=some m'∧m'.g=m.g
 nm:∀p∈sh.ob,moN s.mo p.1=false
 rd:∀g∈N,moN s.mo g=false
theorem fitMo_ok:∀ {m:Option (Mo U)} {m':Option (Mo Ty.T)} {h:HL Ty.T (ltMo m)},fitMo (dL wv) m m'=some h→mkMo m h=m'∧(∀x,m=some x→∃y,m'=some y∧y.g=x.g)∧∀n,moN m' n=moN m n
 | none,none,h,hf=>⟨rfl,fun x hx=>by (cases hx),fun n=>rfl⟩
 | some m,some m',h,hf=>by
  obtain ⟨g,kt,vt,el,es⟩:=m
  obtain ⟨g',kt',vt',el',es'⟩:=m'
  have hf:(if g=g'∧el=el' then (cast? (ι:=Ty.T) (.ls (.p kt' (.ls vt'))) (.ls (.p kt (.ls vt))) es').map fun l=>(⟨l,()⟩:HL Ty.T [.ls (.p kt (.ls vt))]) else none)=some h:=hf
  obtain ⟨⟨e1,e2⟩,h6⟩:=Xx hf
  clear hf
  subst e1
  subst e2
  cases hc:cast? (ι:=Ty.T) (.ls (.p kt' (.ls vt'))) (.ls (.p kt (.ls vt))) es' with
  | none=>rw [hc] at h6;cases h6
  | some l1 =>
   rw [hc] at h6
   injection h6 with hf
   obtain ⟨e1,e2⟩:=Kf hc
   injection e1 with e1
   injection e1 with e1 e3
   injection e3 with e3
   subst e1
   subst e3
   subst hf
   subst e2
   exact ⟨rfl,fun x hx=>⟨_,rfl,by injection hx with hx;subst hx;rfl⟩,fun n=>rfl⟩
 | none,some m',h,hf=>by cases hf
 | some m,none,h,hf=>by cases hf
theorem fit_made {h:HL Ty.T sh.lt} (hf:sh.fit (dL wv) s=some h):Fit s sh (Jkh sh s) (sh.mk' h):=by
 unfold S.fit at hf
 split at hf
 ·rename_i hc
  obtain ⟨hs,hN,hnm⟩:=hc
  cases h0:fitMo (dL wv) sh.mo s.mo with
  | none=>rw [h0] at hf;cases hf
  | some a0 =>
  rw [h0] at hf
  have hf:((Jm9 (dL wv) s.ob a0 sh.ob).bind fun h=>(Jk3 (dL wv) s.ob h sh.lo s.lo).bind fun h=>Jjp (dL wv) s.ob h s.sl sh.sl)=some (show HL Ty.T (ltSl (ltLo (ltOb (ltMo sh.mo) sh.ob) sh.lo) sh.sl) from h):=hf
  obtain ⟨m1,m2,m3⟩:=fitMo_ok h0
  unfold S.shut at hs
  simp only [Ac] at hs
  have hv:∀p∈sh.sl++sh.lo.flatten,okShV sh p.2:=fun p hp=>by
   have:=Ah.1 hs.1 p hp
   cases hx:p.2 with
   | c x=>rw [hx] at this;exact this
   | ag l=>rw [hx] at this;exact fun c hc=>Ah.1 this c hc
   | tp l=>rw [hx] at this;exact fun q hq c hc=>Ah.1 (Ah.1 this q hq) c hc
  have ho:∀p∈sh.ob,∀c∈p.2.kids,okSh sh c:=fun p hp c hc=>Ah.1 (Ah.1 hs.2 p hp) c hc
  cases h1:Jm9 (dL wv) s.ob a0 sh.ob with
  | none=>rw [h1] at hf;cases hf
  | some a1 =>
   rw [h1] at hf
   have hf:((Jk3 (dL wv) s.ob a1 sh.lo s.lo).bind fun h=>Jjp (dL wv) s.ob h s.sl sh.sl)=some (show HL Ty.T (ltSl (ltLo (ltOb (ltMo sh.mo) sh.ob) sh.lo) sh.sl) from h):=hf
   cases h2:Jk3 (dL wv) s.ob a1 sh.lo s.lo with
   | none=>rw [h2] at hf;cases hf
   | some a2 =>
    rw [h2] at hf
    have hf:Jjp (dL wv) s.ob a2 s.sl sh.sl=some (show HL Ty.T (ltSl (ltLo (ltOb (ltMo sh.mo) sh.ob) sh.lo) sh.sl) from h):=hf
    obtain ⟨y1,p1,q1⟩:=Jqh (N:=Jkh sh s) (sh:=sh) h1 ho fun p hp o ho g hg=>by
     unfold Jkh
     refine Af _ (Ao.2 ⟨p,hp,?_⟩)
     rw [ho]
     exact hg
    obtain ⟨y2,p2,q2⟩:=Jpp (N:=Jkh sh s) (sh:=sh) h2 (fun q hq p hp=>hv p (Af _ (List.mem_flatten.2 ⟨q,hq,hp⟩))) fun g hg=>by
     unfold Jkh
     exact Ak _ (Af _ hg)
    obtain ⟨y3,p3,q3⟩:=Jh2 (N:=Jkh sh s) (sh:=sh) hf (fun p hp=>hv p (Ak _ hp)) fun g hg=>by
     unfold Jkh
     exact Ak _ (Ak _ hg)
    have e:sh.mk' h=⟨y3,y2,y1,[],s.mo⟩:=by simp only [S.mk',p3,p2,p1,m1]
    rw [e]
    refine ⟨q3,q2,q1,fun g hg=>?_,rfl,m2,fun p hp=>?_,fun g hg=>?_⟩
    ·have:=Ah.1 hN g hg
     rw [Ac] at this
     simpa using this.1
    ·have:=Ah.1 hnm p hp
     rw [m3]
     simpa using this
    ·have:=Ah.1 hN g hg
     rw [Ac] at this
     simpa using this.2
 ·cases hf
end
end Go.Dn
namespace Go.Dn
open Go Go.Vv
set_option linter.unusedVariables false
set_option linter.unusedSimpArgs false
section
variable {s s':S Ty.T} {sh:S U} {N:List Nat}
structure Same (s s':S Ty.T) (o o':Ob Ty.T):Prop where
 ver:o.ver=o'.ver
 len:o.lenO=o'.lenO
 arr:∀v e el c z,encO s o=.arr v e el c z→∃c' z',encO s' o'=.arr v e el c' z'∧(c=[]↔c'=[])
theorem Fo.ver {src:Option (Ob Ty.T)} {v:Nat} {o':Ob Ty.T} (h:Fo s sh N src v o'):o'.ver=v:=by cases h<;>rfl
theorem Fo.same {o o':Ob Ty.T} {v:Nat} (h:Fo s sh N (some o) v o'):Same s s' o o':=by
 cases h with
 | box h=>exact ⟨rfl,rfl,fun v e el c z q=>by simp [encO] at q⟩
 | mp=>exact ⟨rfl,rfl,fun v e el c z q=>by simp [encO] at q⟩
 | @lit v e el cs ys z h =>
  refine ⟨rfl,by simp [Ob.lenO,h.len],fun v e el c z q=>?_⟩
  simp only [encO,AObj.arr.injEq] at q
  obtain ⟨rfl,rfl,rfl,rfl,rfl⟩:=q
  exact ⟨_,_,rfl,Kx (by simp [h.len])⟩
 | @row0 v e el t l x ys z h =>
  refine ⟨rfl,by simp [Ob.lenO,h.len],fun v e el c z q=>?_⟩
  simp only [encO,AObj.arr.injEq] at q
  obtain ⟨rfl,rfl,rfl,rfl,rfl⟩:=q
  exact ⟨_,_,rfl,Kx (by simp [h.len,Qv])⟩
 | @row1 v e el t l x ys off c y z h hy =>
  refine ⟨rfl,by simp [Ob.lenO,h.len],fun v e el c z q=>?_⟩
  simp only [encO,AObj.arr.injEq] at q
  obtain ⟨rfl,rfl,rfl,rfl,rfl⟩:=q
  exact ⟨_,_,rfl,Kx (by simp [h.len,Qv])⟩
 | @row2 v e el t l l' x ys off c z h hl hN =>
  obtain ⟨m1,-⟩:=Jqe (s:=s) (h':=encH s) (θ:=some) (R:=(Jt s.ob 4 c).filter (rowy (encH s))) hl fun p hp g hg hr=>by injection hp with hp;subst hp;exact Aj.2 ⟨hg,Q3.2 hr⟩
  refine ⟨rfl,?_,fun v e el c z q=>?_⟩
  ·show List.length (α:=t.T) l+x.length / e=List.length (α:=t.T) l'+ys.length / e
   rw [m1,h.len]
  simp only [encO,AObj.arr.injEq] at q
  obtain ⟨rfl,rfl,rfl,rfl,rfl⟩:=q
  refine ⟨_,_,rfl,Kx ?_⟩
  simp only [Ax,Bf,Qv,Jq]
  rw [m1,h.len]
theorem Fit.at (F:Fit s sh N s') {g v:Nat} (hs:∃o,look g sh.ob=some o∧o.ver=v) {o:Ob Ty.T} (ho:look g s.ob=some o):∃o',look g s'.ob=some o'∧Same s s' o o'∧o'.ver=v:=by
 obtain ⟨p,h1,h2⟩:=hs
 obtain ⟨o',h3,h4⟩:=F.ob.at1 h1
 rw [ho] at h4
 exact ⟨o',h3,h4.same,by rw [h4.ver,h2]⟩
theorem Fit.has (F:Fit s sh N s') {g v:Nat} (hs:∃o,look g sh.ob=some o∧o.ver=v):∃o',look g s'.ob=some o'∧o'.ver=v:=by
 obtain ⟨p,h1,h2⟩:=hs
 obtain ⟨o',h3,h4⟩:=F.ob.at1 h1
 exact ⟨o',h3,by rw [h4.ver,h2]⟩
theorem fx_ok (F:Fit s sh N s') {x y:C Ty.T} (hx:Fx s sh N x y):okC s' y:=by
 have key:∀ {c:C Ty.T},(∀r∈refs c,∃o,look r.1 sh.ob=some o∧o.ver=r.2)→okC s' c:=fun h r hr=>by
  obtain ⟨o',a,b⟩:=F.has (h r hr)
  exact ⟨o',a,by omega⟩
 cases hx with
 | any=>exact Jo s' rfl
 | lf=>exact Jo s' rfl
 | leaf hr=>exact Jo s' hr
 | ref h=>exact key h
 | fn h=>exact key h
 | yl j=>exact Jo s' rfl
 | mo=>exact Jo s' rfl
 | new h h0 =>
  refine key fun r hr=>?_
  have:=Aa.1 hr
  subst this
  exact h
theorem Fit.lookF (F:Fit s sh N s') {n:Nat} (h:moN s.mo n=true):look n s'.ob=none:=by
 cases hl:look n s'.ob with
 | none=>rfl
 | some o =>
  obtain ⟨p,hp⟩:=F.ob.at2 hl
  have:=F.nm _ (Ko hp)
  rw [h] at this
  cases this
theorem Fit.same (F:Fit s sh N s') (hi:Inv s) {n:Nat} {o:AObj} (h:moAt s.mo n=some o):encH s n=some o∧encH s' n=some o∧some n=some n:=by
 have hn:=(X7 h).1
 refine ⟨?_,?_,rfl⟩
 ·simp only [encH,jm hi hn];exact h
 ·simp only [encH,F.lookF hn,F.mo];exact h
theorem fx_gr (F:Fit s sh N s') (hi:Inv s) {x y:C Ty.T} (ok:okC s x) (hx:Fx s sh N x y):GR (encH s) (encH s') some (N.filter (rowy (encH s))) (encC s x) (encC s' y):=by
 have ar:∀ {g v off len:Nat},(∃o,look g sh.ob=some o∧o.ver=v)→(∃o,look g s.ob=some o∧v≤o.ver)→GR (encH s) (encH s') some (N.filter (rowy (encH s))) (.arr g v off len) (.arr g v off len):=fun h1 h2=>by
  obtain ⟨o,h2,-⟩:=h2
  obtain ⟨o',h3,h4,h5⟩:=F.at h1 h2
  refine .arr (Jf h2) (Jf h3) (by rw [Qc];omega) rfl fun _=>⟨by rw [Qc,h4.ver,h5],fun e el c z q=>?_⟩
  have hv:(encO s o).ver=_:=congrArg AObj.ver q
  rw [Qc,h4.ver,h5] at hv
  exact h4.arr _ e el c z q
 have pr:∀ {g v off:Nat},(∃o,look g sh.ob=some o∧o.ver=v)→(∃o,look g s.ob=some o∧v≤o.ver)→GR (encH s) (encH s') some (N.filter (rowy (encH s))) (.ptr g v off) (.ptr g v off):=fun h1 h2=>by
  obtain ⟨o,h2,-⟩:=h2
  obtain ⟨o',h3,h4,h5⟩:=F.at h1 h2
  exact .ptr (Jf h2) (Jf h3) (by rw [Qc];omega) rfl fun _=>by rw [Qc,h4.ver,h5]
 have fnc:∀ {f:FuncId} {c:List (Nat×Nat×Nat)},okC s (.fn f c)→(∀r∈refs (.fn f c:C Ty.T),∃o,look r.1 sh.ob=some o∧o.ver=r.2)→GR (encH s) (encH s') some (N.filter (rowy (encH s))) (encC s (.fn f c)) (encC s' (.fn f c)):=fun {f c} ok h=>by
  have:=GRL.map (h:=encH s) (h':=encH s') (θ:=some) (R:=N.filter (rowy (encH s))) (l:=c) (f:=fun x:Nat×Nat×Nat=>AV.ptr x.1 x.2.1 x.2.2) (f':=fun x:Nat×Nat×Nat=>AV.ptr x.1 x.2.1 x.2.2) fun x hx=>pr (h (x.1,x.2.1) (Aq.2 ⟨x,hx,rfl⟩)) (ok (x.1,x.2.1) (Aq.2 ⟨x,hx,rfl⟩))
  exact .fn f _ _ this.len this.at'
 cases hx with
 | any=>exact .any _
 | lf h hN=>exact Jux h fun g hg hr=>Aj.2 ⟨hN g hg,Q3.2 hr⟩
 | leaf hr he hf=>rw [he s s'];exact .flat hf
 | fn h=>exact fnc ok h
 | yl j=>exact .yld j
 | @mo g v h =>
  cases hm:sh.mo with
  | none=>rw [hm] at h;cases h
  | some m =>
   rw [hm] at h
   simp only [moC,Ac] at h
   have e1:=Bc h.1
   have e2:=Bc h.2
   obtain ⟨m',h1,h2⟩:=F.mg m hm
   subst e2
   have hr:moAt s.mo g=some (.map 0 (moEs m'.kt m'.vt 0 m'.es) false):=by
    rw [h1,←e1,←h2]
    show m'.at m'.g=_
    unfold Mo.at
    rw [if_pos rfl]
   obtain ⟨a,b,c⟩:=F.same hi hr
   exact .map a b (Az _) rfl fun _=>rfl
 | new h h0 =>
  obtain ⟨p,h1,h2⟩:=h
  obtain ⟨o',h3,h4⟩:=F.ob.at1 h1
  rw [h0] at h4
  rename_i g v
  have hv:o'.ver=v:=by rw [h4.ver,h2]
  have hlen:Ki s' g v=0:=by
   simp only [Ki,h3,hv,if_true]
   cases h4<;>simp [Ob.lenO]
  simp only [encC,hlen]
  have hrow:∃e el z,encO s' o'=.arr v e el [] z:=by
   rw [←hv]
   cases h4 with
   | new0=>exact ⟨_,_,_,rfl⟩
   | new1 h=>exact ⟨_,_,_,rfl⟩
  obtain ⟨e,el,z,hrow⟩:=hrow
  exact .new (by rw [Jf h3,hrow])
 | ref h hr =>
  cases x with
  | own g v =>
   have h1:=h (g,v) (Aa.2 rfl)
   have h2:=ok (g,v) (Aa.2 rfl)
   obtain ⟨o,q1,q2⟩:=h2
   obtain ⟨o',h3,h4,h5⟩:=F.at h1 q1
   have e1:Ki s g v=o.lenO:=by
    have:=h4.ver
    simp [Ki,q1,this,h5]
   have e2:Ki s' g v=o.lenO:=by simp [Ki,h3,h5,h4.len]
   simp only [encC,e1,e2]
   exact ar h1 ⟨o,q1,q2⟩
  | part g v a b=>exact ar (h (g,v) (Aa.2 rfl)) (ok (g,v) (Aa.2 rfl))
  | ptr g v o=>exact pr (h (g,v) (Aa.2 rfl)) (ok (g,v) (Aa.2 rfl))
  | pti g v e i o=>exact pr (h (g,v) (Aa.2 rfl)) (ok (g,v) (Aa.2 rfl))
  | fn f c=>exact fnc ok h
  | map g v =>
   have h1:=h (g,v) (Aa.2 rfl)
   obtain ⟨o,h2,-⟩:=ok (g,v) (Aa.2 rfl)
   obtain ⟨o',h3,h4,h5⟩:=F.at h1 h2
   exact .map (Jf h2) (Jf h3) (by rw [Qc];omega) rfl fun _=>by rw [Qc,h4.ver,h5]
  | _=>obtain ⟨r,hr⟩:=hr;cases hr
theorem Jek (F:Fit s sh N s') (hi:Inv s) {l m:List (C Ty.T)} (ok:okCs s l) (h:FxL s sh N l m):GRL (encH s) (encH s') some (N.filter (rowy (encH s))) (l.map (encC s)) (m.map (encC s')):=by
 refine ⟨by simp [h.len],fun i x y hx hy=>?_⟩
 rw [Bb] at hx hy
 cases hl:l[i]? with
 | none=>rw [hl] at hx;cases hx
 | some a =>
  cases hm:m[i]? with
  | none=>rw [hm] at hy;cases hy
  | some b =>
   rw [hl] at hx;rw [hm] at hy
   injection hx with hx;injection hy with hy
   subst hx;subst hy
   exact fx_gr F hi (ok a (Au hl)) (h.at' i a b hl hm)
theorem Jfj (F:Fit s sh N s') {l m:List (C Ty.T)} (h:FxL s sh N l m):okCs s' m:=by
 intro c hc
 obtain ⟨i,hi⟩:=Be hc
 obtain ⟨x,hx⟩:∃x,l[i]?=some x:=by
  have:=(Ad.1 hi).1
  exact ⟨_,Ag (by rw [h.len];exact this)⟩
 exact fx_ok F (h.at' i x c hx hi)
theorem fv_gr (F:Fit s sh N s') (hi:Inv s) {v v':V Ty.T} (ok:okV s v) (h:Fv s sh N v v'):GR (encH s) (encH s') some (N.filter (rowy (encH s))) (encV s v) (encV s' v'):=by
 cases h with
 | any=>exact .any _
 | c h=>exact fx_gr F hi (ok _ (Aa.2 rfl)) h
 | ag h=>have:=Jek F hi ok h;exact .agg _ _ this.len this.at'
 | @tp l m h =>
  refine .tup _ _ (by simp [h.len]) fun i x y hx hy=>?_
  rw [Bb] at hx hy
  cases hl:l[i]? with
  | none=>rw [hl] at hx;cases hx
  | some a =>
   cases hm:m[i]? with
   | none=>rw [hm] at hy;cases hy
   | some b =>
    rw [hl] at hx;rw [hm] at hy
    injection hx with hx;injection hy with hy
    subst hx;subst hy
    obtain ⟨e,q⟩:=h.at' i a b hl hm
    have:=Jek F hi (fun c hc=>ok c (Ao.2 ⟨a,Au hl,hc⟩)) q
    obtain ⟨a1,a2⟩:=a
    obtain ⟨b1,b2⟩:=b
    have e:a1=b1:=e
    subst e
    cases a1 with
    | true=>exact .agg _ _ this.len this.at'
    | false =>
     show GR _ _ _ _ (Ks (a2.map (encC s))) (Ks (b2.map (encC s')))
     have this:GRL _ _ _ _ (a2.map (encC s)) (b2.map (encC s')):=this
     generalize a2.map (encC s)=A at this ⊢
     generalize b2.map (encC s')=B at this ⊢
     match A,B,this with
     | [],[],_=>exact .any _
     | [u],[v],t=>exact t.at' 0 u v rfl rfl
     | [],_::_,t=>exact absurd t.len (by simp)
     | _::_,[],t=>exact absurd t.len (by simp)
     | [_],_::_::_,t=>exact .any _
     | _::_::_,[_],t=>exact absurd t.len (by simp)
     | _::_::_,_::_::_,t=>exact .any _
theorem fv_ok (F:Fit s sh N s') {v v':V Ty.T} (h:Fv s sh N v v'):okV s' v':=by
 cases h with
 | any=>exact Km (Jo s' rfl)
 | c h=>exact Km (fx_ok F h)
 | ag h=>exact Jfj F h
 | @tp l m h =>
  intro c hc
  obtain ⟨b,hb,hc⟩:=Ao.1 hc
  obtain ⟨i,hi⟩:=Be hb
  obtain ⟨x,hx⟩:∃x,l[i]?=some x:=by
   have:=(Ad.1 hi).1
   exact ⟨_,Ag (by rw [h.len];exact this)⟩
  exact Jfj F (h.at' i x b hx hi).2 c hc
theorem fo_gr (F:Fit s sh N s') (hi:Inv s) {g v:Nat} {o o':Ob Ty.T} (ok:okCs s o.kids) (h:Fo s sh N (some o) v o'):GO (encH s) (encH s') some (N.filter (rowy (encH s))) g (encO s o) (encO s' o'):=by
 cases h with
 | box h=>exact .box (Jek F hi ok h)
 | @mp v kt vt es =>
  refine .map rfl fun i p q hp hq=>?_
  have hp:(encE kt vt es)[i]?=some p:=hp
  have hq:(encE kt vt es)[i]?=some q:=hq
  rw [hp] at hq
  injection hq with hq
  subst hq
  exact ⟨rfl,Jn7 hp⟩
 | lit h=>exact .arr (Jek F hi ok h) (fun q=>.inl q) fun q=>q
 | row0 h=>exact .arr (.append (.flat (Ku _ _)) (Jek F hi ok h)) (fun q=>.inl q) fun q=>q
 | @row1 v e el t l x ys off c y z h hy =>
  refine .arr (.append ?_ (Jek F hi (fun c hc=>ok c (Af _ hc)) h)) (fun q=>.inl q) fun q=>q
  exact (GRL.flat (Ku t l)).set (fx_gr F hi (ok c (Ak _ (Aa.2 rfl))) hy) _
 | @row2 v e el t l l' x ys off c z h hl hN =>
  refine .arr (.append ?_ (Jek F hi (fun c hc=>ok c (Af _ hc)) h)) (fun q=>.inl q) fun q=>q
  exact (Jqe hl fun p hp g hg hr=>by injection hp with hp;subst hp;exact Aj.2 ⟨hN g hg,Q3.2 hr⟩).2
theorem fo_ok (F:Fit s sh N s') {src:Option (Ob Ty.T)} {v:Nat} {o':Ob Ty.T} (h:Fo s sh N src v o'):okCs s' o'.kids:=by
 cases h with
 | box h=>exact Jfj F h
 | mp=>intro c hc;cases hc
 | lit h=>exact Jfj F h
 | row0 h=>exact Jfj F h
 | row1 h hy =>
  intro c hc
  rcases Ba.1 hc with hc|hc
  ·rw [Aa] at hc;subst hc;exact fx_ok F hy
  ·exact Jfj F h c hc
 | row2 h=>exact Jfj F h
 | new0=>intro c hc;cases hc
 | @new1 v e el t off g v' z h =>
  intro c hc
  have:c=.own g v':=by simpa [Ob.kids] using hc
  subst this
  exact fx_ok F (.ref (fun r hr=>by have:=Aa.1 hr;subst this;exact h) ⟨_,Aa.2 rfl⟩)
end
section
variable {nt:Nat} {w:World} {S:Nat→Prop} {s:Dn.S Ty.T} {μ:Gh} {a:Act} {fs:List Fm}
theorem fit_goes {sh:Dn.S U} {N:List Nat} {s':Dn.S Ty.T} (h:RepF nt w S s μ a fs) (F:Fit s sh N s'):Goes nt w S s μ a fs s':=by
 have src:∀n o',look n s'.ob=some o'→∃v,Fo s sh N (look n s.ob) v o':=fun n o' ho=>by
  obtain ⟨p,hp⟩:=F.ob.at2 ho
  obtain ⟨o1,h1,h2⟩:=F.ob.at1 hp
  rw [ho] at h1
  injection h1 with h1
  subst h1
  exact ⟨_,h2⟩
 have enc_of:∀n o',encH s' n=some o'→(∃ob,look n s'.ob=some ob∧o'=encO s' ob)∨moAt s.mo n=some o':=fun n o' ho=>by
  rcases Jbw ho with h1|⟨-,h1⟩
  ·exact .inl h1
  ·rw [F.mo] at h1;exact .inr h1
 have slots:∀ {sl:List (Nat×V Ty.T)} {l:List (Nat×V U)} {m:List (Nat×V Ty.T)},(∀p∈sl,okV s p.2)→FSl s sh N sl l m→∀ {d v},look d m=some v→GR (encH s) (encH s') some (N.filter (rowy (encH s))) (encV s ((look d sl).getD (.c .any))) (encV s' v):=fun {sl l m} ok hf d v hd=>by
  have:=hf.mem (d,v) (Ko hd)
  refine fv_gr F h.iv ?_ this
  cases hq:look d sl with
  | none=>exact Km (Jo s rfl)
  | some u=>exact ok (d,u) (Ko hq)
 refine h.ghost (θ:=some) (R:=N.filter (rowy (encH s))) ⟨⟨fun n o' ho=>?_,fun n n' g h1 h2 _ _=>?_,fun n g o' h1 h2 h3 h4=>?_,fun g hg=>Q3.1 (Aj.1 hg).2⟩,fun d v hd=>?_,(FLo.at F.lo).1,fun i l l' d v' hl hl' hd=>?_,⟨fun p hp=>?_,fun l hl p hp=>?_,fun g o ho=>?_,fun m hm=>?_⟩⟩
 ·rcases enc_of n o' ho with ⟨ob,h1,rfl⟩|hm
  rotate_left
  ·exact .inr ⟨n,o',rfl,(F.same h.iv hm).1,Jlh h.iv (fun q=>F.same h.iv q) hm⟩
  obtain ⟨v,h2⟩:=src n ob h1
  cases hs:look n s.ob with
  | none =>
   rw [hs] at h2
   left
   cases h2 with
   | new0=>exact ⟨_,_,_,_,rfl⟩
   | new1 h=>exact ⟨_,_,_,_,rfl⟩
  | some o =>
   rw [hs] at h2
   exact .inr ⟨n,_,rfl,Jf hs,fo_gr F h.iv (h.iv.ob n o hs) h2⟩
 ·injection h1 with h1;injection h2 with h2;omega
 ·injection h1 with h1
  subst h1
  rcases enc_of n o' h2 with ⟨ob,q1,rfl⟩|hm
  rotate_left
  ·intro hg
   have:=F.rd n (Aj.1 hg).1
   rw [(X7 hm).1] at this
   cases this
  obtain ⟨p,hp⟩:=F.ob.at2 q1
  intro hg
  rw [F.out n (Aj.1 hg).1] at hp
  cases hp
 ·have:=slots h.iv.sl F.sl hd
  have e:s.at d=(look d s.sl).getD (.c .any):=by unfold Dn.S.at;cases look d s.sl<;>rfl
  rw [e]
  exact this
 ·obtain ⟨l0,hf⟩:=(FLo.at F.lo).2 i l l' hl hl'
  exact slots (h.iv.lo l (Au hl)) hf hd
 ·exact fv_ok F (F.sl.mem p hp)
 ·obtain ⟨i,hi⟩:=Be hl
  obtain ⟨q,hq⟩:∃q,s.lo[i]?=some q:=by
   have:=(Ad.1 hi).1
   exact ⟨_,Ag (by rw [←(FLo.at F.lo).1];exact this)⟩
  obtain ⟨l0,hf⟩:=(FLo.at F.lo).2 i q l hq hi
  exact fv_ok F (hf.mem p hp)
 ·obtain ⟨v,h2⟩:=src g o ho
  exact fo_ok F h2
 ·rw [F.mo] at hm
  refine ⟨(h.iv.mo m hm).1,(h.iv.mo m hm).2.1,fun g o hg=>?_⟩
  obtain ⟨p,hp⟩:=F.ob.at2 hg
  rw [F.mo]
  exact F.nm _ (Ko hp)
theorem Jkj {sh:Dn.S U} {hl:HL Ty.T sh.lt} (h:RepF nt w S s μ a fs) (hf:sh.fit (dL wv) s=some hl):Goes nt w S s μ a fs (sh.mk' hl):=fit_goes h (fit_made hf)
end
end Go.Dn
