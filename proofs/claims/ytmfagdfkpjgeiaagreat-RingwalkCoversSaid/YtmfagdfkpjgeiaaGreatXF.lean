/- The region of cells: what the program's text says. Conditions: at most 10^9 cells. -/
import Derived.Test.YtmfagdfkpjgeiaaGreatXD
import Derived.Test.YtmfagdfkpjgeiaaGreatXE
set_option linter.unusedVariables false
set_option linter.unusedSimpArgs false
set_option linter.unusedSectionVars false
set_option maxRecDepth 100000
namespace Go.Proofs.YtmfagdfkpjgeiaaGreat
open Go Go.Vv Go.Dn Go.Dn.W
open List renaming mem_singleton → Aa, mem_append → Ab, getElem?_eq_getElem → Ac, getElem?_eq_some_iff → Ad, mem_of_getElem? → Ae, take_length → Af, not_mem_nil → Ag, length_map → Ah, mem_map → Ai, length_append → Aj, pairwise_append → Ak, length_take → Am, mem_of_find?_eq_some → Ao, getElem?_take_of_lt → Aq, pairwise_singleton → Ar, mem_iff_getElem? → As, getElem?_of_mem → Au, length_nil → Av, eq_nil_of_length_eq_zero → Aw, length_pos_iff → Ax, mem_filterMap → Ay, pairwise_iff_getElem → Ba, pairwise_map → Bb, length_cons → Bc, getElem?_eq_none → Bd, mem_cons_of_mem → Be
open Nat renaming le_refl → Ap
open Int renaming le_refl → Az
open Prod.mk renaming injEq → Bf
def leC (x y:Cell):Bool:=!(Go.Proofs.ltOf cmpC) y x
theorem Jo2 {x y:Cell}:leC x y=true↔x.2<y.2∨(x.2=y.2∧x.1≤y.1):=by
 simp only [leC,Go.Proofs.ltOf,Bool.not_eq_true',decide_eq_false_iff_not,Jka]
 omega
theorem Jys (l:List Cell):(Jaf leC l).Pairwise fun a b=>a.2<b.2∨(a.2=b.2∧a.1≤b.1):=by
 refine (Jgq (le:=leC) (fun x y z h1 h2=>?_) (fun x y=>?_) l).imp fun h=>Jo2.1 h
 ·rw [Jo2] at *;omega
 ·rw [Jo2,Jo2];omega
theorem k_sortC {α:Type} {l:List Cell} (hl:l.length≤1000000000) (k:List (Int×Int)→Option α):@W.call wv α Jj5 l k=k (Jaf leC l):=by
 refine ca_s (c:=Jj5) (a:=l) (r:=Jaf leC l) ?_
 show (if List.length (α:=Int×Int) l<4611686018427387904 then some (Jaf (α:=Int×Int) (fun x y=>!(Go.Proofs.ltOf cmpC) y x) l) else none)=_
 rw [if_pos (by omega)]
 rfl
def OfI (out:Reg) (runs:List Run) (done:List Cell):Prop :=
 (out=[]∧runs=[]∧done=[])∨∃(pre:Reg) (y:Int) (z rs:List Run) (a b:Int),out=pre++[(y,z)]∧runs=rs++[(a,b)]∧RegOK (pre++[(y,rs++[(a,b)])]) ∧
  (∀c,Kg (pre++[(y,rs++[(a,b)])]) c↔c∈done)
theorem of_new {T:Reg} {c:Cell} (h:RegOK T) (hb:(-4096≤c.1∧c.1<4096)∧(-4096≤c.2∧c.2<4096)) (hy:∀w∈T,w.1<c.2):RegOK (T++[(c.2,[(c.1,c.1+1)])])∧∀d,Kg (T++[(c.2,[(c.1,c.1+1)])]) d↔Kg T d∨d=c:=by
 refine ⟨Jeo.2 ⟨h,hb.2,by simp,⟨fun x hx=>?_,Ar _ _⟩,hy⟩,fun d=>?_⟩
 ·rw [Aa.1 hx];dsimp only;omega
 ·rw [Jav]
  constructor
  ·rintro (h|⟨h1,u,hu,h2⟩)
   ·exact .inl h
   ·rw [Aa.1 hu] at h2
    right
    obtain ⟨d1,d2⟩:=d
    obtain ⟨c1,c2⟩:=c
    simp only [Bf] at *
    omega
  ·rintro (h|rfl)
   ·exact .inl h
   ·exact .inr ⟨rfl,_,Aa.2 rfl,by dsimp only;omega⟩
open Classical in
theorem Of_loop (l:List Cell) (hl:l.length≤1000000000) (hb:∀c∈l,(-4096≤c.1∧c.1<4096)∧(-4096≤c.2∧c.2<4096)) (hs:l.Pairwise fun a b=>a.2<b.2∨(a.2=b.2∧a.1≤b.1)) :
  ∃e,Xk (@Yh wv) bigN ⟨(l.length:Int),⟨0,⟨l,⟨[],⟨[],()⟩⟩⟩⟩⟩=some e∧RegOK (K3 e.hd fun y=>(y.1,e.tl.hd))∧∀c,Kg (K3 e.hd fun y=>(y.1,e.tl.hd)) c↔c∈l:=by
 refine Zm (b:=@Yh wv) (fun i s=>∃out runs,s=⟨(l.length:Int),⟨(i:Int),⟨l,⟨out,⟨runs,()⟩⟩⟩⟩⟩∧out.length≤i∧runs.length≤i∧OfI out runs (l.take i)) (fun e=>RegOK (K3 e.hd fun y=>(y.1,e.tl.hd))∧∀c,Kg (K3 e.hd fun y=>(y.1,e.tl.hd)) c↔c∈l) l.length (by omega) ⟨[],[],rfl,by simp,by simp,.inl ⟨rfl,rfl,by simp⟩⟩ ?_ ?_
 ·rintro i s hi ⟨out,runs,rfl,ho,hr,hI⟩
  have hx:=Ac hi
  generalize l[i]=c at hx
  have hbc:=hb c (Ae hx)
  have htk:=Xi hx
  have hord:∀d∈l.take i,d.2<c.2∨(d.2=c.2∧d.1≤c.1):=fun d hd=>by
   have h1:(l.take (i+1)).Pairwise fun a b=>a.2<b.2∨(a.2=b.2∧a.1≤b.1):=List.Pairwise.sublist (List.take_sublist _ _) hs
   rw [htk] at h1
   exact (Ak.1 h1).2.2 d hd c (by simp)
  unfold Yh
  dsimp only
  rw [Xw (by omega),Jkf ⟨by omega,by rw [w_ln];omega⟩,ge_s (fg hx)]
  simp only [w_ln,K4,w_ap,w_ml,w_pl,zg]
  rw [wr (n:=(i:Int)+1) (by omega) (by omega),wr (n:=c.1+1) (by omega) (by omega)]
  rcases hI with ⟨rfl,rfl,hd⟩|⟨pre,y,z,rs,a,b,rfl,rfl,hV,hin⟩
  ·rw [br_t (by rfl),Jzf (by simp) (by simp)]
   refine ⟨_,rfl,[(c.2,[])],[(c.1,c.1+1)],rfl,by simp,by simp,.inr ⟨[],c.2,[],[],c.1,c.1+1,rfl,rfl,?_⟩⟩
   have:=of_new (T:=[]) ⟨(by simp),.nil,(by simp),(by simp)⟩ hbc (by simp)
   refine ⟨this.1,fun d=>?_⟩
   rw [htk,hd]
   have h2:=this.2 d
   simp only [List.nil_append] at h2 ⊢
   rw [h2]
   simp [Kg]
  ·have hlen:((pre++[(y,z)]).length:Int)=(pre.length:Int)+1:=by simp
   have hlr:((rs++[(a,b)]).length:Int)=(rs.length:Int)+1:=by simp
   have ho':(pre.length:Int)+1≤i:=by rw [←hlen];omega
   have hr':(rs.length:Int)+1≤i:=by rw [←hlr];omega
   obtain ⟨v1,v2,v3,v4,v5⟩:=Jeo.1 hV
   obtain ⟨u1,u2,u3⟩:=Jfc.1 v4
   dsimp only at u2 u3 v2 v5
   have hlast:(b - 1,y)∈l.take i:=(hin _).1 (Jav.2 (.inr ⟨rfl,j6.2 (.inr ⟨by dsimp only;omega,by dsimp only;omega⟩)⟩))
   have hc:=hord _ hlast
   dsimp only at hc
   simp only [hlen,hlr]
   rw [show (pre.length:Int)+1 - 1=(pre.length:Int) by omega,show (rs.length:Int)+1 - 1=(rs.length:Int) by omega,wr (n:=(pre.length:Int)) (by omega) (by omega),wr (n:=(rs.length:Int)) (by omega) (by omega)]
   simp only [ge_s (fg (Jnx pre (y,z))),ge_s (fg (Jnx rs (a,b)))]
   rw [br_f (by rw [Yt,beq_eq_false_iff_ne];omega),Jkf (by omega)]
   by_cases hy:y=c.2
   ·subst hy
    rw [br_f (by rw [Jny];simp)]
    simp only [Jkf (show 0≤(pre.length:Int)∧(pre.length:Int)<(pre.length:Int)+1 by omega),Jkf (show 0≤(rs.length:Int)∧(rs.length:Int)<(rs.length:Int)+1 by omega),gd_t (show @W.cm wv .eql ((pre.length:Int)+1) ((pre.length:Int)+1)=true by rw [Yt];simp)]
    by_cases hxx:c.1 > b
    ·rw [br_t (by rw [Jan];exact decide_eq_true hxx),Jih (by omega) (by omega),w_st,Int.toNat_natCast,Jni]
     refine ⟨_,rfl,pre++[(c.2,z)],rs++[(a,b)]++[(c.1,c.1+1)],rfl,by omega,by simp only [Aj,Bc,Av] at hr ⊢;omega,.inr ⟨pre,c.2,z,rs++[(a,b)],c.1,c.1+1,rfl,rfl,Jeo.2 ⟨v1,v2,by simp,Jfc.2 ⟨v4,by dsimp only;omega,fun v hv=>?_⟩,v5⟩,fun d=>?_⟩⟩
     ·rcases Ab.1 hv with q|q
      ·have:=u3 v q;dsimp only;omega
      ·rw [Aa.1 q];exact hxx
     ·rw [htk,Ab,←hin,Jav,Jav,j6]
      simp only [Aa]
      obtain ⟨d1,d2⟩:=d
      obtain ⟨c1,c2⟩:=c
      simp only [Bf]
      constructor
      ·rintro (h|⟨h1,h2|h2⟩)
       ·exact .inl (.inl h)
       ·exact .inl (.inr ⟨h1,h2⟩)
       ·exact .inr ⟨by omega,by omega⟩
      ·rintro ((h|⟨h1,h2⟩)|⟨h1,h2⟩)
       ·exact .inl h
       ·exact .inr ⟨h1,.inl h2⟩
       ·exact .inr ⟨by omega,.inr (by omega)⟩
    ·rw [br_f (by rw [Jan];exact decide_eq_false hxx),w_st,Int.toNat_natCast,Jni,w_mx]
     have hmx:(if c.1+1 > b then c.1+1 else b)=max b (c.1+1):=by omega
     rw [hmx]
     refine ⟨_,rfl,pre++[(c.2,z)],rs++[(a,max b (c.1+1))],rfl,by omega,by simp only [Aj,Bc,Av] at hr ⊢;omega,.inr ⟨pre,c.2,z,rs,a,max b (c.1+1),rfl,rfl,Jeo.2 ⟨v1,v2,by simp,Jfc.2 ⟨u1,by dsimp only;omega,u3⟩,v5⟩,fun d=>?_⟩⟩
     rw [htk,Ab,←hin,Jav,Jav,j6,j6]
     simp only [Aa]
     obtain ⟨d1,d2⟩:=d
     obtain ⟨c1,c2⟩:=c
     simp only [Bf] at *
     constructor
     ·rintro (h|⟨h1,h2|h2⟩)
      ·exact .inl (.inl h)
      ·exact .inl (.inr ⟨h1,.inl h2⟩)
      ·by_cases q:d1<b
       ·exact .inl (.inr ⟨h1,.inr (by omega)⟩)
       ·exact .inr ⟨by omega,by omega⟩
     ·rintro ((h|⟨h1,h2|h2⟩)|⟨h1,h2⟩)
      ·exact .inl h
      ·exact .inr ⟨h1,.inl h2⟩
      ·exact .inr ⟨h1,.inr (by omega)⟩
      ·exact .inr ⟨by omega,.inr (by omega)⟩
   ·rw [br_t (by rw [Jny];simp [hy]),Jzf (by omega) (by omega),Yz]
    have:=of_new hV hbc (fun w hw=>by
     rcases Ab.1 hw with q|q
     ·have:=v5 w q;omega
     ·rw [Aa.1 q];dsimp only;omega)
    refine ⟨_,rfl,pre++[(y,rs++[(a,b)])]++[(c.2,[])],[(c.1,c.1+1)],rfl,by simp only [Aj,Bc,Av] at ho ⊢;omega,by simp,.inr ⟨pre++[(y,rs++[(a,b)])],c.2,[],[],c.1,c.1+1,rfl,rfl,this.1,fun d=>?_⟩⟩
    rw [htk,Ab,←hin,Aa]
    exact this.2 d
 ·rintro s ⟨out,runs,rfl,ho,hr,hI⟩
  unfold Yh
  dsimp only
  rw [Kz (by omega)]
  refine ⟨_,rfl,?_⟩
  rw [Af] at hI
  dsimp only
  rcases hI with ⟨rfl,rfl,rfl⟩|⟨pre,y,z,rs,a,b,rfl,rfl,hV,hin⟩
  ·exact ⟨⟨(by simp [K3]),.nil,(by simp [K3]),(by simp [K3])⟩,fun c=>by simp [K3,Kg]⟩
  ·rw [Yz]
   exact ⟨hV,hin⟩
theorem Of_check (l:List Cell) (hl:l.length≤1000000000) (hb:∀c∈l,(-4096≤c.1∧c.1<4096)∧(-4096≤c.2∧c.2<4096)):Xk (@Zb wv) bigN ⟨l,⟨l,⟨(l.length:Int),⟨0,()⟩⟩⟩⟩=some (.inr ⟨l,()⟩) :=
 Xa (b:=@Zb wv) (fun i=>⟨l,⟨l,⟨(l.length:Int),⟨(i:Int),()⟩⟩⟩⟩) l.length (by omega) (fun i hi=>by
  have hx:=Ac hi
  generalize l[i]=c at hx
  have hbc:=hb c (Ae hx)
  unfold Zb
  dsimp only
  rw [Xw (by omega),ge_s (fg hx),Jaz,Jaz,br_f (by simp [w_nt];omega),br_f (by simp [w_nt];omega),K4,wr (by omega) (by omega)]
  rfl) (by
  unfold Zb
  dsimp only
  rw [Kz (by omega)])
theorem Of_ok (l:List Cell) (hl:l.length≤1000000000) (hb:∀c∈l,(-4096≤c.1∧c.1<4096)∧(-4096≤c.2∧c.2<4096)):∃T,@Ja2 wv l=some (T,0)∧RegOK T∧∀c,Kg T c↔c∈l:=by
 have hp:=Yf (le:=leC) l
 have hlen:=hp.length_eq
 obtain ⟨e,he,hV,hin⟩:=Of_loop (Jaf leC l) (by omega) (fun c hc=>hb c (hp.mem_iff.1 hc)) (Jys l)
 refine ⟨_,?_,hV,fun c=>(hin c).trans hp.mem_iff⟩
 unfold Ja2
 rw [w_ln]
 refine (lo_s (Of_check l hl hb)).trans ?_
 dsimp only
 have hf:∀x,x=some ((K3 e.hd fun y=>(y.1,e.tl.hd)),(0:Int))→nlv (l.length:Int) (fun v6=>if v6=true then (@W.loop wv _ _ _ (@zk wv) ⟨0,⟨0,()⟩⟩ fun v7=>some (([]:Reg),(0:Int))) else x)=some ((K3 e.hd fun y=>(y.1,e.tl.hd)),(0:Int)):=by
  rintro x rfl
  unfold nlv
  split
  ·rename_i h0
   have hl0:l=[]:=Aw (by omega)
   subst hl0
   have he0:e=⟨[],⟨[],()⟩⟩:=by
    have:Xk (@Yh wv) bigN ⟨(([]:List Cell).length:Int),⟨0,⟨[],⟨[],⟨[],()⟩⟩⟩⟩⟩=some ⟨[],⟨[],()⟩⟩:=Jcm (n:=18446744073709551615) rfl
    have h2:Jaf leC []=[]:=rfl
    rw [h2] at he
    rw [this] at he
    injection he with he
    exact he.symm
   subst he0
   have hd:Xk (@zk wv) bigN ⟨0,⟨0,()⟩⟩=some ():=Jcm (n:=18446744073709551615) rfl
   exact (if_pos (show (@W.loop wv _ _ _ (@zk wv) ⟨0,⟨0,()⟩⟩ fun v7=>some (([]:Reg),(0:Int)))=_ from lo_s hd)).trans rfl
  ·rfl
 rw [w_nq,w_ln]
 refine hf _ ?_
 rw [w_pl,Jih (by omega) (by omega),k_sortC hl,w_ln]
 refine (lo_s he).trans ?_
 rw [w_ml]
theorem k_Of {α:Type} {l:List Cell} {T:Reg} (h:@Ja2 wv l=some (T,0)) (k:(List (Int×List (Int×Int)))×Int→Option α):@W.call wv α ze l k=k (T,0):=ca_s (c:=ze) h
open Classical in
noncomputable def Jgt (l:List Jkk):List Cell:=l.flatMap fun t=>if VT t then t.2.2 else []
open Classical in
theorem Jsi (l:List Jkk):(Jgt l).length≤(l.flatMap fun t=>t.2.2).length:=by
 unfold Jgt
 induction l with
 | nil=>simp
 | cons t l ih =>
  simp only [List.flatMap_cons,Aj]
  split
  ·omega
  ·rw [Av];omega
open Classical in
theorem Cover_ok (l:List Jkk) (hl:l.length≤1000000000) (hc:(l.flatMap fun t=>t.2.2).length≤1000000000):∃T,@jo wv l=some T∧RegOK T∧∀c,Kg T c↔∃t∈l,VT t∧c∈t.2.2:=by
 have hmem:∀c,c∈Jgt l↔∃t∈l,VT t∧c∈t.2.2:=fun c=>by
  unfold Jgt
  rw [List.mem_flatMap]
  constructor
  ·rintro ⟨t,ht,h⟩
   split at h
   ·exact ⟨t,ht,by assumption,h⟩
   ·cases h
  ·rintro ⟨t,ht,h1,h2⟩
   exact ⟨t,ht,by rw [if_pos h1];exact h2⟩
 obtain ⟨T,hT,hV,hin⟩:=Of_ok (Jgt l) (Nat.le_trans (Jsi l) hc) (fun c hc=>by
  obtain ⟨t,ht,h1,h2⟩:=(hmem c).1 hc
  obtain ⟨i,hi⟩:=As.1 h2
  have:=(h1.2.2.1 i (Ad.1 hi).1 c hi).1
  unfold grid at this
  omega)
 refine ⟨T,?_,hV,fun c=>(hin c).trans (hmem c)⟩
 have hloop:=Xa (b:=@Zk wv) (e:=⟨Jgt l,()⟩) (fun i=>⟨l,⟨(l.length:Int),⟨(i:Int),⟨Jgt (l.take i),()⟩⟩⟩⟩) l.length (by omega) (fun i hi=>by
  have hx:=Ac hi
  generalize l[i]=t at hx
  have h1:=Jsi (l.take i)
  have h2:=Je5 (fun t:Jkk=>t.2.2) hx
  have e:Jgt (l.take (i+1))=Jgt (l.take i)++if VT t then t.2.2 else []:=Jgf hx
  unfold Zk
  dsimp only
  rw [Xw (by omega),ge_s (fg hx),Jok,K4,wr (by omega) (by omega),e]
  by_cases hV:VT t
  ·rw [br_t (by simp [hV]),w_ln,w_ln,w_pl,Jih (by omega) (by omega),w_ap,if_pos hV];rfl
  ·rw [br_f (by simp [hV]),if_neg hV,List.append_nil];rfl) (by unfold Zk;dsimp only;rw [Kz (by omega),Af])
 unfold jo
 refine (lo_s hloop).trans ?_
 dsimp only
 rw [k_Of hT]
theorem Jrj {α:Type} {a b:Int} (k:Int→Option α):@W.call wv α K5 ((a,b):Int×Int) k=k (cmpI a b):=ca_s (c:=K5) (Jgy a b)
theorem half (i j:Nat) (hij:i+j≤4000000000):@W.cv wv .i64 (@W.sh wv .shr .u64 (@W.cv wv .u64 (IntKind.wrap .i64 ((i:Int)+(j:Int)))) 1)=(((i+j) / 2:Nat):Int):=by
 rw [wr (by omega) (by omega)]
 have e1:@W.cv wv .u64 ((i:Int)+(j:Int))=((i+j:Nat):Int):=by
  show IntKind.wrap .u64 _=_
  rw [IntKind.wrap_u64,Int.emod_eq_of_lt (by omega) (by omega)];omega
 rw [e1]
 have e2:@W.sh wv .shr .u64 ((i+j:Nat):Int) 1=(((i+j) / 2:Nat):Int):=by
  show Int.fdiv ((i+j:Nat):Int) (2 ^ (min (1:Int).toNat (IntKind.bits .u64)))=_
  have:(2:Int) ^ (min (1:Int).toNat (IntKind.bits .u64))=2:=by rfl
  rw [this,Int.fdiv_eq_ediv_of_nonneg _ (by omega)]
  omega
 rw [e2]
 exact wr (by omega) (by omega)
theorem J2l {a b:Int}:cmpI a b<0↔a<b:=by unfold cmpI;(repeat' split)<;>omega
theorem J02 {a b:Int}:cmpI a b=0↔a=b:=by unfold cmpI;(repeat' split)<;>omega
theorem Jnw (r:Reg) (y:Int) (hl:LimR r) (h:RegOK r):@Jbo wv (r,y)=some (Jhe r y):=by
 have hL:=hl.1
 have mono:∀(i j:Nat) (a b:Row),i<j→r[i]?=some a→r[j]?=some b→a.1<b.1:=fun i j a b hij ha hb=>by
  obtain ⟨p1,e1⟩:=Ad.1 ha
  obtain ⟨p2,e2⟩:=Ad.1 hb
  have:=Ba.1 h.pw i j p1 p2 hij
  rwa [e1,e2] at this
 obtain ⟨e,he,k,rfl,hk,hlo,hhi⟩:=Jkc (b:=@Ja9 wv) (s0:=⟨r,⟨y,⟨(r.length:Int),⟨0,⟨(r.length:Int),⟨r,()⟩⟩⟩⟩⟩⟩)
  (fun s=>∃i j:Nat,s=⟨r,⟨y,⟨(r.length:Int),⟨(i:Int),⟨(j:Int),⟨r,()⟩⟩⟩⟩⟩⟩∧i≤j∧j≤r.length∧(∀m w,m<i→r[m]?=some w→w.1<y)∧∀m w,j≤m→r[m]?=some w→y≤w.1)
  (fun e=>∃k:Nat,e=⟨r,⟨y,⟨(r.length:Int),⟨(k:Int),⟨r,()⟩⟩⟩⟩⟩∧k≤r.length∧(∀m w,m<k→r[m]?=some w→w.1<y)∧∀m w,k≤m→r[m]?=some w→y≤w.1)
  (fun s=>(s.tl.tl.tl.tl.hd - s.tl.tl.tl.hd).toNat) (by
  rintro s ⟨i,j,rfl,hij,hj,hlo,hhi⟩
  unfold Ja9
  dsimp only
  by_cases hlt:i<j
  ·have hm:=Ac (l:=r) (i:=(i+j) / 2) (by omega)
   generalize r[(i+j) / 2]=w at hm
   rw [K4,half i j (by omega),Xw (by omega),gd_t (by rfl),ge_s (fg hm),Jrj,K4,wr (by omega) (by omega)]
   left
   by_cases hc:w.1<y
   ·rw [Xw (J2l.2 hc)]
    refine ⟨_,rfl,⟨(i+j) / 2+1,j,by simp only [Int.natCast_add];rfl,by omega,hj,fun m v hm' hv=>?_,hhi⟩,by dsimp only;omega⟩
    by_cases e:m=(i+j) / 2
    ·subst e;rw [hm] at hv;injection hv with e;subst e;exact hc
    ·have:=mono m _ v w (by omega) hv hm;omega
   ·rw [Kz (fun q=>hc (J2l.1 q))]
    refine ⟨_,rfl,⟨i,(i+j) / 2,rfl,by omega,by omega,hlo,fun m v hm' hv=>?_⟩,by dsimp only;omega⟩
    by_cases e:m=(i+j) / 2
    ·subst e;rw [hm] at hv;injection hv with e;subst e;omega
    ·have:=mono _ m w v (by omega) hm hv;omega
  ·right
   have:i=j:=by omega
   subst this
   rw [Kz (by omega)]
   exact ⟨_,rfl,i,rfl,hj,hlo,hhi⟩) ⟨0,r.length,rfl,by omega,Ap _,fun m w hm=>by omega,fun m w hm hw=>by have:=(Ad.1 hw).1;omega⟩ (by dsimp only;omega)
 unfold Jbo
 refine (lo_s he).trans ?_
 dsimp only
 have none_of:(∀w∈r,w.1≠y)→Jhe r y=[]:=fun hn=>by
  unfold Jhe
  have:r.find? (fun w=>w.1==y)=none:=List.find?_eq_none.2 fun w hw=>by simpa using hn w hw
  rw [this]
 by_cases hk2:k<r.length
 ·have hm:=Ac hk2
  generalize r[k]=w at hm
  have hwm:=Ae hm
  rw [Xw (by omega),ge_s (fg hm),Jrj,ge_s (fg hm),w_br]
  by_cases hy:w.1=y
  ·rw [if_neg (by rw [w_nt,Yt,J02.2 hy];simp)]
   unfold Jhe
   cases hf:r.find? fun v=>v.1==y with
   | none=>have:=List.find?_eq_none.1 hf w hwm;simp [hy] at this
   | some v =>
    have hv:v.1=y:=by have:=List.find?_some hf;simpa using this
    rw [h.row_uniq hwm (Ao hf) (by omega)]
  ·rw [if_pos (by rw [w_nt,Yt];simp;exact fun q=>hy (J02.1 q)),none_of]
   intro v hv e
   obtain ⟨m,hm'⟩:=As.1 hv
   by_cases q:m<k
   ·have:=hlo m v q hm';omega
   ·have a1:=hhi m v (by omega) hm'
    have a2:=hhi k w (Ap _) hm
    by_cases q2:m=k
    ·subst q2;rw [hm] at hm';injection hm' with e2;subst e2;exact hy e
    ·have:=mono k m w v (by omega) hm hm';omega
 ·rw [Kz (by omega),none_of]
  intro v hv e
  obtain ⟨m,hm'⟩:=As.1 hv
  have:=hlo m v (by have:=(Ad.1 hm').1;omega) hm'
  omega
theorem Jbw {α:Type} {r:Reg} {y:Int} (hl:LimR r) (h:RegOK r) (k:List (Int×Int)→Option α):@W.call wv α Yx ((r,y):List (Int×List (Int×Int))×Int) k=k (Jhe r y):=ca_s (c:=Yx) (Jnw r y hl h)
theorem Jv0 {r:Reg} (h:RegOK r) (y:Int):RunsOK (-1048576) 1048576 (Jhe r y):=by
 unfold Jhe
 cases hf:r.find? fun w=>w.1==y with
 | none=>exact ⟨by simp,.nil⟩
 | some w =>
  have hV:=h.rs w (Ao hf)
  exact ⟨fun x hx=>by have:=hV.bd x hx;omega,hV.pw⟩
theorem Jjn {lo hi:Int} {l m:List Run} (hl:RunsOK lo hi l) (hm:RunsOK lo hi m) (h:∀x,Jj l x↔Jj m x) {u:Run} (hu:u∈l):u∈m:=by
 have hb:=hl.bd u hu
 obtain ⟨v,hv,h1,h2⟩:=(h u.1).1 ⟨u,hu,by omega,by omega⟩
 have hbv:=hm.bd v hv
 have e1:v.1=u.1:=by
  by_cases q:v.1=u.1
  ·exact q
  ·exact (hl.left hu ((h _).2 ⟨v,hv,by omega,by omega⟩)).elim
 have e2:v.2=u.2:=by
  by_cases q:v.2<u.2
  ·exact (hm.right hv ((h _).1 ⟨u,hu,by omega,by omega⟩)).elim
  ·by_cases q2:u.2<v.2
   ·exact (hl.right hu ((h _).2 ⟨v,hv,by omega,by omega⟩)).elim
   ·omega
 rw [show u=v from Prod.ext e1.symm e2.symm]
 exact hv
theorem Jkx {lo hi:Int} {l:List Run} (h:RunsOK lo hi l):l.Pairwise fun a b=>a.1<b.1:=by
 have hb:=h.bd
 have hp:=h.pw
 clear h
 induction l with
 | nil=>exact .nil
 | cons x l ih =>
  obtain ⟨p1,p2⟩:=List.pairwise_cons.1 hp
  have hx:=hb x (List.mem_cons_self ..)
  refine List.pairwise_cons.2 ⟨fun y hy=>?_,ih (fun y hy=>hb y (Be _ hy)) p2⟩
  have:=p1 y hy
  omega
theorem J2i {lo hi:Int} {l m:List Run} (hl:RunsOK lo hi l) (hm:RunsOK lo hi m) (h:∀x,Jj l x↔Jj m x):l=m :=
 Jcj (R:=fun a b:Run=>a.1<b.1) (fun a b h1 h2=>by omega) (Jkx hl) (Jkx hm) fun u=>⟨Jjn hl hm h,Jjn hm hl fun x=>(h x).symm⟩
theorem Jl0 {a b:Reg} (ha:RegOK a) (hb:RegOK b) (h:∀c,Kg a c↔Kg b c) {w:Row} (hw:w∈a):w∈b:=by
 obtain ⟨u,hu⟩:=List.exists_mem_of_ne_nil _ (ha.ne w hw)
 have hbd:=(ha.rs w hw).bd u hu
 obtain ⟨v,hv,e,-⟩:=(h (u.1,w.1)).1 ⟨w,hw,rfl,u,hu,Az _,hbd.2.1⟩
 have e2:w.2=v.2:=J2i (ha.rs w hw) (hb.rs v hv) fun x=>by
  rw [←ha.in_row hw x,←hb.in_row hv x,e]
  exact h _
 rw [show w=v from Prod.ext e.symm e2]
 exact hv
theorem reg_uniq {a b:Reg} (ha:RegOK a) (hb:RegOK b) (h:∀c,Kg a c↔Kg b c):a=b :=
 Jcj (R:=fun a b:Row=>a.1<b.1) (fun a b h1 h2=>by omega) ha.pw hb.pw fun w=>⟨Jl0 ha hb h,Jl0 hb ha fun c=>(h c).symm⟩
theorem Jz9 (r:Reg) (hl:LimR r):@X0 wv (r,r)=some true:=by
 have hL:=hl.1
 have hloop:=Xa (b:=@Qs wv) (e:=.inr ()) (fun i=>⟨(i:Int),⟨r,⟨r,()⟩⟩⟩) r.length (by omega) (fun i hi=>by
  have hw:=Ac hi
  generalize r[i]=w at hw
  have hwm:=Ae hw
  have hLw:=hl.2 w hwm
  have hin:=Xa (b:=@Qu wv) (e:=.inr ⟨(i:Int),⟨r,⟨r,()⟩⟩⟩) (fun k=>⟨(i:Int),⟨(k:Int),⟨r,⟨r,⟨w.1,⟨w.2,⟨w.1,⟨w.2,()⟩⟩⟩⟩⟩⟩⟩⟩) w.2.length (by omega) (fun k hk=>by
   have hu:=Ac hk
   generalize w.2[k]=u at hu
   unfold Qu
   dsimp only
   rw [w_ln,Xw (by omega),ge_s (fg hu),ge_s (fg hu),br_f (by simp [w_nt,w_an,Yt]),K4,wr (by omega) (by omega)]
   rfl) (by
   unfold Qu
   dsimp only
   rw [w_ln,Kz (by omega)])
  unfold Qs
  dsimp only
  rw [w_ln,Xw (by omega),ge_s (fg hw),ge_s (fg hw),br_f (by simp [Jny]),br_f (by simp [Jny])]
  refine (lo_s hin).trans ?_
  dsimp only
  rw [K4,wr (by omega) (by omega)]
  rfl) (by
  unfold Qs
  dsimp only
  rw [w_ln,Kz (by omega)])
 unfold X0
 dsimp only
 rw [br_f (by simp [Jny])]
 exact lo_s hloop
def Jn3 (was:Bool) (a:List Run) (i:Nat) (b:List Run) (j:Nat) (out:List Run):HP Bool (HP (List (Int×Int)) (HP Int (HP (List (Int×Int)) (HP Int (HP (List (Int×Int)) Unit))))) :=
 let m:=min (bnd a i) (bnd b j)
 let i':=if bnd a i=m then i+1 else i
 let j':=if bnd b j=m then j+1 else j
 let now:=decide (i' % 2=1)&&decide (j' % 2=1)
 ⟨now,⟨a,⟨(i':Int),⟨b,⟨(j':Int),⟨if now=true∧was=false then out++[(m,0)] else if now=false∧was=true then K3 out (fun u=>(u.1,m)) else out,()⟩⟩⟩⟩⟩⟩
theorem int_step (was:Bool) (a b out:List Run) (i j:Nat) (ha:a.length≤1000000000) (hb:b.length≤1000000000) (hi:i≤2 * a.length) (hj:j≤2 * b.length) (ho:out.length≤1000000000) (hw:was=true→out≠[]) (hne:¬(i=2 * a.length∧j=2 * b.length)) :
  @K9 wv ⟨was,⟨a,⟨(i:Int),⟨b,⟨(j:Int),⟨out,()⟩⟩⟩⟩⟩⟩=some (.go (Jn3 was a i b j out)):=by
 have j1:@Q2 wv ⟨was,⟨a,⟨(i:Int),⟨b,⟨(j:Int),⟨out,()⟩⟩⟩⟩⟩⟩=some (.inl ⟨was,⟨a,⟨(i:Int),⟨b,⟨(j:Int),⟨out,()⟩⟩⟩⟩⟩⟩):=by
  unfold Q2
  dsimp only
  rw [Jf9 ha]
  by_cases c1:i=2 * a.length
  ·rw [br_f (by simp [w_nt,c1]),Jf9 hb,br_t (by simp [w_nt];exact fun q=>hne ⟨c1,q⟩)]
  ·rw [br_t (by simp [w_nt,c1])]
 generalize hm:min (bnd a i) (bnd b j)=m
 have j2:@Zq wv ⟨was,⟨a,⟨(i:Int),⟨b,⟨(j:Int),⟨out,()⟩⟩⟩⟩⟩⟩ (bnd a i) (bnd b j)=some ⟨was,⟨m,⟨a,⟨((if bnd a i=m then i+1 else i:Nat):Int),⟨b,⟨(j:Int),⟨out,()⟩⟩⟩⟩⟩⟩⟩:=by
  unfold Zq
  dsimp only
  rw [Jia ha hi,mn_min,hm,K4,wr (by omega) (by omega)]
  by_cases c:bnd a i=m
  ·rw [br_t (by rw [Yt];simp [c]),if_pos c];rfl
  ·rw [br_f (by rw [Yt];simp [c]),if_neg c]
 generalize hi':(if bnd a i=m then i+1 else i)=i' at j2
 have j3:@Zn wv ⟨was,⟨m,⟨a,⟨(i':Int),⟨b,⟨(j:Int),⟨out,()⟩⟩⟩⟩⟩⟩⟩=some ⟨was,⟨m,⟨a,⟨(i':Int),⟨b,⟨((if bnd b j=m then j+1 else j:Nat):Int),⟨out,()⟩⟩⟩⟩⟩⟩⟩:=by
  unfold Zn
  dsimp only
  rw [Jia hb hj,K4,wr (by omega) (by omega)]
  by_cases c:bnd b j=m
  ·rw [br_t (by rw [Yt];simp [c]),if_pos c];rfl
  ·rw [br_f (by rw [Yt];simp [c]),if_neg c]
 generalize hj':(if bnd b j=m then j+1 else j)=j' at j3
 have j4:@Zp wv ⟨was,⟨m,⟨a,⟨(i':Int),⟨b,⟨(j':Int),⟨out,()⟩⟩⟩⟩⟩⟩⟩=some ⟨was,⟨m,⟨decide (i' % 2=1)&&decide (j' % 2=1),⟨a,⟨(i':Int),⟨b,⟨(j':Int),⟨out,()⟩⟩⟩⟩⟩⟩⟩⟩:=by
  unfold Zp
  dsimp only
  rw [J1a,J1a]
  by_cases c:i' % 2=1
  ·rw [br_t (by simp [c])];simp [c,w_nt]
  ·rw [br_f (by simp [c])];simp [c]
 generalize hnow:(decide (i' % 2=1)&&decide (j' % 2=1))=now at j4
 have hfit:∀ {α:Type} (x:Option α),@W.gd wv α (@W.ft wv 16 (@W.pl wv (@W.ln wv (Int×Int) out) 1)) x=x:=fun x=>by rw [w_ln,w_pl];exact Jih (by omega) (by omega)
 have j5:@Zo wv ⟨was,⟨m,⟨now,⟨a,⟨(i':Int),⟨b,⟨(j':Int),⟨out,()⟩⟩⟩⟩⟩⟩⟩⟩=some ⟨now,⟨a,⟨(i':Int),⟨b,⟨(j':Int),⟨if now=true∧was=false then out++[(m,0)] else if now=false∧was=true then K3 out (fun u=>(u.1,m)) else out,()⟩⟩⟩⟩⟩⟩:=by
  unfold Zo
  dsimp only
  rw [hfit]
  have nt1:@W.nt wv true=false:=rfl
  have nt0:@W.nt wv false=true:=rfl
  cases now with
  | true =>
   cases was with
   | true=>rw [nt1,br_t rfl,br_f rfl,br_f rfl,if_neg (by simp),if_neg (by simp)]
   | false=>rw [nt0,br_t rfl,br_t rfl,if_pos (by simp),w_ap]
  | false =>
   cases was with
   | false=>rw [nt0,br_f rfl,br_t rfl,br_f rfl,if_neg (by simp),if_neg (by simp)]
   | true =>
    have hpos:=Ax.2 (hw rfl)
    obtain ⟨v,hv,h2⟩:=Jk8 (hw rfl) m
    rw [nt0,br_f rfl,br_t rfl,br_t rfl,w_ln,zg,wr (by omega) (by omega),Jkf ⟨by omega,by omega⟩,ge_s (fgz (out.length - 1) (by omega) hv),if_neg (by simp),if_pos (by simp),w_st,show ((out.length:Int) - 1).toNat=out.length - 1 by omega,h2]
 unfold K9
 rw [jo_s j1]
 dsimp only
 rw [Jia ha hi,Jia hb hj,jo_s j2,jo_s j3,jo_s j4,jo_s j5]
 unfold Jn3
 dsimp only
 rw [hm,hi',hj',hnow]
def IntI (a b:List Run) (p:Int) (was:Bool) (i j:Nat) (out:List Run):Prop :=
 At a p i∧At b p j∧was=(decide (i % 2=1)&&decide (j % 2=1)) ∧
 ((was=false∧Jg7 out∧(∀u∈out,u.2≤p)∧∀x,x<p→(Jj out x↔Jj a x∧Jj b x)) ∨
  ∃(o:List Run) (s z:Int),out=o++[(s,z)]∧was=true∧s≤p∧Jg7 o∧(∀u∈o,u.2<s)∧(∀x,x<s→(Jj o x↔Jj a x∧Jj b x))∧∀x,s≤x→x≤p→Jj a x∧Jj b x)
theorem int_inv {a b:List Run} (ha:RunsOK (-1048576) 1048576 a) (hb:RunsOK (-1048576) 1048576 b) {p:Int} {was:Bool} {i j:Nat} {out:List Run} (hI:IntI a b p was i j out) (hne:¬(i=2 * a.length∧j=2 * b.length)) :
  ∃m,p<m∧∃(was':Bool) (i' j':Nat) (out':List Run),Jn3 was a i b j out=⟨was',⟨a,⟨(i':Int),⟨b,⟨(j':Int),⟨out',()⟩⟩⟩⟩⟩⟩∧IntI a b m was' i' j' out'∧i+j<i'+j'∧out'.length≤out.length+1:=by
 obtain ⟨hA,hB,hw,hO⟩:=hI
 have hm2:min (bnd a i) (bnd b j)<1048577:=by
  have q1:i<2 * a.length→bnd a i<1048577:=fun q=>by
   have hu:=Ac (l:=a) (i:=i / 2) (by omega)
   have:=ha.bd _ (Ae hu)
   simp only [bnd,hu];split<;>omega
  have q2:j<2 * b.length→bnd b j<1048577:=fun q=>by
   have hu:=Ac (l:=b) (i:=j / 2) (by omega)
   have:=hb.bd _ (Ae hu)
   simp only [bnd,hu];split<;>omega
  have h1:=hA.1
  have h2:=hB.1
  have h3:i<2 * a.length∨j<2 * b.length:=by omega
  rcases h3 with h3|h3
  ·have:=q1 h3;omega
  ·have:=q2 h3;omega
 have hp1:p<bnd a i:=by
  rcases hA.2.2 i (Ap _) with h|h
  ·exact h
  ·have e:a[i / 2]?=none:=Bd (by omega)
   have:p<1048577:=by
    have q:At b p j:=hB
    by_cases q2:j<2 * b.length
    ·rcases hB.2.2 j (Ap _) with h'|h'
     ·have:=Jhz hb j;omega
     ·omega
    ·exact (hne ⟨by have:=hA.1;omega,by have:=hB.1;omega⟩).elim
   simp only [bnd,e];exact this
 have hp2:p<bnd b j:=by
  rcases hB.2.2 j (Ap _) with h|h
  ·exact h
  ·have e:b[j / 2]?=none:=Bd (by omega)
   have:p<1048577:=by have:=Jhz ha i;omega
   simp only [bnd,e];exact this
 generalize hmdef:min (bnd a i) (bnd b j)=m at hm2
 have hpm:p<m:=by omega
 obtain ⟨hA',hAx⟩:=Jo0 ha hA (m:=m) (by omega) hpm hm2
 obtain ⟨hB',hBx⟩:=Jo0 hb hB (m:=m) (by omega) hpm hm2
 refine ⟨m,hpm,_,_,_,_,by unfold Jn3;rw [hmdef],?_,?_,?_⟩
 ·refine ⟨hA',hB',rfl,?_⟩
  have hAm:=Jub hA'
  have hBm:=Jub hB'
  generalize (if bnd a i=m then i+1 else i)=i' at *
  generalize (if bnd b j=m then j+1 else j)=j' at *
  have hD:∀x,p≤x→x<m→(Jj a x∧Jj b x↔was=true):=fun x h1 h2=>by
   rw [hAx x h1 h2,hBx x h1 h2,hw];simp
  have hDm:Jj a m∧Jj b m↔(decide (i' % 2=1)&&decide (j' % 2=1))=true:=by
   rw [hAm,hBm];simp
  generalize (decide (i' % 2=1)&&decide (j' % 2=1))=now at *
  rcases hO with ⟨w0,n1,n2,n3⟩|⟨o,s,z,rfl,w0,hs,n1,n2,n3,n4⟩
  ·subst w0
   cases now with
   | false =>
    left
    rw [if_neg (by simp),if_neg (by simp)]
    refine ⟨rfl,n1,fun u hu=>by have:=n2 u hu;omega,fun x hx=>?_⟩
    by_cases q:x<p
    ·exact n3 x q
    ·rw [hD x (by omega) hx]
     refine ⟨fun ⟨u,hu,h1,h2⟩=>by have:=n2 u hu;omega,fun h=>by simp at h⟩
   | true =>
    right
    rw [if_pos (by simp)]
    refine ⟨out,m,0,rfl,rfl,Az _,n1,fun u hu=>by have:=n2 u hu;omega,fun x hx=>?_,fun x h1 h2=>?_⟩
    ·by_cases q:x<p
     ·exact n3 x q
     ·rw [hD x (by omega) hx]
      refine ⟨fun ⟨u,hu,h1,h2⟩=>by have:=n2 u hu;omega,fun h=>by simp at h⟩
    ·have:x=m:=by omega
     subst this
     exact hDm.2 rfl
  ·subst w0
   cases now with
   | true =>
    right
    rw [if_neg (by simp),if_neg (by simp)]
    refine ⟨o,s,z,rfl,rfl,by omega,n1,n2,n3,fun x h1 h2=>?_⟩
    by_cases q:x≤p
    ·exact n4 x h1 q
    ·by_cases q2:x=m
     ·subst q2;exact hDm.2 rfl
     ·exact (hD x (by omega) (by omega)).2 rfl
   | false =>
    left
    rw [if_neg (by simp),if_pos (by simp),Yz]
    refine ⟨rfl,Jmc.2 ⟨n1,by dsimp only;omega,n2⟩,fun u hu=>?_,fun x hx=>?_⟩
    ·rcases Ab.1 hu with h|h
     ·have:=n2 u h;omega
     ·rw [Aa.1 h];exact Az _
    ·rw [j6]
     dsimp only
     by_cases q:x<s
     ·rw [n3 x q]
      exact ⟨fun h=>h.resolve_right fun h=>by omega,.inl⟩
     ·have hin:Jj a x∧Jj b x:=by
       by_cases q2:x≤p
       ·exact n4 x (by omega) q2
       ·exact (hD x (by omega) hx).2 rfl
      exact ⟨fun _=>hin,fun _=>.inr ⟨by omega,hx⟩⟩
 ·by_cases q:bnd a i=m
  ·rw [if_pos q];split<;>omega
  ·have:bnd b j=m:=by omega
   rw [if_pos this];split<;>omega
 ·have hml:∀(l:List Run) (f:Run→Run),(K3 l f).length=l.length:=fun l f=>by
   rcases l.eq_nil_or_concat with rfl|⟨r,v,rfl⟩
   ·rfl
   ·rw [List.concat_eq_append,Yz];simp
  have key:∀nw ws:Bool,(if nw=true∧ws=false then out++[(m,0)] else if nw=false∧ws=true then K3 out (fun u=>(u.1,m)) else out).length≤out.length+1:=fun nw ws=>by
   cases nw<;>cases ws<;>simp [hml]
  exact key _ _
theorem int_loop (a b:List Run) (hla:a.length≤100000000) (hlb:b.length≤100000000) (ha:RunsOK (-1048576) 1048576 a) (hb:RunsOK (-1048576) 1048576 b) :
  ∃e,Xk (@K9 wv) bigN ⟨false,⟨a,⟨0,⟨b,⟨0,⟨[],()⟩⟩⟩⟩⟩⟩=some e∧Jg7 e.hd∧∀x,Jj e.hd x↔Jj a x∧Jj b x:=by
 refine Jkc (b:=@K9 wv) (fun s=>∃(p:Int) (was:Bool) (i j:Nat) (out:List Run),s=⟨was,⟨a,⟨(i:Int),⟨b,⟨(j:Int),⟨out,()⟩⟩⟩⟩⟩⟩∧IntI a b p was i j out∧out.length≤i+j)
  (fun e=>Jg7 e.hd∧∀x,Jj e.hd x↔Jj a x∧Jj b x) (fun s=>(2 * (a.length:Int)+2 * (b.length:Int) - s.tl.tl.hd - s.tl.tl.tl.tl.hd).toNat) ?_ ⟨-1048577,false,0,0,[],rfl,⟨⟨by omega,by omega,fun k hk=>?_⟩,⟨by omega,by omega,fun k hk=>?_⟩,rfl,.inl ⟨rfl,⟨by simp,.nil⟩,by simp,fun x hx=>?_⟩⟩,by simp⟩ (by dsimp only;omega)
 ·rintro s ⟨p,was,i,j,out,rfl,hI,ho⟩
  have h1:=hI.1.1
  have h2:=hI.2.1.1
  by_cases hne:i=2 * a.length∧j=2 * b.length
  ·right
   obtain ⟨rfl,rfl⟩:=hne
   have j1:@Q2 wv ⟨was,⟨a,⟨((2 * a.length:Nat):Int),⟨b,⟨((2 * b.length:Nat):Int),⟨out,()⟩⟩⟩⟩⟩⟩=some (.inr ⟨out,()⟩):=by
    unfold Q2
    dsimp only
    rw [Jf9 (by omega),br_f (by simp [w_nt]),Jf9 (by omega),br_f (by simp [w_nt])]
   unfold K9
   rw [jo_s j1]
   refine ⟨_,rfl,?_⟩
   obtain ⟨hA,hB,hw,hO⟩:=hI
   have hwf:was=false:=by rw [hw];simp
   rcases hO with ⟨w0,n1,n2,n3⟩|⟨o,s,z,rfl,w0,-⟩
   ·refine ⟨n1,fun x=>?_⟩
    by_cases q:x<p
    ·exact n3 x q
    ·refine ⟨fun ⟨u,hu,h3,h4⟩=>by have:=n2 u hu;omega,fun ⟨h3,h4⟩=>?_⟩
     have:At a x (2 * a.length):=⟨Ap _,fun k hk=>by have:=hA.2.1 k hk;omega,fun k hk=>.inr hk⟩
     have:=(Jub this).1 h3
     omega
   ·rw [hwf] at w0;cases w0
  ·left
   obtain ⟨m,hpm,was',i',j',out',e,hI',hlt,hlen⟩:=int_inv ha hb hI hne
   refine ⟨_,int_step was a b out i j (by omega) (by omega) h1 h2 (by omega) (fun q=>?_) hne,?_,?_⟩
   ·rcases hI.2.2.2 with ⟨w0,-⟩|⟨o,s,z,rfl,-⟩
    ·rw [w0] at q;cases q
    ·simp
   ·rw [e]
    exact ⟨m,was',i',j',out',rfl,hI',by omega⟩
   ·rw [e]
    have h1':=hI'.1.1
    have h2':=hI'.2.1.1
    dsimp only
    omega
 ·by_cases q:2 * a.length≤k
  ·exact .inr q
  ·left;have:=Jhz ha k;omega
 ·by_cases q:2 * b.length≤k
  ·exact .inr q
  ·left;have:=Jhz hb k;omega
 ·constructor
  ·rintro ⟨u,hu,-⟩;cases hu
  ·rintro ⟨⟨u,hu,h1,h2⟩,-⟩
   have:=ha.bd u hu;omega
open Classical in
theorem Jrd (a b:List Run) (hla:a.length≤100000000) (hlb:b.length≤100000000) (ha:RunsOK (-1048576) 1048576 a) (hb:RunsOK (-1048576) 1048576 b) :
  ∃l,@Ye wv (a,b)=some l∧Jg7 l∧∀x,Jj l x↔Jj a x∧Jj b x:=by
 obtain ⟨e,he,h1,h2⟩:=int_loop a b hla hlb ha hb
 refine ⟨e.hd,?_,h1,h2⟩
 unfold Ye
 dsimp only
 rw [Zu (by omega),br_f (by simp [w_nt,ha]),Zu (by omega),br_f (by simp [w_nt,hb])]
 exact lo_s he
def shrU (k:Int) (u:Run):Option Run:=if u.1+k<u.2 - k then some (u.1+k,u.2 - k) else none
def shrk (k:Int) (l:List Run):List Run:=l.filterMap (shrU k)
theorem Jzt (l:List Run) (k:Int) (hl:l.length≤1000000000) (h:RunsOK (-1048576) 1048576 l) (hk:0≤k∧k≤1048576):@Jap wv (l,k)=some (shrk k l):=by
 have hloop:=Xa (b:=@Zg wv) (e:=(⟨shrk k l,()⟩:HP (List Run) Unit)) (fun i=>(⟨k,⟨l,⟨(l.length:Int),⟨(i:Int),⟨shrk k (l.take i),()⟩⟩⟩⟩⟩:HP Int (HP (List Run) (HP Int (HP Int (HP (List Run) Unit)))))) l.length (by omega) (fun i hi=>by
  have hx:=Ac hi
  generalize l[i]=u at hx
  have hu:=h.bd u (Ae hx)
  have hlen:(shrk k (l.take i)).length≤l.length:=by
   refine Nat.le_trans (List.length_filterMap_le _ _) ?_
   rw [Am];omega
  have e:shrk k (l.take (i+1))=shrk k (l.take i)++(shrU k u).toList:=by
   unfold shrk
   rw [Xi hx,List.filterMap_append]
   cases hq:shrU k u<;>simp [hq]
  unfold Zg
  dsimp only
  rw [Xw (by omega),ge_s (fg hx),K4,K4,zg,wr (n:=(i:Int)+1) (by omega) (by omega),wr (n:=u.1+k) (by omega) (by omega),wr (n:=u.2 - k) (by omega) (by omega),e]
  unfold shrU
  by_cases q:u.1+k<u.2 - k
  ·rw [Xw q,if_pos q,w_ln,w_pl,Jih (by omega) (by omega),w_ap]
   rfl
  ·rw [Kz q,if_neg q]
   show _=some (Nx.go (⟨k,⟨l,⟨(l.length:Int),⟨((i+1:Nat):Int),⟨shrk k (l.take i)++[],()⟩⟩⟩⟩⟩:HP Int (HP (List Run) (HP Int (HP Int (HP (List Run) Unit))))))
   rw [List.append_nil]
   rfl) (by
  unfold Zg
  dsimp only
  rw [Kz (by omega),Af])
 unfold Jap
 dsimp only
 rw [Zu hl,br_f (by simp [w_nt,h]),Kz (by omega),br_f (by rw [Jan];exact decide_eq_false (by omega)),w_ln]
 exact (lo_s hloop).trans rfl
theorem J0m {lo hi:Int} {l:List Run} (h:RunsOK lo hi l) {k:Int} (hk:0≤k):RunsOK lo hi (shrk k l):=by
 refine ⟨fun u hu=>?_,?_⟩
 ·obtain ⟨v,hv,e⟩:=Ay.1 hu
  unfold shrU at e
  split at e
  ·injection e with e
   subst e
   have:=h.bd v hv
   dsimp only;omega
  ·cases e
 ·refine List.Pairwise.filterMap (S:=fun a b:Run=>a.2<b.1) (shrU k) (fun a b hab c hc d hd=>?_) h.pw
  unfold shrU at hc hd
  split at hc
  ·split at hd
   ·injection hc with hc
    injection hd with hd
    subst hc;subst hd
    dsimp only;omega
   ·cases hd
  ·cases hc
theorem Jy1 {lo hi:Int} {l:List Run} (h:RunsOK lo hi l) {k:Int} (hk:0≤k) (x:Int):Jj (shrk k l) x↔∀y,x - k≤y→y≤x+k→Jj l y:=by
 constructor
 ·rintro ⟨u,hu,h1,h2⟩ y hy1 hy2
  obtain ⟨v,hv,e⟩:=Ay.1 hu
  unfold shrU at e
  split at e
  ·injection e with e
   subst e
   dsimp only at h1 h2
   exact ⟨v,hv,by omega,by omega⟩
  ·cases e
 ·intro hall
  obtain ⟨u,hu,h1,h2⟩:=hall (x - k) (Az _) (by omega)
  have h3:x+k<u.2:=by
   apply Classical.byContradiction
   intro hn
   have:=(Jti h u.2).1 ⟨u,hu,rfl⟩
   exact this.2 (hall u.2 (by omega) (by omega))
  exact ⟨(u.1+k,u.2 - k),Ay.2 ⟨u,hu,if_pos (by omega)⟩,by dsimp only;omega,by dsimp only;omega⟩
theorem isect (a b:List Run) (hla:a.length≤100000000) (hlb:b.length≤100000000) (ha:RunsOK (-4096) 4096 a) (hb:RunsOK (-4096) 4096 b) :
  ∃l,@Ye wv (a,b)=some l∧RunsOK (-4096) 4096 l∧∀x,Jj l x↔Jj a x∧Jj b x:=by
 have wid:∀ {l:List Run},RunsOK (-4096) 4096 l→RunsOK (-1048576) 1048576 l:=fun {l} h=>⟨fun u hu=>by have:=h.bd u hu;omega,h.pw⟩
 obtain ⟨l,h1,h2,h3⟩:=Jrd a b hla hlb (wid ha) (wid hb)
 refine ⟨l,h1,Jpy h2 fun x hx=>?_,h3⟩
 obtain ⟨u,hu,q1,q2⟩:=((h3 x).1 hx).1
 have:=ha.bd u hu
 omega
theorem Jg2 {n:Nat} {l:List Nat} (h:l.Nodup) (hb:∀x∈l,x<n):l.length≤n:=by
 have:=zy (m:=List.range n) h fun x hx=>List.mem_range.2 (hb x hx)
 rwa [List.length_range] at this
theorem Jbi {l:List Run} (h:RunsOK (-4096) 4096 l):l.length≤8192:=by
 have h1:(l.map fun u:Run=>(u.1+4096).toNat).Nodup:=Bb.2 ((List.Pairwise.and_mem.1 h.pw).imp fun {a b} ⟨ha,hb,hab⟩ e=>by
  have:=h.bd a ha
  have:=h.bd b hb
  omega)
 have:=Jg2 (n:=8192) h1 fun x hx=>by
  obtain ⟨u,hu,rfl⟩:=Ai.1 hx
  have:=h.bd u hu
  omega
 rwa [Ah] at this
abbrev Mr:=List (Int×List Run)
def atM:Mr→Int→List Run
 | [],_=>[]
 | e::r,y=>if y=e.1 then e.2 else atM r y
theorem mg_atM (m:Mr) (y:Int):@W.mg wv I (.ls (.p I I)) m y []=atM m y:=by
 show (Zv (a:=I) (b:=.ls (.p I I)) y m).getD []=_
 induction m with
 | nil=>rfl
 | cons e r ih =>
  show _=if y=e.1 then e.2 else atM r y
  by_cases h:y=e.1
  ·have hd:Ty.eqb I y e.1=true:=beq_iff_eq.2 h
   rw [if_pos h]
   exact congrArg (fun o:Option (List Run)=>o.getD []) (show Zv (a:=I) (b:=.ls (.p I I)) y (e::r)=some e.2 from if_pos hd)
  ·have hd:¬Ty.eqb I y e.1=true:=fun hc=>h (beq_iff_eq.1 hc)
   rw [if_neg h,←ih]
   exact congrArg (fun o:Option (List Run)=>o.getD []) (show Zv (a:=I) (b:=.ls (.p I I)) y (e::r)=Zv (a:=I) (b:=.ls (.p I I)) y r from if_neg hd)
theorem ms_new (m:Mr) (y:Int) (v:List Run) (h:∀e∈m,e.1≠y):@W.ms wv I (.ls (.p I I)) m y v=m++[(y,v)]:=by
 show mSet (a:=I) (b:=.ls (.p I I)) y v m=_
 induction m with
 | nil=>rfl
 | cons e r ih =>
  show (if Ty.eqb I y e.1=true then (y,v)::r else e::mSet (a:=I) (b:=.ls (.p I I)) y v r)=_
  have hd:¬Ty.eqb I y e.1=true:=fun hc=>h e (List.mem_cons_self ..) (beq_iff_eq.1 hc).symm
  rw [if_neg hd,ih fun e he=>h e (Be _ he)]
  rfl
theorem Jvg (r:Reg) (f:List Run→List Run) (hf:f []=[]) (y:Int):atM (r.map fun w=>(w.1,f w.2)) y=f (rowY r y):=by
 induction r with
 | nil=>exact hf.symm
 | cons w r ih =>
  unfold rowY at ih ⊢
  show (if y=w.1 then f w.2 else atM (r.map fun w=>(w.1,f w.2)) y)=_
  by_cases h:y=w.1
  ·rw [if_pos h,List.find?_cons_of_pos (by simp [h])];rfl
  ·rw [if_neg h,ih,List.find?_cons_of_neg (by simp;exact fun e=>h e.symm)]
def deep (r:Reg) (k:Int) (c:Cell):Prop:=∀dx dy:Int,-k≤dx→dx≤k→-k≤dy→dy≤k→Kg r (c.1+dx,c.2+dy)
abbrev SeA:=HP Int (HP Reg (HP Int (HP Int (HP Reg (HP Mr Unit)))))
abbrev SeB:=HP Int (HP Reg (HP Int (HP Int (HP Mr (HP Reg Unit)))))
abbrev SeC:=HP Int (HP Int (HP (List Run) (HP Int (HP Int (HP Reg (HP Int (HP Int (HP Int (HP (List Run) (HP Mr (HP Reg Unit)))))))))))
abbrev OeC:=HP (List Run) (HP Int (HP Reg (HP Int (HP Int (HP Int (HP (List Run) (HP Reg (HP Mr Unit))))))))
def Jfh (k:Int) (r:Reg):Mr:=r.map fun w=>(w.1,shrk k w.2)
theorem Erode_L0 (a:Reg×Int) (r:Reg) (hr:RegOK r) (hl:LimR r) (k:Int) (hk:0≤k∧k≤64) :
  Xk (@Yd wv a) bigN (⟨k,⟨r,⟨(r.length:Int),⟨0,⟨r,⟨[],()⟩⟩⟩⟩⟩⟩:SeA)=some (⟨k,⟨r,⟨Jfh k r,()⟩⟩⟩:HP Int (HP Reg (HP Mr Unit))):=by
 have hL:=hl.1
 refine Xa (b:=@Yd wv a) (fun i=>(⟨k,⟨r,⟨(r.length:Int),⟨(i:Int),⟨r,⟨Jfh k (r.take i),()⟩⟩⟩⟩⟩⟩:SeA)) r.length (by omega) (fun i hi=>?_) ?_
 ·have hw:=Ac hi
  generalize r[i]=w at hw
  have hwm:=Ae hw
  have hrs:=hr.rs w hwm
  unfold Yd
  dsimp only
  rw [Xw (by omega),ge_s (fg hw)]
  refine (ca_s (c:=ja) (Jzt w.2 k (hl.2 w hwm) ⟨fun u hu=>by have:=hrs.bd u hu;omega,hrs.pw⟩ (by omega))).trans ?_
  have hnew:@W.ms wv I (.ls (.p I I)) (Jfh k (r.take i)) w.1 (shrk k w.2)=(Jfh k (r.take i))++[(w.1,shrk k w.2)]:=ms_new _ _ _ fun e he=>by
   obtain ⟨v,hv,rfl⟩:=Ai.1 he
   obtain ⟨j,hj⟩:=Au hv
   have hjl:=(Ad.1 hj).1
   rw [Am] at hjl
   rw [Aq (by omega)] at hj
   have:=Jlx hr hj hw (by omega)
   dsimp only;omega
  have e3:@W.ar wv .add .i64 (i:Int) 1=((i+1:Nat):Int):=by rw [K4,wr (by omega) (by omega)];omega
  rw [e3]
  exact congrArg (fun z:Mr=>some (Nx.go (⟨k,⟨r,⟨(r.length:Int),⟨((i+1:Nat):Int),⟨r,⟨z,()⟩⟩⟩⟩⟩⟩:SeA))) (hnew.trans (Jfa hw).symm)
 ·unfold Yd
  dsimp only
  rw [Kz (by omega),Af]
theorem Erode_L2 (a:Reg×Int) (r:Reg) (hr:RegOK r) (k:Int) (hk:0≤k∧k≤64) (len idx:Int) (w:Row) (hy:-4096≤w.1∧w.1<4096) (out:Reg) :
  ∃o,Xk (@X9 wv a) bigN (⟨w.1,⟨k,⟨shrk k (rowY r (w.1 - k)),⟨w.1 - k+1,⟨k,⟨r,⟨len,⟨idx,⟨w.1,⟨w.2,⟨Jfh k r,⟨out,()⟩⟩⟩⟩⟩⟩⟩⟩⟩⟩⟩⟩:SeC) =
    some (⟨o,⟨k,⟨r,⟨len,⟨idx,⟨w.1,⟨w.2,⟨out,⟨Jfh k r,()⟩⟩⟩⟩⟩⟩⟩⟩⟩:OeC) ∧
   RunsOK (-4096) 4096 o∧∀x,Jj o x↔deep r k (x,w.1):=by
 obtain ⟨e,he,o,rfl,h1,h2⟩:=Zm (b:=@X9 wv a)
  (fun j s=>∃o,s=(⟨w.1,⟨k,⟨o,⟨w.1 - k+1+(j:Int),⟨k,⟨r,⟨len,⟨idx,⟨w.1,⟨w.2,⟨Jfh k r,⟨out,()⟩⟩⟩⟩⟩⟩⟩⟩⟩⟩⟩⟩:SeC)∧RunsOK (-4096) 4096 o∧∀x,Jj o x↔∀y,w.1 - k≤y→y≤w.1 - k+(j:Int)→Jj (shrk k (rowY r y)) x)
  (fun e=>∃o,e=(⟨o,⟨k,⟨r,⟨len,⟨idx,⟨w.1,⟨w.2,⟨out,⟨Jfh k r,()⟩⟩⟩⟩⟩⟩⟩⟩⟩:OeC)∧RunsOK (-4096) 4096 o∧∀x,Jj o x↔deep r k (x,w.1))
  (2 * k).toNat (by omega) (s0:=⟨w.1,⟨k,⟨shrk k (rowY r (w.1 - k)),⟨w.1 - k+1,⟨k,⟨r,⟨len,⟨idx,⟨w.1,⟨w.2,⟨Jfh k r,⟨out,()⟩⟩⟩⟩⟩⟩⟩⟩⟩⟩⟩⟩)
  ⟨_,by simp,J0m (Jg5 hr _) hk.1,fun x=>⟨fun h y h1 h2=>by rw [show y=w.1 - k by omega];exact h,fun h=>h _ (Az _) (by omega)⟩⟩
  (fun j s hj=>by
   rintro ⟨o,rfl,h1,h2⟩
   have hrow:=J0m (Jg5 hr (w.1 - k+1+(j:Int))) hk.1
   obtain ⟨l,q1,q2,q3⟩:=isect o (shrk k (rowY r (w.1 - k+1+(j:Int)))) (by have:=Jbi h1;omega) (by have:=Jbi hrow;omega) h1 hrow
   have em:@W.mg wv I (.ls (.p I I)) (Jfh k r) (w.1 - k+1+(j:Int)) []=shrk k (rowY r (w.1 - k+1+(j:Int))):=(mg_atM _ _).trans (Jvg r (shrk k) rfl _)
   refine ⟨_,?_,l,rfl,q2,fun x=>?_⟩
   ·unfold X9
    dsimp only
    rw [em,br_t (by rw [Jlp,K4,wr (by omega) (by omega)];exact decide_eq_true (by omega))]
    refine (ca_s (c:=Yb) q1).trans ?_
    rw [K4,wr (by omega) (by omega),show w.1 - k+1+(j:Int)+1=w.1 - k+1+((j+1:Nat):Int) by omega]
   ·rw [q3,h2]
    constructor
    ·rintro ⟨g1,g2⟩ y hy1 hy2
     by_cases e:y=w.1 - k+1+(j:Int)
     ·rw [e];exact g2
     ·exact g1 y hy1 (by omega)
    ·intro g
     exact ⟨fun y hy1 hy2=>g y hy1 (by omega),g _ (by omega) (by omega)⟩)
  (by
   rintro s ⟨o,rfl,h1,h2⟩
   refine ⟨_,?_,o,rfl,h1,fun x=>?_⟩
   ·unfold X9
    dsimp only
    rw [br_f (by rw [Jlp,K4,wr (by omega) (by omega)];exact decide_eq_false (by omega))]
   ·rw [h2]
    unfold deep
    constructor
    ·intro g dx dy a1 a2 a3 a4
     have:=(Jy1 (Jg5 hr (w.1+dy)) hk.1 x).1 (g (w.1+dy) (by omega) (by omega)) (x+dx) (by omega) (by omega)
     exact (Jc8 hr).2 this
    ·intro g y hy1 hy2
     refine (Jy1 (Jg5 hr y) hk.1 x).2 fun z hz1 hz2=>(Jc8 hr).1 ?_
     have:=g (z - x) (y - w.1) (by omega) (by omega) (by omega) (by omega)
     dsimp only at this
     rwa [show x+(z - x)=z by omega,show w.1+(y - w.1)=y by omega] at this)
 exact ⟨o,he,h1,h2⟩
theorem Jwf {E:Reg} {w:Row} (h:RegOK E) (hy:-4096≤w.1∧w.1<4096) (hn:w.2≠[]) (hr:RunsOK (-4096) 4096 w.2) (hlt:∀v∈E,v.1<w.1):RegOK (E++[w]):=by
 refine ⟨fun v hv=>?_,Ak.2 ⟨h.pw,Ar _ _,fun a ha b hb=>?_⟩,fun v hv=>?_,fun v hv=>?_⟩
 ·rcases Ab.1 hv with q|q
  ·exact h.y v q
  ·rw [Aa] at q;subst q;exact hy
 ·rw [Aa] at hb;subst hb;exact hlt a ha
 ·rcases Ab.1 hv with q|q
  ·exact h.ne v q
  ·rw [Aa] at q;subst q;exact hn
 ·rcases Ab.1 hv with q|q
  ·exact h.rs v q
  ·rw [Aa] at q;subst q;exact hr
theorem J1b {E:Reg} {w:Row} {c:Cell}:Kg (E++[w]) c↔Kg E c∨(w.1=c.2∧Jj w.2 c.1):=by
 unfold Kg
 constructor
 ·rintro ⟨v,hv,h⟩
  rcases Ab.1 hv with q|q
  ·exact .inl ⟨v,q,h⟩
  ·rw [Aa] at q;subst q;exact .inr h
 ·rintro (⟨v,hv,h⟩|h)
  ·exact ⟨v,Ab.2 (.inl hv),h⟩
  ·exact ⟨w,Ab.2 (.inr (Aa.2 rfl)),h⟩
theorem Jgv {r:Reg} (h:RegOK r):r.length≤8192:=by
 have h1:(r.map fun w:Row=>(w.1+4096).toNat).Nodup:=Bb.2 ((List.Pairwise.and_mem.1 h.pw).imp fun {a b} ⟨ha,hb,hab⟩ e=>by
  have:=h.y a ha
  have:=h.y b hb
  omega)
 have:=Jg2 (n:=8192) h1 fun x hx=>by
  obtain ⟨u,hu,rfl⟩:=Ai.1 hx
  have:=h.y u hu
  omega
 rwa [Ah] at this
theorem Erode_ok (r:Reg) (hr:RegOK r) (hl:LimR r) (k:Int) (hk:0≤k∧k≤64):∃E,@Jas wv (r,k)=some E∧RegOK E∧∀c,Kg E c↔deep r k c:=by
 have hL:=hl.1
 obtain ⟨e,he,E,rfl,h1,h2,-⟩:=Zm (b:=@Yc wv (r,k))
  (fun i s=>∃E,s=(⟨k,⟨r,⟨(r.length:Int),⟨(i:Int),⟨Jfh k r,⟨E,()⟩⟩⟩⟩⟩⟩:SeB)∧RegOK E∧(∀c,Kg E c↔(∃w∈r.take i,w.1=c.2)∧deep r k c)∧∀v∈E,∃w∈r.take i,v.1=w.1)
  (fun e=>∃E,e=(⟨E,()⟩:HP Reg Unit)∧RegOK E∧(∀c,Kg E c↔deep r k c)∧True)
  r.length (by omega) (s0:=⟨k,⟨r,⟨(r.length:Int),⟨0,⟨Jfh k r,⟨[],()⟩⟩⟩⟩⟩⟩)
  ⟨[],rfl,⟨by simp,.nil,by simp,by simp⟩,fun c=>⟨fun ⟨w,hw,_⟩=>(Ag hw).elim,fun ⟨⟨w,hw,_⟩,_⟩=>by rw [List.take_zero] at hw;exact (Ag hw).elim⟩,fun v hv=>(Ag hv).elim⟩
  (fun i s hi=>by
   rintro ⟨E,rfl,h1,h2,h3⟩
   have hw:=Ac hi
   generalize r[i]=w at hw
   have hwm:=Ae hw
   have hy:=hr.y w hwm
   obtain ⟨o,q1,q2,q3⟩:=Erode_L2 (r,k) r hr k hk (r.length:Int) (i:Int) w hy E
   have hol:=Jbi q2
   have hEl:=Jgv h1
   have em:@W.mg wv I (.ls (.p I I)) (Jfh k r) (w.1 - k) []=shrk k (rowY r (w.1 - k)):=(mg_atM _ _).trans (Jvg r (shrk k) rfl _)
   have e1:@W.ar wv .sub .i64 w.1 k=w.1 - k:=by rw [zg,wr (by omega) (by omega)]
   have e2:@W.ar wv .add .i64 (w.1 - k) 1=w.1 - k+1:=by rw [K4,wr (by omega) (by omega)]
   have e3:@W.ar wv .add .i64 (i:Int) 1=((i+1:Nat):Int):=by rw [K4,wr (by omega) (by omega)];omega
   have hlt:∀v∈E,v.1<w.1:=fun v hv=>by
    obtain ⟨z,hz,e⟩:=h3 v hv
    obtain ⟨j,hj⟩:=Au hz
    have hjl:=(Ad.1 hj).1
    rw [Am] at hjl
    rw [Aq (by omega)] at hj
    have:=Jlx hr hj hw (by omega)
    omega
   have ht:=Xi hw
   by_cases hne:o=[]
   ·refine ⟨(⟨k,⟨r,⟨(r.length:Int),⟨((i+1:Nat):Int),⟨Jfh k r,⟨E,()⟩⟩⟩⟩⟩⟩:SeB),?_,E,rfl,h1,fun c=>?_,fun v hv=>?_⟩
    ·unfold Yc
     dsimp only
     rw [Xw (by omega),ge_s (fg hw),e1,em,e2]
     refine (lo_s q1).trans ?_
     dsimp only
     rw [br_f (by rw [Jan,w_ln,hne];rfl),e3]
    ·rw [h2,ht]
     constructor
     ·rintro ⟨⟨z,hz,e⟩,g⟩
      exact ⟨⟨z,Ab.2 (.inl hz),e⟩,g⟩
     ·rintro ⟨⟨z,hz,e⟩,g⟩
      rcases Ab.1 hz with q|q
      ·exact ⟨⟨z,q,e⟩,g⟩
      ·rw [Aa] at q
       subst q
       have:=(q3 c.1).2 (by rw [e];exact g)
       rw [hne] at this
       obtain ⟨u,hu,_⟩:=this
       exact (Ag hu).elim
    ·obtain ⟨z,hz,e⟩:=h3 v hv
     exact ⟨z,by rw [ht];exact Ab.2 (.inl hz),e⟩
   ·have hp:=Ax.2 hne
    refine ⟨(⟨k,⟨r,⟨(r.length:Int),⟨((i+1:Nat):Int),⟨Jfh k r,⟨E++[(w.1,o)],()⟩⟩⟩⟩⟩⟩:SeB),?_,_,rfl,Jwf (w:=(w.1,o)) h1 hy hne q2 hlt,fun c=>?_,fun v hv=>?_⟩
    ·unfold Yc
     dsimp only
     rw [Xw (by omega),ge_s (fg hw),e1,em,e2]
     refine (lo_s q1).trans ?_
     dsimp only
     rw [br_t (by rw [Jan,w_ln];exact decide_eq_true (by omega)),w_ln,w_pl,Jih (by omega) (by omega),w_ln,w_pl,Jzf (by omega) (by omega),w_ap,e3]
    ·rw [J1b,h2,ht]
     constructor
     ·rintro (⟨⟨z,hz,e⟩,g⟩|⟨e,g⟩)
      ·exact ⟨⟨z,Ab.2 (.inl hz),e⟩,g⟩
      ·have e:w.1=c.2:=e
       refine ⟨⟨w,Ab.2 (.inr (Aa.2 rfl)),e⟩,?_⟩
       have:=(q3 c.1).1 g
       rwa [e] at this
     ·rintro ⟨⟨z,hz,e⟩,g⟩
      rcases Ab.1 hz with q|q
      ·exact .inl ⟨⟨z,q,e⟩,g⟩
      ·rw [Aa] at q
       subst q
       exact .inr ⟨e,(q3 c.1).2 (by rw [e];exact g)⟩
    ·rcases Ab.1 hv with q|q
     ·obtain ⟨z,hz,e⟩:=h3 v q
      exact ⟨z,by rw [ht];exact Ab.2 (.inl hz),e⟩
     ·rw [Aa] at q
      subst q
      exact ⟨w,by rw [ht];exact Ab.2 (.inr (Aa.2 rfl)),rfl⟩)
  (by
   rintro s ⟨E,rfl,h1,h2,h3⟩
   refine ⟨_,?_,E,rfl,h1,fun c=>?_,trivial⟩
   ·unfold Yc
    dsimp only
    rw [Kz (by omega)]
   ·rw [h2,Af]
    refine ⟨And.right,fun g=>⟨?_,g⟩⟩
    have:=g 0 0 (by omega) (by omega) (by omega) (by omega)
    obtain ⟨w,hw,e,_⟩:=this
    exact ⟨w,hw,by rw [e];dsimp only;omega⟩)
 refine ⟨E,?_,h1,h2⟩
 have hv:@Jao wv (r,k)=some true:=by
  classical
  unfold Jao
  dsimp only
  rw [br_t (by rw [Jre];exact decide_eq_true (by omega)),br_t (by rw [Jlp];exact decide_eq_true (by omega)),Ze hl,decide_eq_true hr]
 unfold Jas
 refine (ca_s (c:=jp) hv).trans ?_
 rw [br_f (by rfl),w_ln]
 refine (lo_s (Erode_L0 (r,k) r hr hl k hk)).trans ?_
 dsimp only
 rw [w_ln]
 exact (lo_s he).trans rfl
theorem Jx9:∀l:List Int,l.Pairwise (·≤·)→(cptF l).Pairwise (·<·)∧∀x,x∈cptF l↔x∈l:=by
 intro l
 have key:∀m:List Int,(m.reverse).Pairwise (·≤·)→(cptF m.reverse).Pairwise (·<·)∧∀x,x∈cptF m.reverse↔x∈m.reverse:=by
  intro m
  induction m with
  | nil=>intro _;exact ⟨.nil,fun x=>Iff.rfl⟩
  | cons a m ih =>
   intro h
   rw [List.reverse_cons] at h ⊢
   obtain ⟨h1,h2,h3⟩:=Ak.1 h
   obtain ⟨g1,g2⟩:=ih h1
   have hl:=(Jco m.reverse m.reverse.length (Ap _)).2
   rw [Af] at hl
   rw [Jqo]
   unfold cptS
   split
   ·rename_i hq
    refine ⟨g1,fun x=>?_⟩
    rw [g2,Ab,Aa]
    refine ⟨.inl,fun hx=>hx.elim id fun e=>?_⟩
    subst e
    exact (g2 x).1 (List.mem_of_getLast? hq)
   ·rename_i hq
    refine ⟨Ak.2 ⟨g1,Ar _ _,fun x hx y hy=>?_⟩,fun x=>by rw [Ab,Ab,g2]⟩
    rw [Aa] at hy
    subst hy
    have hle:x≤y:=h3 x ((g2 x).1 hx) y (Aa.2 rfl)
    rcases Int.lt_or_eq_of_le hle with q|q
    ·exact q
    ·exfalso
     subst q
     have hne:cptF m.reverse≠[]:=fun e=>by rw [e] at hx;cases hx
     obtain ⟨M,z,e⟩:∃M z,cptF m.reverse=M++[z]:=⟨_,_,(List.dropLast_concat_getLast hne).symm⟩
     rw [e,List.getLast?_concat] at hq
     have hz:z≤x:=h3 z ((g2 z).1 (by rw [e];exact Ab.2 (.inr (Aa.2 rfl)))) x (Aa.2 rfl)
     rw [e] at g1 hx
     obtain ⟨p1,p2,p3⟩:=Ak.1 g1
     rcases Ab.1 hx with q|q
     ·have:=p3 x q z (Aa.2 rfl);omega
     ·rw [Aa] at q
      exact hq (by rw [q])
 have:=key l.reverse
 rwa [List.reverse_reverse] at this
theorem sortI_ok (l:List Int) (hl:l.length≤1000000000):∃r,Jpw l=some r∧r.Pairwise (·≤·)∧∀x,x∈r↔x∈l:=by
 refine ⟨Jaf (fun x y:Int=>decide (x≤y)) l,by unfold Jpw;rw [if_pos (by omega)],?_,fun x=>(Yf l).mem_iff⟩
 exact (Jgq (le:=fun x y:Int=>decide (x≤y)) (fun x y z h1 h2=>by simp only [decide_eq_true_eq] at *;omega) (fun x y=>by simp only [decide_eq_true_eq];omega) l).imp fun h=>of_decide_eq_true h
theorem Juk (l:List Run) (hl:l.length≤1000000000):@Ks wv l=some l:=by
 have e:∀ {α:Type} (x:Option α),@W.gd wv α (@W.ft wv 16 (@W.pl wv 0 (@W.ln wv Run l))) x=x:=fun x=>by rw [w_ln,w_pl];exact Jih (by omega) (by omega)
 unfold Ks
 rw [e,w_nq]
 unfold nlv
 rw [w_ln]
 split
 ·rename_i h0
  have:l=[]:=Aw (by omega)
  subst this
  simp [w_br]
 ·rfl
abbrev Sr1S:=HP Reg (HP Reg (HP Int (HP Reg (HP Int (HP Int (HP Reg (HP Reg (HP (List Int) Unit))))))))
abbrev Or1S:=HP Reg (HP Reg (HP Int (HP Reg (HP Reg (HP (List Int) Unit)))))
theorem Jrx {b:Sr1S→Option (Nx Sr1S Or1S)} (hb:b=@K7 wv) (A B:Reg) (idx:Int) (cur r1 r2:Reg) (ys:List Int) (hc:cur.length≤100000000) (hy:ys.length≤100000000) :
  Xk b bigN (⟨A,⟨B,⟨idx,⟨cur,⟨(cur.length:Int),⟨0,⟨r1,⟨r2,⟨ys,()⟩⟩⟩⟩⟩⟩⟩⟩⟩:Sr1S)=some (⟨A,⟨B,⟨idx,⟨r1,⟨r2,⟨ys++cur.map (·.1),()⟩⟩⟩⟩⟩⟩:Or1S):=by
 subst hb
 have key:=Xa (b:=@K7 wv) (e:=(⟨A,⟨B,⟨idx,⟨r1,⟨r2,⟨ys++cur.map (·.1),()⟩⟩⟩⟩⟩⟩:Or1S)) (fun i=>(⟨A,⟨B,⟨idx,⟨cur,⟨(cur.length:Int),⟨(i:Int),⟨r1,⟨r2,⟨ys++(cur.take i).map (·.1),()⟩⟩⟩⟩⟩⟩⟩⟩⟩:Sr1S)) cur.length (by omega) (fun i hi=>by
  have hw:=Ac hi
  generalize cur[i]=w at hw
  unfold K7
  dsimp only
  rw [Xw (by omega),ge_s (fg hw),w_ln,w_pl,fitB (by rw [Aj,Ah,Am];omega) (by omega) (by decide),K4,wr (by omega) (by omega),w_ap,Jfa hw,List.append_assoc]
  rfl) (by
  unfold K7
  dsimp only
  rw [Kz (by omega),Af])
 simpa using key
theorem L2_L1:@Jaj wv=@K7 wv:=rfl
abbrev Sr0S:=HP Reg (HP Reg (HP Int (HP Reg (HP Reg (HP (List Int) Unit)))))
theorem J19 (a b:Reg) (ha:a.length≤10000000) (hb:b.length≤10000000) :
  Xk (@Kc wv) bigN (⟨a,⟨b,⟨0,⟨a,⟨b,⟨[],()⟩⟩⟩⟩⟩⟩:Sr0S)=some (⟨a,⟨b,⟨a.map (·.1)++b.map (·.1),()⟩⟩⟩:HP Reg (HP Reg (HP (List Int) Unit))):=by
 have s0:@Kc wv (⟨a,⟨b,⟨0,⟨a,⟨b,⟨[],()⟩⟩⟩⟩⟩⟩:Sr0S)=some (.go (⟨a,⟨b,⟨1,⟨a,⟨b,⟨a.map (·.1),()⟩⟩⟩⟩⟩⟩:Sr0S)):=by
  unfold Kc
  dsimp only
  have h1:=Jrx rfl a b 0 a a b [] (by omega) (by simp)
  rw [Xw (by decide),br_t (by rfl),w_ln]
  refine (lo_s h1).trans ?_
  rfl
 have s1:@Kc wv (⟨a,⟨b,⟨1,⟨a,⟨b,⟨a.map (·.1),()⟩⟩⟩⟩⟩⟩:Sr0S)=some (.go (⟨a,⟨b,⟨2,⟨a,⟨b,⟨a.map (·.1)++b.map (·.1),()⟩⟩⟩⟩⟩⟩:Sr0S)):=by
  unfold Kc
  dsimp only
  have h1:=Jrx L2_L1 a b 1 b a b (a.map (·.1)) (by omega) (by rw [Ah];omega)
  generalize a.map (·.1)=m at *
  generalize b.map (·.1)=n at *
  rw [Xw (by decide),br_f (by rw [Yt];rfl),br_t (by rw [Yt];rfl),w_ln]
  refine (lo_s h1).trans ?_
  rfl
 have s2:@Kc wv (⟨a,⟨b,⟨2,⟨a,⟨b,⟨a.map (·.1)++b.map (·.1),()⟩⟩⟩⟩⟩⟩:Sr0S)=some (.out (⟨a,⟨b,⟨a.map (·.1)++b.map (·.1),()⟩⟩⟩:HP Reg (HP Reg (HP (List Int) Unit)))):=by
  unfold Kc
  dsimp only
  rw [Kz (by decide)]
 exact Xa (b:=@Kc wv) (fun i=>match i with
  | 0=>(⟨a,⟨b,⟨0,⟨a,⟨b,⟨[],()⟩⟩⟩⟩⟩⟩:Sr0S)
  | 1=>⟨a,⟨b,⟨1,⟨a,⟨b,⟨a.map (·.1),()⟩⟩⟩⟩⟩⟩
  | _=>⟨a,⟨b,⟨2,⟨a,⟨b,⟨a.map (·.1)++b.map (·.1),()⟩⟩⟩⟩⟩⟩) 2 (by decide) (fun i hi=>by
  rcases (show i=0∨i=1 by omega) with rfl|rfl
  ·exact s0
  ·exact s1) s2
abbrev Sr3S:=HP (List Int) (HP Int (HP Int (HP Reg (HP Reg (HP Reg Unit)))))
theorem Jgj (a b:Reg) (ha:RegOK a) (hb:RegOK b) (hla:LimR a) (hlb:LimR b):∃U,@Y1 wv (a,b)=some U∧RegOK U∧∀c,Kg U c↔Kg a c∧¬Kg b c:=by
 classical
 have hna:=Jgv ha
 have hnb:=Jgv hb
 obtain ⟨ys,hs1,hs2,hs3⟩:=sortI_ok (a.map (·.1)++b.map (·.1)) (by rw [Aj,Ah,Ah];omega)
 obtain ⟨hc1,hc2⟩:=Jx9 ys hs2
 have hyb:∀y∈cptF ys,-4096≤y∧y<4096:=fun y hy=>by
  rw [hc2,hs3,Ab,Ai,Ai] at hy
  rcases hy with ⟨w,hw,rfl⟩|⟨w,hw,rfl⟩
  ·exact ha.y w hw
  ·exact hb.y w hw
 have hmem:∀c:Cell,Kg a c→c.2∈cptF ys:=fun c ⟨w,hw,e,_⟩=>by
  rw [hc2,hs3,Ab]
  exact .inl (Ai.2 ⟨w,hw,e⟩)
 have hyl:(cptF ys).length≤8192:=by
  have h1:((cptF ys).map fun y=>(y+4096).toNat).Nodup:=Bb.2 ((List.Pairwise.and_mem.1 hc1).imp fun {x z} ⟨hx,hz,hxz⟩ e=>by
   have:=hyb x hx
   have:=hyb z hz
   omega)
  have:=Jg2 (n:=8192) h1 fun x hx=>by
   obtain ⟨u,hu,rfl⟩:=Ai.1 hx
   have:=hyb u hu
   omega
  rwa [Ah] at this
 generalize hzs:cptF ys=zs at *
 have row8:∀ {r:Reg},RegOK r→∀y,RunsOK (-4096) 4096 (Jhe r y):=fun {r} h y=>by
  unfold Jhe
  split
  ·rename_i w hw
   exact h.rs w (Ao hw)
  ·exact ⟨by simp,.nil⟩
 obtain ⟨e,he,U,rfl,h1,h2⟩:=Zm (b:=@Qn wv)
  (fun i s=>∃E,s=(⟨zs,⟨(zs.length:Int),⟨(i:Int),⟨a,⟨b,⟨E,()⟩⟩⟩⟩⟩⟩:Sr3S)∧RegOK E∧(∀c,Kg E c↔c.2∈zs.take i∧Kg a c∧¬Kg b c)∧∀v∈E,v.1∈zs.take i)
  (fun e=>∃E,e=(⟨E,()⟩:HP Reg Unit)∧RegOK E∧∀c,Kg E c↔Kg a c∧¬Kg b c)
  zs.length (by omega) (s0:=⟨zs,⟨(zs.length:Int),⟨0,⟨a,⟨b,⟨[],()⟩⟩⟩⟩⟩⟩)
  ⟨[],rfl,⟨by simp,.nil,by simp,by simp⟩,fun c=>⟨fun ⟨w,hw,_⟩=>(Ag hw).elim,fun ⟨h,_⟩=>by rw [List.take_zero] at h;exact (Ag h).elim⟩,fun v hv=>(Ag hv).elim⟩
  (fun i s hi=>by
   rintro ⟨E,rfl,h1,h2,h3⟩
   have hz:=Ac hi
   generalize zs[i]=y at hz
   have hym:=Ae hz
   have hy:=hyb y hym
   have r1:=row8 ha y
   have r2:=row8 hb y
   obtain ⟨l,q1,q2,q3⟩:=Jlh (Jhe a y) (Jhe b y) (by have:=Jbi r1;omega) (by have:=Jbi r2;omega) (Jv0 ha y) (Jv0 hb y)
   have q2':RunsOK (-4096) 4096 l:=Jpy q2 fun x hx=>by
    obtain ⟨u,hu,g1,g2⟩:=((q3 x).1 hx).1
    have:=r1.bd u hu
    omega
   have q4:∀x,Jj l x↔Kg a (x,y)∧¬Kg b (x,y):=fun x=>by rw [q3,←Jsj ha (x,y),←Jsj hb (x,y)]
   have hll:=Jbi q2'
   have hEl:=Jgv h1
   have ht:=Xi hz
   have e3:@W.ar wv .add .i64 (i:Int) 1=((i+1:Nat):Int):=by rw [K4,wr (by omega) (by omega)];omega
   have hlt:∀v∈E,v.1<y:=fun v hv=>by
    obtain ⟨j,hj⟩:=Au (h3 v hv)
    have hjl:=(Ad.1 hj).1
    rw [Am] at hjl
    rw [Aq (by omega)] at hj
    obtain ⟨p1,e1⟩:=Ad.1 hj
    obtain ⟨p2,e2⟩:=Ad.1 hz
    have:=Ba.1 hc1 j i p1 p2 (by omega)
    rwa [e1,e2] at this
   by_cases hne:l=[]
   ·refine ⟨(⟨zs,⟨(zs.length:Int),⟨((i+1:Nat):Int),⟨a,⟨b,⟨E,()⟩⟩⟩⟩⟩⟩:Sr3S),?_,E,rfl,h1,fun c=>?_,fun v hv=>?_⟩
    ·unfold Qn
     dsimp only
     rw [Xw (by omega),ge_s (fg hz),Jbw hla ha,Jbw hlb hb]
     refine (ca_s (c:=Kh) q1).trans ?_
     rw [br_f (by rw [Jan,w_ln,hne];rfl),e3]
    ·rw [h2,ht,Ab,Aa]
     constructor
     ·rintro ⟨g1,g2⟩;exact ⟨.inl g1,g2⟩
     ·rintro ⟨g1|g1,g2⟩
      ·exact ⟨g1,g2⟩
      ·have:=(q4 c.1).2 (by rw [←g1];exact g2)
       rw [hne] at this
       obtain ⟨u,hu,_⟩:=this
       exact (Ag hu).elim
    ·rw [ht];exact Ab.2 (.inl (h3 v hv))
   ·have hp:=Ax.2 hne
    refine ⟨(⟨zs,⟨(zs.length:Int),⟨((i+1:Nat):Int),⟨a,⟨b,⟨E++[(y,l)],()⟩⟩⟩⟩⟩⟩:Sr3S),?_,_,rfl,Jwf (w:=(y,l)) h1 hy hne q2' hlt,fun c=>?_,fun v hv=>?_⟩
    ·unfold Qn
     dsimp only
     rw [Xw (by omega),ge_s (fg hz),Jbw hla ha,Jbw hlb hb]
     refine (ca_s (c:=Kh) q1).trans ?_
     rw [br_t (by rw [Jan,w_ln];exact decide_eq_true (by omega))]
     refine (ca_s (c:=Kf) (Juk l (by omega))).trans ?_
     rw [w_ln,w_pl,Jzf (by omega) (by omega),w_ap,e3]
    ·rw [J1b,h2,ht,Ab,Aa]
     constructor
     ·rintro (⟨g1,g2⟩|⟨e,g⟩)
      ·exact ⟨.inl g1,g2⟩
      ·have e:y=c.2:=e
       have:=(q4 c.1).1 g
       rw [e] at this
       exact ⟨.inr e.symm,this⟩
     ·rintro ⟨g1|g1,g2⟩
      ·exact .inl ⟨g1,g2⟩
      ·exact .inr ⟨g1.symm,(q4 c.1).2 (by rw [←g1];exact g2)⟩
    ·rw [ht]
     rcases Ab.1 hv with q|q
     ·exact Ab.2 (.inl (h3 v q))
     ·rw [Aa] at q
      subst q
      exact Ab.2 (.inr (Aa.2 rfl)))
  (by
   rintro s ⟨E,rfl,h1,h2,h3⟩
   refine ⟨_,?_,E,rfl,h1,fun c=>?_⟩
   ·unfold Qn
    dsimp only
    rw [Kz (by omega)]
   ·rw [h2,Af]
    exact ⟨And.right,fun g=>⟨hmem c g.1,g⟩⟩)
 refine ⟨U,?_,h1,h2⟩
 unfold Y1
 dsimp only
 rw [Ze hla,br_f (by simp [w_nt,ha]),Ze hlb,br_f (by simp [w_nt,hb])]
 refine (lo_s (J19 a b (by omega) (by omega))).trans ?_
 dsimp only
 refine (ca_s (c:=Juy) hs1).trans ((ca_s (c:=Jm2) (a:=ys) (r:=cptF ys) rfl).trans ?_)
 rw [hzs,w_ln]
 exact (lo_s he).trans rfl
theorem Jt5 {r:Reg} (h:RegOK r):LimR r:=⟨by have:=Jgv h;omega,fun w hw=>by have:=Jbi (h.rs w hw);omega⟩
theorem J1z (r:Reg) (c:Cell):Jxb r c↔Kg r c∧¬deep r 1 c:=by
 unfold Jxb deep
 refine and_congr Iff.rfl ⟨fun ⟨dx,dy,h1,h2,h3,h4,h5⟩ h=>h5 (h dx dy h1 h2 h3 h4),fun h=>?_⟩
 apply Classical.byContradiction
 intro hn
 refine h fun dx dy h1 h2 h3 h4=>?_
 apply Classical.byContradiction
 intro h5
 exact hn ⟨dx,dy,h1,h2,h3,h4,h5⟩
theorem Ring_ok (r:Reg) (hr:RegOK r):∃U,@Jbm wv r=some U∧RegOK U∧∀c,Kg U c↔Jxb r c:=by
 have hl:=Jt5 hr
 obtain ⟨E,h1,h2,h3⟩:=Erode_ok r hr hl 1 (by decide)
 obtain ⟨U,g1,g2,g3⟩:=Jgj r E hr h2 hl (Jt5 h2)
 refine ⟨U,?_,g2,fun c=>?_⟩
 ·unfold Jbm
  exact (ca_s (c:=jf) h1).trans ((ca_s (c:=X4) g1).trans rfl)
 ·rw [g3,h3,J1z]
theorem Js3 (r:Reg) (hr:RegOK r) (hc:(Zd r).length≤1000) (hst:Starts r (Xj r)):∃T,@jo wv ((Xj r).map (Jal r))=some T∧RegOK T∧∀c,Kg T c↔Jxb r c:=by
 have hck:=Jps r
 have hsl:=Jml hst
 have hlen:((Xj r).map (Jal r)).length≤4000:=by rw [Ah];omega
 have hfl:(((Xj r).map (Jal r)).flatMap fun t=>t.2.2).length≤1000000000:=by
  have:=Jjf (f:=fun t:Jkk=>t.2.2) (l:=(Xj r).map (Jal r)) (n:=8000) fun t ht=>by
   obtain ⟨s,hs,rfl⟩:=Ai.1 ht
   have h1:=Jwd (raw r s (perN r s))
   have h2:=Jkv r s (perN r s)
   have h3:=Jpq ((hst.mem s).1 hs).1
   unfold Jal
   dsimp only
   omega
  have h2:((Xj r).map (Jal r)).length * 8000≤4000 * 8000:=Nat.mul_le_mul_right _ hlen
  omega
 obtain ⟨T,h1,h2,h3⟩:=Cover_ok ((Xj r).map (Jal r)) (by omega) hfl
 refine ⟨T,h1,h2,fun c=>(h3 c).trans ⟨?_,fun h=>?_⟩⟩
 ·rintro ⟨t,ht,-,hm⟩
  obtain ⟨s,hs,rfl⟩:=Ai.1 ht
  exact Jtz ((hst.mem s).1 hs).1 ((Jo8 c).1 hm)
 ·obtain ⟨s,hs,hm⟩:=Jtn h
  exact ⟨Jal r s,Ai.2 ⟨s,(hst.mem s).2 hs,rfl⟩,walk_VT hr (by omega) hs.1,(Jo8 c).2 hm⟩
theorem Jtk (r:Reg):@J0 wv r=some true:=by
 classical
 obtain ⟨b,hb,hp⟩:=Small_ok r
 unfold J0
 refine (ca_s (c:=Qd) hb).trans ?_
 cases b with
 | false=>rw [br_t (by rfl),Jt9]
 | true =>
  obtain ⟨hl,hc⟩:=hp rfl
  rw [br_f (by rfl),Ze hl]
  by_cases hr:RegOK r
  case neg=>rw [br_t (by simp [w_nt,hr]),Jt9]
  have hc:=hc hr
  have hck:RegOK r→(cks r).length≤1000000:=fun h=>by have:=Jps r;omega
  obtain ⟨T,h1,h2,h3⟩:=Js3 r hr (by omega) ((Jpf r hl hck).2 hr)
  obtain ⟨U,g1,g2,g3⟩:=Ring_ok r hr
  have e:U=T:=reg_uniq g2 h2 fun c=>(g3 c).trans (h3 c).symm
  subst e
  rw [br_f (by simp [w_nt,hr]),k_Walk hl (fun _=>by omega),if_pos hr]
  refine (ca_s (c:=Zx) h1).trans ((ca_s (c:=zp) g1).trans ((ca_s (c:=Qp) (Jz9 U (Jt5 h2))).trans ?_))
  rw [br_t (by rfl),Jt9]
end Go.Proofs.YtmfagdfkpjgeiaaGreat
