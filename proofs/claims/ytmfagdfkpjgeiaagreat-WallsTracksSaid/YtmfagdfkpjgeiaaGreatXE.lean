/- Choosing the next crack. Conditions: at most 10^9 headings at a corner and corners so far. -/
import Derived.Test.YtmfagdfkpjgeiaaGreatXD
set_option linter.unusedVariables false
set_option linter.unusedSimpArgs false
set_option linter.unusedSectionVars false
set_option maxRecDepth 100000
namespace Go.Proofs.YtmfagdfkpjgeiaaGreat
open Go Go.Vv Go.Dn Go.Dn.W
open List renaming length_map -> Aa, getElem?_eq_some_iff -> Ab, getElem?_eq_getElem -> Ac, mem_of_getElem? -> Ad, length_append -> Ae, length_range -> Af, mem_singleton -> Ag, getElem?_map -> Ah, range -> Ai, map_append -> Aj, length_cons -> Ak, mem_range -> Am, getElem?_of_mem -> Ao, mem_map -> Ap, mem_append -> Aq, pairwise_iff_getElem -> Ar, append_assoc -> As, length_take -> Au, take_length -> Av, map_congr_left -> Ax, append_nil -> Ay, pairwise_singleton -> Az, take_of_length_le -> Ba, eq_nil_of_length_eq_zero -> Bc, getElem?_append_right -> Bh, getLast?_eq_getElem? -> Bj, range_succ -> Bk, head?_eq_getElem? -> Bl, pairwise_append -> Bn
open Int renaming toNat_natCast -> Aw, sub_self -> Bd, tmod_eq_emod_of_nonneg -> Bg
open Nat renaming mod_eq_of_lt -> Bb, add_sub_cancel -> Be, le_refl -> Bf
open Bool renaming and_eq_false_iff -> Bm
def mV(l:List Int)(a b c:Int):Int:=if a∈l then a else if b∈l then b else if c∈l then c else b
def Mx(po:List Cell)(q:Cell)(h h':Int):List Cell:=if h'≠h then po++[q] else po
theorem Jjt{α:Type}{m:Cr}{p:Cell}{x:Int}(hl:(Cu m p).length<=1000000000)(k:Bool->Option α):@W.call wv α Jb ((@W.mg wv (.p I I) (.ls I) m p [],x):List Int×Int) k=k (decide (x∈Cu m p)):=by rw [sQ];exact J5d hl k
section
variable (a:AY) (h hl hr s5 s6:Int) (m:Cr) (s8 s9 x y:Int) (s12:List Cell) (s13:List (List Cell)) (po:List Cell)
abbrev TP(h hl hr s5 s6:Int)(m:Cr)(s8 s9 x y:Int)(s12:List Cell)(s13:List (List Cell))(po:List Cell)(i:Nat):HP Int (HP Int (HP Int (HP Int (HP Int (HP Int (HP Int (HP Cr (HP Int (HP Int (HP Int (HP Int (HP (List Cell) (HP (List (List Cell)) (HP (List Cell) Unit)))))))))))))):=
 ⟨h,hl,h,hr,(i:Int),s5,s6,m,s8,s9,x,y,s12,s13,po,()⟩
abbrev Le(h:Int)(s5 s6:Int)(m:Cr)(s8 s9 x y:Int)(s12:List Cell)(s13:List (List Cell))(po:List Cell)(c:Int):HP Int (HP Int (HP Int (HP Cr (HP Int (HP Int (HP Int (HP Int (HP (List Cell) (HP (List (List Cell)) (HP (List Cell) Unit)))))))))):=
 ⟨c,s5,s6,m,s8,s9,x,y,s12,s13,Mx po (x,y) h c,()⟩
theorem J1m(f:(Cu m (x,y)).length<=1000000000)(l:po.length<=1000000000){i:Nat}{c:Int}(hi:i=0/\c=hl\/i=1/\c=h\/i=2/\c=hr) :
  @Qc wv a (TP h hl hr s5 s6 m s8 s9 x y s12 s13 po i)=if c∈Cu m (x,y) then some (.out (Le h s5 s6 m s8 s9 x y s12 s13 po c)) else some (.go (TP h hl hr s5 s6 m s8 s9 x y s12 s13 po (i+1))):=by
 have g:@W.ar wv .add .i64 (i:Int) 1=((i+1:Nat):Int):=by rw [J3,wr (by omega) (by omega)];omega
 have tail:∀(c:Int),(@W.br wv (Nx _ _) (decide (c∈Cu m (x,y))) (@W.br wv _ (@W.cm wv .neq c h) (@W.gd wv _ (@W.ft wv 16 (@W.pl wv (@W.ln wv Cell po) 1)) (some (.out (⟨c,s5,s6,m,s8,s9,x,y,s12,s13,@W.ap wv Cell po ((x,y)::[]),()⟩:HP Int (HP Int (HP Int (HP Cr (HP Int (HP Int (HP Int (HP Int (HP (List Cell) (HP (List (List Cell)) (HP (List Cell) Unit))))))))))))))
   (some (.out ⟨c,s5,s6,m,s8,s9,x,y,s12,s13,po,()⟩))) (some (.go (TP h hl hr s5 s6 m s8 s9 x y s12 s13 po (i+1)))))=if c∈Cu m (x,y) then some (.out (Le h s5 s6 m s8 s9 x y s12 s13 po c)) else some (.go (TP h hl hr s5 s6 m s8 s9 x y s12 s13 po (i+1))):=by
  intro c;by_cases d:c∈Cu m (x,y)
  ·rw [BA (decide_eq_true d),if_pos d];by_cases e:c=h
   ·rw [AU (by rw [GZ];simp [e]),Le,Mx,if_neg (by simp [e])]
   ·rw [BA (by rw [GZ];simpa using e),AO,BX,FH (by omega) (by omega),CV,Le,Mx,if_pos e]
  ·rw [AU (decide_eq_false d),if_neg d]
 unfold Qc;dsimp only;rw [g];rcases hi with ⟨rfl,rfl⟩|⟨rfl,rfl⟩|⟨rfl,rfl⟩
 ·rw [J5 (by decide),BA (by rfl)];exact (Jjt f _).trans (tail _)
 ·rw [J5 (by decide),AU (by rfl),BA (by rfl)];exact (Jjt f _).trans (tail _)
 ·rw [J5 (by decide),AU (by rfl),AU (by rfl),BA (by rfl)];exact (Jjt f _).trans (tail _)
theorem gX:@Qc wv a (TP h hl hr s5 s6 m s8 s9 x y s12 s13 po 3)=some (.out (Le h s5 s6 m s8 s9 x y s12 s13 po h)):=by unfold Qc;dsimp only;rw [Jr (by decide),Le,Mx,if_neg (by simp)]
theorem oh:@Jfo wv=@Qc wv:=rfl
theorem om(o:(Cu m (x,y)).length<=1000000000)(l:po.length<=1000000000) :
  X0 (@Qc wv a) CU (TP h hl hr s5 s6 m s8 s9 x y s12 s13 po 0)=some (Le h s5 s6 m s8 s9 x y s12 s13 po (mV (Cu m (x,y)) hl h hr)):=by
 have d:=J1m a h hl hr s5 s6 m s8 s9 x y s12 s13 po o l (.inl ⟨rfl,rfl⟩);have f:=J1m a h hl hr s5 s6 m s8 s9 x y s12 s13 po o l (.inr (.inl ⟨rfl,rfl⟩));have g:=J1m a h hl hr s5 s6 m s8 s9 x y s12 s13 po o l (.inr (.inr ⟨rfl,rfl⟩));have A:=gX a h hl hr s5 s6 m s8 s9 x y s12 s13 po;unfold mV;by_cases w:hl∈Cu m (x,y)
 ·rw [if_pos w] at d ⊢;exact Ki (TP h hl hr s5 s6 m s8 s9 x y s12 s13 po) 0 (by decide) (λi hi=>by omega) d
 rw [if_neg w] at d ⊢;by_cases v:h∈Cu m (x,y)
 ·rw [if_pos v] at f ⊢;exact Ki (TP h hl hr s5 s6 m s8 s9 x y s12 s13 po) 1 (by decide) (λi hi=>by rw [show i=0 by omega];exact d) f
 rw [if_neg v] at f ⊢;by_cases r:hr∈Cu m (x,y)
 ·rw [if_pos r] at g ⊢;exact Ki (TP h hl hr s5 s6 m s8 s9 x y s12 s13 po) 2 (by decide) (λi hi=>by
   rcases (show i=0\/i=1 by omega) with rfl|rfl
   ·exact d
   ·exact f) g
 rw [if_neg r] at g ⊢;exact Ki (TP h hl hr s5 s6 m s8 s9 x y s12 s13 po) 3 (by decide) (λi hi=>by
  rcases (show i=0\/i=1\/i=2 by omega) with rfl|rfl|rfl
  ·exact d
  ·exact f
  ·exact g) A
end
abbrev gL:=HP Int (HP Int (HP Int (HP Cr (HP Int (HP Int (HP Int (HP Int (HP (List Cell) (HP (List (List Cell)) (HP (List Cell) Unit))))))))))
abbrev gV:=HP Int (HP Int (HP Cr (HP (List Cell) (HP (List (List Cell)) (HP (List Cell) Unit)))))
abbrev jT(h n i:Int)(m:Cr)(x0 y0 x y:Int)(cs:List Cell)(out:List (List Cell))(po:List Cell):gL:=⟨h,n,i,m,x0,y0,x,y,cs,out,po,()⟩
abbrev tQ(n i:Int)(m:Cr)(cs:List Cell)(out:List (List Cell))(po:List Cell):gV:=⟨n,i,m,cs,out,po,()⟩
noncomputable def jV(h n i:Int)(m:Cr)(x0 a:Int)(q:Cell)(cs:List Cell)(out:List (List Cell))(po:List Cell):Nx gL gV:=
 if q=(x0,a) then .out (tQ n i m cs out po) else
  .go (jT (mV (Cu m q) ((h+1) % 4) h ((h+3) % 4)) n i m x0 a q.1 q.2 cs out (Mx po q h (mV (Cu m q) ((h+1) % 4) h ((h+3) % 4))))
theorem Kaq(a:AY)(h n i:Int)(m:Cr)(x0 d x y:Int)(cs:List Cell)(out:List (List Cell))(po:List Cell)(f:0<=h/\h<=3)(hs:X5 (x,y))(r:(Cu m (Zb h (x,y))).length<=1000000000)(o:po.length<=1000000000) :
  (@W.call wv (Nx gL gV) Ko ((h,(x,y)):Int×(Int×Int)) λ(v:Int×Int)=>
   @W.br wv (Nx gL gV) (@W.an wv (@W.cm wv .eql v.1 x0) (@W.cm wv .eql v.2 d)) (some (.out (tQ n i m cs out po)))
   (@W.call wv (Nx gL gV) Kl (h:Int) λ(v20:Int)=>@W.call wv (Nx gL gV) Ke (h:Int) λ(v21:Int)=>
    @W.loop wv _ _ (Nx gL gV) (@Qc wv a) ⟨h,v20,h,v21,0,n,i,m,x0,d,v.1,v.2,cs,out,po,()⟩ λv25=>
     some (.go ⟨v25.e,v25.j.e,v25.j.j.e,v25.j.j.j.e,v25.j.j.j.j.e,v25.j.j.j.j.j.e,v25.j.j.j.j.j.j.e,v25.j.j.j.j.j.j.j.e,v25.j.j.j.j.j.j.j.j.e,v25.j.j.j.j.j.j.j.j.j.e,v25.j.j.j.j.j.j.j.j.j.j.e,()⟩))) =
   some (jV h n i m x0 d (Zb h (x,y)) cs out po):=by
 rw [dw hs];generalize Zb h (x,y)=q at *
 obtain ⟨qx,qy⟩:=q;unfold jV;by_cases e:(qx,qy)=(x0,d)
 ·rw [if_pos e,BA (by rw [LJ,Qn,Qn];injection e with l g;simp [l,g])]
 ·rw [if_neg e,AU (by
   rw [LJ,Qn,Qn,Bm,beq_eq_false_iff_ne,beq_eq_false_iff_ne];by_cases l:qx=x0
   ·exact .inr λg=>e (by dsimp only at g;rw [l,g])
   ·exact .inl l),dh f.1 f.2,WH f.1 f.2]
  refine (BL (om a h ((h+1) % 4) ((h+3) % 4) n i m x0 d qx qy cs out po r o)).trans ?_;rfl
theorem yR{m:Cr}{T:Cell->Int->Prop}(h:BN m T)(hT:∀p x,T p x->x=0\/x=1\/x=2\/x=3)(p:Cell):(Cu m p).length<=4:=
 Tm (m:=[0,1,2,3]) (h.one p) λx hx=>by rcases hT p x ((h.mem p x).1 hx) with rfl|rfl|rfl|rfl<;>simp
theorem XM(a:AY)(h n i:Int)(m:Cr)(x0 f x y:Int)(cs:List Cell)(out:List (List Cell))(po:List Cell){T:Cell->Int->Prop}(hM:BN m T)(hT:∀p x,T p x->x=0\/x=1\/x=2\/x=3)(hx:T (x,y) h)
  (hs:X5 (x,y)) (r:po.length<=1000000000) :
  ∃o,BN o (λq z=>T q z/\¬(q=(x,y)/\z=h))/\@Qw wv a (jT h n i m x0 f x y cs out po)=some (jV h n i o x0 f (Zb h (x,y)) cs out po):=by
 have w:0<=h/\h<=3:=by have:=hT _ _ hx;omega
 have K:=yR hM hT (x,y);obtain ⟨e,A,F⟩:=J9j (l:=Cu m (x,y)) h (by omega);have d:h∈Cu m (x,y):=(hM.mem _ _).2 hx;rcases F with ⟨_,G⟩|⟨j,v,rfl⟩
 ·exact (G d).elim
 have H:=(Ab.1 v).1;have em:@W.mg wv (.p I I) (.ls I) m (x,y) []=Cu m (x,y):=sQ m (x,y);have ed:@W.md wv (.p I I) (.ls I) m (x,y)=FV m (x,y):=dX m (x,y);by_cases g:(Cu m (x,y)).length=1
 ·have hl:Cu m (x,y)=[h]:=by obtain ⟨z,E⟩:=List.length_eq_one_iff.1 g;rw [E] at d ⊢;rw [Ag.1 d]
  have hM':=hM.del hl;refine ⟨_,hM',?_⟩;have J:=yR hM' (λp x h=>hT p x h.1) (Zb h (x,y));unfold Qw;dsimp only;rw [em,A,Jr (by omega),BA (by show (((Cu m (x,y)).length:Int)==1)=true;rw [g];rfl),ed];exact Kaq a h n i (FV m (x,y)) x0 f x y cs out po w hs (by omega) r
 ·have hM':=hM.cut v g;refine ⟨_,hM',?_⟩;have J:=yR hM' (λp x h=>hT p x h.1) (Zb h (x,y));unfold Qw;dsimp only;have B:@W.ar wv .add .i64 (j:Int) 1=((j+1:Nat):Int):=by rw [J3,wr (by omega) (by omega)];omega
  have ec:(Cu m (x,y)).take (j:Int).toNat++((Cu m (x,y)).drop ((j+1:Nat):Int).toNat).take (((Cu m (x,y)).length:Int) - ((j+1:Nat):Int)).toNat=(Cu m (x,y)).take j++(Cu m (x,y)).drop (j+1):=by
   congr 1
   rw [Aw,Ba (by rw [List.length_drop];omega)]
  have es:@W.ms wv (.p I I) (.ls I) m (x,y) (@W.ap wv I.T (@W.ct wv I.T (Cu m (x,y)) 0 (j:Int)) (@W.ct wv I.T (Cu m (x,y)) (@W.ar wv .add .i64 (j:Int) 1) (@W.mi wv (@W.ln wv I.T (Cu m (x,y))) (@W.ar wv .add .i64 (j:Int) 1))))=EZ m (x,y) ((Cu m (x,y)).take j++(Cu m (x,y)).drop (j+1)):=by rw [B,<-ec];exact Pb m (x,y) _
  rw [em,A,Jr (by omega),AU (by show (((Cu m (x,y)).length:Int)==1)=false;rw [beq_eq_false_iff_ne];omega),es];refine (Ei (n:=((Cu m (x,y)).length:Int)) (by omega) (by omega) (by decide)).trans ?_;refine (Cb (show ((decide (0<=(j:Int)/\(j:Int)<(Cu m (x,y)).length))&&((decide ((j:Int)+1<=@W.ar wv .add .i64 (j:Int) 1))&&(decide (@W.ar wv .add .i64 (j:Int) 1<=((Cu m (x,y)).length:Int)))))=true by rw [B];simp only [Bool.and_eq_true,decide_eq_true_eq];omega)).trans ?_
  rw [oh];exact Kaq a h n i _ x0 f x y cs out po w hs (by omega) r
theorem O5{m:Cr}{T:Cell->Int->Prop}(hM:BN m T){r:AY}(hT:∀p x,T p x->DI r p x){p:Cell}{x:Int}(o:T (Zb x p) (Eb r p x)) :
  mV (Cu m (Zb x p)) ((x+1) % 4) x ((x+3) % 4)=Eb r p x:=by
 unfold mV;have d:∀y,y∈Cu m (Zb x p)->DI r (Zb x p) y:=λy l=>hT _ _ ((hM.mem _ _).1 l);have a:=(hM.mem _ _).2 o;unfold Eb at a ⊢;dsimp only at a ⊢;by_cases g:DI r (Zb x p) ((x+1) % 4)
 ·rw [if_pos g] at a ⊢;rw [if_pos a]
 ·rw [if_neg g] at a ⊢;rw [if_neg λh=>g (d _ h)];by_cases f:DI r (Zb x p) x
  ·rw [if_pos f] at a ⊢;rw [if_pos a]
  ·rw [if_neg f] at a ⊢;rw [if_neg λh=>f (d _ h),if_pos a]
theorem TB{r:AY}(hr:AL r){p:Cell}{x:Int}(h:DI r p x):X5 p:=by have:=hr.bd (J63 h);unfold Qm at this;unfold X5;rcases h.e with rfl|rfl|rfl|rfl<;>simp at this<;>omega
theorem J16(r:AY)(s:Ck)(a n:Nat):(seg r s a n).length<=n:=by have:=List.length_filterMap_le (λi=>JJ r s (a+i)) (Ai n);rw [Af] at this;exact this
theorem oo(a r:AY)(hr:AL r)(L:(Cy r).length<=1000000){S:Ck->Prop}(hS:Closed r S){m:Cr}(hM:BN m λp x=>S (p,x)){s:Ck}(hs:S s)(hl:CS r s)(n i:Int)(cs:List Cell)(out:List (List Cell)) :
  ∃d,X0 (@Qw wv a) CU (jT s.2 n i m s.1.1 s.1.2 s.1.1 s.1.2 cs out [s.1])=some (tQ n i d cs out (pol r s))/\BN d (λp x=>S (p,x)/\¬ ∃k,(p,x)=BR (nx r) k s):=by
 have hN:=YN hl.1;have P:=kZ hl.1;have hp:=hN.pos;unfold pol;generalize EK r s=N at *
 obtain ⟨M,rfl⟩:∃M,N=M+1:=⟨N - 1,by omega⟩;have f:=hl.mem;have step:∀k,k<M+1->∀m,BN m (λp x=>S (p,x)/\¬ ∃j,j<k/\(p,x)=BR (nx r) j s) ->
   ∃d,BN d (λp x=>S (p,x)/\¬ ∃j,j<k+1/\(p,x)=BR (nx r) j s) /\
    @Qw wv a (jT (Cc r s k) n i m s.1.1 s.1.2 (DV r s k).1 (DV r s k).2 cs out (s.1::seg r s 0 k))=some (jV (Cc r s k) n i d s.1.1 s.1.2 (DV r s (k+1)) cs out (s.1::seg r s 0 k)):=by
  intro k K m O;have hSk:S (DV r s k,Cc r s k):=hS.BR hs k;obtain ⟨d,w,v⟩:=XM a (Cc r s k) n i m s.1.1 s.1.2 (DV r s k).1 (DV r s k).2 cs out (s.1::seg r s 0 k) O (λp x h=>(hS.1 _ h.1).e) ⟨hSk,λ⟨j,o,e⟩=>by have:=(ring r).dist f hN (i:=j) (j:=k) (by omega) K e.symm;omega⟩ (TB hr (hS.1 _ hSk)) (by have:=J16 r s 0 k;rw [Ak];omega)
  refine ⟨d,w.congr λp x=>?_,v⟩;constructor
  ·rintro ⟨⟨l,g⟩,X⟩;refine ⟨l,λ⟨j,o,e⟩=>?_⟩;by_cases G:j=k
   ·subst G;exact X ⟨congrArg Prod.fst e,congrArg Prod.snd e⟩
   ·exact g ⟨j,by omega,e⟩
  ·rintro ⟨l,g⟩;refine ⟨⟨l,λ⟨j,o,e⟩=>g ⟨j,by omega,e⟩⟩,λ⟨J,Y⟩=>g ⟨k,by omega,?_⟩⟩;rw [J,Y];rfl
 obtain ⟨e,Q,d,rfl,h⟩:=Xr (b:=@Qw wv a)
  (λk st=>∃m,st=jT (Cc r s k) n i m s.1.1 s.1.2 (DV r s k).1 (DV r s k).2 cs out (s.1::seg r s 0 k)/\BN m (λp x=>S (p,x)/\¬ ∃j,j<k/\(p,x)=BR (nx r) j s))
  (λe=>∃m,e=tQ n i m cs out (poly r s (M+1))/\BN m (λp x=>S (p,x)/\¬ ∃k,(p,x)=BR (nx r) k s))
  M (by omega) (s0:=jT s.2 n i m s.1.1 s.1.2 s.1.1 s.1.2 cs out [s.1])
  ⟨m,rfl,hM.congr λp x=>⟨λh=>⟨h,λ⟨j,o,_⟩=>by omega⟩,And.left⟩⟩
  (λk st K=>by
   rintro ⟨A,rfl,w⟩;obtain ⟨y,v,H⟩:=step k (by omega) A w;have F:DV r s (k+1)≠s.1:=hl.ne hN (k:=k+1) (by omega) (by omega);have E:(λp x=>S (p,x)/\¬ ∃j,j<k+1/\(p,x)=BR (nx r) j s) (Zb (Cc r s k) (DV r s k)) (Eb r (DV r s k) (Cc r s k)):=⟨hS.BR hs (k+1),λ⟨j,o,e⟩=>by have:=(ring r).dist f hN (i:=j) (j:=k+1) (by omega) (by omega) e.symm;omega⟩
   have B:=O5 v (r:=r) (λp x h=>hS.1 _ h.1) E;refine ⟨_,H.trans ?_,y,rfl,v⟩;unfold jV;rw [if_neg F,vF,B];have J:Eb r (DV r s k) (Cc r s k)=Cc r s (k+1):=rfl;rw [J,<-vF]
   congr 3
   rw [qc,Nat.zero_add];unfold Mx;by_cases e:Cc r s (k+1)=Cc r s k
   ·have:JJ r s k=none:=if_pos e;rw [if_neg (by simpa using e),this];simp
   ·have:JJ r s k=some (DV r s (k+1)):=if_neg e;rw [if_pos e,this];rfl)
  (by
   rintro st ⟨A,rfl,w⟩;obtain ⟨y,v,H⟩:=step M (by omega) A w;have R:DV r s (M+1)=s.1:=congrArg Prod.fst hN.back;refine ⟨_,H.trans ?_,y,rfl,v.congr λp x=>⟨λ⟨l,g⟩=>⟨l,λ⟨k,e⟩=>?_⟩,λ⟨l,g⟩=>⟨l,λ⟨j,_,e⟩=>g ⟨j,e⟩⟩⟩⟩
   ·unfold jV;rw [R,if_pos rfl];rfl
   ·obtain ⟨j,o,Z⟩:=hN.Ph k;exact g ⟨j,o,e.trans Z⟩)
 exact ⟨d,Q,h⟩
theorem CS.same{r:AY}{s t:Ck}(h:CS r s)(h':CS r t){k:Nat}(e:t=BR (nx r) k s):t=s:=by
 obtain ⟨j,a⟩:=(YN h.1).to s k;rw [<-e] at a;have f:=h.2 k;have d:=h'.2 j;rw [<-e] at f;rw [a] at d;rcases qE s.1 t.1 with q|q|q
 ·exact (d q).elim
 ·exact h.uniq h' q.symm
 ·exact (f q).elim
abbrev nG(n:Int)(i:Nat)(m:Cr)(cs:List Cell)(out:List (List Cell)):HP Int (HP Int (HP Cr (HP (List Cell) (HP (List (List Cell)) Unit)))):=⟨n,(i:Int),m,cs,out,()⟩
structure jO (r:AY) (cs:List Cell) (i:Nat) (m:Cr) (out:List (List Cell)):Prop where
 ex:∃(S:Ck->Prop) (ls:List Ck),Closed r S/\BN m (λp x=>S (p,x))/\(∀c,S c->∃j,i<=j/\cs[j]?=some c.1)/\out=ls.map (pol r) /\
  ls.Pairwise (λa b=>yx a.1 b.1)/\(∀s∈ls,CS r s/\∃j,j<i/\cs[j]?=some s.1)/\∀s,CS r s->s∈ls\/S s
theorem ZP{cs:List Cell}(h:cs.Pairwise yx){i j:Nat}{a b:Cell}(m:cs[i]?=some a)(l:cs[j]?=some b)(d:i<j):yx a b:=by obtain ⟨g,r⟩:=Ab.1 m;obtain ⟨f,o⟩:=Ab.1 l;rw [<-r,<-o];exact Ar.1 h i j g f d
theorem XO(a r:AY)(hr:AL r)(F:(Cy r).length<=1000000){cs:List Cell}(E:cs.Pairwise yx)(M:cs.length<=1000000000){i:Nat}(hi:i<cs.length){m:Cr}{out:List (List Cell)}(h:jO r cs i m out) :
  ∃G out',@Qx wv a (nG cs.length i m cs out)=some (.go (nG cs.length (i+1) G cs out'))/\jO r cs (i+1) G out':=by
 obtain ⟨S,ls,hS,hM,J,rfl,v,d,o⟩:=h.ex;have f:cs[i]?=some cs[i]:=Ac hi;generalize cs[i]=p at f;have X:=yR hM (λp x h=>(hS.1 _ h).e) p;have P:@W.ar wv .add .i64 (i:Int) 1=((i+1:Nat):Int):=by rw [J3,wr (by omega) (by omega)];omega
 have em:@W.mg wv (.p I I) (.ls I) m (p.1,p.2) []=Cu m p:=sQ m p;cases g:Cu m p with
 | nil=>
  refine ⟨m,_,?_,S,ls,hS,hM,λc hSc=>?_,rfl,v,λs hs=>⟨(d s hs).1,?_⟩,o⟩
  ·unfold Qx;dsimp only;rw [J5 (by omega),FQ (by rw [AO];omega),AP (fg f)];rw [em,g,AU (by rfl),P]
  ·obtain ⟨j,A,e⟩:=J c hSc;refine ⟨j,?_,e⟩;by_cases y:j=i
   ·subst y;rw [f] at e;injection e with e;have:=(hM.mem c.1 c.2).2 hSc;rw [<-e,g] at this;cases this
   ·omega
  ·obtain ⟨j,A,e⟩:=(d s hs).2;exact ⟨j,by omega,e⟩
 | cons x l=>
  have hSp:S (p,x):=(hM.mem p x).1 (by rw [g];exact List.mem_cons_self ..);have B:∀c,S c->¬yx c.1 p:=λc hSc w=>by
   obtain ⟨j,A,e⟩:=J c hSc;rcases Nat.lt_or_eq_of_le A with q|q
   ·exact vL (ZP E f e q) w
   ·subst q;rw [f] at e;injection e with e;rw [e] at w;exact au _ w
  have hl:CS r (p,x):=⟨hS.1 _ hSp,λk=>B _ (hS.BR hSp k)⟩;have L:ls.length<=1000000:=by have H:ls.Nodup:=v.imp λ{a b} (h:yx a.1 b.1) (e:a=b)=>au a.1 (by subst e;exact h);have:(ls.length:Nat)<=(Cy r).length:=Tm H λs hs=>(d s hs).1.mem;omega
  obtain ⟨G,Q,hM'⟩:=oo a r hr F hS hM hSp hl (cs.length:Int) (i:Int) cs (ls.map (pol r));refine ⟨G,_,?_,_,ls++[(p,x)],hS.sub hl.1,hM',λc hSc=>?_,rfl,?_,λs hs=>?_,λt K=>?_⟩
  ·unfold Qx;dsimp only;rw [J5 (by omega),FQ (by rw [AO];omega),AP (fg f)];rw [em,g,BA (by show decide (((x::l).length:Int) > 0)=true;rw [Ak];exact decide_eq_true (by omega))];refine (AP (x:=x) rfl).trans ((BL Q).trans ?_);dsimp only;rw [AO,BX,Aa,Ei (by omega) (by omega) (by decide),P,CV,Aj];rfl
  ·obtain ⟨j,A,e⟩:=J c hSc.1;refine ⟨j,?_,e⟩;by_cases y:j=i
   ·subst y;rw [f] at e;injection e with e;refine (hSc.2 ⟨0,?_⟩).elim;exact hl.only (hS.1 _ hSc.1) e.symm (B _ (hS.2 _ hSc.1))
   ·omega
  ·refine Bn.2 ⟨v,Az _ _,λa R b O=>?_⟩;rw [Ag] at O;subst O;obtain ⟨j,A,e⟩:=(d a R).2;exact ZP E e f A
  ·rcases Aq.1 hs with hs|hs
   ·obtain ⟨j,A,e⟩:=(d s hs).2;exact ⟨(d s hs).1,j,by omega,e⟩
   ·rw [Ag] at hs;subst hs;exact ⟨hl,i,by omega,f⟩
  ·rcases o t K with q|q
   ·exact .inl (Aq.2 (.inl q))
   ·by_cases N:∃k,t=BR (nx r) k (p,x)
    ·obtain ⟨k,e⟩:=N;exact .inl (Aq.2 (.inr (Ag.2 (hl.same K e))))
    ·exact .inr ⟨q,N⟩
open Classical in
noncomputable def X4(r:AY):List Ck:=if h:∃l,Starts r l then h.choose else []
theorem vk{r:AY}{l:List Ck}(h:Starts r l):X4 r=l:=by have hx:∃l,Starts r l:=⟨l,h⟩;unfold X4;rw [dif_pos hx];exact hx.choose_spec.uniq h
theorem ZW(a r:AY)(hr:AL r)(g:(Cy r).length<=1000000){cs:List Cell}(y:cs.Pairwise yx)(f:cs.length<=1000000000){m:Cr}(hM:BN m λp x=>DI r p x)(d:∀p,p∈cs↔∃x,DI r p x) :
  Starts r (X4 r)/\X0 (@Qx wv a) CU (nG cs.length 0 m cs [])=some ⟨(X4 r).map (pol r),()⟩:=by
 obtain ⟨e,E,hQ⟩:=Xr (b:=@Qx wv a)
  (λi s=>∃m out,s=nG cs.length i m cs out/\jO r cs i m out)
  (λe=>∃ls,Starts r ls/\e=⟨ls.map (pol r),()⟩) cs.length (by omega) (s0:=nG cs.length 0 m cs [])
  ⟨m,[],rfl,λc=>DI r c.1 c.2,[],⟨λc h=>h,λc h=>J1w h⟩,hM,λc h=>by obtain ⟨j,A⟩:=Ao ((d c.1).2 ⟨_,h⟩);exact ⟨j,Nat.zero_le _,A⟩,rfl,.nil,λs hs=>(List.not_mem_nil hs).elim,λs hs=>.inr hs.1⟩
  (λi s hi=>by rintro ⟨m,out,rfl,h⟩;obtain ⟨B,out',o,G⟩:=XO a r hr g y f hi h;exact ⟨_,o,B,out',rfl,G⟩)
  (by
   rintro s ⟨m,out,rfl,h⟩;obtain ⟨S,ls,hS,hM,F,rfl,v,w,l⟩:=h.ex;refine ⟨_,?_,ls,⟨v,λc=>⟨λh=>(w c h).1,λh=>(l c h).elim id λq=>?_⟩⟩,rfl⟩
   ·unfold Qx;dsimp only;rw [Jr (by omega)]
   ·obtain ⟨j,A,e⟩:=F c q;have:=(Ab.1 e).1;omega)
 obtain ⟨ls,o,rfl⟩:=hQ;rw [vk o];exact ⟨o,E⟩
theorem J4w{l:List Cell}(g:l.Nodup)(h:l.Pairwise λa b=>Go.Proofs.ltOf IE b a=false)(d:∀x∈l,okB x=true):l.Pairwise yx:=by
 refine (List.Pairwise.and g h).imp_of_mem λ{a b} v r ⟨f,m⟩=>?_;have o:¬IE b a<0:=by simpa [Go.Proofs.ltOf] using m
 rw [aM (d b r) (d a v)] at o;rcases qE a b with q|q|q
 ·exact q
 ·exact (f q).elim
 ·exact (o q).elim
theorem Jo9(p:List Cell)(f:p.length<=1000000)(d:∀x∈p,okB x=true):∃q:List Cell,iD (t:=.p I I) IE okB kC zB p=some q/\q.Perm p/\q.Pairwise λa b=>Go.Proofs.ltOf IE b a=false:=
 Jzo (t:=.p I I) nE (eq:=kC) (d0:=zB) (l:=p) (show p.length<_ by omega) d
open Classical in
theorem vE(r:AY)(hl:DF r)(d:AL r->(Cy r).length<=1000000):@xX wv r=some (if AL r then (X4 r).map (pol r) else [])/\(AL r->Starts r (X4 r)):=by
 unfold xX;rw [rX hl];by_cases hr:AL r
 case neg=>exact ⟨by rw [BA (by simp [BQ,hr]),if_neg hr],λh=>(hr h).elim⟩
 rw [AU (by simp [BQ,hr]),if_pos hr];have d:=d hr;obtain ⟨m,E,hM0⟩:=J6p r r hr hl.1;have hM:BN m λp x=>DI r p x:=hM0.congr λp x=>Wm hr p x;have a:∀p,p∈m.map (·.1)↔∃x,DI r p x:=λp=>hM.key p;have A:m.length<=1000000:=by
  have:(m.map (·.1)).length<=((Cy r).map (·.1)).length:=Tm hM.nd λp f=>by obtain ⟨x,hx⟩:=(a p).1 f;exact Ap.2 ⟨(p,x),zh.2 hx,rfl⟩
  rw [Aa,Aa] at this;omega
 have hokB:∀p,p∈m.map (·.1)->okB p=true:=λp f=>by obtain ⟨x,hx⟩:=(a p).1 f;have:=TB hr hx;unfold X5 at this;unfold okB;exact decide_eq_true (by omega)
 have v:∃l,Starts r l:=by obtain ⟨q,B,o,w⟩:=Jo9 (m.map (·.1)) (by rw [Aa];omega) hokB;exact ⟨_,(ZW r r hr d (cs:=q) (J4w (o.nodup_iff.2 hM.nd) w λx hx=>hokB x (o.mem_iff.1 hx)) (by rw [o.length_eq,Aa];omega) hM λp=>(o.mem_iff).trans (a p)).1⟩
 refine ⟨?_,λ_=>by obtain ⟨l,h⟩:=v;rw [vk h];exact h⟩;rw [AO];refine (BL E).trans ?_;dsimp only;rw [AO,FH (by omega) (by omega)];refine J9d λy f=>?_;obtain ⟨p,rfl⟩:∃p:List Cell,p=y:=⟨y,rfl⟩;have f:List.Perm (α:=Cell) p (m.map (·.1)):=f;obtain ⟨q,B,o,w⟩:=Jo9 p (by rw [f.length_eq,Aa];omega) λx hx=>hokB x (f.mem_iff.1 hx);have g:q.Perm (m.map (·.1)):=o.trans f;have hL6:=(ZW r r hr d (cs:=q) (J4w (g.nodup_iff.2 hM.nd) w λx hx=>hokB x (g.mem_iff.1 hx)) (by rw [g.length_eq,Aa];omega) hM λp=>(g.mem_iff).trans (a p)).2;refine (BH (c:=Jtz) B).trans ?_;rw [AO];exact (BL hL6).trans rfl
open Classical in
theorem WJ{α:Type}{r:AY}(hl:DF r)(a:AL r->(Cy r).length<=1000000)(k:List (List (Int×Int))->Option α):@W.call wv α jq r k=k (if AL r then (X4 r).map (pol r) else []):=BH (c:=jq) (vE r hl a).1
def enc(c:Ck):Cell×Cell:=(c.1,Zb c.2 c.1)
abbrev M6:=HP (List (Int×Int)) (HP Int (HP AY (HP (List (Cell×Cell)) Unit)))
abbrev M7:=HP (List (Cell×Cell)) Unit
noncomputable def side(r:AY)(c:Cell)(e:Cell×Cell)(K:List (Cell×Cell)->Option (Nx M6 M7))(o:List (Cell×Cell)):Option (Nx M6 M7):=
 @W.call wv (Nx M6 M7) Jg ((r,c):AY×(Int×Int)) λv=>
  @W.br wv (Nx M6 M7) (@W.nt wv v) (@W.gd wv (Nx M6 M7) (@W.ft wv 32 (@W.pl wv (@W.ln wv (Cell×Cell) o) 1)) (K (@W.ap wv (Cell×Cell) o (e::[])))) (K o)
open Classical in
theorem uF(r:AY)(hl:DF r)(hr:AL r)(c:Cell)(e:Cell×Cell)(K:List (Cell×Cell)->Option (Nx M6 M7))(o:List (Cell×Cell))(a:o.length<=1000000000) :
  side r c e K o=K (o++if Qo r c then [] else [e]):=by
 unfold side;refine (Jtc hl _).trans ?_;by_cases h:Qo r c
 ·rw [AU (by simp [BQ,hr,h]),if_pos h,Ay]
 ·rw [BA (by simp [BQ,hr,h]),AO,BX,jG (by omega) (by omega),CV,if_neg h]
theorem J01(r:AY)(hl:DF r)(hr:AL r){cells:List Cell}{i:Nat}{x y:Int}(d:cells[i]?=some (x,y))(h:X5 (x,y))(M:cells.length<=1000000000){out:List (Cell×Cell)}(L:out.length<=1000000000 - 10) :
  @Qu wv ⟨cells,(i:Int),r,out,()⟩=some (.go ⟨cells,((i+1:Nat):Int),r,out++(NU r (x,y)).map enc,()⟩):=by
 classical
 obtain ⟨⟨K,J⟩,H,G⟩:=h;dsimp only at K J H G;have g:=(Ab.1 d).1;have A:@W.ar wv .add .i64 (i:Int) 1=((i+1:Nat):Int):=by rw [J3,wr (by omega) (by omega)];omega
 have w:@W.ar wv .add .i64 x 1=x+1:=by rw [J3,wr (by omega) (by omega)]
 have v:@W.ar wv .add .i64 y 1=y+1:=by rw [J3,wr (by omega) (by omega)]
 have m:@W.ar wv .sub .i64 x 1=x - 1:=by rw [Xo,wr (by omega) (by omega)]
 have l:@W.ar wv .sub .i64 y 1=y - 1:=by rw [Xo,wr (by omega) (by omega)]
 unfold Qu;dsimp only;rw [AO,J5 (by omega),AP (fg d),AP (fg d)];dsimp only;rw [A,w,v,m,l];refine (show _=side r (x,y - 1) ((x,y),(x+1,y)) (side r (x+1,y) ((x+1,y),(x+1,y+1)) (side r (x,y+1) ((x+1,y+1),(x,y+1)) (side r (x - 1,y) ((x,y+1),(x,y))
  λo=>some (.go ⟨cells,((i+1:Nat):Int),r,o,()⟩)))) out from rfl).trans ?_
 have f:∀(p:Prop) [Decidable p] (e:Cell×Cell),(if p then [] else [e]).length<=1:=λp _ e=>by split<;>simp
 have P:=f (Qo r (x,y - 1)) ((x,y),(x+1,y));have O:=f (Qo r (x+1,y)) ((x+1,y),(x+1,y+1));have N:=f (Qo r (x,y+1)) ((x+1,y+1),(x,y+1));rw [uF r hl hr _ _ _ _ (by omega),uF r hl hr _ _ _ _ (by rw [Ae];omega),uF r hl hr _ _ _ _ (by rw [Ae,Ae];omega),uF r hl hr _ _ _ _ (by rw [Ae,Ae,Ae];omega)];have a:∀(p:Prop) [Decidable p] (c:Ck),(if p then [] else [c]).map enc=if p then [] else [enc c]:=λp _ c=>by split<;>simp
 have d0:enc ((x,y),0)=((x,y),(x+1,y)):=rfl;have F:enc ((x+1,y),1)=((x+1,y),(x+1,y+1)):=rfl;have E:enc ((x+1,y+1),2)=((x+1,y+1),(x,y+1)):=by show ((x+1,y+1),(x+1 - 1,y+1))=_;rw [Int.add_sub_cancel]
 have B:enc ((x,y+1),3)=((x,y+1),(x,y)):=by show ((x,y+1),(x,y+1 - 1))=_;rw [Int.add_sub_cancel]
 unfold NU;rw [Aj,Aj,Aj,a,a,a,a,d0,F,E,B];simp only [As]
open Classical in
theorem Jv8(r:AY)(hl:DF r)(hr:AL r)(d:(K8 r).length<=1000000):@jk wv r=some ((Cy r).map enc):=by
 unfold jk;rw [J10 hl (λ_=>by omega),if_pos hr];have a:=Ki (b:=@Qu wv) (e:=⟨(Cy r).map enc,()⟩) (λi=>⟨K8 r,(i:Int),r,(((K8 r).take i).flatMap (NU r)).map enc,()⟩) (K8 r).length (by omega) (λi hi=>by
  have hx:=Ac hi;generalize (K8 r)[i]=v at hx;obtain ⟨x,y⟩:=v;have g:=hr.bd (TD.1 (Ad hx));rw [J01 r hl hr hx (by unfold X5;omega) (by omega) (by rw [Aa];have:=Jrm (f:=NU r) (l:=(K8 r).take i) (n:=4) λc _=>Jtx r c;rw [Au] at this;omega),rD hx,Aj]) (by
  unfold Qu;dsimp only;rw [AO,Jr (by omega),Av];rfl)
 exact (BL a).trans rfl
open Classical in
theorem J0e{α:Type}{r:AY}(hl:DF r)(hr:AL r)(a:(K8 r).length<=1000000)(k:List ((Int×Int)×(Int×Int))->Option α):@W.call wv α Qs r k=k ((Cy r).map enc):=BH (c:=Qs) (Jv8 r hl hr a)
theorem Jyl{a b c d:Cell}(l:-4<=b.1 - a.1/\b.1 - a.1<=4)(h:-4<=d.2 - c.2/\d.2 - c.2<=4)(g:-4<=b.2 - a.2/\b.2 - a.2<=4)(f:-4<=d.1 - c.1/\d.1 - c.1<=4) :
  @Xj wv ((a,b),(c,d))=some (decide ((b.1 - a.1) * (d.2 - c.2) - (b.2 - a.2) * (d.1 - c.1) > 0)):=by
 have es:∀a b:Int,-4<=a - b/\a - b<=4->@W.ar wv .sub .i64 a b=a - b:=λa b _=>by rw [Xo,wr (by omega) (by omega)]
 unfold Xj;dsimp only;rw [es b.1 a.1 l,es d.2 c.2 h,es b.2 a.2 g,es d.1 c.1 f];generalize b.1 - a.1=p at *
 generalize d.2 - c.2=q at *
 generalize b.2 - a.2=u at *
 generalize d.1 - c.1=v at *
 have m:∀x y:Int,-4<=x/\x<=4->-4<=y/\y<=4->x * y<=16/\-16<=x * y:=by intro x y hx w;rcases (show x=-4\/x=-3\/x=-2\/x=-1\/x=0\/x=1\/x=2\/x=3\/x=4 by omega) with rfl|rfl|rfl|rfl|rfl|rfl|rfl|rfl|rfl<;>omega
 have r:=m p q l h;have o:=m u v g f;rw [z7,L6,L6,Xo,wr (n:=p * q) (by omega) (by omega),wr (n:=u * v) (by omega) (by omega),wr (by omega) (by omega)]
theorem J1f{p q:Cell}{x y:Int}(hx:x=0\/x=1\/x=2\/x=3)(g:y=0\/y=1\/y=2\/y=3):@Xj wv (enc (p,x),enc (q,y))=some (decide (y=(x+1) % 4)):=by
 obtain ⟨o,m⟩:=p;obtain ⟨l,h⟩:=q;unfold enc Zb;rcases hx with rfl|rfl|rfl|rfl<;>rcases g with rfl|rfl|rfl|rfl <;>
 ·simp only [Int.reduceEq,if_true,if_false,↓reduceIte];rw [Jyl (by dsimp only;omega) (by dsimp only;omega) (by dsimp only;omega) (by dsimp only;omega)];refine congrArg some (decide_eq_decide.2 ?_);have f:∀a:Int,a+1 - a=1:=λa=>by omega
  have d:∀a:Int,a - 1 - a=-1:=λa=>by omega
  simp only [f,d,Bd];decide
theorem Jx4(a b:Cell):@jr wv (a,b)=some (decide (a.2<b.2\/(a.2=b.2/\a.1<b.1))):=by
 unfold jr;dsimp only;by_cases h:a.2=b.2
 ·rw [AU (by rw [GZ];simp [h]),Li];simp [h]
 ·rw [BA (by rw [GZ];simpa using h),Li];simp [h]
instance (a b:Cell):Decidable (yx a b):=inferInstanceAs (Decidable (_\/_))
theorem J2m{α:Type}(a b:Cell)(k:Bool->Option α):@W.call wv α Kq (((a.1,a.2),(b.1,b.2)):(Int×Int)×(Int×Int)) k=k (decide (yx a b)):=BH (c:=Kq) (Jx4 a b)
theorem Jri{r:AY}{c:Cell}{k:Ck}(h:k∈NU r c):Qm k.1 k.2=c:=by rcases lK.1 h with ⟨_,rfl⟩|⟨_,rfl⟩|⟨_,rfl⟩|⟨_,rfl⟩<;>simp [Qm]
theorem Jx2(r:AY)(c:Cell):(NU r c).Nodup:=by
 classical
 unfold NU;split<;>split<;>split<;>split<;>simp
theorem J8l{r:AY}(h:AL r):(Cy r).Nodup:=by refine List.pairwise_flatMap.2 ⟨λc _=>Jx2 r c,h.IG.imp λ{a b} d x hx y f e=>?_⟩;rw [e] at hx;have:=(Jri hx).symm.trans (Jri f);subst this;exact au _ d
theorem J6w{α:Type}{l:List α}(h:l.Nodup){i j:Nat}{x:α}(hi:l[i]?=some x)(m:l[j]?=some x):i=j:=by
 obtain ⟨d,g⟩:=Ab.1 hi;obtain ⟨a,f⟩:=Ab.1 m;rcases Nat.lt_trichotomy i j with q|q|q
 ·exact (Ar.1 h i j d a q (by rw [g,f])).elim
 ·exact q
 ·exact (Ar.1 h j i a d q (by rw [g,f])).elim
theorem VR{r:AY}{p:Cell}{x:Int}(h:DI r p x):¬DI r (Zb x p) ((x+2) % 4):=by obtain ⟨g,f⟩:=p;rcases h with ⟨rfl,d,a⟩|⟨rfl,d,a⟩|⟨rfl,d,a⟩|⟨rfl,d,a⟩<;>simp [Zb,DI] at *<;>grind
theorem rule{r:AY}{c:Ck}(m:DI r c.1 c.2){y:Int}(d:DI r (Zb c.2 c.1) y)(hl:y=(c.2+1) % 4\/¬DI r (Zb c.2 c.1) ((c.2+1) % 4)):(Zb c.2 c.1,y)=nx r c:=by
 unfold nx;refine Prod.ext rfl ?_;show y=Eb r c.1 c.2;unfold Eb;dsimp only;by_cases g:DI r (Zb c.2 c.1) ((c.2+1) % 4)
 ·rw [if_pos g];exact hl.elim id λh=>(h g).elim
 ·rw [if_neg g];have o:y≠(c.2+1) % 4:=λe=>g (e▸d);have v:=VR m;have l:y≠(c.2+2) % 4:=λe=>v (e▸d);have hd:=d.e;have hx:=m.e;by_cases f:DI r (Zb c.2 c.1) c.2
  ·rw [if_pos f];apply Classical.byContradiction;intro a;have:=f.opp d (λe=>a e.symm);omega
  ·rw [if_neg f];have a:y≠c.2:=λe=>f (e▸d);omega
abbrev zV:=HP (List (Cell×Cell)) (HP Int (HP Int (HP Int Unit)))
theorem SX{r:AY}(hr:AL r)(Q:(Cy r).length<=1000000){j:Nat}{c:Ck}(N:(Cy r)[j]?=some c) :
  ∃k:Nat,(Cy r)[k]?=some (nx r c)/\@Jbs wv ((Cy r).map enc,(j:Int))=some (k:Int):=by
 have M:DI r c.1 c.2:=zh.1 (Ad N);have m:((Cy r).map enc)[j]?=some (enc c):=by rw [Ah,N];rfl
 have J:∀ {i:Nat} {d:Ck},(Cy r)[i]?=some d->((Cy r).map enc)[i]?=some (enc d):=λ{i d} h=>by rw [Ah,h];rfl
 let q:=Zb c.2 c.1;obtain ⟨e,O,k,E,rfl⟩:=Xr (b:=@K0 wv)
  (λi s=>∃nxt:Int,s=(⟨(Cy r).map enc,(j:Int),nxt,(i:Int),()⟩:zV) /\
   ((nxt=-1/\∀a d,a<i->(Cy r)[a]?=some d->d.1≠q) \/
    ∃(k:Nat) (y:Int),nxt=k/\(Cy r)[k]?=some (q,y)/\(y=(c.2+1) % 4\/∀a d,a<i->(Cy r)[a]?=some d->d≠(q,(c.2+1) % 4))))
  (λe=>∃k:Nat,(Cy r)[k]?=some (nx r c)/\e=(⟨(k:Int),()⟩:HP Int Unit))
  (Cy r).length (by omega) (s0:=⟨(Cy r).map enc,(j:Int),-1,0,()⟩)
  ⟨-1,rfl,.inl ⟨rfl,λa d h=>by omega⟩⟩
  (λi s hi=>by
   rintro ⟨nxt,rfl,hI⟩;have hx:=Ac hi;generalize (Cy r)[i]=d at hx;have hd:DI r d.1 d.2:=zh.1 (Ad hx);have K:@W.ar wv .add .i64 (i:Int) 1=((i+1:Nat):Int):=by rw [J3,wr (by omega) (by omega)];omega
   have o:=J hx;by_cases H:d.1=q
   ·have f:@W.an wv (@W.cm wv .eql (enc d).1.1 (enc c).2.1) (@W.cm wv .eql (enc d).1.2 (enc c).2.2)=true:=by show ((d.1.1==q.1)&&(d.1.2==q.2))=true;rw [H];simp
    obtain ⟨dp,dy⟩:=d;obtain rfl:dp=q:=H;have step:∀y:Int,(y=(c.2+1) % 4\/∀a l,a<i+1->(Cy r)[a]?=some l->l≠(q,(c.2+1) % 4))↔(y=(c.2+1) % 4\/(dy≠(c.2+1) % 4/\∀a l,a<i->(Cy r)[a]?=some l->l≠(q,(c.2+1) % 4))):=λy=>by
     refine or_congr Iff.rfl ⟨λh=>⟨λe=>h i _ (by omega) hx (by rw [e]),λa l L=>h a l (by omega)⟩,λ⟨v,g⟩ a l L B=>?_⟩;by_cases e:a=i
     ·subst e;rw [hx] at B;injection B with B;rw [<-B];exact λe=>v (congrArg Prod.snd e)
     ·exact g a l (by omega) B
    rcases hI with ⟨rfl,w⟩|⟨k,y,rfl,E,G⟩
    ·refine ⟨⟨(Cy r).map enc,(j:Int),(i:Int),((i+1:Nat):Int),()⟩,?_,(i:Int),rfl,.inr ⟨i,dy,rfl,hx,(step dy).2 ?_⟩⟩
     ·unfold K0;dsimp only;rw [AO,Aa,J5 (by omega),AP (fg o),AP (fg m),BA f,J5 (by omega),K]
     ·by_cases e:dy=(c.2+1) % 4
      ·exact .inl e
      ·exact .inr ⟨e,λa l v g P=>w a l v g (by rw [P])⟩
    ·have A:@Xj wv (enc c,enc (q,dy))=some (decide (dy=(c.2+1) % 4)):=J1f (p:=c.1) (x:=c.2) M.e hd.e;by_cases e:dy=(c.2+1) % 4
     ·refine ⟨⟨(Cy r).map enc,(j:Int),(i:Int),((i+1:Nat):Int),()⟩,?_,(i:Int),rfl,.inr ⟨i,dy,rfl,hx,(step dy).2 (.inl e)⟩⟩;unfold K0;dsimp only;rw [AO,Aa,J5 (by omega),AP (fg o),AP (fg m),BA f,Jr (by omega),AP (fg m),AP (fg o)];refine (BH (c:=Xn) A).trans ?_;rw [BA (decide_eq_true e),K]
     ·refine ⟨⟨(Cy r).map enc,(j:Int),(k:Int),((i+1:Nat):Int),()⟩,?_,(k:Int),rfl,.inr ⟨k,y,rfl,E,(step y).2 (G.imp id λh=>⟨e,h⟩)⟩⟩;unfold K0;dsimp only;rw [AO,Aa,J5 (by omega),AP (fg o),AP (fg m),BA f,Jr (by omega),AP (fg m),AP (fg o)];refine (BH (c:=Xn) A).trans ?_;rw [AU (decide_eq_false e),K]
   ·have f:@W.an wv (@W.cm wv .eql (enc d).1.1 (enc c).2.1) (@W.cm wv .eql (enc d).1.2 (enc c).2.2)=false:=by
     show ((d.1.1==q.1)&&(d.1.2==q.2))=false;rw [Bm,beq_eq_false_iff_ne,beq_eq_false_iff_ne];by_cases v:d.1.1=q.1
     ·exact .inr λg=>H (Prod.ext v g)
     ·exact .inl v
    refine ⟨⟨(Cy r).map enc,(j:Int),nxt,((i+1:Nat):Int),()⟩,?_,nxt,rfl,?_⟩
    ·unfold K0;dsimp only;rw [AO,Aa,J5 (by omega),AP (fg o),AP (fg m),AU f,K]
    ·rcases hI with ⟨rfl,w⟩|⟨k,y,rfl,E,G⟩
     ·refine .inl ⟨rfl,λa l v g=>?_⟩;by_cases e:a=i
      ·subst e;rw [hx] at g;injection g with g;rw [<-g];exact H
      ·exact w a l (by omega) g
     ·refine .inr ⟨k,y,rfl,E,G.imp id λh a l v g=>?_⟩;by_cases e:a=i
      ·subst e;rw [hx] at g;injection g with g;rw [<-g];exact λe=>H (congrArg Prod.fst e)
      ·exact h a l (by omega) g)
  (by
   rintro s ⟨nxt,rfl,hI⟩;have F:∀d:Ck,DI r d.1 d.2->∃i,i<(Cy r).length/\(Cy r)[i]?=some d:=λd hd=>by obtain ⟨i,hi⟩:=Ao (zh.2 hd);exact ⟨i,(Ab.1 hi).1,hi⟩
   rcases hI with ⟨rfl,w⟩|⟨k,y,rfl,E,G⟩
   ·obtain ⟨i,v,g⟩:=F (nx r c) (J1w M);exact (w i _ v g rfl).elim
   ·refine ⟨⟨(k:Int),()⟩,?_,k,?_,rfl⟩
    ·unfold K0;dsimp only;rw [AO,Aa,Jr (by omega)]
    ·rw [<-rule M (y:=y) (zh.1 (Ad E)) (G.imp id λh hx=>?_)]
     ·exact E
     ·obtain ⟨i,v,g⟩:=F (q,(c.2+1) % 4) hx;exact h i _ v g rfl)
 exact ⟨k,E,(BL O).trans rfl⟩
theorem WI{r:AY}(hr:AL r)(a:(Cy r).length<=1000000){j:Nat}{c:Ck}(d:(Cy r)[j]?=some c) :
  ∃k:Nat,(Cy r)[k]?=some (nx r c)/\∀ {α:Type} (K:Int->Option α),@W.call wv α Q4 (((Cy r).map enc,(j:Int)):List ((Int×Int)×(Int×Int))×Int) K=K (k:Int):=by obtain ⟨k,g,f⟩:=SX hr a d;exact ⟨k,g,λK=>BH (c:=Q4) f⟩
theorem vD(r:AY)(c:Ck):(pol r c)[0]?=some c.1:=rfl
theorem Ed{α:Type}{a b:Int}{x:Option α}(h:a<=b):@W.gd wv α (@W.le wv a b) x=x:=Cb (by rw [Tz];exact decide_eq_true h)
abbrev oM:=HP (List (List Cell)) (HP Int (HP (List Cell) Unit))
theorem J7s{r:AY}{ls:List Ck}(hl:ls.length<=1000000)(v:ls.Pairwise λa b=>yx a.1 b.1){s:Ck}(hs:∀a∈ls,a.1≠s.1) :
  ∃ls':List Ck,@Jax wv (ls.map (pol r),pol r s)=some (ls'.map (pol r))/\(ls'.Pairwise λa b=>yx a.1 b.1)/\∀x,x∈ls'↔x∈ls\/x=s:=by
 obtain ⟨e,G,k,O,rfl,H,B⟩:=iW (b:=@Qt wv)
  (λst=>∃i:Nat,i<=ls.length/\st=(⟨ls.map (pol r),(i:Int),pol r s,()⟩:oM)/\∀j a,j<i->ls[j]?=some a->yx a.1 s.1)
  (λe=>∃k:Nat,k<=ls.length/\e=(⟨ls.map (pol r),(k:Int),pol r s,()⟩:oM)/\(∀j a,j<k->ls[j]?=some a->yx a.1 s.1)/\∀j a,k<=j->ls[j]?=some a->yx s.1 a.1)
  (λst=>ls.length - st.j.e.toNat)
  (λst=>by
   rintro ⟨i,hi,rfl,hI⟩;by_cases w:i<ls.length
   ·have hx:=Ac w;generalize ls[i]=a at hx;have o:(ls.map (pol r))[i]?=some (pol r a):=by rw [Ah,hx];rfl
    have J:@W.ar wv .add .i64 (i:Int) 1=((i+1:Nat):Int):=by rw [J3,wr (by omega) (by omega)];omega
    by_cases m:yx a.1 s.1
    ·refine .inl ⟨⟨ls.map (pol r),((i+1:Nat):Int),pol r s,()⟩,?_,⟨i+1,by omega,rfl,λj b f d=>?_⟩,?_⟩
     ·unfold Qt;dsimp only;rw [AO,Aa,J5 (by omega),AP (fg o),AP (NQ (vD r a)),AP (NQ (vD r s)),J2m,BA (decide_eq_true m),J]
     ·by_cases e:j=i
      ·subst e;rw [hx] at d;injection d with d;rw [<-d];exact m
      ·exact hI j b (by omega) d
     ·dsimp only;omega
    ·refine .inr ⟨_,?_,i,hi,rfl,hI,λj b f d=>?_⟩
     ·unfold Qt;dsimp only;rw [AO,Aa,J5 (by omega),AP (fg o),AP (NQ (vD r a)),AP (NQ (vD r s)),J2m,AU (decide_eq_false m)]
     ·have l:yx s.1 a.1:=by
       rcases qE a.1 s.1 with q|q|q
       ·exact (m q).elim
       ·exact (hs a (Ad hx) q).elim
       ·exact q
      rcases Nat.lt_or_eq_of_le f with q|q
      ·obtain ⟨F,L⟩:=Ab.1 hx;obtain ⟨E,K⟩:=Ab.1 d;have:=Ar.1 v i j F E q;rw [L,K] at this;exact qg l this
      ·subst q;rw [hx] at d;injection d with d;rw [<-d];exact l
   ·have:i=ls.length:=by omega
    subst this;refine .inr ⟨_,?_,ls.length,Bf _,rfl,hI,λj b f d=>by have:=(Ab.1 d).1;omega⟩;unfold Qt;dsimp only;rw [AO,Aa,Jr (by omega)]) (s0:=⟨ls.map (pol r),0,pol r s,()⟩)
  ⟨0,Nat.zero_le _,rfl,λj a h=>by omega⟩ (by dsimp only;omega)
 refine ⟨ls.take k++s::ls.drop k,?_,?_,λx=>?_⟩
 ·refine (BL G).trans ?_;have N:@W.ct wv (List Cell) (ls.map (pol r)) 0 (k:Int)=(ls.take k).map (pol r):=by rw [Iq];simp
  have M:@W.ct wv (List Cell) (ls.map (pol r)) (k:Int) (@W.mi wv (@W.ln wv (List Cell) (ls.map (pol r))) (k:Int))=(ls.drop k).map (pol r):=by rw [Iq,IX,AO,Ba (by simp),Aw,List.map_drop]
  dsimp only;rw [N,M,Ed (by omega),Ed (by rw [AO,Aa];omega)];simp only [AO,BX,CV,Ae,Aa,Au,List.length_drop,Ak,List.length_nil];rw [Ei (by omega) (by omega) (by decide),Ei (by omega) (by omega) (by decide),Ed (by omega),Ed (by omega),Ei (by omega) (by omega) (by decide)];simp
 ·refine Bn.2 ⟨v.sublist (List.take_sublist _ _),List.pairwise_cons.2 ⟨λa A=>?_,v.sublist (List.drop_sublist _ _)⟩,λa A b d=>?_⟩
  ·obtain ⟨j,f⟩:=Ao A;rw [List.getElem?_drop] at f;exact B _ a (by omega) f
  ·obtain ⟨j,f⟩:=Ao A;have y:=(Ab.1 f).1;rw [Au] at y;rw [List.getElem?_take_of_lt (by omega)] at f;have g:=H j a (by omega) f;rcases List.mem_cons.1 d with rfl|d
   ·exact g
   ·obtain ⟨i,hi⟩:=Ao d;rw [List.getElem?_drop] at hi;exact qg g (B _ b (by omega) hi)
 ·have o:x∈ls↔x∈ls.take k\/x∈ls.drop k:=by rw [<-Aq,List.take_append_drop]
  rw [o,Aq,List.mem_cons];exact ⟨λh=>h.elim (λh=>.inl (.inl h)) λh=>h.elim .inr λh=>.inl (.inr h),λh=>h.elim (λh=>h.elim .inl λh=>.inr (.inr h)) λh=>.inr (.inl h)⟩
noncomputable def KZ(r:AY)(c:Ck)(n:Nat):List (Cell×Cell):=(Ai n).map λk=>enc (BR (nx r) k c)
theorem Jzp{r:AY}{c:Ck}{n k:Nat}(h:k<n):(KZ r c n)[k]?=some (enc (BR (nx r) k c)):=by unfold KZ;rw [Ah,List.getElem?_range h];rfl
theorem J9l(c:Ck):(enc c).2.1 - (enc c).1.1=(BP c.2).1/\(enc c).2.2 - (enc c).1.2=(BP c.2).2:=by unfold enc;rw [vw];unfold Em;dsimp only;omega
theorem Rt{x y:Int}(hx:x=0\/x=1\/x=2\/x=3)(a:y=0\/y=1\/y=2\/y=3):((BP x).1=(BP y).1/\(BP x).2=(BP y).2)↔x=y:=by rcases hx with rfl|rfl|rfl|rfl<;>rcases a with rfl|rfl|rfl|rfl<;>simp [BP]
abbrev zU:=HP (List (Cell×Cell)) (HP Int (HP Int (HP (List Cell) Unit)))
theorem Jx8{r:AY}(hr:AL r){c:Ck}(h:DI r c.1 c.2):∀k,∀d:Cell×Cell,d=enc (BR (nx r) k c)->X5 d.1/\X5 d.2:=by rintro k d rfl;exact ⟨TB hr (Y0 h k),TB hr (Y0 h (k+1))⟩
theorem J5t{r:AY}(hr:AL r){c:Ck}(h:DI r c.1 c.2){N:Nat}(hN:Ez (nx r) c N)(F:N<=1000000) :
  X0 (@Ql wv) CU ⟨KZ r c N,(N:Int),0,[],()⟩=some ⟨seg r c (N - 1) N,()⟩:=by
 have E:=hN.pos;have g:seg r c (N - 1) 0=[]:=rfl;refine (g▸Ki (b:=@Ql wv) (λi=>(⟨KZ r c N,(N:Int),(i:Int),seg r c (N - 1) i,()⟩:zU)) N (by omega) (λi hi=>?_) ?_)
 ·have w:@W.ar wv .add .i64 (i:Int) 1=((i+1:Nat):Int):=by rw [J3,wr (by omega) (by omega)];omega
  have K:@W.ar wv .rem .i64 (@W.ar wv .sub .i64 (@W.ar wv .add .i64 (i:Int) (N:Int)) 1) (N:Int)=(((i+N - 1) % N:Nat):Int):=by rw [J3,wr (by omega) (by omega),Xo,wr (by omega) (by omega),sW,Bg (by omega),show (i:Int)+(N:Int) - 1=((i+N - 1:Nat):Int) by omega];exact (Int.natCast_emod _ _).symm
  have G:(i+N - 1) % N<N:=Nat.mod_lt _ E;have ep:BR (nx r) ((i+N - 1) % N) c=BR (nx r) (N - 1+i) c:=by
   by_cases J:i=0
   ·subst J;rw [Bb (by omega)];congr 1;omega
   ·rw [show i+N - 1=i - 1+N by omega,Nat.add_mod_right,Bb (by omega),show N - 1+i=i - 1+N by omega,hN.per]
  have ec:BR (nx r) i c=BR (nx r) (N - 1+i+1) c:=by rw [show N - 1+i+1=i+N by omega,hN.per]
  have g0:=Jzp (r:=r) (c:=c) G;have f:=Jzp (r:=r) (c:=c) hi;rw [ep] at g0;rw [ec] at f;have o:=Jx8 hr h (N - 1+i) _ rfl;have m:=Jx8 hr h (N - 1+i+1) _ rfl;have d0:=J9l (BR (nx r) (N - 1+i) c);have A:=J9l (BR (nx r) (N - 1+i+1) c);have d:=Rt (Y0 h (N - 1+i+1)).e (Y0 h (N - 1+i)).e;have H:(enc (BR (nx r) (N - 1+i+1) c)).1=(BR (nx r) (N - 1+i+1) c).1:=rfl;have hT:JJ r c (N - 1+i)=if (BR (nx r) (N - 1+i+1) c).2=(BR (nx r) (N - 1+i) c).2 then none else some (BR (nx r) (N - 1+i+1) c).1:=rfl;rw [<-H] at hT;have B:=J16 r c (N - 1) i;unfold X5 at o m;rw [qc,hT];generalize enc (BR (nx r) (N - 1+i) c)=u at *
  generalize enc (BR (nx r) (N - 1+i+1) c)=v at *
  generalize (BR (nx r) (N - 1+i+1) c).2=y at *
  generalize (BR (nx r) (N - 1+i) c).2=x at *
  have es:∀a b:Int,-2000000000<=a - b/\a - b<=2000000000->@W.ar wv .sub .i64 a b=a - b:=λa b _=>by rw [Xo,wr (by omega) (by omega)]
  unfold Ql;dsimp only;rw [J5 (by omega),Cb (by rw [GZ];simp;omega),K,AP (fg g0),AP (fg f),AP (fg f),es u.2.1 u.1.1 (by omega),es v.2.1 v.1.1 (by omega),d0.1,A.1];by_cases hx:(BP x).1=(BP y).1
  ·rw [AU (by rw [GZ];simp [hx]),AP (fg f),AP (fg f),es u.2.2 u.1.2 (by omega),es v.2.2 v.1.2 (by omega),d0.2,A.2];by_cases l:(BP x).2=(BP y).2
   ·rw [AU (by rw [GZ];simp [l]),w,if_pos (d.1 ⟨hx.symm,l.symm⟩)];simp
   ·rw [BA (by rw [GZ];simpa using l),AP (fg f),AO,BX,FH (by omega) (by omega),w,CV,if_neg λe=>l (d.2 e).2.symm];rfl
  ·rw [BA (by rw [GZ];simpa using hx),AP (fg f),AO,BX,FH (by omega) (by omega),w,CV,if_neg λe=>hx (d.2 e).1.symm];rfl
 ·unfold Ql;dsimp only;rw [Jr (by omega)]
theorem J6q{T A B:List Cell}{p:Cell}(hT:T=A++p::B)(m:∀x∈A++B,yx p x)(hl:T.length<=1000000) :
  X0 (@K3 wv) CU ⟨0,0,T,()⟩=some ⟨(A.length:Int),T,()⟩:=by
 have r:T[A.length]?=some p:=by rw [hT,Bh (Bf _),Nat.sub_self];rfl
 have v:T.length=A.length+B.length+1:=by rw [hT,Ae,Ak];omega
 have a:∀j x,T[j]?=some x->j≠A.length->yx p x:=λj x g E=>by
  refine m x ?_;rw [hT] at g;by_cases h:j<A.length
  ·rw [List.getElem?_append_left h] at g;exact Aq.2 (.inl (Ad g))
  ·rw [Bh (by omega),List.getElem?_cons,if_neg (by omega)] at g;exact Aq.2 (.inr (Ad g))
 obtain ⟨e,F,rfl⟩:=Xr (b:=@K3 wv)
  (λi st=>∃f:Nat,st=(⟨(f:Int),(i:Int),T,()⟩:HP Int (HP Int (HP (List Cell) Unit)))/\f<T.length/\(A.length<i->f=A.length))
  (λe=>e=(⟨(A.length:Int),T,()⟩:HP Int (HP (List Cell) Unit))) T.length (by omega) (s0:=⟨0,0,T,()⟩)
  ⟨0,rfl,by omega,λh=>by omega⟩
  (λi st hi=>by
   rintro ⟨f,rfl,o,hI⟩;have J:@W.ar wv .add .i64 (i:Int) 1=((i+1:Nat):Int):=by rw [J3,wr (by omega) (by omega)];omega
   have hx:=Ac hi;have d:=Ac o;generalize T[i]=x at hx;generalize T[f]=y at d;have G:@K3 wv ⟨(f:Int),(i:Int),T,()⟩=if yx x y then some (.go ⟨(i:Int),((i+1:Nat):Int),T,()⟩) else some (.go ⟨(f:Int),((i+1:Nat):Int),T,()⟩):=by
    unfold K3;dsimp only;rw [AO,J5 (by omega),FQ (by omega),AP (fg hx),FQ (by omega),AP (fg d),J2m,J];by_cases h:yx x y
    ·rw [BA (decide_eq_true h),if_pos h]
    ·rw [AU (decide_eq_false h),if_neg h]
   rw [G];by_cases h:yx x y
   ·rw [if_pos h];refine ⟨_,rfl,i,rfl,hi,λH=>?_⟩;by_cases l:i=A.length
    ·exact l
    ·have hfA:=hI (by omega);subst hfA;rw [r] at d;injection d with d;subst d;exact (vL h (a i x hx l)).elim
   ·rw [if_neg h];refine ⟨_,rfl,f,rfl,o,λH=>?_⟩;by_cases l:i=A.length
    ·by_cases w:f=A.length
     ·exact w
     ·subst l;rw [r] at hx;injection hx with hx;subst hx;exact (h (a f y d w)).elim
    ·exact hI (by omega))
  (by rintro st ⟨f,rfl,o,hI⟩;have:=hI (by omega);subst this;refine ⟨_,?_,rfl⟩;unfold K3;dsimp only;rw [AO,Jr (by omega)])
 exact F
theorem J6l{r:AY}(hr:AL r){c:Ck}(h:DI r c.1 c.2){N:Nat}(hN:Ez (nx r) c N)(d:N<=1000000){j:Nat}(l:j<N)(hs:CS r (BR (nx r) j c)) :
  @Zj wv (KZ r c N)=some (pol r (BR (nx r) j c)):=by
 obtain ⟨A,B,f,o,m⟩:=J71 h hN l hs;have a:(seg r c (N - 1) N).length<=1000000:=Nat.le_trans (J16 r c (N - 1) N) d;have hA:(seg r c (N - 1) N).length=A.length+B.length+1:=by rw [f,Ae,Ak];omega
 have v:(KZ r c N).length=N:=by unfold KZ;rw [Aa,Af]
 have g:EK r (BR (nx r) j c)=N:=qK hs.1 (hN.from (ring r) (zh.2 h) j);unfold Zj;rw [AO,v];refine (BL (J5t hr h hN d)).trans ?_;refine (BL (J6q f m a)).trans ?_;have y:@W.ct wv Cell (seg r c (N - 1) N) 0 (A.length:Int)=A:=by rw [Iq,f];simp
 have w:@W.ct wv Cell (seg r c (N - 1) N) (A.length:Int) (@W.mi wv (@W.ln wv Cell (seg r c (N - 1) N)) (A.length:Int))=(BR (nx r) j c).1::B:=by rw [Iq,IX,AO,f,Aw,List.drop_left,Ba (by simp only [Ae,Ak];omega)]
 dsimp only;rw [y,w];simp only [AO,IX,BX,hA,Ak];rw [Ed (by omega),Ed (by omega),Ed (by omega),Ed (by omega),Ed (by omega),FH (by omega) (by omega),Ed (by omega),Ed (by omega),Ed (by omega),Ed (by omega),Ed (by omega),FH (by omega) (by omega),CV,<-o];unfold pol;rw [g]
structure Marks (r:AY) (done:List Bool) (D:Ck->Prop):Prop where
 len:done.length=(Cy r).length
 at_:∀(j:Nat) (c:Ck),(Cy r)[j]?=some c->(done[j]?=some true↔D c)
theorem Marks.get{r:AY}{done:List Bool}{D:Ck->Prop}(h:Marks r done D){j:Nat}{c:Ck}(d:(Cy r)[j]?=some c):∃b,done[j]?=some b/\(b=true↔D c):=by have a:=(Ab.1 d).1;have f:=Ac (l:=done) (i:=j) (by rw [h.len];exact a);refine ⟨done[j]'(by rw [h.len];exact a),f,?_⟩;rw [<-h.at_ j c d,f];simp
theorem Marks.set{r:AY}(hr:AL r){done:List Bool}{D:Ck->Prop}(h:Marks r done D){j:Nat}{c:Ck}(f:(Cy r)[j]?=some c):Marks r (done.set j true) λd=>D d\/d=c:=by
 refine ⟨by rw [List.length_set,h.len],λi d hi=>?_⟩;have a:=(Ab.1 hi).1;rw [List.getElem?_set];by_cases e:j=i
 ·subst e;rw [if_pos rfl,if_pos (by rw [h.len];exact a)];rw [f] at hi;injection hi with hi;exact ⟨λ_=>.inr hi.symm,λ_=>rfl⟩
 ·rw [if_neg e,h.at_ i d hi];refine ⟨.inl,λq=>q.elim id λq=>?_⟩;subst q;exact (e (J6w (J8l hr) f hi)).elim
abbrev zT:=HP (List (Cell×Cell)) (HP (List (List Cell)) (HP Int (HP Int (HP (List Bool) (HP (List (Cell×Cell)) Unit)))))
abbrev zZ:=HP (List (Cell×Cell)) (HP (List (List Cell)) (HP Int (HP (List Bool) (HP (List (Cell×Cell)) Unit))))
noncomputable abbrev LQ (r:AY) (out:List (List Cell)) (i at_:Int) (done:List Bool) (loop:List (Cell×Cell)):zT:=⟨(Cy r).map enc,out,i,at_,done,loop,()⟩
noncomputable abbrev VJ (r:AY) (out:List (List Cell)) (i:Int) (done:List Bool) (loop:List (Cell×Cell)):zZ:=⟨(Cy r).map enc,out,i,done,loop,()⟩
theorem Kav{r:AY}{out:List (List Cell)}{i:Int}{j:Nat}{done:List Bool}{loop:List (Cell×Cell)}(a:done[j]?=some true) :
  @Kf wv (LQ r out i j done loop)=some (.out (VJ r out i done loop)):=by have d:=(Ab.1 a).1;unfold Kf;dsimp only;rw [AO,FQ (by omega),AP (fg a),AU (by rfl)]
theorem oK{r:AY}(hr:AL r)(g:(Cy r).length<=1000000){out:List (List Cell)}{i:Int}{j:Nat}{done:List Bool}{loop:List (Cell×Cell)}(l:loop.length<=1000000)(d:done[j]?=some false){c:Ck}(f:(Cy r)[j]?=some c) :
  ∃k:Nat,(Cy r)[k]?=some (nx r c)/\@Kf wv (LQ r out i j done loop)=some (.go (LQ r out i k (done.set j true) (loop++[enc c]))):=by
 have h:=(Ab.1 d).1;obtain ⟨k,o,m⟩:=WI hr g f;refine ⟨k,o,?_⟩;have a:((Cy r).map enc)[j]?=some (enc c):=by rw [Ah,f];rfl
 unfold Kf;dsimp only;rw [AO,FQ (by omega),AP (fg d),BA (by rfl),FQ (by omega),AP (fg d),AP (fg a),AO,BX,jG (by omega) (by omega),m,GN,CV,Aw]
theorem oJ{r:AY}(hr:AL r)(L:(Cy r).length<=1000000){D:Ck->Prop}(hD:Closed r D){done:List Bool}(hM:Marks r done D){j:Nat}{c:Ck}(J:(Cy r)[j]?=some c)(hcD:¬D c)(out:List (List Cell))(i:Int) :
  ∃done',X0 (@Kf wv) CU (LQ r out i j done [])=some (VJ r out i done' (KZ r c (EK r c)))/\Marks r done' λd=>D d\/∃k,d=BR (nx r) k c:=by
 have w:=Ad J;have y:=zh.1 w;have hN:=YN y;have M:=kZ y;generalize EK r c=N at *
 have o:∀k,¬D (BR (nx r) k c):=λk A=>by obtain ⟨m,f⟩:=hN.to c k;exact hcD (f▸hD.BR A m)
 have H:KZ r c 0=[]:=rfl;obtain ⟨e,O,done',rfl,h⟩:=Xr (b:=@Kf wv)
  (λk st=>∃(a:Nat) (dn:List Bool),st=LQ r out i a dn (KZ r c k)/\(Cy r)[a]?=some (BR (nx r) k c)/\Marks r dn λd=>D d\/∃m,m<k/\d=BR (nx r) m c)
  (λe=>∃dn,e=VJ r out i dn (KZ r c N)/\Marks r dn λd=>D d\/∃k,d=BR (nx r) k c)
  N (by omega) (s0:=LQ r out i j done [])
  ⟨j,done,rfl,J,hM.len,λj c v=>(hM.at_ j c v).trans ⟨.inl,λh=>h.elim id λ⟨m,f,_⟩=>by omega⟩⟩
  (λk st A=>by
   rintro ⟨a,dn,rfl,l,f⟩;obtain ⟨b,P,hbD⟩:=f.get l;have B:b=false:=by
    cases b with
    | false=>rfl
    | true=>
     rcases hbD.1 rfl with q|⟨m,G,g⟩
     ·exact (o k q).elim
     ·have:=(ring r).dist w hN (i:=m) (j:=k) (by omega) A g.symm;omega
   subst B;obtain ⟨k',F,E⟩:=oK hr L (out:=out) (i:=i) (loop:=KZ r c k) (by unfold KZ;rw [Aa,Af];omega) P l;refine ⟨_,E,k',dn.set a true,?_,F,(f.set hr l).len,λj d v=>((f.set hr l).at_ j d v).trans ?_⟩
   ·unfold KZ;rw [Bk,Aj];rfl
   ·constructor
    ·rintro ((q|⟨m,G,g⟩)|q)
     ·exact .inl q
     ·exact .inr ⟨m,by omega,g⟩
     ·exact .inr ⟨k,by omega,q⟩
    ·rintro (q|⟨m,G,g⟩)
     ·exact .inl (.inl q)
     ·by_cases e:m=k
      ·subst e;exact .inr g
      ·exact .inl (.inr ⟨m,by omega,g⟩))
  (by rintro st ⟨a,dn,rfl,l,f⟩;have hD:D (BR (nx r) N c)\/∃m,m<N/\BR (nx r) N c=BR (nx r) m c:=.inr ⟨0,hN.pos,hN.back⟩;refine ⟨_,Kav ((f.at_ a _ l).2 hD),dn,rfl,f.len,λj d v=>(f.at_ j d v).trans ⟨λq=>q.imp id λ⟨m,_,h⟩=>⟨m,h⟩,λq=>q.imp id λ⟨m,h⟩=>?_⟩⟩;obtain ⟨K,F,E⟩:=hN.Ph m;exact ⟨K,F,h.trans E⟩)
 exact ⟨done',O,h⟩
theorem Closed.add{r:AY}{D:Ck->Prop}(h:Closed r D){c:Ck}(a:DI r c.1 c.2):Closed r λd=>D d\/∃k,d=Go.Proofs.YtmfagdfkpjgeiaaGreat.BR (nx r) k c:=by refine ⟨λd hd=>hd.elim (h.1 d) λ⟨k,e⟩=>by rw [e];exact Y0 a k,λd hd=>hd.imp (h.2 d) λ⟨k,e⟩=>⟨k+1,by rw [e];rfl⟩⟩
abbrev zS:=HP (List (Cell×Cell)) (HP (List (List Cell)) (HP Int (HP (List Bool) Unit)))
noncomputable abbrev N7 (r:AY) (out:List (List Cell)) (i:Int) (done:List Bool):zS:=⟨(Cy r).map enc,out,i,done,()⟩
theorem oL{r:AY}(hr:AL r)(N:(Cy r).length<=1000000):X0 (@K6 wv) CU (N7 r [] 0 (List.replicate (Cy r).length false))=some ⟨(X4 r).map (pol r),()⟩:=by
 obtain ⟨e,Q,ls,G,rfl⟩:=Xr (b:=@K6 wv)
  (λi st=>∃(D:Ck->Prop) (done:List Bool) (ls:List Ck),st=N7 r (ls.map (pol r)) i done/\Closed r D/\Marks r done D/\(∀j c,j<i->(Cy r)[j]?=some c->D c) /\
   (ls.Pairwise λa b=>yx a.1 b.1)/\∀s,s∈ls↔CS r s/\D s)
  (λe=>∃ls,Starts r ls/\e=(⟨ls.map (pol r),()⟩:HP (List (List Cell)) Unit))
  (Cy r).length (by omega) (s0:=N7 r [] 0 (List.replicate (Cy r).length false))
  ⟨λ_=>False,_,[],rfl,⟨λc h=>h.elim,λc h=>h⟩,⟨List.length_replicate,λj c y=>by have:=(Ab.1 y).1;rw [List.getElem?_replicate,if_pos this];simp⟩,λj c h=>by omega,.nil,λs=>by simp⟩
  (λi st hi=>by
   rintro ⟨D,done,ls,rfl,hD,hM,v,g,f⟩;have L:@W.ar wv .add .i64 (i:Int) 1=((i+1:Nat):Int):=by rw [J3,wr (by omega) (by omega)];omega
   have hx:=Ac hi;generalize (Cy r)[i]=c at hx;have o:=zh.1 (Ad hx);obtain ⟨b,R,hbD⟩:=hM.get hx;have B:ls.length<=1000000:=by have H:ls.Nodup:=g.imp λ{a b} (h:yx a.1 b.1) (e:a=b)=>au a.1 (by subst e;exact h);have:=Tm H λs hs=>((f s).1 hs).1.mem;omega
   cases b with
   | true=>
    refine ⟨N7 r (ls.map (pol r)) ((i+1:Nat):Int) done,?_,D,done,ls,rfl,hD,hM,λj d y hd=>?_,g,f⟩
    ·unfold K6;dsimp only;rw [AO,Aa,J5 (by omega)];refine (BL (show X0 (@Kf wv) CU (LQ r (ls.map (pol r)) i i done [])=some (VJ r (ls.map (pol r)) i done []) from YM (n:=18446744073709551615) (Kav R))).trans ?_;dsimp only;rw [AU (by rfl),L]
    ·by_cases e:j=i
     ·subst e;rw [hx] at hd;injection hd with hd;subst hd;exact hbD.1 rfl
     ·exact v j d (by omega) hd
   | false=>
    have hcD:¬D c:=λh=>by have:=hbD.2 h;cases this
    obtain ⟨done',Z,Y⟩:=oJ hr N hD hM hx hcD (ls.map (pol r)) i;have hN:=YN o;have O:=kZ o;obtain ⟨M,l⟩:=Ka2 o;obtain ⟨j,y,ej⟩:=hN.Ph M;rw [ej] at l;have w:=J6l hr o hN (by omega) y l;have hsD:¬D (BR (nx r) j c):=λh=>by obtain ⟨m,J⟩:=hN.to c j;exact hcD (J▸hD.BR h m)
    obtain ⟨ls',g1,g2,g3⟩:=J7s (r:=r) B g (s:=BR (nx r) j c) λa X e=>by have:=((f a).1 X);exact hsD ((l.uniq this.1 e)▸this.2)
    refine ⟨N7 r (ls'.map (pol r)) ((i+1:Nat):Int) done',?_,_,done',ls',rfl,hD.add o,Y,λK d P hd=>?_,g2,λs=>?_⟩
    ·unfold K6;dsimp only;rw [AO,Aa,J5 (by omega)];refine (BL Z).trans ?_;dsimp only;have E:(KZ r c (EK r c)).length=EK r c:=by unfold KZ;rw [Aa,Af]
     have hp:=hN.pos;rw [AO,E,BA (by rw [z7];exact decide_eq_true (by omega))];refine (BH (c:=Xd) w).trans ((BH (c:=Xw) g1).trans ?_);rw [L]
    ·by_cases e:K=i
     ·subst e;rw [hx] at hd;injection hd with hd;subst hd;exact .inr ⟨0,rfl⟩
     ·exact .inl (v K d (by omega) hd)
    ·rw [g3,f];constructor
     ·rintro (⟨F,A⟩|rfl)
      ·exact ⟨F,.inl A⟩
      ·exact ⟨l,.inr ⟨j,rfl⟩⟩
     ·rintro ⟨F,A|⟨k,A⟩⟩
      ·exact .inl ⟨F,A⟩
      ·right;obtain ⟨m,J⟩:=hN.to c j;refine l.same F (k:=k+m) ?_;rw [Me,J];exact A)
  (by
   rintro st ⟨D,done,ls,rfl,hD,hM,v,g,f⟩;refine ⟨_,?_,ls,⟨g,λc=>(f c).trans ⟨And.left,λh=>⟨h,?_⟩⟩⟩,rfl⟩
   ·unfold K6;dsimp only;rw [AO,Aa,Jr (by omega)]
   ·obtain ⟨j,y⟩:=Ao h.mem;exact v j c (Ab.1 y).1 y)
 rw [vk G];exact Q
open Classical in
theorem Jyj(r:AY)(hl:DF r)(d:AL r->(K8 r).length<=250000):@j7 wv r=some (if AL r then (X4 r).map (pol r) else []):=by
 unfold j7;rw [wW hl];by_cases hr:AL r
 case neg=>rw [BA (by simp [BQ,hr]),if_neg hr]
 have d:=d hr;have f:(Cy r).length<=1000000:=by have:=qR r;omega
 rw [AU (by simp [BQ,hr]),if_pos hr];refine (J0e hl hr (by omega) _).trans ?_;have a:((Cy r).map enc).length=(Cy r).length:=Aa _;rw [Ed (by rw [AO];omega),AO,Ei (by omega) (by omega) (by decide),mY,a,Aw];exact (BL (oL hr f)).trans rfl
open Classical in
theorem J2i{α:Type}{r:AY}(hl:DF r)(a:AL r->(K8 r).length<=250000)(k:List (List (Int×Int))->Option α):@W.call wv α Q6 r k=k (if AL r then (X4 r).map (pol r) else []):=BH (c:=Q6) (Jyj r hl a)
def hd4(h:Int):Prop:=h=0\/h=1\/h=2\/h=3
theorem pJ{α:Type}{a b:Int}{x y:Option α}(h:a > b):@W.br wv α (@W.cm wv .gtr a b) x y=x:=BA (by rw [z7];exact decide_eq_true h)
theorem aJ{α:Type}{a b:Int}{x y:Option α}(h:¬a > b):@W.br wv α (@W.cm wv .gtr a b) x y=y:=AU (by rw [z7];exact decide_eq_false h)
theorem UK(a:Int):@xM wv a=some (if a > 0 then 1 else if a<0 then -1 else 0):=by
 unfold xM;by_cases h:a > 0
 ·rw [pJ h,if_pos h]
 ·rw [aJ h,if_neg h];by_cases d:a<0
  ·rw [J5 d,if_pos d]
  ·rw [Jr d,if_neg d]
theorem QF{α:Type}(a:Int)(k:Int->Option α):@W.call wv α Zu (a:Int) k=k (if a > 0 then 1 else if a<0 then -1 else 0):=BH (c:=Zu) (UK a)
theorem kQ(p:Cell){h:Int}(a:hd4 h)(n:Nat):(h=0/\(fwd p h n).1=p.1+n/\(fwd p h n).2=p.2)\/(h=1/\(fwd p h n).1=p.1/\(fwd p h n).2=p.2+n)\/(h=2/\(fwd p h n).1=p.1 - n/\(fwd p h n).2=p.2)\/(h=3/\(fwd p h n).1=p.1/\(fwd p h n).2=p.2 - n):=by unfold fwd BP;rcases a with rfl|rfl|rfl|rfl<;>simp<;>omega
theorem Jpb{p:Cell}{h:Int}(f:hd4 h){n:Nat}(v:0<n)(m:X5 p)(l:X5 (fwd p h n)):@zw wv (p,fwd p h n)=some (BP h):=by
 have g:=kQ p f n;generalize fwd p h n=q at *
 unfold X5 at m l;have r:@W.ar wv .sub .i64 q.1 p.1=q.1 - p.1:=by rw [Xo,wr (by omega) (by omega)]
 have o:@W.ar wv .sub .i64 q.2 p.2=q.2 - p.2:=by rw [Xo,wr (by omega) (by omega)]
 unfold zw;dsimp only;rw [r,o,QF,QF];refine congrArg some ?_;rcases g with ⟨rfl,d,a⟩|⟨rfl,d,a⟩|⟨rfl,d,a⟩|⟨rfl,d,a⟩
 ·rw [if_pos (by omega),if_neg (by omega),if_neg (by omega)];rfl
 ·rw [if_neg (by omega),if_neg (by omega),if_pos (by omega)];rfl
 ·rw [if_neg (by omega),if_pos (by omega),if_neg (by omega),if_neg (by omega)];rfl
 ·rw [if_neg (by omega),if_neg (by omega),if_neg (by omega),if_pos (by omega)];rfl
theorem Nf{p:Cell}{h:Int}(f:hd4 h){n:Nat}(l:0<n):@yF wv (p,fwd p h n)=some (BP h):=by
 have g:=kQ p f n;generalize fwd p h n=q at *
 unfold yF;dsimp only;rcases g with ⟨rfl,d,a⟩|⟨rfl,d,a⟩|⟨rfl,d,a⟩|⟨rfl,d,a⟩
 ·rw [pJ (by omega)];rfl
 ·rw [aJ (by omega),Jr (by omega),pJ (by omega)];rfl
 ·rw [aJ (by omega),J5 (by omega)];rfl
 ·rw [aJ (by omega),Jr (by omega),aJ (by omega)];rfl
theorem J40{p:Cell}{h:Int}(d:hd4 h)(a:X5 p):@xk wv (p,BP h)=some (Qm p h):=by
 unfold X5 at a;have g:@W.ar wv .sub .i64 p.1 1=p.1 - 1:=by rw [Xo,wr (by omega) (by omega)]
 have f:@W.ar wv .sub .i64 p.2 1=p.2 - 1:=by rw [Xo,wr (by omega) (by omega)]
 unfold xk;dsimp only;rw [g,f];rcases d with rfl|rfl|rfl|rfl
 ·rw [BA (by rfl)];rfl
 ·rw [AU (by rfl),BA (by rfl)];rfl
 ·rw [AU (by rfl),AU (by rfl),BA (by rfl)];rfl
 ·rw [AU (by rfl),AU (by rfl),AU (by rfl)];rfl
theorem OZ{p:Cell}{h:Int}(d:hd4 h)(a:X5 p):@zq wv (p,BP h)=some (Qm p h):=by
 unfold X5 at a;have g:@W.ar wv .sub .i64 p.1 1=p.1 - 1:=by rw [Xo,wr (by omega) (by omega)]
 have f:@W.ar wv .sub .i64 p.2 1=p.2 - 1:=by rw [Xo,wr (by omega) (by omega)]
 unfold zq;dsimp only;rw [g,f];rcases d with rfl|rfl|rfl|rfl
 ·rw [BA (by rfl)];rfl
 ·rw [AU (by rfl),BA (by rfl)];rfl
 ·rw [AU (by rfl),AU (by rfl),BA (by rfl)];rfl
 ·rw [AU (by rfl),AU (by rfl),AU (by rfl)];rfl
theorem J4v{h h':Int}(d:hd4 h)(a:hd4 h'):@W.cm wv .lss (@W.ar wv .sub .i64 (@W.ar wv .mul .i64 (BP h).1 (BP h').2) (@W.ar wv .mul .i64 (BP h).2 (BP h').1)) 0=decide (VA h h'):=by rcases d with rfl|rfl|rfl|rfl<;>rcases a with rfl|rfl|rfl|rfl<;>rfl
noncomputable def XE{β:Type}(o:List Cell)(c:Cell)(K:List Cell->Option β):Option β:=
 @W.br wv β (@W.cm wv .gtr (@W.ln wv Cell o) 0) (@W.gd wv β (@W.ib wv (@W.ar wv .sub .i64 (@W.ln wv Cell o) 1) (@W.ln wv Cell o)) (@W.ge wv β Cell o (@W.ar wv .sub .i64 (@W.ln wv Cell o) 1) λv=>
  @W.br wv β (@W.an wv (@W.cm wv .eql v.1 c.1) (@W.cm wv .eql v.2 c.2)) (K o) (@W.gd wv β (@W.ft wv 16 (@W.pl wv (@W.ln wv Cell o) 1)) (K (@W.ap wv Cell o (c::[]))))))
 (@W.gd wv β (@W.ft wv 16 (@W.pl wv (@W.ln wv Cell o) 1)) (K (@W.ap wv Cell o (c::[]))))
theorem jH(a b:Cell):@W.an wv (@W.cm wv .eql a.1 b.1) (@W.cm wv .eql a.2 b.2)=decide (a=b):=by rw [LJ,Qn,Qn,Bool.eq_iff_iff,Bool.and_eq_true,beq_iff_eq,beq_iff_eq,decide_eq_true_eq,Prod.ext_iff]
theorem Jvp{o:List Cell}(h:0<o.length)(hl:o.length<=1000000000):∃z,o.getLast?=some z/\Hy o (@W.ar wv .sub .i64 (@W.ln wv Cell o) 1)=some z:=by
 have e:@W.ar wv .sub .i64 (@W.ln wv Cell o) 1=((o.length - 1:Nat):Int):=by rw [AO,Xo,wr (by omega) (by omega)];omega
 have a:o[o.length - 1]?=some o[o.length - 1]:=Ac (by omega);exact ⟨_,by rw [Bj,a],by rw [e];exact fg a⟩
theorem Kad{β:Type}{o:List Cell}(hl:o.length<=1000000000)(c:Cell)(K:List Cell->Option β):XE o c K=K (JA o c):=by
 unfold XE JA;by_cases h:0<o.length
 ·obtain ⟨z,f,d⟩:=Jvp h hl;rw [BA (by rw [z7,AO];exact decide_eq_true (by omega)),FQ (by rw [AO,Xo,wr (by omega) (by omega)];omega),AP d,jH,f];by_cases e:z=c
  ·rw [BA (decide_eq_true e),if_pos (by rw [e])]
  ·rw [AU (decide_eq_false e),if_neg (by simpa using e),AO,BX,FH (by omega) (by omega),CV]
 ·have a:o=[]:=Bc (by omega);subst a;rw [AU (by rfl),AO,BX,FH (by simp) (by simp),CV];rfl
noncomputable def L9(o:List Cell):Option (List Cell):=
 @W.br wv (List Cell) (@W.cm wv .gtr (@W.ln wv Cell o) 1) (@W.gd wv (List Cell) (@W.ib wv 0 (@W.ln wv Cell o)) (@W.ge wv (List Cell) Cell o 0 λv=>
  @W.gd wv (List Cell) (@W.ib wv (@W.ar wv .sub .i64 (@W.ln wv Cell o) 1) (@W.ln wv Cell o)) (@W.ge wv (List Cell) Cell o (@W.ar wv .sub .i64 (@W.ln wv Cell o) 1) λw=>
  @W.br wv (List Cell) (@W.an wv (@W.cm wv .eql v.1 w.1) (@W.cm wv .eql v.2 w.2)) (@W.gd wv (List Cell) (@W.le wv 0 (@W.ar wv .sub .i64 (@W.ln wv Cell o) 1)) (@W.gd wv (List Cell) (@W.le wv (@W.ar wv .sub .i64 (@W.ln wv Cell o) 1) (@W.ln wv Cell o))
   (@W.gd wv (List Cell) (@W.le wv 0 0) (@W.gd wv (List Cell) (@W.le wv 0 (@W.ar wv .sub .i64 (@W.ln wv Cell o) 1)) (@W.gd wv (List Cell) (@W.le wv (@W.pl wv 0 (@W.ar wv .sub .i64 (@W.ln wv Cell o) 1)) (@W.ln wv Cell o))
   (some (@W.ct wv Cell o 0 (@W.ar wv .sub .i64 (@W.ln wv Cell o) 1)))))))) (some o)))) (some o)
theorem J3i{o:List Cell}(hl:o.length<=1000000000):L9 o=some (trim o):=by
 unfold L9 trim;by_cases h:1<o.length
 ·obtain ⟨z,f,d⟩:=Jvp (o:=o) (by omega) hl;have e:@W.ar wv .sub .i64 (@W.ln wv Cell o) 1=((o.length - 1:Nat):Int):=by rw [AO,Xo,wr (by omega) (by omega)];omega
  have a:o[0]?=some o[0]:=Ac (by omega);rw [BA (by rw [z7,AO];exact decide_eq_true (by omega)),FQ (by rw [AO];omega),AP (NQ a),FQ (by rw [e,AO];omega),AP d,jH,f,Bl,a];by_cases q:o[0]=z
  ·rw [BA (decide_eq_true q),if_pos ⟨h,by rw [q]⟩,e,Ed (by omega),Ed (by rw [AO];omega),Ed (by omega),Ed (by omega),Ed (by rw [BX,AO];omega),Iq,List.dropLast_eq_take];simp
  ·rw [AU (decide_eq_false q),if_neg λhx=>q (by have:=hx.2;injection this)]
 ·rw [AU (by rw [z7,AO];exact decide_eq_false (by omega)),if_neg λhx=>h hx.1]
def Ik(P:Cell)(h:Int)(k:Nat):List Cell:=(Ai k).map λj=>Qm (fwd P h j) h
theorem wh(P:Cell)(h:Int)(k:Nat):Ik P h (k+1)=Ik P h k++[Qm (fwd P h k) h]:=by unfold Ik;rw [Bk,Aj];rfl
theorem wI(P:Cell)(h:Int)(k:Nat):(Ik P h k).length=k:=by unfold Ik;rw [Aa,Af]
theorem iY{P:Cell}{h:Int}(a:hd4 h){k L:Nat}(d:k<=L)(g:X5 P)(f:X5 (fwd P h L)):X5 (fwd P h k):=by
 have m:=kQ P a k;have l:=kQ P a L;have:hd4 h:=a;generalize fwd P h k=u at *
 generalize fwd P h L=v at *
 unfold X5 at *
 omega
theorem RH{P:Cell}{h:Int}(a:hd4 h){k L:Nat}(f:k<L):fwd P h k≠fwd P h L:=by
 have d:=kQ P a k;have g:=kQ P a L;intro e;rw [e] at d;generalize fwd P h L=v at *
 omega
theorem J9z{P:Cell}{h:Int}(d:hd4 h){k L:Nat}(l:k<L)(g:X5 P)(f:X5 (fwd P h L)):@W.ar wv .add .i64 (fwd P h k).1 (BP h).1=(fwd P h (k+1)).1/\@W.ar wv .add .i64 (fwd P h k).2 (BP h).2=(fwd P h (k+1)).2:=by
 have e:fwd P h (k+1)=Em (fwd P h k) (BP h):=by rw [Jwv,vw]
 have a:=iY d (k:=k+1) (L:=L) (by omega) g f;rw [e] at a ⊢;unfold X5 Em at a;unfold Em;dsimp only at a ⊢;rw [J3,J3,wr (by omega) (by omega),wr (by omega) (by omega)];exact ⟨rfl,rfl⟩
section
variable {r:AY} {s:Ck}
theorem qQ{N i:Nat}(h:i<(DZ r s N).length):DV r s (tpN r s N (i+1))=fwd (DV r s (tpN r s N i)) (Cc r s (tpN r s N i)) (tpN r s N (i+1) - tpN r s N i):=by have a:=iC r s h;have:=edge r s h (tpN r s N (i+1) - tpN r s N i) (by omega);rwa [show tpN r s N i+(tpN r s N (i+1) - tpN r s N i)=tpN r s N (i+1) by omega] at this
theorem Jy8{N i:Nat}(h:i<(DZ r s N).length):∀k,tpN r s N i+k<tpN r s N (i+1)->raw r s (tpN r s N i+k)=raw r s (tpN r s N i)++Ik (DV r s (tpN r s N i)) (Cc r s (tpN r s N i)) k
 | 0,_=>by simp [Ik]
 | k+1,f=>by
  rw [<-Nat.add_assoc,iN,Jy8 h k (by omega),wh,As]
  congr 2
  have d:=qG r s h k (by omega);have a:=qG r s h (k+1) (by omega);rw [<-Nat.add_assoc] at a;unfold Ef;rw [d,a,edge r s h k (by omega),if_neg];unfold VA;omega
noncomputable def MR(r:AY)(s:Ck)(N i:Nat):List Cell:=if VA (Cc r s (tpN r s N i)) (Cc r s (tpN r s N (i+1))) then [Em (Qm (fwd (DV r s (tpN r s N i)) (Cc r s (tpN r s N i)) (tpN r s N (i+1) - tpN r s N i - 1)) (Cc r s (tpN r s N i))) (BP (Cc r s (tpN r s N i)))] else []
theorem J3o{N i:Nat}(h:i<(DZ r s N).length) :
  raw r s (tpN r s N (i+1))=raw r s (tpN r s N i)++Ik (DV r s (tpN r s N i)) (Cc r s (tpN r s N i)) (tpN r s N (i+1) - tpN r s N i)++MR r s N i:=by
 have a:=iC r s h;obtain ⟨k,d⟩:∃k,tpN r s N (i+1)=tpN r s N i+k+1:=⟨tpN r s N (i+1) - tpN r s N i - 1,by omega⟩;have l:=qG r s h k (by omega);have g:=edge r s h k (by omega);have f:=Jy8 h k (by omega);unfold MR;rw [d,show tpN r s N i+k+1 - tpN r s N i=k+1 by omega,iN,f,wh,As,As,As,Be]
 congr 2
 unfold Ef;rw [l,g];rfl
end
abbrev Sr1:=HP (List Cell) (HP Int (HP (List Cell) (HP Int (HP Int (HP Int (HP Int (HP Int (HP Int (HP Int (HP Int (HP Int (HP Int Unit))))))))))))
abbrev Or1:=HP (List Cell) (HP Int (HP (List Cell) (HP Int (HP Int (HP Int (HP Int (HP Int (HP Int Unit))))))))
def jF(c0 P:Cell)(h:Int)(k:Nat):Cell:=if k=0 then c0 else Qm (fwd P h (k - 1)) h
theorem OY(pts:List Cell)(i:Int)(o:List Cell){P:Cell}{h:Int}(a:hd4 h){L:Nat}(hL:L<=1000000)(l:X5 P)(g:X5 (fwd P h L))(e c0:Cell)(r:o.length<=100000000) :
  X0 (@Xc wv) CU (⟨pts,i,o,P.1,P.2,(fwd P h L).1,(fwd P h L).2,(BP h).1,(BP h).2,e.1,e.2,c0.1,c0.2,()⟩:Sr1) =
   some (⟨pts,i,o++Ik P h L,(BP h).1,(BP h).2,e.1,e.2,(jF c0 P h L).1,(jF c0 P h L).2,()⟩:Or1):=by
 have key:=Ki (b:=@Xc wv) (e:=(⟨pts,i,o++Ik P h L,(BP h).1,(BP h).2,e.1,e.2,(jF c0 P h L).1,(jF c0 P h L).2,()⟩:Or1))
  (λk=>(⟨pts,i,o++Ik P h k,(fwd P h k).1,(fwd P h k).2,(fwd P h L).1,(fwd P h L).2,(BP h).1,(BP h).2,e.1,e.2,(jF c0 P h k).1,(jF c0 P h k).2,()⟩:Sr1)) L (by omega) (λk d=>by
   have f:=J9z a d l g;unfold Xc;dsimp only;rw [BA (by rw [jH,BQ,decide_eq_false (RH a d)];rfl)];refine (BH (c:=Y4) (OZ a (iY a (by omega) l g))).trans ?_;rw [AO,BX,FH (by rw [Ae,wI];omega) (by omega),f.1,f.2,CV,wh,As];rfl) (by unfold Xc;dsimp only;rw [AU (by rw [jH,BQ,decide_eq_true rfl];rfl)])
 have m:Ik P h 0=[]:=rfl;simp only [m,Jwi,Ay] at key;exact key
theorem uE{r:AY}{s:Ck}{N:Nat}(hN:Ez (nx r) s N){i:Nat}(h:i<(DZ r s N).length):(poly r s N)[i]?=some (DV r s (tpN r s N i)):=by rw [Jw2 r s hN.pos,Ah,kU r s h];rfl
theorem qZ{r:AY}{s:Ck}{N:Nat}(hN:Ez (nx r) s N){i:Nat}(h:i<(DZ r s N).length):(poly r s N)[(i+1) % (DZ r s N).length]?=some (DV r s (tpN r s N (i+1))):=by
 by_cases a:i+1<(DZ r s N).length
 ·rw [Bb a];exact uE hN a
 ·have e:i+1=(DZ r s N).length:=by omega
  rw [e,Nat.mod_self,uE hN (by omega),qX r s hN.pos,kV r s (Bf _)];have:DV r s N=s.1:=congrArg Prod.fst hN.back;rw [this];rfl
theorem Jx0{r:AY}{s:Ck}{N:Nat}(hN:Ez (nx r) s N){i:Nat}(h:i<(DZ r s N).length):∃L,0<L/\L<=N/\(poly r s N)[(i+2) % (DZ r s N).length]?=some (fwd (DV r s (tpN r s N (i+1))) (Cc r s (tpN r s N (i+1))) L):=by
 by_cases f:i+1<(DZ r s N).length
 ·have a:tpN r s N (i+1)<tpN r s N (i+2):=iC r s f;have d:=sw r s (N:=N) (i:=i+2);refine ⟨tpN r s N (i+2) - tpN r s N (i+1),by omega,by omega,?_⟩;rw [qZ hN f];exact congrArg some (qQ f)
 ·have e:i+1=(DZ r s N).length:=by omega
  have l:=hN.pos;have g:0<(DZ r s N).length:=by omega
  have a:tpN r s N 0<tpN r s N 1:=iC r s g;have d:=sw r s (N:=N) (i:=1);refine ⟨tpN r s N 1 - tpN r s N 0,by omega,by omega,?_⟩;have em:(i+2) % (DZ r s N).length=(0+1) % (DZ r s N).length:=by rw [show i+2=0+1+(DZ r s N).length by omega,Nat.add_mod_right]
  rw [em,qZ hN g,kV r s (i:=i+1) (by omega)];have o:DV r s N=DV r s (tpN r s N 0):=by rw [qX r s l];exact congrArg Prod.fst hN.back
  have m:Cc r s N=Cc r s (tpN r s N 0):=by rw [qX r s l];exact congrArg Prod.snd hN.back
  rw [o,m];exact congrArg some (qQ g)
theorem J4l{r:AY}{s:Ck}{N:Nat}(hN:Ez (nx r) s N):(poly r s N).length=(DZ r s N).length:=by rw [Jw2 r s hN.pos,Aa]
theorem qU{a:Int}{b n:Nat}(e:a=(b:Int)):@W.ar wv .rem .i64 a (n:Int)=((b % n:Nat):Int):=by rw [sW,e,Bg (by omega)];exact (Int.natCast_emod _ _).symm
theorem OX{r:AY}(hr:AL r){s:Ck}(hs:DI r s.1 s.2){N:Nat}(hN:Ez (nx r) s N)(F:N<=1000000):@Jb5 wv (poly r s N)=some (raw r s N):=by
 have B:=hN.pos;have Y:=J65 r s N;have g:=J4l hN;have d:=Ki (b:=@Zk wv) (e:=(⟨raw r s N,()⟩:HP (List Cell) Unit)) (λi=>(⟨poly r s N,(i:Int),raw r s (tpN r s N i),()⟩:HP (List Cell) (HP Int (HP (List Cell) Unit)))) (DZ r s N).length (by omega) (λi hi=>by
  have E:=iC r s hi;have hTle:=sw r s (N:=N) (i:=i+1);have g0:=uE hN hi;have M:=qZ hN hi;obtain ⟨L2,hL2,hL2',K⟩:=Jx0 hN hi;have l:hd4 (Cc r s (tpN r s N i)):=(Y0 hs _).e;have o:hd4 (Cc r s (tpN r s N (i+1))):=(Y0 hs _).e;have s0:=TB hr (Y0 hs (tpN r s N i));have w:=TB hr (Y0 hs (tpN r s N (i+1)));rw [show (BR (nx r) (tpN r s N i) s).1=DV r s (tpN r s N i) from rfl] at s0;rw [show (BR (nx r) (tpN r s N (i+1)) s).1=DV r s (tpN r s N (i+1)) from rfl] at w;have hwE:=Nf (p:=DV r s (tpN r s N (i+1))) o hL2;have hE:=qQ hi;have a:=J3o hi;have A:=iG r s (tpN r s N i);have y:=iG r s (tpN r s N (i+1));unfold MR at a;generalize G:Cc r s (tpN r s N i)=h at *
  generalize Cc r s (tpN r s N (i+1))=h' at *
  generalize DV r s (tpN r s N i)=P at *
  generalize DV r s (tpN r s N (i+1))=Q at *
  generalize fwd Q h' L2=R at *
  obtain ⟨L,hL⟩:∃L,tpN r s N (i+1) - tpN r s N i=L+1:=⟨tpN r s N (i+1) - tpN r s N i - 1,by omega⟩;rw [hL] at hE a;subst hE;have hwD:=Nf (p:=P) l (n:=L+1) (by omega);have v:@W.ar wv .add .i64 (i:Int) 1=((i+1:Nat):Int):=by rw [J3,wr (by omega) (by omega)];omega
  have X:@W.ar wv .rem .i64 ((i+1:Nat):Int) ((DZ r s N).length:Int)=(((i+1) % (DZ r s N).length:Nat):Int):=qU rfl;have O:@W.ar wv .rem .i64 (@W.ar wv .add .i64 (i:Int) 2) ((DZ r s N).length:Int)=(((i+2) % (DZ r s N).length:Nat):Int):=qU (by rw [J3,wr (by omega) (by omega)];omega);have m:@W.cm wv .neq ((DZ r s N).length:Int) 0=true:=by rw [GZ];exact bne_iff_ne.2 (by omega)
  unfold Zk;dsimp only;rw [AO,g,J5 (by omega),AP (fg g0),Cb m,v,X,AP (fg M),Cb m,O,AP (fg K)];refine (BH (c:=Qy) hwD).trans ((BH (c:=Qy) hwE).trans ((BL (OY _ _ _ l (by omega) s0 w (BP h') (0,0) (by omega))).trans ?_));dsimp only;rw [J4v l o,v];have J:jF (0,0) P h (L+1)=Qm (fwd P h L) h:=rfl;rw [J];have H:X5 (Qm (fwd P h L) h)/\X5 (Em (Qm (fwd P h L) h) (BP h))\/True:=.inr trivial;by_cases f:VA h h'
  ·have Z:-2000000000<=(Qm (fwd P h L) h).1/\(Qm (fwd P h L) h).1<=2000000000/\-2000000000<=(Qm (fwd P h L) h).2/\(Qm (fwd P h L) h).2<=2000000000:=by have:=iY l (k:=L) (L:=L+1) (by omega) s0 w;unfold X5 at this;unfold Qm;rcases l with rfl|rfl|rfl|rfl<;>simp<;>omega
   have hd:-1<=(BP h).1/\(BP h).1<=1/\-1<=(BP h).2/\(BP h).2<=1:=by rcases l with rfl|rfl|rfl|rfl<;>simp [BP]
   rw [BA (decide_eq_true f),AO,BX,FH (by rw [Ae,wI];omega) (by omega),CV,a,if_pos f,J3,J3,wr (by omega) (by omega),wr (by omega) (by omega),Be];rfl
  ·rw [AU (decide_eq_false f),a,if_neg f,Ay]) (by unfold Zk;dsimp only;rw [AO,g,Jr (by omega),kV r s (Bf _)])
 have v:raw r s (tpN r s N 0)=[]:=by rw [qX r s B];rfl
 rw [v] at d;exact (BL d).trans rfl
theorem VL(l:List Cell)(hl:l.length<=100000000):@zu wv l=some (NA l):=by
 have a:=Ki (b:=@Zl wv) (e:=(⟨dd l,()⟩:HP (List Cell) Unit)) (λi=>(⟨l,(i:Int),dd (l.take i),()⟩:HP (List Cell) (HP Int (HP (List Cell) Unit)))) l.length (by omega) (λi hi=>by
  have hx:=Ac hi;generalize l[i]=c at hx;have r:@W.ar wv .add .i64 (i:Int) 1=((i+1:Nat):Int):=by rw [J3,wr (by omega) (by omega)];omega
  have d:=qC (l.take i);rw [Au] at d;rw [Ka hx,iF];generalize dd (l.take i)=o at *
  unfold Zl;dsimp only;rw [AO,J5 (by omega),r];unfold JA;by_cases h:0<o.length
  ·obtain ⟨z,m,g⟩:=Jvp h (by omega);rw [AU (by rw [Qn,AO,beq_eq_false_iff_ne];omega),FQ (by rw [AO,Xo,wr (by omega) (by omega)];omega),AP g,AP (fg hx),jH,m];by_cases e:z=c
   ·rw [AU (by rw [BQ,decide_eq_true e];rfl),if_pos (by rw [e])]
   ·rw [BA (by rw [BQ,decide_eq_false e];rfl),if_neg (by simpa using e),AP (fg hx),AO,BX,FH (by omega) (by omega),CV]
  ·have f:o=[]:=Bc (by omega);subst f;rw [BA (by rfl),AP (fg hx),AO,BX,FH (by simp) (by simp),CV];rfl) (by unfold Zl;dsimp only;rw [AO,Jr (by omega),Av])
 unfold zu;refine (BL a).trans ?_;exact (show _=L9 (dd l) from rfl).trans (J3i (by have:=qC l;omega))
abbrev gN:=HP (List Cell) (HP Int (HP (List Cell) (HP Int (HP Int (HP Int (HP Int Unit))))))
theorem Jyo(m:List Cell):∀o:List Cell,(m.foldl JA o).length<=o.length+m.length:=by
 induction m with
 | nil=>intro o;exact Bf _
 | cons c m a=>
  intro o;rw [List.foldl_cons,Ak];refine Nat.le_trans (a _) ?_;unfold JA;split
  ·omega
  ·rw [Ae,List.length_singleton];omega
theorem Oy(pts:List Cell)(i j:Nat)(o:List Cell){P:Cell}{h:Int}(g:hd4 h){L:Nat}(hL:L<=1000000)(w:X5 P)(r:X5 (fwd P h L))(G:o.length<=100000000)(hi:i<=1000000000)(F:pts.length<=1000000000)(A:0<pts.length)
  (l:pts[(i+1) % pts.length]?=some (fwd P h L)) :
  X0 (@jy wv) CU (⟨pts,(i:Int),o,P.1,P.2,(BP h).1,(BP h).2,()⟩:gN) =
   some (⟨pts,(i:Int),(Ik P h L).foldl JA o,(fwd P h L).1,(fwd P h L).2,(BP h).1,(BP h).2,()⟩:gN):=by
 have y:@W.ar wv .rem .i64 (@W.ar wv .add .i64 (i:Int) 1) (pts.length:Int)=(((i+1) % pts.length:Nat):Int):=qU (by rw [J3,wr (by omega) (by omega)];omega);have a:@W.cm wv .neq (pts.length:Int) 0=true:=by rw [GZ];exact bne_iff_ne.2 (by omega)
 have key:=Ki (b:=@jy wv) (e:=(⟨pts,(i:Int),(Ik P h L).foldl JA o,(fwd P h L).1,(fwd P h L).2,(BP h).1,(BP h).2,()⟩:gN))
  (λk=>(⟨pts,(i:Int),(Ik P h k).foldl JA o,(fwd P h k).1,(fwd P h k).2,(BP h).1,(BP h).2,()⟩:gN)) L (by omega) (λk f=>by
   have m:=J9z g f w r;have d:=Jyo (Ik P h k) o;rw [wI] at d;unfold jy;dsimp only;rw [AO,Cb a,y,AP (fg l),BA (by rw [jH,BQ,decide_eq_false (RH g f)];rfl)];refine (BH (c:=Zy) (J40 g (iY g (by omega) w r))).trans ?_;rw [m.1,m.2,wh,List.foldl_append];generalize (Ik P h k).foldl JA o=o1 at *
   generalize Qm (fwd P h k) h=c;generalize fwd P h (k+1)=v;obtain ⟨E,B⟩:=c;have f:=Kad (β:=Nx gN gN) (o:=o1) (by omega) (E,B) (λo'=>some (.go (⟨pts,(i:Int),o',v.1,v.2,(BP h).1,(BP h).2,()⟩:gN)));unfold XE at f;exact f) (by unfold jy;dsimp only;rw [AO,Cb a,y,AP (fg l),AU (by rw [jH,BQ,decide_eq_true rfl];rfl)])
 have ec:Ik P h 0=[]:=rfl;simp only [ec,Jwi,List.foldl_nil] at key;exact key
abbrev oN:=HP (List Cell) (HP Int (HP Int (HP Int (HP Int (HP Int (HP (List Cell) Unit))))))
theorem Ol{r:AY}(hr:AL r){s:Ck}(hl:CS r s){N:Nat}(hN:Ez (nx r) s N)(Z:N<=1000000):@xO wv (poly r s N)=some (NA (raw r s N)):=by
 have hs:=hl.1;have J:=hN.pos;have hn:=J65 r s N;have h2n:=UE hl hN;have m:=J4l hN;have step:∀i,i<(DZ r s N).length->@yJ wv (⟨poly r s N,(i:Int),(DV r s (tpN r s N i)).1,(DV r s (tpN r s N i)).2,(BP (Cc r s (tpN r s N i))).1,(BP (Cc r s (tpN r s N i))).2,dd (raw r s (tpN r s N i)),()⟩:oN) =
   if i+1=(DZ r s N).length then some (.out (⟨dd (raw r s (tpN r s N (i+1))),()⟩:HP (List Cell) Unit)) else
    some (.go (⟨poly r s N,((i+1:Nat):Int),(DV r s (tpN r s N (i+1))).1,(DV r s (tpN r s N (i+1))).2,(BP (Cc r s (tpN r s N (i+1)))).1,(BP (Cc r s (tpN r s N (i+1)))).2,dd (raw r s (tpN r s N (i+1))),()⟩:oN)):=λi hi=>by
  have F:=iC r s hi;have hTle:=sw r s (N:=N) (i:=i+1);have w:=qZ hN hi;obtain ⟨L2,hL2,hL2',O⟩:=Jx0 hN hi;have v:hd4 (Cc r s (tpN r s N i)):=(Y0 hs _).e;have A:hd4 (Cc r s (tpN r s N (i+1))):=(Y0 hs _).e;have s0:=TB hr (Y0 hs (tpN r s N i));have f:=TB hr (Y0 hs (tpN r s N (i+1)));rw [show (BR (nx r) (tpN r s N i) s).1=DV r s (tpN r s N i) from rfl] at s0;rw [show (BR (nx r) (tpN r s N (i+1)) s).1=DV r s (tpN r s N (i+1)) from rfl] at f;have hE:=qQ hi;have a:=J3o hi;have Y:=iG r s (tpN r s N i);have hdl:=qC (raw r s (tpN r s N i));have X:X5 (fwd (DV r s (tpN r s N (i+1))) (Cc r s (tpN r s N (i+1))) L2):=by have M:=Ad O;rw [Jw2 r s J] at M;obtain ⟨k,_,hk⟩:=Ap.1 M;rw [<-hk];exact TB hr (Y0 hs k)
  unfold MR at a;generalize Cc r s (tpN r s N i)=h at *
  generalize Cc r s (tpN r s N (i+1))=h' at *
  generalize DV r s (tpN r s N i)=P at *
  generalize DV r s (tpN r s N (i+1))=Q at *
  have hwE:=Jpb (p:=Q) A hL2 f X;generalize fwd Q h' L2=R at *
  obtain ⟨L,hL⟩:∃L,tpN r s N (i+1) - tpN r s N i=L+1:=⟨tpN r s N (i+1) - tpN r s N i - 1,by omega⟩;rw [hL] at hE a;subst hE;have H:@W.ar wv .add .i64 (i:Int) 1=((i+1:Nat):Int):=by rw [J3,wr (by omega) (by omega)];omega
  have e1:@W.ar wv .rem .i64 ((i+1:Nat):Int) ((DZ r s N).length:Int)=(((i+1) % (DZ r s N).length:Nat):Int):=qU rfl;have e2:@W.ar wv .rem .i64 (@W.ar wv .add .i64 ((i+1:Nat):Int) 1) ((DZ r s N).length:Int)=(((i+2) % (DZ r s N).length:Nat):Int):=qU (by rw [J3,wr (by omega) (by omega)];omega);have y:@W.cm wv .neq ((DZ r s N).length:Int) 0=true:=by rw [GZ];exact bne_iff_ne.2 (by omega)
  have G:=Jyo (Ik P h (L+1)) (dd (raw r s (tpN r s N i)));rw [wI] at G;unfold yJ;dsimp only;refine (BL (Oy _ i ((i+1) % (DZ r s N).length) _ v (by omega) s0 f (by omega) (by omega) (by omega) (by omega) (by rw [m];exact w))).trans ?_;dsimp only;rw [AO,m,Cb y,H,e1,AP (fg w),Cb y,e2,AP (fg O)];refine (BH (c:=Qp) hwE).trans ?_;rw [J4v v A];have l:@W.ar wv .sub .i64 (fwd P h (L+1)).1 (BP h).1=(fwd P h L).1/\@W.ar wv .sub .i64 (fwd P h (L+1)).2 (BP h).2=(fwd P h L).2:=by
   have e:fwd P h (L+1)=Em (fwd P h L) (BP h):=by rw [Jwv,vw]
   have h3:=iY v (k:=L) (L:=L+1) (by omega) s0 f;unfold X5 at h3;rw [e,Xo,Xo];unfold Em;dsimp only;rw [wr (by omega) (by omega),wr (by omega) (by omega)];omega
  let K:List Cell->Option (Nx oN (HP (List Cell) Unit)):=λo=>@W.br wv _ (@W.cm wv .eql ((i+1:Nat):Int) ((DZ r s N).length:Int)) (some (.out ⟨o,()⟩)) (some (.go ⟨poly r s N,((i+1:Nat):Int),(fwd P h (L+1)).1,(fwd P h (L+1)).2,(BP h').1,(BP h').2,o,()⟩));have hK:∀o:List Cell,K o=if i+1=(DZ r s N).length then some (.out (⟨o,()⟩:HP (List Cell) Unit)) else some (.go (⟨poly r s N,((i+1:Nat):Int),(fwd P h (L+1)).1,(fwd P h (L+1)).2,(BP h').1,(BP h').2,o,()⟩:oN)):=λo=>by
   show @W.br wv _ _ _ _=_;by_cases e:i+1=(DZ r s N).length
   ·rw [BA (by rw [Qn];exact beq_iff_eq.2 (by omega)),if_pos e]
   ·rw [AU (by rw [Qn];exact beq_eq_false_iff_ne.2 (by omega)),if_neg e]
  by_cases g:VA h h'
  ·have hb:-2000000000<=(Qm (fwd P h L) h).1/\(Qm (fwd P h L) h).1<=2000000000/\-2000000000<=(Qm (fwd P h L) h).2/\(Qm (fwd P h L) h).2<=2000000000:=by have:=iY v (k:=L) (L:=L+1) (by omega) s0 f;unfold X5 at this;unfold Qm;rcases v with rfl|rfl|rfl|rfl<;>simp<;>omega
   have hd:-1<=(BP h).1/\(BP h).1<=1/\-1<=(BP h).2/\(BP h).2<=1:=by rcases v with rfl|rfl|rfl|rfl<;>simp [BP]
   rw [BA (decide_eq_true g),l.1,l.2];refine (BH (c:=Zy) (J40 v (iY v (k:=L) (L:=L+1) (by omega) s0 f))).trans ?_;have a1:@W.ar wv .add .i64 (Qm (fwd P h L) h).1 (BP h).1=(Em (Qm (fwd P h L) h) (BP h)).1:=by rw [J3,wr (by omega) (by omega)];rfl
   have a2:@W.ar wv .add .i64 (Qm (fwd P h L) h).2 (BP h).2=(Em (Qm (fwd P h L) h) (BP h)).2:=by rw [J3,wr (by omega) (by omega)];rfl
   rw [a1,a2,a,if_pos g,iF,Rx,Be];generalize (Ik P h (L+1)).foldl JA (dd (raw r s (tpN r s N i)))=E at *
   generalize Em (Qm (fwd P h L) h) (BP h)=c;exact (show _=XE E c K from rfl).trans ((Kad (by omega) _ _).trans (hK _))
  ·rw [AU (decide_eq_false g),a,if_neg g,Ay,Rx];generalize (Ik P h (L+1)).foldl JA (dd (raw r s (tpN r s N i)))=E at *
   exact hK E
 have B:tpN r s N ((DZ r s N).length - 1+1)=N:=kV r s (by omega);have d:=Ki (b:=@yJ wv) (e:=(⟨dd (raw r s N),()⟩:HP (List Cell) Unit)) (λi=>(⟨poly r s N,(i:Int),(DV r s (tpN r s N i)).1,(DV r s (tpN r s N i)).2,(BP (Cc r s (tpN r s N i))).1,(BP (Cc r s (tpN r s N i))).2,dd (raw r s (tpN r s N i)),()⟩:oN)) ((DZ r s N).length - 1) (by omega) (λi hi=>by
  rw [step i (by omega),if_neg (by omega)]) (by rw [step _ (by omega),if_pos (by omega),B])
 have g0:=uE hN (i:=0) (by omega);have w:=qZ hN (i:=0) (by omega);rw [Bb (by omega)] at w;have hE:=qQ (r:=r) (s:=s) (N:=N) (i:=0) (by omega);have F:=iC r s (N:=N) (i:=0) (by omega);have s0:=TB hr (Y0 hs (tpN r s N 0));have f:=TB hr (Y0 hs (tpN r s N (0+1)));rw [show (BR (nx r) (tpN r s N 0) s).1=DV r s (tpN r s N 0) from rfl] at s0;rw [show (BR (nx r) (tpN r s N (0+1)) s).1=DV r s (tpN r s N (0+1)) from rfl] at f;rw [hE] at w f;have hwE:=Jpb (p:=DV r s (tpN r s N 0)) (Y0 hs (tpN r s N 0)).e (n:=tpN r s N (0+1) - tpN r s N 0) (by omega) s0 f;unfold xO;rw [AP (NQ g0),AP (NQ g0),AP (i:=1) (fg (i:=1) w)];refine (BH (c:=Qp) hwE).trans ?_;have H:raw r s (tpN r s N 0)=[]:=by rw [qX r s J];rfl
 rw [H] at d;refine (BL d).trans ?_;exact (show _=L9 (dd (raw r s N)) from rfl).trans (J3i (by have:=qC (raw r s N);have:=iG r s N;omega))
noncomputable def KS(r:AY)(s:Ck):Jt:=(1,true,NA (raw r s (EK r s)))
theorem Jxb{r:AY}(a:(K8 r).length<=8000){s:Ck}(hs:DI r s.1 s.2):(NA (raw r s (EK r s))).length<=65536:=by have h:=O7 (raw r s (EK r s));have g:=iG r s (EK r s);have f:=kZ hs;have d:=qR r;omega
theorem Jox{r:AY}(h:Starts r (X4 r)):(X4 r).length<=(Cy r).length:=by have d:(X4 r).Nodup:=h.pw.imp λ{a b} (h:yx a.1 b.1) (e:a=b)=>au a.1 (by subst e;exact h);exact Tm d λs hs=>((h.mem s).1 hs).mem
open Classical in
theorem Ka0(r:AY)(hl:DF r)(l:AL r->(K8 r).length<=8000):@ru wv r=some (if AL r then (X4 r).map (KS r) else []):=by
 have a:AL r->(Cy r).length<=1000000:=λh=>by have:=l h;have:=qR r;omega
 unfold ru;rw [WJ hl a];by_cases hr:AL r
 case neg=>
  rw [if_neg hr,if_neg hr];exact (BL (show X0 (@za wv) CU ⟨[],0,0,[],()⟩=some ⟨[],()⟩ from YM (n:=18446744073709551615) rfl)).trans rfl
 rw [if_pos hr,if_pos hr];have f:=(vE r hl a).2 hr;have a:=a hr;have l:=l hr;have v:=Jox f;have g:((X4 r).map (pol r)).length=(X4 r).length:=Aa _;have d:=Ki (b:=@za wv) (e:=(⟨(X4 r).map (KS r),()⟩:HP (List Jt) Unit)) (λi=>(⟨(X4 r).map (pol r),((X4 r).length:Int),(i:Int),((X4 r).take i).map (KS r),()⟩:HP (List (List Cell)) (HP Int (HP Int (HP (List Jt) Unit))))) (X4 r).length (by omega) (λi hi=>by
  have hx:=Ac hi;generalize (X4 r)[i]=s at hx;have hs:CS r s:=(f.mem s).1 (Ad hx);have y:((X4 r).map (pol r))[i]?=some (pol r s):=by rw [Ah,hx];rfl
  have w:=kZ hs.1;have o:=Ol hr hs (YN hs.1) (by omega);have m:=Jxb l hs.1;unfold za;dsimp only;rw [J5 (by omega),AP (fg y)];refine (BH (c:=lu) o).trans ?_;rw [BA (by rw [Fz,AO];exact decide_eq_true (by omega)),AO,BX,Aa,Au,sS (by omega) (by omega),J3,wr (by omega) (by omega),CV,wV hx];rfl) (by unfold za;dsimp only;rw [Jr (by omega),Av])
 rw [AO,g];exact (BL d).trans rfl
open Classical in
theorem J08(r:AY)(hl:DF r)(l:AL r->(K8 r).length<=8000):@z6 wv r=some (if AL r then (X4 r).map (KS r) else []):=by
 have f:AL r->(Cy r).length<=1000000:=λh=>by have:=l h;have:=qR r;omega
 unfold z6;rw [J2i hl (λh=>by have:=l h;omega)];by_cases hr:AL r
 case neg=>
  rw [if_neg hr,if_neg hr];exact (BL (show X0 (@Xi wv) CU ⟨[],0,[],()⟩=some ⟨[],()⟩ from YM (n:=18446744073709551615) rfl)).trans rfl
 rw [if_pos hr,if_pos hr];have g:=(vE r hl f).2 hr;have f:=f hr;have l:=l hr;have v:=Jox g;have a:((X4 r).map (pol r)).length=(X4 r).length:=Aa _;have d:=Ki (b:=@Xi wv) (e:=(⟨(X4 r).map (KS r),()⟩:HP (List Jt) Unit)) (λi=>(⟨(X4 r).map (pol r),(i:Int),((X4 r).take i).map (KS r),()⟩:HP (List (List Cell)) (HP Int (HP (List Jt) Unit)))) (X4 r).length (by omega) (λi hi=>by
  have hx:=Ac hi;generalize (X4 r)[i]=s at hx;have hs:CS r s:=(g.mem s).1 (Ad hx);have B:((X4 r).map (pol r))[i]?=some (pol r s):=by rw [Ah,hx];rfl
  have y:=kZ hs.1;have o:=OX hr hs.1 (YN hs.1) (by omega);have w:=iG r s (EK r s);have A:=VL (raw r s (EK r s)) (by omega);have m:=Jxb l hs.1;unfold Xi;dsimp only;rw [AO,a,J5 (by omega),AP (fg B)];refine (BH (c:=Y2) o).trans ((BH (c:=Y1) A).trans ?_);rw [BA (by rw [Fz,AO];exact decide_eq_true (by omega)),AO,BX,Aa,Au,sS (by omega) (by omega),J3,wr (by omega) (by omega),CV,wV hx];rfl) (by unfold Xi;dsimp only;rw [AO,a,Jr (by omega),Av])
 exact (BL d).trans rfl
open Classical in
theorem eD{α:Type}{r:AY}(hl:DF r)(a:AL r->(K8 r).length<=8000)(k:List (Int×(Bool×List (Int×Int)))->Option α):@W.call wv α Yj r k=k (if AL r then (X4 r).map (KS r) else []):=BH (c:=Yj) (Ka0 r hl a)
theorem Kaf{n:Nat}{l:List Nat}(h:l.Nodup)(a:∀x∈l,x<n):l.length<=n:=by have:=Tm (m:=Ai n) h λx hx=>Am.2 (a x hx);rwa [Af] at this
theorem J84{r:AY}(h:AL r):(K8 r).length<=67108864:=by
 have m:((K8 r).map λc:Cell=>((c.2+4096) * 8192+(c.1+4096)).toNat).Nodup:=by refine List.pairwise_map.2 ((List.Pairwise.and_mem.1 h.IG).imp λ{a b} ⟨l,g,d⟩ e=>?_);have ba:=h.bd (TD.1 l);have bb:=h.bd (TD.1 g);unfold yx at d;omega
 have:=Kaf (n:=67108864) m λx hx=>by obtain ⟨c,f,rfl⟩:=Ap.1 hx;have:=h.bd (TD.1 f);omega
 rwa [Aa] at this
open Classical in
theorem Jyb(r:AY)(hl:DF r):@Q3 wv r=some (if AL r then ((K8 r).length:Int) else 0):=by
 unfold Q3;rw [wW hl];by_cases h:AL r
 case neg=>rw [BA (by simp [BQ,h]),if_neg h]
 rw [AU (by simp [BQ,h]),if_pos h];have hL:=hl.1;have o:=J84 h;have d:=Ki (b:=@Yq wv) (e:=(⟨((K8 r).length:Int),()⟩:HP Int Unit)) (λi=>(⟨(((r.take i).flatMap EP).length:Int),(i:Int),r,()⟩:HP Int (HP Int (HP AY Unit)))) r.length (by omega) (λi hi=>by
  have a:=Ac hi;generalize r[i]=w at a;have hLw:=hl.2 w (Ad a);have g:=Ki (b:=@Yo wv) (e:=(⟨(((r.take i).flatMap EP).length+(EP w).length:Nat),(i:Int),r,()⟩:HP Int (HP Int (HP AY Unit)))) (λk=>(⟨((((r.take i).flatMap EP).length+((w.2.take k).flatMap (Ie w.1)).length:Nat):Int),(i:Int),(k:Int),r,()⟩:HP Int (HP Int (HP Int (HP AY Unit))))) w.2.length (by omega) (λk m=>by
   have f:=Ac m;generalize w.2[k]=u at f;have v:=(h.rs w (Ad a)).bd u (Ad f);have l:=J4s a f;rw [vV] at l;unfold Yo;dsimp only;simp only [AP (fg a),AP (fg f)];rw [AO,J5 (by omega),Xo,wr (n:=u.2 - u.1) (by omega) (by omega),J3,J3,wr (by omega) (by omega),wr (n:=(k:Int)+1) (by omega) (by omega),Jyr f,Ae,vV,
    show ((((r.take i).flatMap EP).length+((w.2.take k).flatMap (Ie w.1)).length:Nat):Int)+(u.2 - u.1)=((((r.take i).flatMap EP).length+(((w.2.take k).flatMap (Ie w.1)).length+(u.2 - u.1).toNat):Nat):Int) by omega]
   rfl) (by unfold Yo;dsimp only;simp only [AP (fg a)];rw [AO,Jr (by omega),Av];rfl)
  simp only [List.take_zero,List.flatMap_nil,List.length_nil,Nat.add_zero] at g;unfold Yq;dsimp only;rw [AO,J5 (by omega)];refine (BL g).trans ?_;dsimp only;rw [J3,wr (by omega) (by omega),rD a,Ae];rfl) (by unfold Yq;dsimp only;rw [AO,Jr (by omega),Av];rfl)
 exact (BL d).trans rfl
theorem ZC{a b:Cell}(h:ZE a b):nb a b:=by
 unfold nb;rcases h with ⟨f|f,d⟩|⟨f,d|d⟩
 ·rw [f,d,Bd];rfl
 ·rw [f,d,Bd];rfl
 ·rw [f,d,Bd];rfl
 ·rw [f,d,Bd];rfl
theorem Tx{r:AY}(hr:AL r)(f:(K8 r).length<=8000){s:Ck}(hs:DI r s.1 s.2):VT (KS r s):=by
 have hN:=YN hs;have d:=J02 hs hN;have m:=Jxb f hs;have o:∀c∈NA (raw r s (EK r s)),grid c:=λc h=>hr.bd (dA hs ((O6 c).1 h));unfold KS;generalize NA (raw r s (EK r s))=l at *
 have v:=List.length_pos_iff.2 d.ne;refine ⟨⟨(by decide:(1:Int)<=1),(by decide:(1:Int)<=7)⟩,⟨v,m⟩,λi hi c f=>⟨o c (Ad f),λp A g=>?_⟩,λ_=>?_⟩
 ·exact ZC (d.adj (i - 1) p c g (by rw [show i - 1+1=i by omega];exact f))
 ·refine d.cl.imp id λh a b y w=>ZC (h a b ?_ ?_)
  ·rw [Bj];exact y
  ·rw [Bl];exact w
def CF(x y:Int)(n m:Nat):AY:=(Ai m).map λi:Nat=>(y+(i:Int),[(x,x+(n:Int))])
theorem fV(x y:Int)(n m:Nat)(hx:-100000<=x/\x<=100000)(f:-100000<=y/\y<=100000)(g:n<=100000)(h:m<=100000):@Jcq wv (x,(y,((n:Int),(m:Int))))=some (CF x y n m):=by
 have a:=Ki (b:=@ji wv) (e:=(⟨CF x y n m,()⟩:HP AY Unit)) (λi=>(⟨x,y,(n:Int),(m:Int),(i:Int),CF x y n i,()⟩:HP Int (HP Int (HP Int (HP Int (HP Int (HP AY Unit))))))) m (by omega) (λi hi=>by
  have d:(CF x y n i).length=i:=by unfold CF;rw [Aa,Af]
  unfold ji;dsimp only;rw [J5 (by omega),AO,d,BX,jG (by omega) (by omega),J3,J3,J3,wr (n:=(i:Int)+1) (by omega) (by omega),wr (n:=y+(i:Int)) (by omega) (by omega),wr (n:=x+(n:Int)) (by omega) (by omega),CV];have e:CF x y n (i+1)=CF x y n i++[(y+(i:Int),[(x,x+(n:Int))])]:=by unfold CF;rw [Bk,Aj];rfl
  rw [e];rfl) (by unfold ji;dsimp only;rw [Jr (by omega)])
 unfold Jcq;exact (BL a).trans rfl
section
variable {x y:Int} {n m:Nat}
theorem NV{c:Cell}:Qo (CF x y n m) c↔(x<=c.1/\c.1<x+n)/\(y<=c.2/\c.2<y+m):=by
 unfold Qo CF;constructor
 ·rintro ⟨w,h,f,u,a,d,g⟩;obtain ⟨i,hi,rfl⟩:=Ap.1 h;rw [Am] at hi;dsimp only at a f;rw [Ag] at a;subst a;exact ⟨⟨d,g⟩,by omega,by omega⟩
 ·rintro ⟨⟨f,d⟩,g,l⟩;refine ⟨_,Ap.2 ⟨(c.2 - y).toNat,Am.2 (by omega),rfl⟩,by dsimp only;omega,(x,x+(n:Int)),Ag.2 rfl,f,d⟩
theorem qJ(g:0<n)(hx:-4096<=x/\x+n<=4096)(f:-4096<=y/\y+m<=4096):AL (CF x y n m):=by
 refine ⟨λw a=>?_,?_,λw a=>?_,λw a=>?_⟩
 ·obtain ⟨i,hi,rfl⟩:=Ap.1 a;rw [Am] at hi;dsimp only;omega
 ·exact List.pairwise_map.2 (List.pairwise_lt_range.imp λh=>by dsimp only;omega)
 ·obtain ⟨i,hi,rfl⟩:=Ap.1 a;exact λh=>by cases h
 ·obtain ⟨i,hi,rfl⟩:=Ap.1 a;exact ⟨λu d=>by rw [Ag] at d;subst d;dsimp only;omega,Az _ _⟩
theorem Wy(d:m<=1000000):DF (CF x y n m):=by refine ⟨by unfold CF;rw [Aa,Af];omega,λw a=>?_⟩;obtain ⟨i,hi,rfl⟩:=Ap.1 a;simp
theorem Jy2:(K8 (CF x y n m)).length<=m * n:=by
 have h:∀w∈CF x y n m,(EP w).length<=n:=λw a=>by obtain ⟨i,hi,rfl⟩:=Ap.1 a;unfold EP;rw [List.flatMap_cons,List.flatMap_nil,Ay,vV];dsimp only;omega
 have:=Jrm (f:=EP) (l:=CF x y n m) (n:=n) h;have hl:(CF x y n m).length=m:=by unfold CF;rw [Aa,Af]
 rw [hl] at this;exact this
def DY(x y:Int)(n m k:Nat):Ck:=
 if k<n then ((x+k,y),0) else if k<n+m then ((x+n,y+(k - n:Nat)),1) else if k<2 * n+m then ((x+n - (k - n - m:Nat),y+m),2) else ((x,y+m - (k - 2 * n - m:Nat)),3)
theorem Tf(a:0<n)(d:0<m){k:Nat}(f:k<2 * n+2 * m):DI (CF x y n m) (DY x y n m k).1 (DY x y n m k).2:=by
 unfold DY;split
 ·refine .inl ⟨rfl,?_⟩;simp only [NV];omega
 split
 ·refine .inr (.inl ⟨rfl,?_⟩);simp only [NV];omega
 split
 ·refine .inr (.inr (.inl ⟨rfl,?_⟩));simp only [NV];omega
 ·refine .inr (.inr (.inr ⟨rfl,?_⟩));simp only [NV];omega
theorem J62(g:0<n)(l:0<m){c:Ck}(h:DI (CF x y n m) c.1 c.2):∃k,k<2 * n+2 * m/\c=DY x y n m k:=by
 obtain ⟨⟨a,b⟩,t⟩:=c;simp only [DI,NV] at h;rcases h with ⟨rfl,f,d⟩|⟨rfl,f,d⟩|⟨rfl,f,d⟩|⟨rfl,f,d⟩
 ·refine ⟨(a - x).toNat,by omega,?_⟩;unfold DY;rw [if_pos (by omega)];refine Prod.ext (Prod.ext ?_ ?_) rfl<;>dsimp only<;>omega
 ·refine ⟨n+(b - y).toNat,by omega,?_⟩;unfold DY;rw [if_neg (by omega),if_pos (by omega)];refine Prod.ext (Prod.ext ?_ ?_) rfl<;>dsimp only<;>omega
 ·refine ⟨n+m+(x+n - a).toNat,by omega,?_⟩;unfold DY;rw [if_neg (by omega),if_neg (by omega),if_pos (by omega)];refine Prod.ext (Prod.ext ?_ ?_) rfl<;>dsimp only<;>omega
 ·refine ⟨2 * n+m+(y+m - b).toNat,by omega,?_⟩;unfold DY;rw [if_neg (by omega),if_neg (by omega),if_neg (by omega)];refine Prod.ext (Prod.ext ?_ ?_) rfl<;>dsimp only<;>omega
theorem SI(f:0<n)(g:0<m){k:Nat}(l:k+1<2 * n+2 * m):nx (CF x y n m) (DY x y n m k)=DY x y n m (k+1):=by
 have o:=Tf (x:=x) (y:=y) f g (k:=k) (by omega);have a:=Tf (x:=x) (y:=y) f g l;have d:Zb (DY x y n m k).2 (DY x y n m k).1=(DY x y n m (k+1)).1:=by
  unfold DY Zb
  (repeat' split)<;>first|(refine Prod.ext ?_ ?_<;>dsimp only at *<;>omega)|(dsimp only at *;omega)
 have h:=rule o (y:=(DY x y n m (k+1)).2) (by rw [d];exact a) (by
  rw [d];by_cases q:(DY x y n m (k+1)).2=((DY x y n m k).2+1) % 4
  ·exact .inl q
  ·refine .inr λh=>?_;revert q h;unfold DY
   (repeat' split)<;>intro q h<;>first
    | (dsimp only at q;omega)
    | (simp [DI,NV] at h;omega))
 rw [<-h,d]
theorem SK(d:0<n)(f:0<m):nx (CF x y n m) (DY x y n m (2 * n+2 * m - 1))=DY x y n m 0:=by
 have g:=Tf (x:=x) (y:=y) d f (k:=2 * n+2 * m - 1) (by omega);have a:=Tf (x:=x) (y:=y) d f (k:=0) (by omega);have o:DY x y n m (2 * n+2 * m - 1)=((x,y+1),3):=by unfold DY;rw [if_neg (by omega),if_neg (by omega),if_neg (by omega)];refine Prod.ext (Prod.ext ?_ ?_) rfl<;>dsimp only<;>omega
 have l:DY x y n m 0=((x,y),0):=by unfold DY;rw [if_pos d];refine Prod.ext (Prod.ext ?_ ?_) rfl<;>dsimp only<;>omega
 rw [o] at g ⊢;rw [l] at a ⊢;have h:Zb 3 (x,y+1)=(x,y):=by simp [Zb]
 have:=rule (c:=((x,y+1),3)) g (y:=0) (by dsimp only;rw [h];exact a) (.inl rfl);dsimp only at this;rw [h] at this;exact this.symm
theorem kY(a:0<n)(d:0<m):∀k,k<2 * n+2 * m->BR (nx (CF x y n m)) k (DY x y n m 0)=DY x y n m k
 | 0,_=>rfl
 | k+1,f=>by rw [show BR (nx (CF x y n m)) (k+1) (DY x y n m 0)=nx (CF x y n m) (BR (nx (CF x y n m)) k (DY x y n m 0)) from rfl,kY a d k (by omega),SI a d f]
theorem W9{j k:Nat}(d:j<2 * n+2 * m)(a:k<2 * n+2 * m)(h:DY x y n m j=DY x y n m k):j=k:=by
 unfold DY at h;revert h
 (repeat' split)<;>intro h<;>simp only [Prod.mk.injEq] at h<;>omega
theorem uV(a:0<n)(d:0<m):Ez (nx (CF x y n m)) (DY x y n m 0) (2 * n+2 * m):=by
 refine ⟨by omega,?_,λi f hi e=>?_⟩
 ·rw [show 2 * n+2 * m=2 * n+2 * m - 1+1 by omega];show nx (CF x y n m) (BR (nx (CF x y n m)) (2 * n+2 * m - 1) (DY x y n m 0))=_;rw [kY a d _ (by omega),SK a d]
 ·rw [kY a d i hi] at e;have:=W9 hi (by omega) e;omega
theorem J4h(a:0<n):DY x y n m 0=((x,y),0):=by unfold DY;rw [if_pos a];refine Prod.ext (Prod.ext ?_ ?_) rfl<;>dsimp only<;>omega
theorem Jz5(a:0<n)(d:0<m):CS (CF x y n m) (DY x y n m 0):=by
 refine ⟨Tf a d (by omega),λk=>?_⟩;have f:=Y0 (Tf (x:=x) (y:=y) a d (k:=0) (by omega)) k;obtain ⟨j,g,e⟩:=J62 a d f;rw [e,J4h a];unfold DY yx
 (repeat' split)<;>dsimp only<;>omega
theorem Jon(a:0<n)(d:0<m):X4 (CF x y n m)=[DY x y n m 0]:=by refine vk ⟨Az _ _,λc=>?_⟩;rw [Ag];refine ⟨λe=>by rw [e];exact Jz5 a d,λh=>?_⟩;obtain ⟨k,f,e⟩:=J62 a d h.1;exact (Jz5 a d).same h (k:=k) (by rw [kY a d k f];exact e)
def ZR(x y:Int)(n m:Nat):List Cell:=(Ai n).map (λk:Nat=>(x+(k:Int),y))++(Ai m).map (λk:Nat=>(x+n - 1,y+(k:Int)))++(Ai n).map (λk:Nat=>(x+n - 1 - (k:Int),y+m - 1))++(Ai m).map λk:Nat=>(x,y+m - 1 - (k:Int))
theorem Jme{α:Type}(f:Nat->α)(a b:Nat):(Ai (a+b)).map f=(Ai a).map f++(Ai b).map λk=>f (a+k):=by rw [List.range_add,Aj,List.map_map];rfl
theorem RJ{α β:Type}{l:List α}{g:α->List β}{f:α->β}(h:∀k∈l,g k=[f k]):l.flatMap g=l.map f:=by
 induction l with
 | nil=>rfl
 | cons a l d=>rw [List.flatMap_cons,List.map_cons,h a (List.mem_cons_self ..),d λk m=>h k (List.mem_cons_of_mem _ m)];rfl
theorem J1u(d:0<n)(f:0<m):raw (CF x y n m) (DY x y n m 0) (2 * n+2 * m)=ZR x y n m:=by
 have hK:∀k,k<2 * n+2 * m->Ef (CF x y n m) (DY x y n m 0) k=[Qm (DY x y n m k).1 (DY x y n m k).2]:=λk a=>by
  have h:BR (nx (CF x y n m)) k (DY x y n m 0)=DY x y n m k:=kY d f k a;have g:(BR (nx (CF x y n m)) (k+1) (DY x y n m 0)).2=(DY x y n m k).2\/(BR (nx (CF x y n m)) (k+1) (DY x y n m 0)).2=((DY x y n m k).2+1) % 4:=by
   by_cases q:k+1<2 * n+2 * m
   ·rw [kY d f (k+1) q];unfold DY
    (repeat' split)<;>first|exact .inl rfl|exact .inr rfl|(exfalso;omega)
   ·have:k+1=2 * n+2 * m:=by omega
    rw [this,(uV d f).back,J4h d];right;unfold DY;rw [if_neg (by omega),if_neg (by omega),if_neg (by omega)];rfl
  have hd:=(Tf (x:=x) (y:=y) d f a).e;unfold Ef DV Cc;rw [h];rw [if_neg];unfold VA;rcases g with e|e<;>rw [e]<;>omega
 unfold raw;have e:(Ai (2 * n+2 * m)).flatMap (Ef (CF x y n m) (DY x y n m 0))=(Ai (2 * n+2 * m)).map λk=>Qm (DY x y n m k).1 (DY x y n m k).2:=by exact RJ λk a=>hK k (Am.1 a)
 rw [e,show 2 * n+2 * m=n+m+n+m by omega,Jme,Jme,Jme];unfold ZR
 congr 1
 ·congr 1
  ·congr 1
   ·refine Ax λk a=>?_;rw [Am] at a;unfold DY;rw [if_pos (by omega)];rfl
   ·refine Ax λk a=>?_;rw [Am] at a;unfold DY;rw [if_neg (by omega),if_pos (by omega)];refine Prod.ext ?_ ?_<;>simp [Qm]
  ·refine Ax λk a=>?_;rw [Am] at a;unfold DY;rw [if_neg (by omega),if_neg (by omega),if_pos (by omega)];refine Prod.ext ?_ ?_<;>simp [Qm]<;>omega
 ·refine Ax λk a=>?_;rw [Am] at a;unfold DY;rw [if_neg (by omega),if_neg (by omega),if_neg (by omega)];refine Prod.ext ?_ ?_<;>simp [Qm]<;>omega
end
theorem fZ:@Jec wv ()=some true:=by
 classical
 have hr:AL (CF 0 0 2 2):=qJ (by decide) (by decide) (by decide);have a:=Jy2 (x:=0) (y:=0) (n:=2) (m:=2);have hW:@ru wv (CF 0 0 2 2)=some [(1,true,[(0,0),(1,0),(1,1),(0,1)])]:=by rw [Ka0 _ (Wy (by decide)) (λ_=>by omega),if_pos hr,Jon (by decide) (by decide)];show some [KS _ _]=_;unfold KS;rw [qK (Tf (by decide) (by decide) (by decide)) (uV (by decide) (by decide)),J1u (by decide) (by decide)];exact congrArg some (by decide)
 have hB:=fV 0 0 2 2 (by decide) (by decide) (by decide) (by decide);unfold Jec;refine (BH (c:=Jf1) hB).trans ((BH (c:=Yj) hW).trans ?_)
 kernel_rfl
end Go.Proofs.YtmfagdfkpjgeiaaGreat
