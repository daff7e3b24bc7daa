/- Choosing the next crack. Conditions: at most 10^9 headings at a corner and corners so far. -/
import Derived.Test.YtmfagdfkpjgeiaaGreatXD
set_option linter.unusedVariables false
set_option linter.unusedSimpArgs false
set_option linter.unusedSectionVars false
set_option maxRecDepth 100000
namespace Go.Proofs.YtmfagdfkpjgeiaaGreat
open Go Go.Vv Go.Dn Go.Dn.W
open List renaming length_map -> Aa, getElem?_eq_some_iff -> Ab, getElem?_eq_getElem -> Ac, mem_singleton -> Ad, range -> Ae, mem_range -> Af, mem_of_getElem? -> Ag, mem_map -> Ah, length_range -> Ai, pairwise_iff_getElem -> Aj, map_congr_left -> Ak, pairwise_singleton -> Am, append_assoc -> Ao, map_append -> Ap, length_append -> Aq, getLast?_eq_getElem? -> Ar, length_cons -> As, take_length -> Au, mem_append -> Aw, head?_eq_getElem? -> Ax
open Int renaming sub_self -> Av
def J04(l:List Int)(a b c:Int):Int:=if a∈l then a else if b∈l then b else if c∈l then c else b
def addP(po:List Cell)(q:Cell)(h h':Int):List Cell:=if h'≠h then po++[q] else po
theorem Jfv{α:Type}{m:Cr}{p:Cell}{x:Int}(hl:(atC m p).length<=1000000000)(k:Bool->Option α):@W.call wv α Jb ((@W.mg wv (.p I I) (.ls I) m p [],x):List Int×Int) k=k (decide (x∈atC m p)):=by rw [J4p];exact J0w hl k
section
variable (a:Reg) (h hl hr s5 s6:Int) (m:Cr) (s8 s9 x y:Int) (s12:List Cell) (s13:List (List Cell)) (po:List Cell)
abbrev st8(h hl hr s5 s6:Int)(m:Cr)(s8 s9 x y:Int)(s12:List Cell)(s13:List (List Cell))(po:List Cell)(i:Nat):HP Int (HP Int (HP Int (HP Int (HP Int (HP Int (HP Int (HP Cr (HP Int (HP Int (HP Int (HP Int (HP (List Cell) (HP (List (List Cell)) (HP (List Cell) Unit)))))))))))))):=
 ⟨h,hl,h,hr,(i:Int),s5,s6,m,s8,s9,x,y,s12,s13,po,()⟩
abbrev fin8(h:Int)(s5 s6:Int)(m:Cr)(s8 s9 x y:Int)(s12:List Cell)(s13:List (List Cell))(po:List Cell)(c:Int):HP Int (HP Int (HP Int (HP Cr (HP Int (HP Int (HP Int (HP Int (HP (List Cell) (HP (List (List Cell)) (HP (List Cell) Unit)))))))))):=
 ⟨c,s5,s6,m,s8,s9,x,y,s12,s13,addP po (x,y) h c,()⟩
theorem Jwv(f:(atC m (x,y)).length<=1000000000)(l:po.length<=1000000000){i:Nat}{c:Int}(hi:i=0/\c=hl\/i=1/\c=h\/i=2/\c=hr) :
  @Ky wv a (st8 h hl hr s5 s6 m s8 s9 x y s12 s13 po i)=if c∈atC m (x,y) then some (.out (fin8 h s5 s6 m s8 s9 x y s12 s13 po c)) else some (.go (st8 h hl hr s5 s6 m s8 s9 x y s12 s13 po (i+1))):=by
 have g:@W.ar wv .add .i64 (i:Int) 1=((i+1:Nat):Int):=by rw [Ki,wr (by omega) (by omega)];omega
 have tail:∀(c:Int),(@W.br wv (Nx _ _) (decide (c∈atC m (x,y))) (@W.br wv _ (@W.cm wv .neq c h) (@W.gd wv _ (@W.ft wv 16 (@W.pl wv (@W.ln wv Cell po) 1)) (some (.out (⟨c,s5,s6,m,s8,s9,x,y,s12,s13,@W.ap wv Cell po ((x,y)::[]),()⟩:HP Int (HP Int (HP Int (HP Cr (HP Int (HP Int (HP Int (HP Int (HP (List Cell) (HP (List (List Cell)) (HP (List Cell) Unit))))))))))))))
   (some (.out ⟨c,s5,s6,m,s8,s9,x,y,s12,s13,po,()⟩))) (some (.go (st8 h hl hr s5 s6 m s8 s9 x y s12 s13 po (i+1)))))=if c∈atC m (x,y) then some (.out (fin8 h s5 s6 m s8 s9 x y s12 s13 po c)) else some (.go (st8 h hl hr s5 s6 m s8 s9 x y s12 s13 po (i+1))):=by
  intro c;by_cases d:c∈atC m (x,y)
  ·rw [br_t (decide_eq_true d),if_pos d];by_cases e:c=h
   ·rw [br_f (by rw [Jvf];simp [e]),fin8,addP,if_neg (by simp [e])]
   ·rw [br_t (by rw [Jvf];simpa using e),w_ln,w_pl,Jf7 (by omega) (by omega),w_ap,fin8,addP,if_pos e]
  ·rw [br_f (decide_eq_false d),if_neg d]
 unfold Ky;dsimp only;rw [g];rcases hi with ⟨rfl,rfl⟩|⟨rfl,rfl⟩|⟨rfl,rfl⟩
 ·rw [Qp (by decide),br_t (by rfl)];exact (Jfv f _).trans (tail _)
 ·rw [Qp (by decide),br_f (by rfl),br_t (by rfl)];exact (Jfv f _).trans (tail _)
 ·rw [Qp (by decide),br_f (by rfl),br_f (by rfl),br_t (by rfl)];exact (Jfv f _).trans (tail _)
theorem L8_end:@Ky wv a (st8 h hl hr s5 s6 m s8 s9 x y s12 s13 po 3)=some (.out (fin8 h s5 s6 m s8 s9 x y s12 s13 po h)):=by unfold Ky;dsimp only;rw [Ko (by decide),fin8,addP,if_neg (by simp)]
theorem L9_L8:@Jc2 wv=@Ky wv:=rfl
theorem L8_ok(o:(atC m (x,y)).length<=1000000000)(l:po.length<=1000000000) :
  X1 (@Ky wv a) bigN (st8 h hl hr s5 s6 m s8 s9 x y s12 s13 po 0)=some (fin8 h s5 s6 m s8 s9 x y s12 s13 po (J04 (atC m (x,y)) hl h hr)):=by
 have d:=Jwv a h hl hr s5 s6 m s8 s9 x y s12 s13 po o l (.inl ⟨rfl,rfl⟩);have f:=Jwv a h hl hr s5 s6 m s8 s9 x y s12 s13 po o l (.inr (.inl ⟨rfl,rfl⟩));have g:=Jwv a h hl hr s5 s6 m s8 s9 x y s12 s13 po o l (.inr (.inr ⟨rfl,rfl⟩));have A:=L8_end a h hl hr s5 s6 m s8 s9 x y s12 s13 po;unfold J04;by_cases w:hl∈atC m (x,y)
 ·rw [if_pos w] at d ⊢;exact Qo (st8 h hl hr s5 s6 m s8 s9 x y s12 s13 po) 0 (by decide) (λi hi=>by omega) d
 rw [if_neg w] at d ⊢;by_cases v:h∈atC m (x,y)
 ·rw [if_pos v] at f ⊢;exact Qo (st8 h hl hr s5 s6 m s8 s9 x y s12 s13 po) 1 (by decide) (λi hi=>by rw [show i=0 by omega];exact d) f
 rw [if_neg v] at f ⊢;by_cases r:hr∈atC m (x,y)
 ·rw [if_pos r] at g ⊢;exact Qo (st8 h hl hr s5 s6 m s8 s9 x y s12 s13 po) 2 (by decide) (λi hi=>by
   rcases (show i=0\/i=1 by omega) with rfl|rfl
   ·exact d
   ·exact f) g
 rw [if_neg r] at g ⊢;exact Qo (st8 h hl hr s5 s6 m s8 s9 x y s12 s13 po) 3 (by decide) (λi hi=>by
  rcases (show i=0\/i=1\/i=2 by omega) with rfl|rfl|rfl
  ·exact d
  ·exact f
  ·exact g) A
end
abbrev St7:=HP Int (HP Int (HP Int (HP Cr (HP Int (HP Int (HP Int (HP Int (HP (List Cell) (HP (List (List Cell)) (HP (List Cell) Unit))))))))))
abbrev Ou7:=HP Int (HP Int (HP Cr (HP (List Cell) (HP (List (List Cell)) (HP (List Cell) Unit)))))
abbrev st7(h n i:Int)(m:Cr)(x0 y0 x y:Int)(cs:List Cell)(out:List (List Cell))(po:List Cell):St7:=⟨h,n,i,m,x0,y0,x,y,cs,out,po,()⟩
abbrev ou7(n i:Int)(m:Cr)(cs:List Cell)(out:List (List Cell))(po:List Cell):Ou7:=⟨n,i,m,cs,out,po,()⟩
noncomputable def nx7(h n i:Int)(m:Cr)(x0 a:Int)(q:Cell)(cs:List Cell)(out:List (List Cell))(po:List Cell):Nx St7 Ou7:=
 if q=(x0,a) then .out (ou7 n i m cs out po) else
  .go (st7 (J04 (atC m q) ((h+1) % 4) h ((h+3) % 4)) n i m x0 a q.1 q.2 cs out (addP po q h (J04 (atC m q) ((h+1) % 4) h ((h+3) % 4))))
theorem J5t(a:Reg)(h n i:Int)(m:Cr)(x0 d x y:Int)(cs:List Cell)(out:List (List Cell))(po:List Cell)(f:0<=h/\h<=3)(hs:Zl (x,y))(r:(atC m (Qq h (x,y))).length<=1000000000)(o:po.length<=1000000000) :
  (@W.call wv (Nx St7 Ou7) Kc ((h,(x,y)):Int×(Int×Int)) λ(v:Int×Int)=>
   @W.br wv (Nx St7 Ou7) (@W.an wv (@W.cm wv .eql v.1 x0) (@W.cm wv .eql v.2 d)) (some (.out (ou7 n i m cs out po)))
   (@W.call wv (Nx St7 Ou7) Kf (h:Int) λ(v20:Int)=>@W.call wv (Nx St7 Ou7) J8 (h:Int) λ(v21:Int)=>
    @W.loop wv _ _ (Nx St7 Ou7) (@Ky wv a) ⟨h,v20,h,v21,0,n,i,m,x0,d,v.1,v.2,cs,out,po,()⟩ λv25=>
     some (.go ⟨v25.e,v25.j.e,v25.j.j.e,v25.j.j.j.e,v25.j.j.j.j.e,v25.j.j.j.j.j.e,v25.j.j.j.j.j.j.e,v25.j.j.j.j.j.j.j.e,v25.j.j.j.j.j.j.j.j.e,v25.j.j.j.j.j.j.j.j.j.e,v25.j.j.j.j.j.j.j.j.j.j.e,()⟩))) =
   some (nx7 h n i m x0 d (Qq h (x,y)) cs out po):=by
 rw [k_from hs];generalize Qq h (x,y)=q at *
 obtain ⟨qx,qy⟩:=q;unfold nx7;by_cases e:(qx,qy)=(x0,d)
 ·rw [if_pos e,br_t (by rw [w_an,Xb,Xb];injection e with l g;simp [l,g])]
 ·rw [if_neg e,br_f (by
   rw [w_an,Xb,Xb,Bool.and_eq_false_iff,beq_eq_false_iff_ne,beq_eq_false_iff_ne];by_cases l:qx=x0
   ·exact .inr λg=>e (by dsimp only at g;rw [l,g])
   ·exact .inl l),k_left f.1 f.2,k_right f.1 f.2]
  refine (lo_s (L8_ok a h ((h+1) % 4) ((h+3) % 4) n i m x0 d qx qy cs out po r o)).trans ?_;rfl
theorem J0c{m:Cr}{T:Cell->Int->Prop}(h:MapOK m T)(hT:∀p x,T p x->x=0\/x=1\/x=2\/x=3)(p:Cell):(atC m p).length<=4:=
 Yr (m:=[0,1,2,3]) (h.one p) λx hx=>by rcases hT p x ((h.mem p x).1 hx) with rfl|rfl|rfl|rfl<;>simp
theorem L7_step(a:Reg)(h n i:Int)(m:Cr)(x0 f x y:Int)(cs:List Cell)(out:List (List Cell))(po:List Cell){T:Cell->Int->Prop}(hM:MapOK m T)(hT:∀p x,T p x->x=0\/x=1\/x=2\/x=3)(hx:T (x,y) h)
  (hs:Zl (x,y)) (r:po.length<=1000000000) :
  ∃o,MapOK o (λq z=>T q z/\¬(q=(x,y)/\z=h))/\@Qc wv a (st7 h n i m x0 f x y cs out po)=some (nx7 h n i o x0 f (Qq h (x,y)) cs out po):=by
 have w:0<=h/\h<=3:=by have:=hT _ _ hx;omega
 have K:=J0c hM hT (x,y);obtain ⟨e,A,F⟩:=J3d (l:=atC m (x,y)) h (by omega);have d:h∈atC m (x,y):=(hM.mem _ _).2 hx;rcases F with ⟨_,G⟩|⟨j,v,rfl⟩
 ·exact (G d).elim
 have H:=(Ab.1 v).1;have em:@W.mg wv (.p I I) (.ls I) m (x,y) []=atC m (x,y):=J4p m (x,y);have ed:@W.md wv (.p I I) (.ls I) m (x,y)=delC m (x,y):=md_del m (x,y);by_cases g:(atC m (x,y)).length=1
 ·have hl:atC m (x,y)=[h]:=by obtain ⟨z,E⟩:=List.length_eq_one_iff.1 g;rw [E] at d ⊢;rw [Ad.1 d]
  have hM':=hM.del hl;refine ⟨_,hM',?_⟩;have J:=J0c hM' (λp x h=>hT p x h.1) (Qq h (x,y));unfold Qc;dsimp only;rw [em,A,Ko (by omega),br_t (by show (((atC m (x,y)).length:Int)==1)=true;rw [g];rfl),ed];exact J5t a h n i (delC m (x,y)) x0 f x y cs out po w hs (by omega) r
 ·have hM':=hM.cut v g;refine ⟨_,hM',?_⟩;have J:=J0c hM' (λp x h=>hT p x h.1) (Qq h (x,y));unfold Qc;dsimp only;have B:@W.ar wv .add .i64 (j:Int) 1=((j+1:Nat):Int):=by rw [Ki,wr (by omega) (by omega)];omega
  have ec:(atC m (x,y)).take (j:Int).toNat++((atC m (x,y)).drop ((j+1:Nat):Int).toNat).take (((atC m (x,y)).length:Int) - ((j+1:Nat):Int)).toNat=(atC m (x,y)).take j++(atC m (x,y)).drop (j+1):=by
   congr 1
   rw [Int.toNat_natCast,List.take_of_length_le (by rw [List.length_drop];omega)]
  have es:@W.ms wv (.p I I) (.ls I) m (x,y) (@W.ap wv I.T (@W.ct wv I.T (atC m (x,y)) 0 (j:Int)) (@W.ct wv I.T (atC m (x,y)) (@W.ar wv .add .i64 (j:Int) 1) (@W.mi wv (@W.ln wv I.T (atC m (x,y))) (@W.ar wv .add .i64 (j:Int) 1))))=putC m (x,y) ((atC m (x,y)).take j++(atC m (x,y)).drop (j+1)):=by rw [B,<-ec];exact ms_put m (x,y) _
  rw [em,A,Ko (by omega),br_f (by show (((atC m (x,y)).length:Int)==1)=false;rw [beq_eq_false_iff_ne];omega),es];refine (fitB (n:=((atC m (x,y)).length:Int)) (by omega) (by omega) (by decide)).trans ?_;refine (gd_t (show ((decide (0<=(j:Int)/\(j:Int)<(atC m (x,y)).length))&&((decide ((j:Int)+1<=@W.ar wv .add .i64 (j:Int) 1))&&(decide (@W.ar wv .add .i64 (j:Int) 1<=((atC m (x,y)).length:Int)))))=true by rw [B];simp only [Bool.and_eq_true,decide_eq_true_eq];omega)).trans ?_
  rw [L9_L8];exact J5t a h n i _ x0 f x y cs out po w hs (by omega) r
theorem pick_nxt{m:Cr}{T:Cell->Int->Prop}(hM:MapOK m T){r:Reg}(hT:∀p x,T p x->Crk r p x){p:Cell}{x:Int}(o:T (Qq x p) (nxtH r p x)) :
  J04 (atC m (Qq x p)) ((x+1) % 4) x ((x+3) % 4)=nxtH r p x:=by
 unfold J04;have d:∀y,y∈atC m (Qq x p)->Crk r (Qq x p) y:=λy l=>hT _ _ ((hM.mem _ _).1 l);have a:=(hM.mem _ _).2 o;unfold nxtH at a ⊢;dsimp only at a ⊢;by_cases g:Crk r (Qq x p) ((x+1) % 4)
 ·rw [if_pos g] at a ⊢;rw [if_pos a]
 ·rw [if_neg g] at a ⊢;rw [if_neg λh=>g (d _ h)];by_cases f:Crk r (Qq x p) x
  ·rw [if_pos f] at a ⊢;rw [if_pos a]
  ·rw [if_neg f] at a ⊢;rw [if_neg λh=>f (d _ h),if_pos a]
theorem Jc1{r:Reg}(hr:RegOK r){p:Cell}{x:Int}(h:Crk r p x):Zl p:=by have:=hr.bd (J4d h);unfold Kn at this;unfold Zl;rcases h.e with rfl|rfl|rfl|rfl<;>simp at this<;>omega
theorem seg_len(r:Reg)(s:Ck)(a n:Nat):(seg r s a n).length<=n:=by have:=List.length_filterMap_le (λi=>Jau r s (a+i)) (Ae n);rw [Ai] at this;exact this
theorem L7_ok(a r:Reg)(hr:RegOK r)(L:(cks r).length<=1000000){S:Ck->Prop}(hS:Closed r S){m:Cr}(hM:MapOK m λp x=>S (p,x)){s:Ck}(hs:S s)(hl:Least r s)(n i:Int)(cs:List Cell)(out:List (List Cell)) :
  ∃d,X1 (@Qc wv a) bigN (st7 s.2 n i m s.1.1 s.1.2 s.1.1 s.1.2 cs out [s.1])=some (ou7 n i d cs out (pol r s))/\MapOK d (λp x=>S (p,x)/\¬ ∃k,(p,x)=itr (nx r) k s):=by
 have hN:=Jdg hl.1;have P:=Jxq hl.1;have hp:=hN.pos;unfold pol;generalize perN r s=N at *
 obtain ⟨M,rfl⟩:∃M,N=M+1:=⟨N - 1,by omega⟩;have f:=hl.mem;have step:∀k,k<M+1->∀m,MapOK m (λp x=>S (p,x)/\¬ ∃j,j<k/\(p,x)=itr (nx r) j s) ->
   ∃d,MapOK d (λp x=>S (p,x)/\¬ ∃j,j<k+1/\(p,x)=itr (nx r) j s) /\
    @Qc wv a (st7 (hdK r s k) n i m s.1.1 s.1.2 (ptK r s k).1 (ptK r s k).2 cs out (s.1::seg r s 0 k))=some (nx7 (hdK r s k) n i d s.1.1 s.1.2 (ptK r s (k+1)) cs out (s.1::seg r s 0 k)):=by
  intro k K m O;have hSk:S (ptK r s k,hdK r s k):=hS.itr hs k;obtain ⟨d,w,v⟩:=L7_step a (hdK r s k) n i m s.1.1 s.1.2 (ptK r s k).1 (ptK r s k).2 cs out (s.1::seg r s 0 k) O (λp x h=>(hS.1 _ h.1).e) ⟨hSk,λ⟨j,o,e⟩=>by have:=(ring r).dist f hN (i:=j) (j:=k) (by omega) K e.symm;omega⟩ (Jc1 hr (hS.1 _ hSk)) (by have:=seg_len r s 0 k;rw [As];omega)
  refine ⟨d,w.congr λp x=>?_,v⟩;constructor
  ·rintro ⟨⟨l,g⟩,X⟩;refine ⟨l,λ⟨j,o,e⟩=>?_⟩;by_cases G:j=k
   ·subst G;exact X ⟨congrArg Prod.fst e,congrArg Prod.snd e⟩
   ·exact g ⟨j,by omega,e⟩
  ·rintro ⟨l,g⟩;refine ⟨⟨l,λ⟨j,o,e⟩=>g ⟨j,by omega,e⟩⟩,λ⟨J,Y⟩=>g ⟨k,by omega,?_⟩⟩;rw [J,Y];rfl
 obtain ⟨e,Q,d,rfl,h⟩:=Zp (b:=@Qc wv a)
  (λk st=>∃m,st=st7 (hdK r s k) n i m s.1.1 s.1.2 (ptK r s k).1 (ptK r s k).2 cs out (s.1::seg r s 0 k)/\MapOK m (λp x=>S (p,x)/\¬ ∃j,j<k/\(p,x)=itr (nx r) j s))
  (λe=>∃m,e=ou7 n i m cs out (poly r s (M+1))/\MapOK m (λp x=>S (p,x)/\¬ ∃k,(p,x)=itr (nx r) k s))
  M (by omega) (s0:=st7 s.2 n i m s.1.1 s.1.2 s.1.1 s.1.2 cs out [s.1])
  ⟨m,rfl,hM.congr λp x=>⟨λh=>⟨h,λ⟨j,o,_⟩=>by omega⟩,And.left⟩⟩
  (λk st K=>by
   rintro ⟨A,rfl,w⟩;obtain ⟨y,v,H⟩:=step k (by omega) A w;have F:ptK r s (k+1)≠s.1:=hl.ne hN (k:=k+1) (by omega) (by omega);have E:(λp x=>S (p,x)/\¬ ∃j,j<k+1/\(p,x)=itr (nx r) j s) (Qq (hdK r s k) (ptK r s k)) (nxtH r (ptK r s k) (hdK r s k)):=⟨hS.itr hs (k+1),λ⟨j,o,e⟩=>by have:=(ring r).dist f hN (i:=j) (j:=k+1) (by omega) (by omega) e.symm;omega⟩
   have B:=pick_nxt v (r:=r) (λp x h=>hS.1 _ h.1) E;refine ⟨_,H.trans ?_,y,rfl,v⟩;unfold nx7;rw [if_neg F,Jlt,B];have J:nxtH r (ptK r s k) (hdK r s k)=hdK r s (k+1):=rfl;rw [J,<-Jlt]
   congr 3
   rw [Jl0,Nat.zero_add];unfold addP;by_cases e:hdK r s (k+1)=hdK r s k
   ·have:Jau r s k=none:=if_pos e;rw [if_neg (by simpa using e),this];simp
   ·have:Jau r s k=some (ptK r s (k+1)):=if_neg e;rw [if_pos e,this];rfl)
  (by
   rintro st ⟨A,rfl,w⟩;obtain ⟨y,v,H⟩:=step M (by omega) A w;have R:ptK r s (M+1)=s.1:=congrArg Prod.fst hN.back;refine ⟨_,H.trans ?_,y,rfl,v.congr λp x=>⟨λ⟨l,g⟩=>⟨l,λ⟨k,e⟩=>?_⟩,λ⟨l,g⟩=>⟨l,λ⟨j,_,e⟩=>g ⟨j,e⟩⟩⟩⟩
   ·unfold nx7;rw [R,if_pos rfl];rfl
   ·obtain ⟨j,o,Z⟩:=hN.modN k;exact g ⟨j,o,e.trans Z⟩)
 exact ⟨d,Q,h⟩
theorem Least.same{r:Reg}{s t:Ck}(h:Least r s)(h':Least r t){k:Nat}(e:t=itr (nx r) k s):t=s:=by
 obtain ⟨j,a⟩:=(Jdg h.1).to s k;rw [<-e] at a;have f:=h.2 k;have d:=h'.2 j;rw [<-e] at f;rw [a] at d;rcases J5g s.1 t.1 with q|q|q
 ·exact (d q).elim
 ·exact h.uniq h' q.symm
 ·exact (f q).elim
abbrev st6(n:Int)(i:Nat)(m:Cr)(cs:List Cell)(out:List (List Cell)):HP Int (HP Int (HP Cr (HP (List Cell) (HP (List (List Cell)) Unit)))):=⟨n,(i:Int),m,cs,out,()⟩
structure Inv6 (r:Reg) (cs:List Cell) (i:Nat) (m:Cr) (out:List (List Cell)):Prop where
 ex:∃(S:Ck->Prop) (ls:List Ck),Closed r S/\MapOK m (λp x=>S (p,x))/\(∀c,S c->∃j,i<=j/\cs[j]?=some c.1)/\out=ls.map (pol r) /\
  ls.Pairwise (λa b=>yx a.1 b.1)/\(∀s∈ls,Least r s/\∃j,j<i/\cs[j]?=some s.1)/\∀s,Least r s->s∈ls\/S s
theorem cs_lt{cs:List Cell}(h:cs.Pairwise yx){i j:Nat}{a b:Cell}(m:cs[i]?=some a)(l:cs[j]?=some b)(d:i<j):yx a b:=by obtain ⟨g,r⟩:=Ab.1 m;obtain ⟨f,o⟩:=Ab.1 l;rw [<-r,<-o];exact Aj.1 h i j g f d
theorem L6_step(a r:Reg)(hr:RegOK r)(F:(cks r).length<=1000000){cs:List Cell}(E:cs.Pairwise yx)(M:cs.length<=1000000000){i:Nat}(hi:i<cs.length){m:Cr}{out:List (List Cell)}(h:Inv6 r cs i m out) :
  ∃G out',@Qb wv a (st6 cs.length i m cs out)=some (.go (st6 cs.length (i+1) G cs out'))/\Inv6 r cs (i+1) G out':=by
 obtain ⟨S,ls,hS,hM,J,rfl,v,d,o⟩:=h.ex;have f:cs[i]?=some cs[i]:=Ac hi;generalize cs[i]=p at f;have X:=J0c hM (λp x h=>(hS.1 _ h).e) p;have P:@W.ar wv .add .i64 (i:Int) 1=((i+1:Nat):Int):=by rw [Ki,wr (by omega) (by omega)];omega
 have em:@W.mg wv (.p I I) (.ls I) m (p.1,p.2) []=atC m p:=J4p m p;cases g:atC m p with
 | nil=>
  refine ⟨m,_,?_,S,ls,hS,hM,λc hSc=>?_,rfl,v,λs hs=>⟨(d s hs).1,?_⟩,o⟩
  ·unfold Qb;dsimp only;rw [Qp (by omega),Jf3 (by rw [w_ln];omega),ge_s (fg f)];rw [em,g,br_f (by rfl),P]
  ·obtain ⟨j,A,e⟩:=J c hSc;refine ⟨j,?_,e⟩;by_cases y:j=i
   ·subst y;rw [f] at e;injection e with e;have:=(hM.mem c.1 c.2).2 hSc;rw [<-e,g] at this;cases this
   ·omega
  ·obtain ⟨j,A,e⟩:=(d s hs).2;exact ⟨j,by omega,e⟩
 | cons x l=>
  have hSp:S (p,x):=(hM.mem p x).1 (by rw [g];exact List.mem_cons_self ..);have B:∀c,S c->¬yx c.1 p:=λc hSc w=>by
   obtain ⟨j,A,e⟩:=J c hSc;rcases Nat.lt_or_eq_of_le A with q|q
   ·exact Ji2 (cs_lt E f e q) w
   ·subst q;rw [f] at e;injection e with e;rw [e] at w;exact Jd3 _ w
  have hl:Least r (p,x):=⟨hS.1 _ hSp,λk=>B _ (hS.itr hSp k)⟩;have L:ls.length<=1000000:=by have H:ls.Nodup:=v.imp λ{a b} (h:yx a.1 b.1) (e:a=b)=>Jd3 a.1 (by subst e;exact h);have:(ls.length:Nat)<=(cks r).length:=Yr H λs hs=>(d s hs).1.mem;omega
  obtain ⟨G,Q,hM'⟩:=L7_ok a r hr F hS hM hSp hl (cs.length:Int) (i:Int) cs (ls.map (pol r));refine ⟨G,_,?_,_,ls++[(p,x)],hS.sub hl.1,hM',λc hSc=>?_,rfl,?_,λs hs=>?_,λt K=>?_⟩
  ·unfold Qb;dsimp only;rw [Qp (by omega),Jf3 (by rw [w_ln];omega),ge_s (fg f)];rw [em,g,br_t (by show decide (((x::l).length:Int) > 0)=true;rw [As];exact decide_eq_true (by omega))];refine (ge_s (x:=x) rfl).trans ((lo_s Q).trans ?_);dsimp only;rw [w_ln,w_pl,Aa,fitB (by omega) (by omega) (by decide),P,w_ap,Ap];rfl
  ·obtain ⟨j,A,e⟩:=J c hSc.1;refine ⟨j,?_,e⟩;by_cases y:j=i
   ·subst y;rw [f] at e;injection e with e;refine (hSc.2 ⟨0,?_⟩).elim;exact hl.only (hS.1 _ hSc.1) e.symm (B _ (hS.2 _ hSc.1))
   ·omega
  ·refine List.pairwise_append.2 ⟨v,Am _ _,λa R b O=>?_⟩;rw [Ad] at O;subst O;obtain ⟨j,A,e⟩:=(d a R).2;exact cs_lt E e f A
  ·rcases Aw.1 hs with hs|hs
   ·obtain ⟨j,A,e⟩:=(d s hs).2;exact ⟨(d s hs).1,j,by omega,e⟩
   ·rw [Ad] at hs;subst hs;exact ⟨hl,i,by omega,f⟩
  ·rcases o t K with q|q
   ·exact .inl (Aw.2 (.inl q))
   ·by_cases N:∃k,t=itr (nx r) k (p,x)
    ·obtain ⟨k,e⟩:=N;exact .inl (Aw.2 (.inr (Ad.2 (hl.same K e))))
    ·exact .inr ⟨q,N⟩
open Classical in
noncomputable def Zx(r:Reg):List Ck:=if h:∃l,Starts r l then h.choose else []
theorem Jn8{r:Reg}{l:List Ck}(h:Starts r l):Zx r=l:=by have hx:∃l,Starts r l:=⟨l,h⟩;unfold Zx;rw [dif_pos hx];exact hx.choose_spec.uniq h
theorem L6_ok(a r:Reg)(hr:RegOK r)(g:(cks r).length<=1000000){cs:List Cell}(y:cs.Pairwise yx)(f:cs.length<=1000000000){m:Cr}(hM:MapOK m λp x=>Crk r p x)(d:∀p,p∈cs↔∃x,Crk r p x) :
  Starts r (Zx r)/\X1 (@Qb wv a) bigN (st6 cs.length 0 m cs [])=some ⟨(Zx r).map (pol r),()⟩:=by
 obtain ⟨e,E,hQ⟩:=Zp (b:=@Qb wv a)
  (λi s=>∃m out,s=st6 cs.length i m cs out/\Inv6 r cs i m out)
  (λe=>∃ls,Starts r ls/\e=⟨ls.map (pol r),()⟩) cs.length (by omega) (s0:=st6 cs.length 0 m cs [])
  ⟨m,[],rfl,λc=>Crk r c.1 c.2,[],⟨λc h=>h,λc h=>J3y h⟩,hM,λc h=>by obtain ⟨j,A⟩:=List.getElem?_of_mem ((d c.1).2 ⟨_,h⟩);exact ⟨j,Nat.zero_le _,A⟩,rfl,.nil,λs hs=>(List.not_mem_nil hs).elim,λs hs=>.inr hs.1⟩
  (λi s hi=>by rintro ⟨m,out,rfl,h⟩;obtain ⟨B,out',o,G⟩:=L6_step a r hr g y f hi h;exact ⟨_,o,B,out',rfl,G⟩)
  (by
   rintro s ⟨m,out,rfl,h⟩;obtain ⟨S,ls,hS,hM,F,rfl,v,w,l⟩:=h.ex;refine ⟨_,?_,ls,⟨v,λc=>⟨λh=>(w c h).1,λh=>(l c h).elim id λq=>?_⟩⟩,rfl⟩
   ·unfold Qb;dsimp only;rw [Ko (by omega)]
   ·obtain ⟨j,A,e⟩:=F c q;have:=(Ab.1 e).1;omega)
 obtain ⟨ls,o,rfl⟩:=hQ;rw [Jn8 o];exact ⟨o,E⟩
theorem Jzq{l:List Cell}(g:l.Nodup)(h:l.Pairwise λa b=>Go.Proofs.ltOf cmpB b a=false)(d:∀x∈l,okB x=true):l.Pairwise yx:=by
 refine (List.Pairwise.and g h).imp_of_mem λ{a b} v r ⟨f,m⟩=>?_;have o:¬cmpB b a<0:=by simpa [Go.Proofs.ltOf] using m
 rw [Jf1 (d b r) (d a v)] at o;rcases J5g a b with q|q|q
 ·exact q
 ·exact (f q).elim
 ·exact (o q).elim
theorem Jk3(p:List Cell)(f:p.length<=1000000)(d:∀x∈p,okB x=true):∃q:List Cell,Jhs (t:=.p I I) cmpB okB eqB zB p=some q/\q.Perm p/\q.Pairwise λa b=>Go.Proofs.ltOf cmpB b a=false:=
 Ju3 (t:=.p I I) swoB (eq:=eqB) (d0:=zB) (l:=p) (show p.length<_ by omega) d
open Classical in
theorem Jlx(r:Reg)(hl:LimR r)(d:RegOK r->(cks r).length<=1000000):@j6 wv r=some (if RegOK r then (Zx r).map (pol r) else [])/\(RegOK r->Starts r (Zx r)):=by
 unfold j6;rw [Qa hl];by_cases hr:RegOK r
 case neg=>exact ⟨by rw [br_t (by simp [w_nt,hr]),if_neg hr],λh=>(hr h).elim⟩
 rw [br_f (by simp [w_nt,hr]),if_pos hr];have d:=d hr;obtain ⟨m,E,hM0⟩:=J1y r r hr hl.1;have hM:MapOK m λp x=>Crk r p x:=hM0.congr λp x=>crk_iff hr p x;have a:∀p,p∈m.map (·.1)↔∃x,Crk r p x:=λp=>hM.key p;have A:m.length<=1000000:=by
  have:(m.map (·.1)).length<=((cks r).map (·.1)).length:=Yr hM.nd λp f=>by obtain ⟨x,hx⟩:=(a p).1 f;exact Ah.2 ⟨(p,x),zp.2 hx,rfl⟩
  rw [Aa,Aa] at this;omega
 have hokB:∀p,p∈m.map (·.1)->okB p=true:=λp f=>by obtain ⟨x,hx⟩:=(a p).1 f;have:=Jc1 hr hx;unfold Zl at this;unfold okB;exact decide_eq_true (by omega)
 have v:∃l,Starts r l:=by obtain ⟨q,B,o,w⟩:=Jk3 (m.map (·.1)) (by rw [Aa];omega) hokB;exact ⟨_,(L6_ok r r hr d (cs:=q) (Jzq (o.nodup_iff.2 hM.nd) w λx hx=>hokB x (o.mem_iff.1 hx)) (by rw [o.length_eq,Aa];omega) hM λp=>(o.mem_iff).trans (a p)).1⟩
 refine ⟨?_,λ_=>by obtain ⟨l,h⟩:=v;rw [Jn8 h];exact h⟩;rw [w_ln];refine (lo_s E).trans ?_;dsimp only;rw [w_ln,Jf7 (by omega) (by omega)];refine J5h λy f=>?_;obtain ⟨p,rfl⟩:∃p:List Cell,p=y:=⟨y,rfl⟩;have f:List.Perm (α:=Cell) p (m.map (·.1)):=f;obtain ⟨q,B,o,w⟩:=Jk3 p (by rw [f.length_eq,Aa];omega) λx hx=>hokB x (f.mem_iff.1 hx);have g:q.Perm (m.map (·.1)):=o.trans f;have hL6:=(L6_ok r r hr d (cs:=q) (Jzq (g.nodup_iff.2 hM.nd) w λx hx=>hokB x (g.mem_iff.1 hx)) (by rw [g.length_eq,Aa];omega) hM λp=>(g.mem_iff).trans (a p)).2;refine (ca_s (c:=Jo8) B).trans ?_;rw [w_ln];exact (lo_s hL6).trans rfl
open Classical in
theorem k_Trace{α:Type}{r:Reg}(hl:LimR r)(a:RegOK r->(cks r).length<=1000000)(k:List (List (Int×Int))->Option α):@W.call wv α X6 r k=k (if RegOK r then (Zx r).map (pol r) else []):=ca_s (c:=X6) (Jlx r hl a).1
def enc(c:Ck):Cell×Cell:=(c.1,Qq c.2 c.1)
abbrev St22:=HP (List (Int×Int)) (HP Int (HP Reg (HP (List (Cell×Cell)) Unit)))
abbrev Ou22:=HP (List (Cell×Cell)) Unit
noncomputable def side(r:Reg)(c:Cell)(e:Cell×Cell)(K:List (Cell×Cell)->Option (Nx St22 Ou22))(o:List (Cell×Cell)):Option (Nx St22 Ou22):=
 @W.call wv (Nx St22 Ou22) Jd2 ((r,c):Reg×(Int×Int)) λv=>
  @W.br wv (Nx St22 Ou22) (@W.nt wv v) (@W.gd wv (Nx St22 Ou22) (@W.ft wv 32 (@W.pl wv (@W.ln wv (Cell×Cell) o) 1)) (K (@W.ap wv (Cell×Cell) o (e::[])))) (K o)
instance (a b:Cell):Decidable (yx a b):=inferInstanceAs (Decidable (_\/_))
theorem Jnu{r:Reg}{c:Cell}{k:Ck}(h:k∈Jk6 r c):Kn k.1 k.2=c:=by rcases Jca.1 h with ⟨_,rfl⟩|⟨_,rfl⟩|⟨_,rfl⟩|⟨_,rfl⟩<;>simp [Kn]
theorem Juj(r:Reg)(c:Cell):(Jk6 r c).Nodup:=by
 classical
 unfold Jk6;split<;>split<;>split<;>split<;>simp
theorem J2h{r:Reg}(h:RegOK r):(cks r).Nodup:=by refine List.pairwise_flatMap.2 ⟨λc _=>Juj r c,h.cells_pw.imp λ{a b} d x hx y f e=>?_⟩;rw [e] at hx;have:=(Jnu hx).symm.trans (Jnu f);subst this;exact Jd3 _ d
theorem J3f{α:Type}{l:List α}(h:l.Nodup){i j:Nat}{x:α}(hi:l[i]?=some x)(m:l[j]?=some x):i=j:=by
 obtain ⟨d,g⟩:=Ab.1 hi;obtain ⟨a,f⟩:=Ab.1 m;rcases Nat.lt_trichotomy i j with q|q|q
 ·exact (Aj.1 h i j d a q (by rw [g,f])).elim
 ·exact q
 ·exact (Aj.1 h j i a d q (by rw [g,f])).elim
theorem no_back{r:Reg}{p:Cell}{x:Int}(h:Crk r p x):¬Crk r (Qq x p) ((x+2) % 4):=by obtain ⟨g,f⟩:=p;rcases h with ⟨rfl,d,a⟩|⟨rfl,d,a⟩|⟨rfl,d,a⟩|⟨rfl,d,a⟩<;>simp [Qq,Crk] at *<;>grind
theorem rule{r:Reg}{c:Ck}(m:Crk r c.1 c.2){y:Int}(d:Crk r (Qq c.2 c.1) y)(hl:y=(c.2+1) % 4\/¬Crk r (Qq c.2 c.1) ((c.2+1) % 4)):(Qq c.2 c.1,y)=nx r c:=by
 unfold nx;refine Prod.ext rfl ?_;show y=nxtH r c.1 c.2;unfold nxtH;dsimp only;by_cases g:Crk r (Qq c.2 c.1) ((c.2+1) % 4)
 ·rw [if_pos g];exact hl.elim id λh=>(h g).elim
 ·rw [if_neg g];have o:y≠(c.2+1) % 4:=λe=>g (e▸d);have v:=no_back m;have l:y≠(c.2+2) % 4:=λe=>v (e▸d);have hd:=d.e;have hx:=m.e;by_cases f:Crk r (Qq c.2 c.1) c.2
  ·rw [if_pos f];apply Classical.byContradiction;intro a;have:=f.opp d (λe=>a e.symm);omega
  ·rw [if_neg f];have a:y≠c.2:=λe=>f (e▸d);omega
theorem le_t{α:Type}{a b:Int}{x:Option α}(h:a<=b):@W.gd wv α (@W.le wv a b) x=x:=gd_t (by rw [w_le];exact decide_eq_true h)
noncomputable def ringL(r:Reg)(c:Ck)(n:Nat):List (Cell×Cell):=(Ae n).map λk=>enc (itr (nx r) k c)
structure Marks (r:Reg) (done:List Bool) (D:Ck->Prop):Prop where
 len:done.length=(cks r).length
 at_:∀(j:Nat) (c:Ck),(cks r)[j]?=some c->(done[j]?=some true↔D c)
theorem Marks.get{r:Reg}{done:List Bool}{D:Ck->Prop}(h:Marks r done D){j:Nat}{c:Ck}(d:(cks r)[j]?=some c):∃b,done[j]?=some b/\(b=true↔D c):=by have a:=(Ab.1 d).1;have f:=Ac (l:=done) (i:=j) (by rw [h.len];exact a);refine ⟨done[j]'(by rw [h.len];exact a),f,?_⟩;rw [<-h.at_ j c d,f];simp
theorem Marks.set{r:Reg}(hr:RegOK r){done:List Bool}{D:Ck->Prop}(h:Marks r done D){j:Nat}{c:Ck}(f:(cks r)[j]?=some c):Marks r (done.set j true) λd=>D d\/d=c:=by
 refine ⟨by rw [List.length_set,h.len],λi d hi=>?_⟩;have a:=(Ab.1 hi).1;rw [List.getElem?_set];by_cases e:j=i
 ·subst e;rw [if_pos rfl,if_pos (by rw [h.len];exact a)];rw [f] at hi;injection hi with hi;exact ⟨λ_=>.inr hi.symm,λ_=>rfl⟩
 ·rw [if_neg e,h.at_ i d hi];refine ⟨.inl,λq=>q.elim id λq=>?_⟩;subst q;exact (e (J3f (J2h hr) f hi)).elim
theorem Closed.add{r:Reg}{D:Ck->Prop}(h:Closed r D){c:Ck}(a:Crk r c.1 c.2):Closed r λd=>D d\/∃k,d=Go.Proofs.YtmfagdfkpjgeiaaGreat.itr (nx r) k c:=by refine ⟨λd hd=>hd.elim (h.1 d) λ⟨k,e⟩=>by rw [e];exact Ze a k,λd hd=>hd.imp (h.2 d) λ⟨k,e⟩=>⟨k+1,by rw [e];rfl⟩⟩
def hd4(h:Int):Prop:=h=0\/h=1\/h=2\/h=3
theorem br_gt{α:Type}{a b:Int}{x y:Option α}(h:a > b):@W.br wv α (@W.cm wv .gtr a b) x y=x:=br_t (by rw [jm];exact decide_eq_true h)
theorem Jyr{α:Type}{a b:Int}{x y:Option α}(h:¬a > b):@W.br wv α (@W.cm wv .gtr a b) x y=y:=br_f (by rw [jm];exact decide_eq_false h)
theorem sign_ok(a:Int):@z8 wv a=some (if a > 0 then 1 else if a<0 then -1 else 0):=by
 unfold z8;by_cases h:a > 0
 ·rw [br_gt h,if_pos h]
 ·rw [Jyr h,if_neg h];by_cases d:a<0
  ·rw [Qp d,if_pos d]
  ·rw [Ko d,if_neg d]
theorem k_sign{α:Type}(a:Int)(k:Int->Option α):@W.call wv α Xv (a:Int) k=k (if a > 0 then 1 else if a<0 then -1 else 0):=ca_s (c:=Xv) (sign_ok a)
theorem Joh(p:Cell){h:Int}(a:hd4 h)(n:Nat):(h=0/\(fwd p h n).1=p.1+n/\(fwd p h n).2=p.2)\/(h=1/\(fwd p h n).1=p.1/\(fwd p h n).2=p.2+n)\/(h=2/\(fwd p h n).1=p.1 - n/\(fwd p h n).2=p.2)\/(h=3/\(fwd p h n).1=p.1/\(fwd p h n).2=p.2 - n):=by unfold fwd dirH;rcases a with rfl|rfl|rfl|rfl<;>simp<;>omega
theorem Jlb{p:Cell}{h:Int}(f:hd4 h){n:Nat}(v:0<n)(m:Zl p)(l:Zl (fwd p h n)):@Yl wv (p,fwd p h n)=some (dirH h):=by
 have g:=Joh p f n;generalize fwd p h n=q at *
 unfold Zl at m l;have r:@W.ar wv .sub .i64 q.1 p.1=q.1 - p.1:=by rw [Yp,wr (by omega) (by omega)]
 have o:@W.ar wv .sub .i64 q.2 p.2=q.2 - p.2:=by rw [Yp,wr (by omega) (by omega)]
 unfold Yl;dsimp only;rw [r,o,k_sign,k_sign];refine congrArg some ?_;rcases g with ⟨rfl,d,a⟩|⟨rfl,d,a⟩|⟨rfl,d,a⟩|⟨rfl,d,a⟩
 ·rw [if_pos (by omega),if_neg (by omega),if_neg (by omega)];rfl
 ·rw [if_neg (by omega),if_neg (by omega),if_pos (by omega)];rfl
 ·rw [if_neg (by omega),if_pos (by omega),if_neg (by omega),if_neg (by omega)];rfl
 ·rw [if_neg (by omega),if_neg (by omega),if_neg (by omega),if_pos (by omega)];rfl
theorem Jz9{p:Cell}{h:Int}(d:hd4 h)(a:Zl p):@z6 wv (p,dirH h)=some (Kn p h):=by
 unfold Zl at a;have g:@W.ar wv .sub .i64 p.1 1=p.1 - 1:=by rw [Yp,wr (by omega) (by omega)]
 have f:@W.ar wv .sub .i64 p.2 1=p.2 - 1:=by rw [Yp,wr (by omega) (by omega)]
 unfold z6;dsimp only;rw [g,f];rcases d with rfl|rfl|rfl|rfl
 ·rw [br_t (by rfl)];rfl
 ·rw [br_f (by rfl),br_t (by rfl)];rfl
 ·rw [br_f (by rfl),br_f (by rfl),br_t (by rfl)];rfl
 ·rw [br_f (by rfl),br_f (by rfl),br_f (by rfl)];rfl
theorem cross_ok{h h':Int}(d:hd4 h)(a:hd4 h'):@W.cm wv .lss (@W.ar wv .sub .i64 (@W.ar wv .mul .i64 (dirH h).1 (dirH h').2) (@W.ar wv .mul .i64 (dirH h).2 (dirH h').1)) 0=decide (rgt h h'):=by rcases d with rfl|rfl|rfl|rfl<;>rcases a with rfl|rfl|rfl|rfl<;>rfl
noncomputable def addK{β:Type}(o:List Cell)(c:Cell)(K:List Cell->Option β):Option β:=
 @W.br wv β (@W.cm wv .gtr (@W.ln wv Cell o) 0) (@W.gd wv β (@W.ib wv (@W.ar wv .sub .i64 (@W.ln wv Cell o) 1) (@W.ln wv Cell o)) (@W.ge wv β Cell o (@W.ar wv .sub .i64 (@W.ln wv Cell o) 1) λv=>
  @W.br wv β (@W.an wv (@W.cm wv .eql v.1 c.1) (@W.cm wv .eql v.2 c.2)) (K o) (@W.gd wv β (@W.ft wv 16 (@W.pl wv (@W.ln wv Cell o) 1)) (K (@W.ap wv Cell o (c::[]))))))
 (@W.gd wv β (@W.ft wv 16 (@W.pl wv (@W.ln wv Cell o) 1)) (K (@W.ap wv Cell o (c::[]))))
theorem an_eq(a b:Cell):@W.an wv (@W.cm wv .eql a.1 b.1) (@W.cm wv .eql a.2 b.2)=decide (a=b):=by rw [w_an,Xb,Xb,Bool.eq_iff_iff,Bool.and_eq_true,beq_iff_eq,beq_iff_eq,decide_eq_true_eq,Prod.ext_iff]
theorem Jyw{o:List Cell}(h:0<o.length)(hl:o.length<=1000000000):∃z,o.getLast?=some z/\fget o (@W.ar wv .sub .i64 (@W.ln wv Cell o) 1)=some z:=by
 have e:@W.ar wv .sub .i64 (@W.ln wv Cell o) 1=((o.length - 1:Nat):Int):=by rw [w_ln,Yp,wr (by omega) (by omega)];omega
 have a:o[o.length - 1]?=some o[o.length - 1]:=Ac (by omega);exact ⟨_,by rw [Ar,a],by rw [e];exact fg a⟩
theorem J66{β:Type}{o:List Cell}(hl:o.length<=1000000000)(c:Cell)(K:List Cell->Option β):addK o c K=K (ddS o c):=by
 unfold addK ddS;by_cases h:0<o.length
 ·obtain ⟨z,f,d⟩:=Jyw h hl;rw [br_t (by rw [jm,w_ln];exact decide_eq_true (by omega)),Jf3 (by rw [w_ln,Yp,wr (by omega) (by omega)];omega),ge_s d,an_eq,f];by_cases e:z=c
  ·rw [br_t (decide_eq_true e),if_pos (by rw [e])]
  ·rw [br_f (decide_eq_false e),if_neg (by simpa using e),w_ln,w_pl,Jf7 (by omega) (by omega),w_ap]
 ·have a:o=[]:=List.eq_nil_of_length_eq_zero (by omega);subst a;rw [br_f (by rfl),w_ln,w_pl,Jf7 (by simp) (by simp),w_ap];rfl
noncomputable def trimK(o:List Cell):Option (List Cell):=
 @W.br wv (List Cell) (@W.cm wv .gtr (@W.ln wv Cell o) 1) (@W.gd wv (List Cell) (@W.ib wv 0 (@W.ln wv Cell o)) (@W.ge wv (List Cell) Cell o 0 λv=>
  @W.gd wv (List Cell) (@W.ib wv (@W.ar wv .sub .i64 (@W.ln wv Cell o) 1) (@W.ln wv Cell o)) (@W.ge wv (List Cell) Cell o (@W.ar wv .sub .i64 (@W.ln wv Cell o) 1) λw=>
  @W.br wv (List Cell) (@W.an wv (@W.cm wv .eql v.1 w.1) (@W.cm wv .eql v.2 w.2)) (@W.gd wv (List Cell) (@W.le wv 0 (@W.ar wv .sub .i64 (@W.ln wv Cell o) 1)) (@W.gd wv (List Cell) (@W.le wv (@W.ar wv .sub .i64 (@W.ln wv Cell o) 1) (@W.ln wv Cell o))
   (@W.gd wv (List Cell) (@W.le wv 0 0) (@W.gd wv (List Cell) (@W.le wv 0 (@W.ar wv .sub .i64 (@W.ln wv Cell o) 1)) (@W.gd wv (List Cell) (@W.le wv (@W.pl wv 0 (@W.ar wv .sub .i64 (@W.ln wv Cell o) 1)) (@W.ln wv Cell o))
   (some (@W.ct wv Cell o 0 (@W.ar wv .sub .i64 (@W.ln wv Cell o) 1)))))))) (some o)))) (some o)
theorem trimK_ok{o:List Cell}(hl:o.length<=1000000000):trimK o=some (trim o):=by
 unfold trimK trim;by_cases h:1<o.length
 ·obtain ⟨z,f,d⟩:=Jyw (o:=o) (by omega) hl;have e:@W.ar wv .sub .i64 (@W.ln wv Cell o) 1=((o.length - 1:Nat):Int):=by rw [w_ln,Yp,wr (by omega) (by omega)];omega
  have a:o[0]?=some o[0]:=Ac (by omega);rw [br_t (by rw [jm,w_ln];exact decide_eq_true (by omega)),Jf3 (by rw [w_ln];omega),ge_s (fg0 a),Jf3 (by rw [e,w_ln];omega),ge_s d,an_eq,f,Ax,a];by_cases q:o[0]=z
  ·rw [br_t (decide_eq_true q),if_pos ⟨h,by rw [q]⟩,e,le_t (by omega),le_t (by rw [w_ln];omega),le_t (by omega),le_t (by omega),le_t (by rw [w_pl,w_ln];omega),w_ct,List.dropLast_eq_take];simp
  ·rw [br_f (decide_eq_false q),if_neg λhx=>q (by have:=hx.2;injection this)]
 ·rw [br_f (by rw [jm,w_ln];exact decide_eq_false (by omega)),if_neg λhx=>h hx.1]
def Jbm(P:Cell)(h:Int)(k:Nat):List Cell:=(Ae k).map λj=>Kn (fwd P h j) h
theorem Jh2(P:Cell)(h:Int)(k:Nat):Jbm P h (k+1)=Jbm P h k++[Kn (fwd P h k) h]:=by unfold Jbm;rw [List.range_succ,Ap];rfl
theorem Jqa(P:Cell)(h:Int)(k:Nat):(Jbm P h k).length=k:=by unfold Jbm;rw [Aa,Ai]
theorem Jf2{P:Cell}{h:Int}(a:hd4 h){k L:Nat}(d:k<=L)(g:Zl P)(f:Zl (fwd P h L)):Zl (fwd P h k):=by
 have m:=Joh P a k;have l:=Joh P a L;have:hd4 h:=a;generalize fwd P h k=u at *
 generalize fwd P h L=v at *
 unfold Zl at *
 omega
theorem fwd_ne{P:Cell}{h:Int}(a:hd4 h){k L:Nat}(f:k<L):fwd P h k≠fwd P h L:=by
 have d:=Joh P a k;have g:=Joh P a L;intro e;rw [e] at d;generalize fwd P h L=v at *
 omega
theorem fwd_add{P:Cell}{h:Int}(d:hd4 h){k L:Nat}(l:k<L)(g:Zl P)(f:Zl (fwd P h L)):@W.ar wv .add .i64 (fwd P h k).1 (dirH h).1=(fwd P h (k+1)).1/\@W.ar wv .add .i64 (fwd P h k).2 (dirH h).2=(fwd P h (k+1)).2:=by
 have e:fwd P h (k+1)=addC (fwd P h k) (dirH h):=by rw [Jrl,Jm9]
 have a:=Jf2 d (k:=k+1) (L:=L) (by omega) g f;rw [e] at a ⊢;unfold Zl addC at a;unfold addC;dsimp only at a ⊢;rw [Ki,Ki,wr (by omega) (by omega),wr (by omega) (by omega)];exact ⟨rfl,rfl⟩
section
variable {r:Reg} {s:Ck}
theorem Jqz{N i:Nat}(h:i<(tps r s N).length):ptK r s (tpN r s N (i+1))=fwd (ptK r s (tpN r s N i)) (hdK r s (tpN r s N i)) (tpN r s N (i+1) - tpN r s N i):=by have a:=Jqq r s h;have:=edge r s h (tpN r s N (i+1) - tpN r s N i) (by omega);rwa [show tpN r s N i+(tpN r s N (i+1) - tpN r s N i)=tpN r s N (i+1) by omega] at this
theorem Jtz{N i:Nat}(h:i<(tps r s N).length):∀k,tpN r s N i+k<tpN r s N (i+1)->raw r s (tpN r s N i+k)=raw r s (tpN r s N i)++Jbm (ptK r s (tpN r s N i)) (hdK r s (tpN r s N i)) k
 | 0,_=>by simp [Jbm]
 | k+1,f=>by
  rw [<-Nat.add_assoc,Jfe,Jtz h k (by omega),Jh2,Ao]
  congr 2
  have d:=Jo2 r s h k (by omega);have a:=Jo2 r s h (k+1) (by omega);rw [<-Nat.add_assoc] at a;unfold rawK;rw [d,a,edge r s h k (by omega),if_neg];unfold rgt;omega
noncomputable def cornC(r:Reg)(s:Ck)(N i:Nat):List Cell:=if rgt (hdK r s (tpN r s N i)) (hdK r s (tpN r s N (i+1))) then [addC (Kn (fwd (ptK r s (tpN r s N i)) (hdK r s (tpN r s N i)) (tpN r s N (i+1) - tpN r s N i - 1)) (hdK r s (tpN r s N i))) (dirH (hdK r s (tpN r s N i)))] else []
theorem raw_edge{N i:Nat}(h:i<(tps r s N).length) :
  raw r s (tpN r s N (i+1))=raw r s (tpN r s N i)++Jbm (ptK r s (tpN r s N i)) (hdK r s (tpN r s N i)) (tpN r s N (i+1) - tpN r s N i)++cornC r s N i:=by
 have a:=Jqq r s h;obtain ⟨k,d⟩:∃k,tpN r s N (i+1)=tpN r s N i+k+1:=⟨tpN r s N (i+1) - tpN r s N i - 1,by omega⟩;have l:=Jo2 r s h k (by omega);have g:=edge r s h k (by omega);have f:=Jtz h k (by omega);unfold cornC;rw [d,show tpN r s N i+k+1 - tpN r s N i=k+1 by omega,Jfe,f,Jh2,Ao,Ao,Ao,Nat.add_sub_cancel]
 congr 2
 unfold rawK;rw [l,g];rfl
end
abbrev Sr1:=HP (List Cell) (HP Int (HP (List Cell) (HP Int (HP Int (HP Int (HP Int (HP Int (HP Int (HP Int (HP Int (HP Int (HP Int Unit))))))))))))
theorem Jxt{r:Reg}{s:Ck}{N:Nat}(hN:Rnd (nx r) s N){i:Nat}(h:i<(tps r s N).length):(poly r s N)[i]?=some (ptK r s (tpN r s N i)):=by rw [Jtg r s hN.pos,List.getElem?_map,Jku r s h];rfl
theorem Jlq{r:Reg}{s:Ck}{N:Nat}(hN:Rnd (nx r) s N){i:Nat}(h:i<(tps r s N).length):(poly r s N)[(i+1) % (tps r s N).length]?=some (ptK r s (tpN r s N (i+1))):=by
 by_cases a:i+1<(tps r s N).length
 ·rw [Nat.mod_eq_of_lt a];exact Jxt hN a
 ·have e:i+1=(tps r s N).length:=by omega
  rw [e,Nat.mod_self,Jxt hN (by omega),Jlo r s hN.pos,Joa r s (Nat.le_refl _)];have:ptK r s N=s.1:=congrArg Prod.fst hN.back;rw [this];rfl
theorem J65{r:Reg}{s:Ck}{N:Nat}(hN:Rnd (nx r) s N){i:Nat}(h:i<(tps r s N).length):∃L,0<L/\L<=N/\(poly r s N)[(i+2) % (tps r s N).length]?=some (fwd (ptK r s (tpN r s N (i+1))) (hdK r s (tpN r s N (i+1))) L):=by
 by_cases f:i+1<(tps r s N).length
 ·have a:tpN r s N (i+1)<tpN r s N (i+2):=Jqq r s f;have d:=Jy8 r s (N:=N) (i:=i+2);refine ⟨tpN r s N (i+2) - tpN r s N (i+1),by omega,by omega,?_⟩;rw [Jlq hN f];exact congrArg some (Jqz f)
 ·have e:i+1=(tps r s N).length:=by omega
  have l:=hN.pos;have g:0<(tps r s N).length:=by omega
  have a:tpN r s N 0<tpN r s N 1:=Jqq r s g;have d:=Jy8 r s (N:=N) (i:=1);refine ⟨tpN r s N 1 - tpN r s N 0,by omega,by omega,?_⟩;have em:(i+2) % (tps r s N).length=(0+1) % (tps r s N).length:=by rw [show i+2=0+1+(tps r s N).length by omega,Nat.add_mod_right]
  rw [em,Jlq hN g,Joa r s (i:=i+1) (by omega)];have o:ptK r s N=ptK r s (tpN r s N 0):=by rw [Jlo r s l];exact congrArg Prod.fst hN.back
  have m:hdK r s N=hdK r s (tpN r s N 0):=by rw [Jlo r s l];exact congrArg Prod.snd hN.back
  rw [o,m];exact congrArg some (Jqz g)
theorem poly_len{r:Reg}{s:Ck}{N:Nat}(hN:Rnd (nx r) s N):(poly r s N).length=(tps r s N).length:=by rw [Jtg r s hN.pos,Aa]
theorem Jwx{a:Int}{b n:Nat}(e:a=(b:Int)):@W.ar wv .rem .i64 a (n:Int)=((b % n:Nat):Int):=by rw [w_rem,e,Int.tmod_eq_emod_of_nonneg (by omega)];exact (Int.natCast_emod _ _).symm
abbrev Sp1:=HP (List Cell) (HP Int (HP (List Cell) (HP Int (HP Int (HP Int (HP Int Unit))))))
theorem Jui(m:List Cell):∀o:List Cell,(m.foldl ddS o).length<=o.length+m.length:=by
 induction m with
 | nil=>intro o;exact Nat.le_refl _
 | cons c m a=>
  intro o;rw [List.foldl_cons,As];refine Nat.le_trans (a _) ?_;unfold ddS;split
  ·omega
  ·rw [Aq,List.length_singleton];omega
theorem ploop_L1(pts:List Cell)(i j:Nat)(o:List Cell){P:Cell}{h:Int}(g:hd4 h){L:Nat}(hL:L<=1000000)(w:Zl P)(r:Zl (fwd P h L))(G:o.length<=100000000)(hi:i<=1000000000)(F:pts.length<=1000000000)(A:0<pts.length)
  (l:pts[(i+1) % pts.length]?=some (fwd P h L)) :
  X1 (@Ye wv) bigN (⟨pts,(i:Int),o,P.1,P.2,(dirH h).1,(dirH h).2,()⟩:Sp1) =
   some (⟨pts,(i:Int),(Jbm P h L).foldl ddS o,(fwd P h L).1,(fwd P h L).2,(dirH h).1,(dirH h).2,()⟩:Sp1):=by
 have y:@W.ar wv .rem .i64 (@W.ar wv .add .i64 (i:Int) 1) (pts.length:Int)=(((i+1) % pts.length:Nat):Int):=Jwx (by rw [Ki,wr (by omega) (by omega)];omega);have a:@W.cm wv .neq (pts.length:Int) 0=true:=by rw [Jvf];exact bne_iff_ne.2 (by omega)
 have key:=Qo (b:=@Ye wv) (e:=(⟨pts,(i:Int),(Jbm P h L).foldl ddS o,(fwd P h L).1,(fwd P h L).2,(dirH h).1,(dirH h).2,()⟩:Sp1))
  (λk=>(⟨pts,(i:Int),(Jbm P h k).foldl ddS o,(fwd P h k).1,(fwd P h k).2,(dirH h).1,(dirH h).2,()⟩:Sp1)) L (by omega) (λk f=>by
   have m:=fwd_add g f w r;have d:=Jui (Jbm P h k) o;rw [Jqa] at d;unfold Ye;dsimp only;rw [w_ln,gd_t a,y,ge_s (fg l),br_t (by rw [an_eq,w_nt,decide_eq_false (fwd_ne g f)];rfl)];refine (ca_s (c:=Xr) (Jz9 g (Jf2 g (by omega) w r))).trans ?_;rw [m.1,m.2,Jh2,List.foldl_append];generalize (Jbm P h k).foldl ddS o=o1 at *
   generalize Kn (fwd P h k) h=c;generalize fwd P h (k+1)=v;obtain ⟨E,B⟩:=c;have f:=J66 (β:=Nx Sp1 Sp1) (o:=o1) (by omega) (E,B) (λo'=>some (.go (⟨pts,(i:Int),o',v.1,v.2,(dirH h).1,(dirH h).2,()⟩:Sp1)));unfold addK at f;exact f) (by unfold Ye;dsimp only;rw [w_ln,gd_t a,y,ge_s (fg l),br_f (by rw [an_eq,w_nt,decide_eq_true rfl];rfl)])
 have ec:Jbm P h 0=[]:=rfl;simp only [ec,J0g,List.foldl_nil] at key;exact key
abbrev Sp0:=HP (List Cell) (HP Int (HP Int (HP Int (HP Int (HP Int (HP (List Cell) Unit))))))
theorem pwalk_ok{r:Reg}(hr:RegOK r){s:Ck}(hl:Least r s){N:Nat}(hN:Rnd (nx r) s N)(Z:N<=1000000):@Jak wv (poly r s N)=some (Jlm (raw r s N)):=by
 have hs:=hl.1;have J:=hN.pos;have hn:=tps_len r s N;have h2n:=tps_two hl hN;have m:=poly_len hN;have step:∀i,i<(tps r s N).length->@Zk wv (⟨poly r s N,(i:Int),(ptK r s (tpN r s N i)).1,(ptK r s (tpN r s N i)).2,(dirH (hdK r s (tpN r s N i))).1,(dirH (hdK r s (tpN r s N i))).2,dd (raw r s (tpN r s N i)),()⟩:Sp0) =
   if i+1=(tps r s N).length then some (.out (⟨dd (raw r s (tpN r s N (i+1))),()⟩:HP (List Cell) Unit)) else
    some (.go (⟨poly r s N,((i+1:Nat):Int),(ptK r s (tpN r s N (i+1))).1,(ptK r s (tpN r s N (i+1))).2,(dirH (hdK r s (tpN r s N (i+1)))).1,(dirH (hdK r s (tpN r s N (i+1)))).2,dd (raw r s (tpN r s N (i+1))),()⟩:Sp0)):=λi hi=>by
  have F:=Jqq r s hi;have hTle:=Jy8 r s (N:=N) (i:=i+1);have w:=Jlq hN hi;obtain ⟨L2,hL2,hL2',O⟩:=J65 hN hi;have v:hd4 (hdK r s (tpN r s N i)):=(Ze hs _).e;have A:hd4 (hdK r s (tpN r s N (i+1))):=(Ze hs _).e;have s0:=Jc1 hr (Ze hs (tpN r s N i));have f:=Jc1 hr (Ze hs (tpN r s N (i+1)));rw [show (itr (nx r) (tpN r s N i) s).1=ptK r s (tpN r s N i) from rfl] at s0;rw [show (itr (nx r) (tpN r s N (i+1)) s).1=ptK r s (tpN r s N (i+1)) from rfl] at f;have hE:=Jqz hi;have a:=raw_edge hi;have Y:=Jrj r s (tpN r s N i);have hdl:=J2r (raw r s (tpN r s N i));have X:Zl (fwd (ptK r s (tpN r s N (i+1))) (hdK r s (tpN r s N (i+1))) L2):=by have M:=Ag O;rw [Jtg r s J] at M;obtain ⟨k,_,hk⟩:=Ah.1 M;rw [<-hk];exact Jc1 hr (Ze hs k)
  unfold cornC at a;generalize hdK r s (tpN r s N i)=h at *
  generalize hdK r s (tpN r s N (i+1))=h' at *
  generalize ptK r s (tpN r s N i)=P at *
  generalize ptK r s (tpN r s N (i+1))=Q at *
  have hwE:=Jlb (p:=Q) A hL2 f X;generalize fwd Q h' L2=R at *
  obtain ⟨L,hL⟩:∃L,tpN r s N (i+1) - tpN r s N i=L+1:=⟨tpN r s N (i+1) - tpN r s N i - 1,by omega⟩;rw [hL] at hE a;subst hE;have H:@W.ar wv .add .i64 (i:Int) 1=((i+1:Nat):Int):=by rw [Ki,wr (by omega) (by omega)];omega
  have e1:@W.ar wv .rem .i64 ((i+1:Nat):Int) ((tps r s N).length:Int)=(((i+1) % (tps r s N).length:Nat):Int):=Jwx rfl;have e2:@W.ar wv .rem .i64 (@W.ar wv .add .i64 ((i+1:Nat):Int) 1) ((tps r s N).length:Int)=(((i+2) % (tps r s N).length:Nat):Int):=Jwx (by rw [Ki,wr (by omega) (by omega)];omega);have y:@W.cm wv .neq ((tps r s N).length:Int) 0=true:=by rw [Jvf];exact bne_iff_ne.2 (by omega)
  have G:=Jui (Jbm P h (L+1)) (dd (raw r s (tpN r s N i)));rw [Jqa] at G;unfold Zk;dsimp only;refine (lo_s (ploop_L1 _ i ((i+1) % (tps r s N).length) _ v (by omega) s0 f (by omega) (by omega) (by omega) (by omega) (by rw [m];exact w))).trans ?_;dsimp only;rw [w_ln,m,gd_t y,H,e1,ge_s (fg w),gd_t y,e2,ge_s (fg O)];refine (ca_s (c:=K5) hwE).trans ?_;rw [cross_ok v A];have l:@W.ar wv .sub .i64 (fwd P h (L+1)).1 (dirH h).1=(fwd P h L).1/\@W.ar wv .sub .i64 (fwd P h (L+1)).2 (dirH h).2=(fwd P h L).2:=by
   have e:fwd P h (L+1)=addC (fwd P h L) (dirH h):=by rw [Jrl,Jm9]
   have h3:=Jf2 v (k:=L) (L:=L+1) (by omega) s0 f;unfold Zl at h3;rw [e,Yp,Yp];unfold addC;dsimp only;rw [wr (by omega) (by omega),wr (by omega) (by omega)];omega
  let K:List Cell->Option (Nx Sp0 (HP (List Cell) Unit)):=λo=>@W.br wv _ (@W.cm wv .eql ((i+1:Nat):Int) ((tps r s N).length:Int)) (some (.out ⟨o,()⟩)) (some (.go ⟨poly r s N,((i+1:Nat):Int),(fwd P h (L+1)).1,(fwd P h (L+1)).2,(dirH h').1,(dirH h').2,o,()⟩));have hK:∀o:List Cell,K o=if i+1=(tps r s N).length then some (.out (⟨o,()⟩:HP (List Cell) Unit)) else some (.go (⟨poly r s N,((i+1:Nat):Int),(fwd P h (L+1)).1,(fwd P h (L+1)).2,(dirH h').1,(dirH h').2,o,()⟩:Sp0)):=λo=>by
   show @W.br wv _ _ _ _=_;by_cases e:i+1=(tps r s N).length
   ·rw [br_t (by rw [Xb];exact beq_iff_eq.2 (by omega)),if_pos e]
   ·rw [br_f (by rw [Xb];exact beq_eq_false_iff_ne.2 (by omega)),if_neg e]
  by_cases g:rgt h h'
  ·have hb:-2000000000<=(Kn (fwd P h L) h).1/\(Kn (fwd P h L) h).1<=2000000000/\-2000000000<=(Kn (fwd P h L) h).2/\(Kn (fwd P h L) h).2<=2000000000:=by have:=Jf2 v (k:=L) (L:=L+1) (by omega) s0 f;unfold Zl at this;unfold Kn;rcases v with rfl|rfl|rfl|rfl<;>simp<;>omega
   have hd:-1<=(dirH h).1/\(dirH h).1<=1/\-1<=(dirH h).2/\(dirH h).2<=1:=by rcases v with rfl|rfl|rfl|rfl<;>simp [dirH]
   rw [br_t (decide_eq_true g),l.1,l.2];refine (ca_s (c:=Xr) (Jz9 v (Jf2 v (k:=L) (L:=L+1) (by omega) s0 f))).trans ?_;have a1:@W.ar wv .add .i64 (Kn (fwd P h L) h).1 (dirH h).1=(addC (Kn (fwd P h L) h) (dirH h)).1:=by rw [Ki,wr (by omega) (by omega)];rfl
   have a2:@W.ar wv .add .i64 (Kn (fwd P h L) h).2 (dirH h).2=(addC (Kn (fwd P h L) h) (dirH h)).2:=by rw [Ki,wr (by omega) (by omega)];rfl
   rw [a1,a2,a,if_pos g,Jjw,dd_add,Nat.add_sub_cancel];generalize (Jbm P h (L+1)).foldl ddS (dd (raw r s (tpN r s N i)))=E at *
   generalize addC (Kn (fwd P h L) h) (dirH h)=c;exact (show _=addK E c K from rfl).trans ((J66 (by omega) _ _).trans (hK _))
  ·rw [br_f (decide_eq_false g),a,if_neg g,List.append_nil,dd_add];generalize (Jbm P h (L+1)).foldl ddS (dd (raw r s (tpN r s N i)))=E at *
   exact hK E
 have B:tpN r s N ((tps r s N).length - 1+1)=N:=Joa r s (by omega);have d:=Qo (b:=@Zk wv) (e:=(⟨dd (raw r s N),()⟩:HP (List Cell) Unit)) (λi=>(⟨poly r s N,(i:Int),(ptK r s (tpN r s N i)).1,(ptK r s (tpN r s N i)).2,(dirH (hdK r s (tpN r s N i))).1,(dirH (hdK r s (tpN r s N i))).2,dd (raw r s (tpN r s N i)),()⟩:Sp0)) ((tps r s N).length - 1) (by omega) (λi hi=>by
  rw [step i (by omega),if_neg (by omega)]) (by rw [step _ (by omega),if_pos (by omega),B])
 have g0:=Jxt hN (i:=0) (by omega);have w:=Jlq hN (i:=0) (by omega);rw [Nat.mod_eq_of_lt (by omega)] at w;have hE:=Jqz (r:=r) (s:=s) (N:=N) (i:=0) (by omega);have F:=Jqq r s (N:=N) (i:=0) (by omega);have s0:=Jc1 hr (Ze hs (tpN r s N 0));have f:=Jc1 hr (Ze hs (tpN r s N (0+1)));rw [show (itr (nx r) (tpN r s N 0) s).1=ptK r s (tpN r s N 0) from rfl] at s0;rw [show (itr (nx r) (tpN r s N (0+1)) s).1=ptK r s (tpN r s N (0+1)) from rfl] at f;rw [hE] at w f;have hwE:=Jlb (p:=ptK r s (tpN r s N 0)) (Ze hs (tpN r s N 0)).e (n:=tpN r s N (0+1) - tpN r s N 0) (by omega) s0 f;unfold Jak;rw [ge_s (fg0 g0),ge_s (fg0 g0),ge_s (i:=1) (fg (i:=1) w)];refine (ca_s (c:=K5) hwE).trans ?_;have H:raw r s (tpN r s N 0)=[]:=by rw [Jlo r s J];rfl
 rw [H] at d;refine (lo_s d).trans ?_;exact (show _=trimK (dd (raw r s N)) from rfl).trans (trimK_ok (by have:=J2r (raw r s N);have:=Jrj r s N;omega))
noncomputable def Jdd(r:Reg)(s:Ck):Jz:=(1,true,Jlm (raw r s (perN r s)))
theorem Jzw{r:Reg}(a:(K8 r).length<=8000){s:Ck}(hs:Crk r s.1 s.2):(Jlm (raw r s (perN r s))).length<=65536:=by have h:=once_len (raw r s (perN r s));have g:=Jrj r s (perN r s);have f:=Jxq hs;have d:=Jsc r;omega
theorem Jpc{r:Reg}(h:Starts r (Zx r)):(Zx r).length<=(cks r).length:=by have d:(Zx r).Nodup:=h.pw.imp λ{a b} (h:yx a.1 b.1) (e:a=b)=>Jd3 a.1 (by subst e;exact h);exact Yr d λs hs=>((h.mem s).1 hs).mem
open Classical in
theorem J23(r:Reg)(hl:LimR r)(l:RegOK r->(K8 r).length<=8000):@Zr wv r=some (if RegOK r then (Zx r).map (Jdd r) else []):=by
 have a:RegOK r->(cks r).length<=1000000:=λh=>by have:=l h;have:=Jsc r;omega
 unfold Zr;rw [k_Trace hl a];by_cases hr:RegOK r
 case neg=>
  rw [if_neg hr,if_neg hr];exact (lo_s (show X1 (@X9 wv) bigN ⟨[],0,0,[],()⟩=some ⟨[],()⟩ from Jez (n:=18446744073709551615) rfl)).trans rfl
 rw [if_pos hr,if_pos hr];have f:=(Jlx r hl a).2 hr;have a:=a hr;have l:=l hr;have v:=Jpc f;have g:((Zx r).map (pol r)).length=(Zx r).length:=Aa _;have d:=Qo (b:=@X9 wv) (e:=(⟨(Zx r).map (Jdd r),()⟩:HP (List Jz) Unit)) (λi=>(⟨(Zx r).map (pol r),((Zx r).length:Int),(i:Int),((Zx r).take i).map (Jdd r),()⟩:HP (List (List Cell)) (HP Int (HP Int (HP (List Jz) Unit))))) (Zx r).length (by omega) (λi hi=>by
  have hx:=Ac hi;generalize (Zx r)[i]=s at hx;have hs:Least r s:=(f.mem s).1 (Ag hx);have y:((Zx r).map (pol r))[i]?=some (pol r s):=by rw [List.getElem?_map,hx];rfl
  have w:=Jxq hs.1;have o:=pwalk_ok hr hs (Jdg hs.1) (by omega);have m:=Jzw l hs.1;unfold X9;dsimp only;rw [Qp (by omega),ge_s (fg y)];refine (ca_s (c:=Zy) o).trans ?_;rw [br_t (by rw [Jjm,w_ln];exact decide_eq_true (by omega)),w_ln,w_pl,Aa,List.length_take,fit40 (by omega) (by omega),Ki,wr (by omega) (by omega),w_ap,Jcp hx];rfl) (by unfold X9;dsimp only;rw [Ko (by omega),Au])
 rw [w_ln,g];exact (lo_s d).trans rfl
open Classical in
theorem k_Walk{α:Type}{r:Reg}(hl:LimR r)(a:RegOK r->(K8 r).length<=8000)(k:List (Int×(Bool×List (Int×Int)))->Option α):@W.call wv α Qy r k=k (if RegOK r then (Zx r).map (Jdd r) else []):=ca_s (c:=Qy) (J23 r hl a)
theorem J5i{n:Nat}{l:List Nat}(h:l.Nodup)(a:∀x∈l,x<n):l.length<=n:=by have:=Yr (m:=Ae n) h λx hx=>Af.2 (a x hx);rwa [Ai] at this
theorem J63{r:Reg}(h:RegOK r):(K8 r).length<=67108864:=by
 have m:((K8 r).map λc:Cell=>((c.2+4096) * 8192+(c.1+4096)).toNat).Nodup:=by refine List.pairwise_map.2 ((List.Pairwise.and_mem.1 h.cells_pw).imp λ{a b} ⟨l,g,d⟩ e=>?_);have ba:=h.bd (Q8.1 l);have bb:=h.bd (Q8.1 g);unfold yx at d;omega
 have:=J5i (n:=67108864) m λx hx=>by obtain ⟨c,f,rfl⟩:=Ah.1 hx;have:=h.bd (Q8.1 f);omega
 rwa [Aa] at this
open Classical in
theorem Ju9(r:Reg)(hl:LimR r):@Qe wv r=some (if RegOK r then ((K8 r).length:Int) else 0):=by
 unfold Qe;rw [Jwp hl];by_cases h:RegOK r
 case neg=>rw [br_t (by simp [w_nt,h]),if_neg h]
 rw [br_f (by simp [w_nt,h]),if_pos h];have hL:=hl.1;have o:=J63 h;have d:=Qo (b:=@Q1 wv) (e:=(⟨((K8 r).length:Int),()⟩:HP Int Unit)) (λi=>(⟨(((r.take i).flatMap rowC).length:Int),(i:Int),r,()⟩:HP Int (HP Int (HP Reg Unit)))) r.length (by omega) (λi hi=>by
  have a:=Ac hi;generalize r[i]=w at a;have hLw:=hl.2 w (Ag a);have g:=Qo (b:=@Q3 wv) (e:=(⟨(((r.take i).flatMap rowC).length+(rowC w).length:Nat),(i:Int),r,()⟩:HP Int (HP Int (HP Reg Unit)))) (λk=>(⟨((((r.take i).flatMap rowC).length+((w.2.take k).flatMap (Jg9 w.1)).length:Nat):Int),(i:Int),(k:Int),r,()⟩:HP Int (HP Int (HP Int (HP Reg Unit))))) w.2.length (by omega) (λk m=>by
   have f:=Ac m;generalize w.2[k]=u at f;have v:=(h.rs w (Ag a)).bd u (Ag f);have l:=cells_le a f;rw [Jf9] at l;unfold Q3;dsimp only;simp only [ge_s (fg a),ge_s (fg f)];rw [w_ln,Qp (by omega),Yp,wr (n:=u.2 - u.1) (by omega) (by omega),Ki,Ki,wr (by omega) (by omega),wr (n:=(k:Int)+1) (by omega) (by omega),J3k f,Aq,Jf9,
    show ((((r.take i).flatMap rowC).length+((w.2.take k).flatMap (Jg9 w.1)).length:Nat):Int)+(u.2 - u.1)=((((r.take i).flatMap rowC).length+(((w.2.take k).flatMap (Jg9 w.1)).length+(u.2 - u.1).toNat):Nat):Int) by omega]
   rfl) (by unfold Q3;dsimp only;simp only [ge_s (fg a)];rw [w_ln,Ko (by omega),Au];rfl)
  simp only [List.take_zero,List.flatMap_nil,List.length_nil,Nat.add_zero] at g;unfold Q1;dsimp only;rw [w_ln,Qp (by omega)];refine (lo_s g).trans ?_;dsimp only;rw [Ki,wr (by omega) (by omega),Jig a,Aq];rfl) (by unfold Q1;dsimp only;rw [w_ln,Ko (by omega),Au];rfl)
 exact (lo_s d).trans rfl
theorem nb_of{a b:Cell}(h:nbC a b):nb a b:=by
 unfold nb;rcases h with ⟨f|f,d⟩|⟨f,d|d⟩
 ·rw [f,d,Av];rfl
 ·rw [f,d,Av];rfl
 ·rw [f,d,Av];rfl
 ·rw [f,d,Av];rfl
theorem walk_VT{r:Reg}(hr:RegOK r)(f:(K8 r).length<=8000){s:Ck}(hs:Crk r s.1 s.2):VT (Jdd r s):=by
 have hN:=Jdg hs;have d:=Jwe hs hN;have m:=Jzw f hs;have o:∀c∈Jlm (raw r s (perN r s)),grid c:=λc h=>hr.bd (raw_in hs ((Jro c).1 h));unfold Jdd;generalize Jlm (raw r s (perN r s))=l at *
 have v:=List.length_pos_iff.2 d.ne;refine ⟨⟨(by decide:(1:Int)<=1),(by decide:(1:Int)<=7)⟩,⟨v,m⟩,λi hi c f=>⟨o c (Ag f),λp A g=>?_⟩,λ_=>?_⟩
 ·exact nb_of (d.adj (i - 1) p c g (by rw [show i - 1+1=i by omega];exact f))
 ·refine d.cl.imp id λh a b y w=>nb_of (h a b ?_ ?_)
  ·rw [Ar];exact y
  ·rw [Ax];exact w
def boxR(x y:Int)(n m:Nat):Reg:=(Ae m).map λi:Nat=>(y+(i:Int),[(x,x+(n:Int))])
theorem box_ok(x y:Int)(n m:Nat)(hx:-100000<=x/\x<=100000)(f:-100000<=y/\y<=100000)(g:n<=100000)(h:m<=100000):@j9 wv (x,(y,((n:Int),(m:Int))))=some (boxR x y n m):=by
 have a:=Qo (b:=@Xz wv) (e:=(⟨boxR x y n m,()⟩:HP Reg Unit)) (λi=>(⟨x,y,(n:Int),(m:Int),(i:Int),boxR x y n i,()⟩:HP Int (HP Int (HP Int (HP Int (HP Int (HP Reg Unit))))))) m (by omega) (λi hi=>by
  have d:(boxR x y n i).length=i:=by unfold boxR;rw [Aa,Ai]
  unfold Xz;dsimp only;rw [Qp (by omega),w_ln,d,w_pl,J1u (by omega) (by omega),Ki,Ki,Ki,wr (n:=(i:Int)+1) (by omega) (by omega),wr (n:=y+(i:Int)) (by omega) (by omega),wr (n:=x+(n:Int)) (by omega) (by omega),w_ap];have e:boxR x y n (i+1)=boxR x y n i++[(y+(i:Int),[(x,x+(n:Int))])]:=by unfold boxR;rw [List.range_succ,Ap];rfl
  rw [e];rfl) (by unfold Xz;dsimp only;rw [Ko (by omega)])
 unfold j9;exact (lo_s a).trans rfl
section
variable {x y:Int} {n m:Nat}
theorem Jfg{c:Cell}:Jv (boxR x y n m) c↔(x<=c.1/\c.1<x+n)/\(y<=c.2/\c.2<y+m):=by
 unfold Jv boxR;constructor
 ·rintro ⟨w,h,f,u,a,d,g⟩;obtain ⟨i,hi,rfl⟩:=Ah.1 h;rw [Af] at hi;dsimp only at a f;rw [Ad] at a;subst a;exact ⟨⟨d,g⟩,by omega,by omega⟩
 ·rintro ⟨⟨f,d⟩,g,l⟩;refine ⟨_,Ah.2 ⟨(c.2 - y).toNat,Af.2 (by omega),rfl⟩,by dsimp only;omega,(x,x+(n:Int)),Ad.2 rfl,f,d⟩
theorem Jmy(g:0<n)(hx:-4096<=x/\x+n<=4096)(f:-4096<=y/\y+m<=4096):RegOK (boxR x y n m):=by
 refine ⟨λw a=>?_,?_,λw a=>?_,λw a=>?_⟩
 ·obtain ⟨i,hi,rfl⟩:=Ah.1 a;rw [Af] at hi;dsimp only;omega
 ·exact List.pairwise_map.2 (List.pairwise_lt_range.imp λh=>by dsimp only;omega)
 ·obtain ⟨i,hi,rfl⟩:=Ah.1 a;exact λh=>by cases h
 ·obtain ⟨i,hi,rfl⟩:=Ah.1 a;exact ⟨λu d=>by rw [Ad] at d;subst d;dsimp only;omega,Am _ _⟩
theorem box_lim(d:m<=1000000):LimR (boxR x y n m):=by refine ⟨by unfold boxR;rw [Aa,Ai];omega,λw a=>?_⟩;obtain ⟨i,hi,rfl⟩:=Ah.1 a;simp
theorem Jv0:(K8 (boxR x y n m)).length<=m * n:=by
 have h:∀w∈boxR x y n m,(rowC w).length<=n:=λw a=>by obtain ⟨i,hi,rfl⟩:=Ah.1 a;unfold rowC;rw [List.flatMap_cons,List.flatMap_nil,List.append_nil,Jf9];dsimp only;omega
 have:=Jxi (f:=rowC) (l:=boxR x y n m) (n:=n) h;have hl:(boxR x y n m).length=m:=by unfold boxR;rw [Aa,Ai]
 rw [hl] at this;exact this
def bck(x y:Int)(n m k:Nat):Ck:=
 if k<n then ((x+k,y),0) else if k<n+m then ((x+n,y+(k - n:Nat)),1) else if k<2 * n+m then ((x+n - (k - n - m:Nat),y+m),2) else ((x,y+m - (k - 2 * n - m:Nat)),3)
theorem Jds(a:0<n)(d:0<m){k:Nat}(f:k<2 * n+2 * m):Crk (boxR x y n m) (bck x y n m k).1 (bck x y n m k).2:=by
 unfold bck;split
 ·refine .inl ⟨rfl,?_⟩;simp only [Jfg];omega
 split
 ·refine .inr (.inl ⟨rfl,?_⟩);simp only [Jfg];omega
 split
 ·refine .inr (.inr (.inl ⟨rfl,?_⟩));simp only [Jfg];omega
 ·refine .inr (.inr (.inr ⟨rfl,?_⟩));simp only [Jfg];omega
theorem J43(g:0<n)(l:0<m){c:Ck}(h:Crk (boxR x y n m) c.1 c.2):∃k,k<2 * n+2 * m/\c=bck x y n m k:=by
 obtain ⟨⟨a,b⟩,t⟩:=c;simp only [Crk,Jfg] at h;rcases h with ⟨rfl,f,d⟩|⟨rfl,f,d⟩|⟨rfl,f,d⟩|⟨rfl,f,d⟩
 ·refine ⟨(a - x).toNat,by omega,?_⟩;unfold bck;rw [if_pos (by omega)];refine Prod.ext (Prod.ext ?_ ?_) rfl<;>dsimp only<;>omega
 ·refine ⟨n+(b - y).toNat,by omega,?_⟩;unfold bck;rw [if_neg (by omega),if_pos (by omega)];refine Prod.ext (Prod.ext ?_ ?_) rfl<;>dsimp only<;>omega
 ·refine ⟨n+m+(x+n - a).toNat,by omega,?_⟩;unfold bck;rw [if_neg (by omega),if_neg (by omega),if_pos (by omega)];refine Prod.ext (Prod.ext ?_ ?_) rfl<;>dsimp only<;>omega
 ·refine ⟨2 * n+m+(y+m - b).toNat,by omega,?_⟩;unfold bck;rw [if_neg (by omega),if_neg (by omega),if_neg (by omega)];refine Prod.ext (Prod.ext ?_ ?_) rfl<;>dsimp only<;>omega
theorem bck_next(f:0<n)(g:0<m){k:Nat}(l:k+1<2 * n+2 * m):nx (boxR x y n m) (bck x y n m k)=bck x y n m (k+1):=by
 have o:=Jds (x:=x) (y:=y) f g (k:=k) (by omega);have a:=Jds (x:=x) (y:=y) f g l;have d:Qq (bck x y n m k).2 (bck x y n m k).1=(bck x y n m (k+1)).1:=by
  unfold bck Qq
  (repeat' split)<;>first|(refine Prod.ext ?_ ?_<;>dsimp only at *<;>omega)|(dsimp only at *;omega)
 have h:=rule o (y:=(bck x y n m (k+1)).2) (by rw [d];exact a) (by
  rw [d];by_cases q:(bck x y n m (k+1)).2=((bck x y n m k).2+1) % 4
  ·exact .inl q
  ·refine .inr λh=>?_;revert q h;unfold bck
   (repeat' split)<;>intro q h<;>first
    | (dsimp only at q;omega)
    | (simp [Crk,Jfg] at h;omega))
 rw [<-h,d]
theorem bck_last(d:0<n)(f:0<m):nx (boxR x y n m) (bck x y n m (2 * n+2 * m - 1))=bck x y n m 0:=by
 have g:=Jds (x:=x) (y:=y) d f (k:=2 * n+2 * m - 1) (by omega);have a:=Jds (x:=x) (y:=y) d f (k:=0) (by omega);have o:bck x y n m (2 * n+2 * m - 1)=((x,y+1),3):=by unfold bck;rw [if_neg (by omega),if_neg (by omega),if_neg (by omega)];refine Prod.ext (Prod.ext ?_ ?_) rfl<;>dsimp only<;>omega
 have l:bck x y n m 0=((x,y),0):=by unfold bck;rw [if_pos d];refine Prod.ext (Prod.ext ?_ ?_) rfl<;>dsimp only<;>omega
 rw [o] at g ⊢;rw [l] at a ⊢;have h:Qq 3 (x,y+1)=(x,y):=by simp [Qq]
 have:=rule (c:=((x,y+1),3)) g (y:=0) (by dsimp only;rw [h];exact a) (.inl rfl);dsimp only at this;rw [h] at this;exact this.symm
theorem Jke(a:0<n)(d:0<m):∀k,k<2 * n+2 * m->itr (nx (boxR x y n m)) k (bck x y n m 0)=bck x y n m k
 | 0,_=>rfl
 | k+1,f=>by rw [show itr (nx (boxR x y n m)) (k+1) (bck x y n m 0)=nx (boxR x y n m) (itr (nx (boxR x y n m)) k (bck x y n m 0)) from rfl,Jke a d k (by omega),bck_next a d f]
theorem bck_inj{j k:Nat}(d:j<2 * n+2 * m)(a:k<2 * n+2 * m)(h:bck x y n m j=bck x y n m k):j=k:=by
 unfold bck at h;revert h
 (repeat' split)<;>intro h<;>simp only [Prod.mk.injEq] at h<;>omega
theorem Jsl(a:0<n)(d:0<m):Rnd (nx (boxR x y n m)) (bck x y n m 0) (2 * n+2 * m):=by
 refine ⟨by omega,?_,λi f hi e=>?_⟩
 ·rw [show 2 * n+2 * m=2 * n+2 * m - 1+1 by omega];show nx (boxR x y n m) (itr (nx (boxR x y n m)) (2 * n+2 * m - 1) (bck x y n m 0))=_;rw [Jke a d _ (by omega),bck_last a d]
 ·rw [Jke a d i hi] at e;have:=bck_inj hi (by omega) e;omega
theorem J0h(a:0<n):bck x y n m 0=((x,y),0):=by unfold bck;rw [if_pos a];refine Prod.ext (Prod.ext ?_ ?_) rfl<;>dsimp only<;>omega
theorem Ju8(a:0<n)(d:0<m):Least (boxR x y n m) (bck x y n m 0):=by
 refine ⟨Jds a d (by omega),λk=>?_⟩;have f:=Ze (Jds (x:=x) (y:=y) a d (k:=0) (by omega)) k;obtain ⟨j,g,e⟩:=J43 a d f;rw [e,J0h a];unfold bck yx
 (repeat' split)<;>dsimp only<;>omega
theorem Jjz(a:0<n)(d:0<m):Zx (boxR x y n m)=[bck x y n m 0]:=by refine Jn8 ⟨Am _ _,λc=>?_⟩;rw [Ad];refine ⟨λe=>by rw [e];exact Ju8 a d,λh=>?_⟩;obtain ⟨k,f,e⟩:=J43 a d h.1;exact (Ju8 a d).same h (k:=k) (by rw [Jke a d k f];exact e)
def bwalk(x y:Int)(n m:Nat):List Cell:=(Ae n).map (λk:Nat=>(x+(k:Int),y))++(Ae m).map (λk:Nat=>(x+n - 1,y+(k:Int)))++(Ae n).map (λk:Nat=>(x+n - 1 - (k:Int),y+m - 1))++(Ae m).map λk:Nat=>(x,y+m - 1 - (k:Int))
theorem Jh9{α:Type}(f:Nat->α)(a b:Nat):(Ae (a+b)).map f=(Ae a).map f++(Ae b).map λk=>f (a+k):=by rw [List.range_add,Ap,List.map_map];rfl
theorem flat_one{α β:Type}{l:List α}{g:α->List β}{f:α->β}(h:∀k∈l,g k=[f k]):l.flatMap g=l.map f:=by
 induction l with
 | nil=>rfl
 | cons a l d=>rw [List.flatMap_cons,List.map_cons,h a (List.mem_cons_self ..),d λk m=>h k (List.mem_cons_of_mem _ m)];rfl
theorem Jws(d:0<n)(f:0<m):raw (boxR x y n m) (bck x y n m 0) (2 * n+2 * m)=bwalk x y n m:=by
 have hK:∀k,k<2 * n+2 * m->rawK (boxR x y n m) (bck x y n m 0) k=[Kn (bck x y n m k).1 (bck x y n m k).2]:=λk a=>by
  have h:itr (nx (boxR x y n m)) k (bck x y n m 0)=bck x y n m k:=Jke d f k a;have g:(itr (nx (boxR x y n m)) (k+1) (bck x y n m 0)).2=(bck x y n m k).2\/(itr (nx (boxR x y n m)) (k+1) (bck x y n m 0)).2=((bck x y n m k).2+1) % 4:=by
   by_cases q:k+1<2 * n+2 * m
   ·rw [Jke d f (k+1) q];unfold bck
    (repeat' split)<;>first|exact .inl rfl|exact .inr rfl|(exfalso;omega)
   ·have:k+1=2 * n+2 * m:=by omega
    rw [this,(Jsl d f).back,J0h d];right;unfold bck;rw [if_neg (by omega),if_neg (by omega),if_neg (by omega)];rfl
  have hd:=(Jds (x:=x) (y:=y) d f a).e;unfold rawK ptK hdK;rw [h];rw [if_neg];unfold rgt;rcases g with e|e<;>rw [e]<;>omega
 unfold raw;have e:(Ae (2 * n+2 * m)).flatMap (rawK (boxR x y n m) (bck x y n m 0))=(Ae (2 * n+2 * m)).map λk=>Kn (bck x y n m k).1 (bck x y n m k).2:=by exact flat_one λk a=>hK k (Af.1 a)
 rw [e,show 2 * n+2 * m=n+m+n+m by omega,Jh9,Jh9,Jh9];unfold bwalk
 congr 1
 ·congr 1
  ·congr 1
   ·refine Ak λk a=>?_;rw [Af] at a;unfold bck;rw [if_pos (by omega)];rfl
   ·refine Ak λk a=>?_;rw [Af] at a;unfold bck;rw [if_neg (by omega),if_pos (by omega)];refine Prod.ext ?_ ?_<;>simp [Kn]
  ·refine Ak λk a=>?_;rw [Af] at a;unfold bck;rw [if_neg (by omega),if_neg (by omega),if_pos (by omega)];refine Prod.ext ?_ ?_<;>simp [Kn]<;>omega
 ·refine Ak λk a=>?_;rw [Af] at a;unfold bck;rw [if_neg (by omega),if_neg (by omega),if_neg (by omega)];refine Prod.ext ?_ ?_<;>simp [Kn]<;>omega
end
theorem awake_true:@Jbh wv ()=some true:=by
 classical
 have hr:RegOK (boxR 0 0 2 2):=Jmy (by decide) (by decide) (by decide);have a:=Jv0 (x:=0) (y:=0) (n:=2) (m:=2);have hW:@Zr wv (boxR 0 0 2 2)=some [(1,true,[(0,0),(1,0),(1,1),(0,1)])]:=by rw [J23 _ (box_lim (by decide)) (λ_=>by omega),if_pos hr,Jjz (by decide) (by decide)];show some [Jdd _ _]=_;unfold Jdd;rw [Jtc (Jds (by decide) (by decide) (by decide)) (Jsl (by decide) (by decide)),Jws (by decide) (by decide)];exact congrArg some (by decide)
 have hB:=box_ok 0 0 2 2 (by decide) (by decide) (by decide) (by decide);unfold Jbh;refine (ca_s (c:=Jci) hB).trans ((ca_s (c:=Qy) hW).trans ?_)
 kernel_rfl
end Go.Proofs.YtmfagdfkpjgeiaaGreat
