/- Choosing the next crack. Conditions: at most 10^9 headings at a corner and corners so far. -/
import Derived.Test.YtmfagdfkpjgeiaaGreatXD
set_option linter.unusedVariables false
set_option linter.unusedSimpArgs false
set_option linter.unusedSectionVars false
set_option maxRecDepth 100000
namespace Go.Proofs.YtmfagdfkpjgeiaaGreat
open Go Go.Vv Go.Dn Go.Dn.W
open List renaming length_map -> Aa, getElem?_eq_some_iff -> Ab, getElem?_eq_getElem -> Ac, mem_singleton -> Ad, range -> Ae, mem_range -> Af, mem_of_getElem? -> Ag, mem_map -> Ah, length_range -> Ai, pairwise_iff_getElem -> Aj, map_congr_left -> Ak, pairwise_singleton -> Am, append_assoc -> Ao, map_append -> Ap, length_append -> Aq, getLast?_eq_getElem? -> Ar, length_cons -> As, take_length -> Au, mem_append -> Aw, head?_eq_getElem? -> Ax
open Int renaming sub_self -> Av
def Jzb(l:List Int)(a b c:Int):Int:=if a∈l then a else if b∈l then b else if c∈l then c else b
def addP(po:List Cell)(q:Cell)(h h':Int):List Cell:=if h'≠h then po++[q] else po
theorem Jez{α:Type}{m:Cr}{p:Cell}{x:Int}(hl:(atC m p).length<=1000000000)(k:Bool->Option α):@W.call wv α Jb ((@W.mg wv (.p I I) (.ls I) m p [],x):List Int×Int) k=k (decide (x∈atC m p)):=by rw [J1o];exact Jyv hl k
section
variable (a:Reg) (h hl hr s5 s6:Int) (m:Cr) (s8 s9 x y:Int) (s12:List Cell) (s13:List (List Cell)) (po:List Cell)
abbrev st8(h hl hr s5 s6:Int)(m:Cr)(s8 s9 x y:Int)(s12:List Cell)(s13:List (List Cell))(po:List Cell)(i:Nat):HP Int (HP Int (HP Int (HP Int (HP Int (HP Int (HP Int (HP Cr (HP Int (HP Int (HP Int (HP Int (HP (List Cell) (HP (List (List Cell)) (HP (List Cell) Unit)))))))))))))):=
 ⟨h,hl,h,hr,(i:Int),s5,s6,m,s8,s9,x,y,s12,s13,po,()⟩
abbrev fin8(h:Int)(s5 s6:Int)(m:Cr)(s8 s9 x y:Int)(s12:List Cell)(s13:List (List Cell))(po:List Cell)(c:Int):HP Int (HP Int (HP Int (HP Cr (HP Int (HP Int (HP Int (HP Int (HP (List Cell) (HP (List (List Cell)) (HP (List Cell) Unit)))))))))):=
 ⟨c,s5,s6,m,s8,s9,x,y,s12,s13,addP po (x,y) h c,()⟩
theorem Juy(f:(atC m (x,y)).length<=1000000000)(l:po.length<=1000000000){i:Nat}{c:Int}(hi:i=0/\c=hl\/i=1/\c=h\/i=2/\c=hr) :
  @Kr wv a (st8 h hl hr s5 s6 m s8 s9 x y s12 s13 po i)=if c∈atC m (x,y) then some (.out (fin8 h s5 s6 m s8 s9 x y s12 s13 po c)) else some (.go (st8 h hl hr s5 s6 m s8 s9 x y s12 s13 po (i+1))):=by
 have g:@W.ar wv .add .i64 (i:Int) 1=((i+1:Nat):Int):=by rw [Ks,wr (by omega) (by omega)];omega
 have tail:∀(c:Int),(@W.br wv (Nx _ _) (decide (c∈atC m (x,y))) (@W.br wv _ (@W.cm wv .neq c h) (@W.gd wv _ (@W.ft wv 16 (@W.pl wv (@W.ln wv Cell po) 1)) (some (.out (⟨c,s5,s6,m,s8,s9,x,y,s12,s13,@W.ap wv Cell po ((x,y)::[]),()⟩:HP Int (HP Int (HP Int (HP Cr (HP Int (HP Int (HP Int (HP Int (HP (List Cell) (HP (List (List Cell)) (HP (List Cell) Unit))))))))))))))
   (some (.out ⟨c,s5,s6,m,s8,s9,x,y,s12,s13,po,()⟩))) (some (.go (st8 h hl hr s5 s6 m s8 s9 x y s12 s13 po (i+1)))))=if c∈atC m (x,y) then some (.out (fin8 h s5 s6 m s8 s9 x y s12 s13 po c)) else some (.go (st8 h hl hr s5 s6 m s8 s9 x y s12 s13 po (i+1))):=by
  intro c;by_cases d:c∈atC m (x,y)
  ·rw [br_t (decide_eq_true d),if_pos d];by_cases e:c=h
   ·rw [br_f (by rw [Jna];simp [e]),fin8,addP,if_neg (by simp [e])]
   ·rw [br_t (by rw [Jna];simpa using e),w_ln,w_pl,Jie (by omega) (by omega),w_ap,fin8,addP,if_pos e]
  ·rw [br_f (decide_eq_false d),if_neg d]
 unfold Kr;dsimp only;rw [g];rcases hi with ⟨rfl,rfl⟩|⟨rfl,rfl⟩|⟨rfl,rfl⟩
 ·rw [Qw (by decide),br_t (by rfl)];exact (Jez f _).trans (tail _)
 ·rw [Qw (by decide),br_f (by rfl),br_t (by rfl)];exact (Jez f _).trans (tail _)
 ·rw [Qw (by decide),br_f (by rfl),br_f (by rfl),br_t (by rfl)];exact (Jez f _).trans (tail _)
theorem L8_end:@Kr wv a (st8 h hl hr s5 s6 m s8 s9 x y s12 s13 po 3)=some (.out (fin8 h s5 s6 m s8 s9 x y s12 s13 po h)):=by unfold Kr;dsimp only;rw [Kq (by decide),fin8,addP,if_neg (by simp)]
theorem L9_L8:@Jbz wv=@Kr wv:=rfl
theorem L8_ok(o:(atC m (x,y)).length<=1000000000)(l:po.length<=1000000000) :
  Yl (@Kr wv a) bigN (st8 h hl hr s5 s6 m s8 s9 x y s12 s13 po 0)=some (fin8 h s5 s6 m s8 s9 x y s12 s13 po (Jzb (atC m (x,y)) hl h hr)):=by
 have d:=Juy a h hl hr s5 s6 m s8 s9 x y s12 s13 po o l (.inl ⟨rfl,rfl⟩);have f:=Juy a h hl hr s5 s6 m s8 s9 x y s12 s13 po o l (.inr (.inl ⟨rfl,rfl⟩));have g:=Juy a h hl hr s5 s6 m s8 s9 x y s12 s13 po o l (.inr (.inr ⟨rfl,rfl⟩));have A:=L8_end a h hl hr s5 s6 m s8 s9 x y s12 s13 po;unfold Jzb;by_cases w:hl∈atC m (x,y)
 ·rw [if_pos w] at d ⊢;exact Ql (st8 h hl hr s5 s6 m s8 s9 x y s12 s13 po) 0 (by decide) (λi hi=>by omega) d
 rw [if_neg w] at d ⊢;by_cases v:h∈atC m (x,y)
 ·rw [if_pos v] at f ⊢;exact Ql (st8 h hl hr s5 s6 m s8 s9 x y s12 s13 po) 1 (by decide) (λi hi=>by rw [show i=0 by omega];exact d) f
 rw [if_neg v] at f ⊢;by_cases r:hr∈atC m (x,y)
 ·rw [if_pos r] at g ⊢;exact Ql (st8 h hl hr s5 s6 m s8 s9 x y s12 s13 po) 2 (by decide) (λi hi=>by
   rcases (show i=0\/i=1 by omega) with rfl|rfl
   ·exact d
   ·exact f) g
 rw [if_neg r] at g ⊢;exact Ql (st8 h hl hr s5 s6 m s8 s9 x y s12 s13 po) 3 (by decide) (λi hi=>by
  rcases (show i=0\/i=1\/i=2 by omega) with rfl|rfl|rfl
  ·exact d
  ·exact f
  ·exact g) A
end
abbrev St7:=HP Int (HP Int (HP Int (HP Cr (HP Int (HP Int (HP Int (HP Int (HP (List Cell) (HP (List (List Cell)) (HP (List Cell) Unit))))))))))
abbrev Ou7:=HP Int (HP Int (HP Cr (HP (List Cell) (HP (List (List Cell)) (HP (List Cell) Unit)))))
abbrev st7(h n i:Int)(m:Cr)(x0 y0 x y:Int)(cs:List Cell)(out:List (List Cell))(po:List Cell):St7:=⟨h,n,i,m,x0,y0,x,y,cs,out,po,()⟩
abbrev ou7(n i:Int)(m:Cr)(cs:List Cell)(out:List (List Cell))(po:List Cell):Ou7:=⟨n,i,m,cs,out,po,()⟩
noncomputable def nx7(h n i:Int)(m:Cr)(x0 a:Int)(q:Cell)(cs:List Cell)(out:List (List Cell))(po:List Cell):Nx St7 Ou7:=
 if q=(x0,a) then .out (ou7 n i m cs out po) else
  .go (st7 (Jzb (atC m q) ((h+1) % 4) h ((h+3) % 4)) n i m x0 a q.1 q.2 cs out (addP po q h (Jzb (atC m q) ((h+1) % 4) h ((h+3) % 4))))
theorem J36(a:Reg)(h n i:Int)(m:Cr)(x0 d x y:Int)(cs:List Cell)(out:List (List Cell))(po:List Cell)(f:0<=h/\h<=3)(hs:Y2 (x,y))(r:(atC m (Xk h (x,y))).length<=1000000000)(o:po.length<=1000000000) :
  (@W.call wv (Nx St7 Ou7) J8 ((h,(x,y)):Int×(Int×Int)) λ(v:Int×Int)=>
   @W.br wv (Nx St7 Ou7) (@W.an wv (@W.cm wv .eql v.1 x0) (@W.cm wv .eql v.2 d)) (some (.out (ou7 n i m cs out po)))
   (@W.call wv (Nx St7 Ou7) J6 (h:Int) λ(v20:Int)=>@W.call wv (Nx St7 Ou7) J3 (h:Int) λ(v21:Int)=>
    @W.loop wv _ _ (Nx St7 Ou7) (@Kr wv a) ⟨h,v20,h,v21,0,n,i,m,x0,d,v.1,v.2,cs,out,po,()⟩ λv25=>
     some (.go ⟨v25.e,v25.j.e,v25.j.j.e,v25.j.j.j.e,v25.j.j.j.j.e,v25.j.j.j.j.j.e,v25.j.j.j.j.j.j.e,v25.j.j.j.j.j.j.j.e,v25.j.j.j.j.j.j.j.j.e,v25.j.j.j.j.j.j.j.j.j.e,v25.j.j.j.j.j.j.j.j.j.j.e,()⟩))) =
   some (nx7 h n i m x0 d (Xk h (x,y)) cs out po):=by
 rw [k_from hs];generalize Xk h (x,y)=q at *
 obtain ⟨qx,qy⟩:=q;unfold nx7;by_cases e:(qx,qy)=(x0,d)
 ·rw [if_pos e,br_t (by rw [w_an,Xr,Xr];injection e with l g;simp [l,g])]
 ·rw [if_neg e,br_f (by
   rw [w_an,Xr,Xr,Bool.and_eq_false_iff,beq_eq_false_iff_ne,beq_eq_false_iff_ne];by_cases l:qx=x0
   ·exact .inr λg=>e (by dsimp only at g;rw [l,g])
   ·exact .inl l),k_left f.1 f.2,k_right f.1 f.2]
  refine (lo_s (L8_ok a h ((h+1) % 4) ((h+3) % 4) n i m x0 d qx qy cs out po r o)).trans ?_;rfl
theorem Jxr{m:Cr}{T:Cell->Int->Prop}(h:MapOK m T)(hT:∀p x,T p x->x=0\/x=1\/x=2\/x=3)(p:Cell):(atC m p).length<=4:=
 zg (m:=[0,1,2,3]) (h.one p) λx hx=>by rcases hT p x ((h.mem p x).1 hx) with rfl|rfl|rfl|rfl<;>simp
theorem L7_step(a:Reg)(h n i:Int)(m:Cr)(x0 f x y:Int)(cs:List Cell)(out:List (List Cell))(po:List Cell){T:Cell->Int->Prop}(hM:MapOK m T)(hT:∀p x,T p x->x=0\/x=1\/x=2\/x=3)(hx:T (x,y) h)
  (hs:Y2 (x,y)) (r:po.length<=1000000000) :
  ∃o,MapOK o (λq z=>T q z/\¬(q=(x,y)/\z=h))/\@K1 wv a (st7 h n i m x0 f x y cs out po)=some (nx7 h n i o x0 f (Xk h (x,y)) cs out po):=by
 have w:0<=h/\h<=3:=by have:=hT _ _ hx;omega
 have K:=Jxr hM hT (x,y);obtain ⟨e,A,F⟩:=J1y (l:=atC m (x,y)) h (by omega);have d:h∈atC m (x,y):=(hM.mem _ _).2 hx;rcases F with ⟨_,G⟩|⟨j,v,rfl⟩
 ·exact (G d).elim
 have H:=(Ab.1 v).1;have em:@W.mg wv (.p I I) (.ls I) m (x,y) []=atC m (x,y):=J1o m (x,y);have ed:@W.md wv (.p I I) (.ls I) m (x,y)=delC m (x,y):=md_del m (x,y);by_cases g:(atC m (x,y)).length=1
 ·have hl:atC m (x,y)=[h]:=by obtain ⟨z,E⟩:=List.length_eq_one_iff.1 g;rw [E] at d ⊢;rw [Ad.1 d]
  have hM':=hM.del hl;refine ⟨_,hM',?_⟩;have J:=Jxr hM' (λp x h=>hT p x h.1) (Xk h (x,y));unfold K1;dsimp only;rw [em,A,Kq (by omega),br_t (by show (((atC m (x,y)).length:Int)==1)=true;rw [g];rfl),ed];exact J36 a h n i (delC m (x,y)) x0 f x y cs out po w hs (by omega) r
 ·have hM':=hM.cut v g;refine ⟨_,hM',?_⟩;have J:=Jxr hM' (λp x h=>hT p x h.1) (Xk h (x,y));unfold K1;dsimp only;have B:@W.ar wv .add .i64 (j:Int) 1=((j+1:Nat):Int):=by rw [Ks,wr (by omega) (by omega)];omega
  have ec:(atC m (x,y)).take (j:Int).toNat++((atC m (x,y)).drop ((j+1:Nat):Int).toNat).take (((atC m (x,y)).length:Int) - ((j+1:Nat):Int)).toNat=(atC m (x,y)).take j++(atC m (x,y)).drop (j+1):=by
   congr 1
   rw [Int.toNat_natCast,List.take_of_length_le (by rw [List.length_drop];omega)]
  have es:@W.ms wv (.p I I) (.ls I) m (x,y) (@W.ap wv I.T (@W.ct wv I.T (atC m (x,y)) 0 (j:Int)) (@W.ct wv I.T (atC m (x,y)) (@W.ar wv .add .i64 (j:Int) 1) (@W.mi wv (@W.ln wv I.T (atC m (x,y))) (@W.ar wv .add .i64 (j:Int) 1))))=putC m (x,y) ((atC m (x,y)).take j++(atC m (x,y)).drop (j+1)):=by rw [B,<-ec];exact ms_put m (x,y) _
  rw [em,A,Kq (by omega),br_f (by show (((atC m (x,y)).length:Int)==1)=false;rw [beq_eq_false_iff_ne];omega),es];refine (fitB (n:=((atC m (x,y)).length:Int)) (by omega) (by omega) (by decide)).trans ?_;refine (gd_t (show ((decide (0<=(j:Int)/\(j:Int)<(atC m (x,y)).length))&&((decide ((j:Int)+1<=@W.ar wv .add .i64 (j:Int) 1))&&(decide (@W.ar wv .add .i64 (j:Int) 1<=((atC m (x,y)).length:Int)))))=true by rw [B];simp only [Bool.and_eq_true,decide_eq_true_eq];omega)).trans ?_
  rw [L9_L8];exact J36 a h n i _ x0 f x y cs out po w hs (by omega) r
theorem pick_nxt{m:Cr}{T:Cell->Int->Prop}(hM:MapOK m T){r:Reg}(hT:∀p x,T p x->Crk r p x){p:Cell}{x:Int}(o:T (Xk x p) (nxtH r p x)) :
  Jzb (atC m (Xk x p)) ((x+1) % 4) x ((x+3) % 4)=nxtH r p x:=by
 unfold Jzb;have d:∀y,y∈atC m (Xk x p)->Crk r (Xk x p) y:=λy l=>hT _ _ ((hM.mem _ _).1 l);have a:=(hM.mem _ _).2 o;unfold nxtH at a ⊢;dsimp only at a ⊢;by_cases g:Crk r (Xk x p) ((x+1) % 4)
 ·rw [if_pos g] at a ⊢;rw [if_pos a]
 ·rw [if_neg g] at a ⊢;rw [if_neg λh=>g (d _ h)];by_cases f:Crk r (Xk x p) x
  ·rw [if_pos f] at a ⊢;rw [if_pos a]
  ·rw [if_neg f] at a ⊢;rw [if_neg λh=>f (d _ h),if_pos a]
theorem Jbn{r:Reg}(hr:RegOK r){p:Cell}{x:Int}(h:Crk r p x):Y2 p:=by have:=hr.bd (J4f h);unfold Qm at this;unfold Y2;rcases h.e with rfl|rfl|rfl|rfl<;>simp at this<;>omega
theorem seg_len(r:Reg)(s:Ck)(a n:Nat):(seg r s a n).length<=n:=by have:=List.length_filterMap_le (λi=>z8 r s (a+i)) (Ae n);rw [Ai] at this;exact this
theorem L7_ok(a r:Reg)(hr:RegOK r)(L:(cks r).length<=1000000){S:Ck->Prop}(hS:Closed r S){m:Cr}(hM:MapOK m λp x=>S (p,x)){s:Ck}(hs:S s)(hl:Least r s)(n i:Int)(cs:List Cell)(out:List (List Cell)) :
  ∃d,Yl (@K1 wv a) bigN (st7 s.2 n i m s.1.1 s.1.2 s.1.1 s.1.2 cs out [s.1])=some (ou7 n i d cs out (pol r s))/\MapOK d (λp x=>S (p,x)/\¬ ∃k,(p,x)=itr (nx r) k s):=by
 have hN:=Jfx hl.1;have P:=Jvg hl.1;have hp:=hN.pos;unfold pol;generalize perN r s=N at *
 obtain ⟨M,rfl⟩:∃M,N=M+1:=⟨N - 1,by omega⟩;have f:=hl.mem;have step:∀k,k<M+1->∀m,MapOK m (λp x=>S (p,x)/\¬ ∃j,j<k/\(p,x)=itr (nx r) j s) ->
   ∃d,MapOK d (λp x=>S (p,x)/\¬ ∃j,j<k+1/\(p,x)=itr (nx r) j s) /\
    @K1 wv a (st7 (hdK r s k) n i m s.1.1 s.1.2 (ptK r s k).1 (ptK r s k).2 cs out (s.1::seg r s 0 k))=some (nx7 (hdK r s k) n i d s.1.1 s.1.2 (ptK r s (k+1)) cs out (s.1::seg r s 0 k)):=by
  intro k K m O;have hSk:S (ptK r s k,hdK r s k):=hS.itr hs k;obtain ⟨d,w,v⟩:=L7_step a (hdK r s k) n i m s.1.1 s.1.2 (ptK r s k).1 (ptK r s k).2 cs out (s.1::seg r s 0 k) O (λp x h=>(hS.1 _ h.1).e) ⟨hSk,λ⟨j,o,e⟩=>by have:=(ring r).dist f hN (i:=j) (j:=k) (by omega) K e.symm;omega⟩ (Jbn hr (hS.1 _ hSk)) (by have:=seg_len r s 0 k;rw [As];omega)
  refine ⟨d,w.congr λp x=>?_,v⟩;constructor
  ·rintro ⟨⟨l,g⟩,X⟩;refine ⟨l,λ⟨j,o,e⟩=>?_⟩;by_cases G:j=k
   ·subst G;exact X ⟨congrArg Prod.fst e,congrArg Prod.snd e⟩
   ·exact g ⟨j,by omega,e⟩
  ·rintro ⟨l,g⟩;refine ⟨⟨l,λ⟨j,o,e⟩=>g ⟨j,by omega,e⟩⟩,λ⟨J,Y⟩=>g ⟨k,by omega,?_⟩⟩;rw [J,Y];rfl
 obtain ⟨e,Q,d,rfl,h⟩:=jq (b:=@K1 wv a)
  (λk st=>∃m,st=st7 (hdK r s k) n i m s.1.1 s.1.2 (ptK r s k).1 (ptK r s k).2 cs out (s.1::seg r s 0 k)/\MapOK m (λp x=>S (p,x)/\¬ ∃j,j<k/\(p,x)=itr (nx r) j s))
  (λe=>∃m,e=ou7 n i m cs out (poly r s (M+1))/\MapOK m (λp x=>S (p,x)/\¬ ∃k,(p,x)=itr (nx r) k s))
  M (by omega) (s0:=st7 s.2 n i m s.1.1 s.1.2 s.1.1 s.1.2 cs out [s.1])
  ⟨m,rfl,hM.congr λp x=>⟨λh=>⟨h,λ⟨j,o,_⟩=>by omega⟩,And.left⟩⟩
  (λk st K=>by
   rintro ⟨A,rfl,w⟩;obtain ⟨y,v,H⟩:=step k (by omega) A w;have F:ptK r s (k+1)≠s.1:=hl.ne hN (k:=k+1) (by omega) (by omega);have E:(λp x=>S (p,x)/\¬ ∃j,j<k+1/\(p,x)=itr (nx r) j s) (Xk (hdK r s k) (ptK r s k)) (nxtH r (ptK r s k) (hdK r s k)):=⟨hS.itr hs (k+1),λ⟨j,o,e⟩=>by have:=(ring r).dist f hN (i:=j) (j:=k+1) (by omega) (by omega) e.symm;omega⟩
   have B:=pick_nxt v (r:=r) (λp x h=>hS.1 _ h.1) E;refine ⟨_,H.trans ?_,y,rfl,v⟩;unfold nx7;rw [if_neg F,Jki,B];have J:nxtH r (ptK r s k) (hdK r s k)=hdK r s (k+1):=rfl;rw [J,<-Jki]
   congr 3
   rw [Jkl,Nat.zero_add];unfold addP;by_cases e:hdK r s (k+1)=hdK r s k
   ·have:z8 r s k=none:=if_pos e;rw [if_neg (by simpa using e),this];simp
   ·have:z8 r s k=some (ptK r s (k+1)):=if_neg e;rw [if_pos e,this];rfl)
  (by
   rintro st ⟨A,rfl,w⟩;obtain ⟨y,v,H⟩:=step M (by omega) A w;have R:ptK r s (M+1)=s.1:=congrArg Prod.fst hN.back;refine ⟨_,H.trans ?_,y,rfl,v.congr λp x=>⟨λ⟨l,g⟩=>⟨l,λ⟨k,e⟩=>?_⟩,λ⟨l,g⟩=>⟨l,λ⟨j,_,e⟩=>g ⟨j,e⟩⟩⟩⟩
   ·unfold nx7;rw [R,if_pos rfl];rfl
   ·obtain ⟨j,o,Z⟩:=hN.modN k;exact g ⟨j,o,e.trans Z⟩)
 exact ⟨d,Q,h⟩
theorem Least.same{r:Reg}{s t:Ck}(h:Least r s)(h':Least r t){k:Nat}(e:t=itr (nx r) k s):t=s:=by
 obtain ⟨j,a⟩:=(Jfx h.1).to s k;rw [<-e] at a;have f:=h.2 k;have d:=h'.2 j;rw [<-e] at f;rw [a] at d;rcases J2q s.1 t.1 with q|q|q
 ·exact (d q).elim
 ·exact h.uniq h' q.symm
 ·exact (f q).elim
abbrev st6(n:Int)(i:Nat)(m:Cr)(cs:List Cell)(out:List (List Cell)):HP Int (HP Int (HP Cr (HP (List Cell) (HP (List (List Cell)) Unit)))):=⟨n,(i:Int),m,cs,out,()⟩
structure Inv6 (r:Reg) (cs:List Cell) (i:Nat) (m:Cr) (out:List (List Cell)):Prop where
 ex:∃(S:Ck->Prop) (ls:List Ck),Closed r S/\MapOK m (λp x=>S (p,x))/\(∀c,S c->∃j,i<=j/\cs[j]?=some c.1)/\out=ls.map (pol r) /\
  ls.Pairwise (λa b=>yx a.1 b.1)/\(∀s∈ls,Least r s/\∃j,j<i/\cs[j]?=some s.1)/\∀s,Least r s->s∈ls\/S s
theorem cs_lt{cs:List Cell}(h:cs.Pairwise yx){i j:Nat}{a b:Cell}(m:cs[i]?=some a)(l:cs[j]?=some b)(d:i<j):yx a b:=by obtain ⟨g,r⟩:=Ab.1 m;obtain ⟨f,o⟩:=Ab.1 l;rw [<-r,<-o];exact Aj.1 h i j g f d
theorem L6_step(a r:Reg)(hr:RegOK r)(F:(cks r).length<=1000000){cs:List Cell}(E:cs.Pairwise yx)(M:cs.length<=1000000000){i:Nat}(hi:i<cs.length){m:Cr}{out:List (List Cell)}(h:Inv6 r cs i m out) :
  ∃G out',@K0 wv a (st6 cs.length i m cs out)=some (.go (st6 cs.length (i+1) G cs out'))/\Inv6 r cs (i+1) G out':=by
 obtain ⟨S,ls,hS,hM,J,rfl,v,d,o⟩:=h.ex;have f:cs[i]?=some cs[i]:=Ac hi;generalize cs[i]=p at f;have X:=Jxr hM (λp x h=>(hS.1 _ h).e) p;have P:@W.ar wv .add .i64 (i:Int) 1=((i+1:Nat):Int):=by rw [Ks,wr (by omega) (by omega)];omega
 have em:@W.mg wv (.p I I) (.ls I) m (p.1,p.2) []=atC m p:=J1o m p;cases g:atC m p with
 | nil=>
  refine ⟨m,_,?_,S,ls,hS,hM,λc hSc=>?_,rfl,v,λs hs=>⟨(d s hs).1,?_⟩,o⟩
  ·unfold K0;dsimp only;rw [Qw (by omega),Jjr (by rw [w_ln];omega),ge_s (fg f)];rw [em,g,br_f (by rfl),P]
  ·obtain ⟨j,A,e⟩:=J c hSc;refine ⟨j,?_,e⟩;by_cases y:j=i
   ·subst y;rw [f] at e;injection e with e;have:=(hM.mem c.1 c.2).2 hSc;rw [<-e,g] at this;cases this
   ·omega
  ·obtain ⟨j,A,e⟩:=(d s hs).2;exact ⟨j,by omega,e⟩
 | cons x l=>
  have hSp:S (p,x):=(hM.mem p x).1 (by rw [g];exact List.mem_cons_self ..);have B:∀c,S c->¬yx c.1 p:=λc hSc w=>by
   obtain ⟨j,A,e⟩:=J c hSc;rcases Nat.lt_or_eq_of_le A with q|q
   ·exact Jq3 (cs_lt E f e q) w
   ·subst q;rw [f] at e;injection e with e;rw [e] at w;exact Jhx _ w
  have hl:Least r (p,x):=⟨hS.1 _ hSp,λk=>B _ (hS.itr hSp k)⟩;have L:ls.length<=1000000:=by have H:ls.Nodup:=v.imp λ{a b} (h:yx a.1 b.1) (e:a=b)=>Jhx a.1 (by subst e;exact h);have:(ls.length:Nat)<=(cks r).length:=zg H λs hs=>(d s hs).1.mem;omega
  obtain ⟨G,Q,hM'⟩:=L7_ok a r hr F hS hM hSp hl (cs.length:Int) (i:Int) cs (ls.map (pol r));refine ⟨G,_,?_,_,ls++[(p,x)],hS.sub hl.1,hM',λc hSc=>?_,rfl,?_,λs hs=>?_,λt K=>?_⟩
  ·unfold K0;dsimp only;rw [Qw (by omega),Jjr (by rw [w_ln];omega),ge_s (fg f)];rw [em,g,br_t (by show decide (((x::l).length:Int) > 0)=true;rw [As];exact decide_eq_true (by omega))];refine (ge_s (x:=x) rfl).trans ((lo_s Q).trans ?_);dsimp only;rw [w_ln,w_pl,Aa,fitB (by omega) (by omega) (by decide),P,w_ap,Ap];rfl
  ·obtain ⟨j,A,e⟩:=J c hSc.1;refine ⟨j,?_,e⟩;by_cases y:j=i
   ·subst y;rw [f] at e;injection e with e;refine (hSc.2 ⟨0,?_⟩).elim;exact hl.only (hS.1 _ hSc.1) e.symm (B _ (hS.2 _ hSc.1))
   ·omega
  ·refine List.pairwise_append.2 ⟨v,Am _ _,λa R b O=>?_⟩;rw [Ad] at O;subst O;obtain ⟨j,A,e⟩:=(d a R).2;exact cs_lt E e f A
  ·rcases Aw.1 hs with hs|hs
   ·obtain ⟨j,A,e⟩:=(d s hs).2;exact ⟨(d s hs).1,j,by omega,e⟩
   ·rw [Ad] at hs;subst hs;exact ⟨hl,i,by omega,f⟩
  ·rcases o t K with q|q
   ·exact .inl (Aw.2 (.inl q))
   ·by_cases N:∃k,t=itr (nx r) k (p,x)
    ·obtain ⟨k,e⟩:=N;exact .inl (Aw.2 (.inr (Ad.2 (hl.same K e))))
    ·exact .inr ⟨q,N⟩
open Classical in
noncomputable def Zg(r:Reg):List Ck:=if h:∃l,Starts r l then h.choose else []
theorem Jm0{r:Reg}{l:List Ck}(h:Starts r l):Zg r=l:=by have hx:∃l,Starts r l:=⟨l,h⟩;unfold Zg;rw [dif_pos hx];exact hx.choose_spec.uniq h
theorem L6_ok(a r:Reg)(hr:RegOK r)(g:(cks r).length<=1000000){cs:List Cell}(y:cs.Pairwise yx)(f:cs.length<=1000000000){m:Cr}(hM:MapOK m λp x=>Crk r p x)(d:∀p,p∈cs↔∃x,Crk r p x) :
  Starts r (Zg r)/\Yl (@K0 wv a) bigN (st6 cs.length 0 m cs [])=some ⟨(Zg r).map (pol r),()⟩:=by
 obtain ⟨e,E,hQ⟩:=jq (b:=@K0 wv a)
  (λi s=>∃m out,s=st6 cs.length i m cs out/\Inv6 r cs i m out)
  (λe=>∃ls,Starts r ls/\e=⟨ls.map (pol r),()⟩) cs.length (by omega) (s0:=st6 cs.length 0 m cs [])
  ⟨m,[],rfl,λc=>Crk r c.1 c.2,[],⟨λc h=>h,λc h=>J2o h⟩,hM,λc h=>by obtain ⟨j,A⟩:=List.getElem?_of_mem ((d c.1).2 ⟨_,h⟩);exact ⟨j,Nat.zero_le _,A⟩,rfl,.nil,λs hs=>(List.not_mem_nil hs).elim,λs hs=>.inr hs.1⟩
  (λi s hi=>by rintro ⟨m,out,rfl,h⟩;obtain ⟨B,out',o,G⟩:=L6_step a r hr g y f hi h;exact ⟨_,o,B,out',rfl,G⟩)
  (by
   rintro s ⟨m,out,rfl,h⟩;obtain ⟨S,ls,hS,hM,F,rfl,v,w,l⟩:=h.ex;refine ⟨_,?_,ls,⟨v,λc=>⟨λh=>(w c h).1,λh=>(l c h).elim id λq=>?_⟩⟩,rfl⟩
   ·unfold K0;dsimp only;rw [Kq (by omega)]
   ·obtain ⟨j,A,e⟩:=F c q;have:=(Ab.1 e).1;omega)
 obtain ⟨ls,o,rfl⟩:=hQ;rw [Jm0 o];exact ⟨o,E⟩
theorem Jyu{l:List Cell}(g:l.Nodup)(h:l.Pairwise λa b=>Go.Proofs.ltOf cmpB b a=false)(d:∀x∈l,okB x=true):l.Pairwise yx:=by
 refine (List.Pairwise.and g h).imp_of_mem λ{a b} v r ⟨f,m⟩=>?_;have o:¬cmpB b a<0:=by simpa [Go.Proofs.ltOf] using m
 rw [Jes (d b r) (d a v)] at o;rcases J2q a b with q|q|q
 ·exact q
 ·exact (f q).elim
 ·exact (o q).elim
theorem Jjb(p:List Cell)(f:p.length<=1000000)(d:∀x∈p,okB x=true):∃q:List Cell,Jg0 (t:=.p I I) cmpB okB eqB zB p=some q/\q.Perm p/\q.Pairwise λa b=>Go.Proofs.ltOf cmpB b a=false:=
 Jt6 (t:=.p I I) swoB (eq:=eqB) (d0:=zB) (l:=p) (show p.length<_ by omega) d
open Classical in
theorem Jrt(r:Reg)(hl:LimR r)(d:RegOK r->(cks r).length<=1000000):@jo wv r=some (if RegOK r then (Zg r).map (pol r) else [])/\(RegOK r->Starts r (Zg r)):=by
 unfold jo;rw [jf hl];by_cases hr:RegOK r
 case neg=>exact ⟨by rw [br_t (by simp [w_nt,hr]),if_neg hr],λh=>(hr h).elim⟩
 rw [br_f (by simp [w_nt,hr]),if_pos hr];have d:=d hr;obtain ⟨m,E,hM0⟩:=Jzn r r hr hl.1;have hM:MapOK m λp x=>Crk r p x:=hM0.congr λp x=>crk_iff hr p x;have a:∀p,p∈m.map (·.1)↔∃x,Crk r p x:=λp=>hM.key p;have A:m.length<=1000000:=by
  have:(m.map (·.1)).length<=((cks r).map (·.1)).length:=zg hM.nd λp f=>by obtain ⟨x,hx⟩:=(a p).1 f;exact Ah.2 ⟨(p,x),Jaj.2 hx,rfl⟩
  rw [Aa,Aa] at this;omega
 have hokB:∀p,p∈m.map (·.1)->okB p=true:=λp f=>by obtain ⟨x,hx⟩:=(a p).1 f;have:=Jbn hr hx;unfold Y2 at this;unfold okB;exact decide_eq_true (by omega)
 have v:∃l,Starts r l:=by obtain ⟨q,B,o,w⟩:=Jjb (m.map (·.1)) (by rw [Aa];omega) hokB;exact ⟨_,(L6_ok r r hr d (cs:=q) (Jyu (o.nodup_iff.2 hM.nd) w λx hx=>hokB x (o.mem_iff.1 hx)) (by rw [o.length_eq,Aa];omega) hM λp=>(o.mem_iff).trans (a p)).1⟩
 refine ⟨?_,λ_=>by obtain ⟨l,h⟩:=v;rw [Jm0 h];exact h⟩;rw [w_ln];refine (lo_s E).trans ?_;dsimp only;rw [w_ln,Jie (by omega) (by omega)];refine J4m λy f=>?_;obtain ⟨p,rfl⟩:∃p:List Cell,p=y:=⟨y,rfl⟩;have f:List.Perm (α:=Cell) p (m.map (·.1)):=f;obtain ⟨q,B,o,w⟩:=Jjb p (by rw [f.length_eq,Aa];omega) λx hx=>hokB x (f.mem_iff.1 hx);have g:q.Perm (m.map (·.1)):=o.trans f;have hL6:=(L6_ok r r hr d (cs:=q) (Jyu (g.nodup_iff.2 hM.nd) w λx hx=>hokB x (g.mem_iff.1 hx)) (by rw [g.length_eq,Aa];omega) hM λp=>(g.mem_iff).trans (a p)).2;refine (ca_s (c:=Jn9) B).trans ?_;rw [w_ln];exact (lo_s hL6).trans rfl
open Classical in
theorem k_Trace{α:Type}{r:Reg}(hl:LimR r)(a:RegOK r->(cks r).length<=1000000)(k:List (List (Int×Int))->Option α):@W.call wv α Xw r k=k (if RegOK r then (Zg r).map (pol r) else []):=ca_s (c:=Xw) (Jrt r hl a).1
def enc(c:Ck):Cell×Cell:=(c.1,Xk c.2 c.1)
abbrev St22:=HP (List (Int×Int)) (HP Int (HP Reg (HP (List (Cell×Cell)) Unit)))
abbrev Ou22:=HP (List (Cell×Cell)) Unit
noncomputable def side(r:Reg)(c:Cell)(e:Cell×Cell)(K:List (Cell×Cell)->Option (Nx St22 Ou22))(o:List (Cell×Cell)):Option (Nx St22 Ou22):=
 @W.call wv (Nx St22 Ou22) Jde ((r,c):Reg×(Int×Int)) λv=>
  @W.br wv (Nx St22 Ou22) (@W.nt wv v) (@W.gd wv (Nx St22 Ou22) (@W.ft wv 32 (@W.pl wv (@W.ln wv (Cell×Cell) o) 1)) (K (@W.ap wv (Cell×Cell) o (e::[])))) (K o)
instance (a b:Cell):Decidable (yx a b):=inferInstanceAs (Decidable (_\/_))
theorem Jlu{r:Reg}{c:Cell}{k:Ck}(h:k∈Jjj r c):Qm k.1 k.2=c:=by rcases Jbm.1 h with ⟨_,rfl⟩|⟨_,rfl⟩|⟨_,rfl⟩|⟨_,rfl⟩<;>simp [Qm]
theorem Jth(r:Reg)(c:Cell):(Jjj r c).Nodup:=by
 classical
 unfold Jjj;split<;>split<;>split<;>split<;>simp
theorem J2m{r:Reg}(h:RegOK r):(cks r).Nodup:=by refine List.pairwise_flatMap.2 ⟨λc _=>Jth r c,h.cells_pw.imp λ{a b} d x hx y f e=>?_⟩;rw [e] at hx;have:=(Jlu hx).symm.trans (Jlu f);subst this;exact Jhx _ d
theorem J0k{α:Type}{l:List α}(h:l.Nodup){i j:Nat}{x:α}(hi:l[i]?=some x)(m:l[j]?=some x):i=j:=by
 obtain ⟨d,g⟩:=Ab.1 hi;obtain ⟨a,f⟩:=Ab.1 m;rcases Nat.lt_trichotomy i j with q|q|q
 ·exact (Aj.1 h i j d a q (by rw [g,f])).elim
 ·exact q
 ·exact (Aj.1 h j i a d q (by rw [g,f])).elim
theorem no_back{r:Reg}{p:Cell}{x:Int}(h:Crk r p x):¬Crk r (Xk x p) ((x+2) % 4):=by obtain ⟨g,f⟩:=p;rcases h with ⟨rfl,d,a⟩|⟨rfl,d,a⟩|⟨rfl,d,a⟩|⟨rfl,d,a⟩<;>simp [Xk,Crk] at *<;>grind
theorem rule{r:Reg}{c:Ck}(m:Crk r c.1 c.2){y:Int}(d:Crk r (Xk c.2 c.1) y)(hl:y=(c.2+1) % 4\/¬Crk r (Xk c.2 c.1) ((c.2+1) % 4)):(Xk c.2 c.1,y)=nx r c:=by
 unfold nx;refine Prod.ext rfl ?_;show y=nxtH r c.1 c.2;unfold nxtH;dsimp only;by_cases g:Crk r (Xk c.2 c.1) ((c.2+1) % 4)
 ·rw [if_pos g];exact hl.elim id λh=>(h g).elim
 ·rw [if_neg g];have o:y≠(c.2+1) % 4:=λe=>g (e▸d);have v:=no_back m;have l:y≠(c.2+2) % 4:=λe=>v (e▸d);have hd:=d.e;have hx:=m.e;by_cases f:Crk r (Xk c.2 c.1) c.2
  ·rw [if_pos f];apply Classical.byContradiction;intro a;have:=f.opp d (λe=>a e.symm);omega
  ·rw [if_neg f];have a:y≠c.2:=λe=>f (e▸d);omega
theorem le_t{α:Type}{a b:Int}{x:Option α}(h:a<=b):@W.gd wv α (@W.le wv a b) x=x:=gd_t (by rw [w_le];exact decide_eq_true h)
noncomputable def ringL(r:Reg)(c:Ck)(n:Nat):List (Cell×Cell):=(Ae n).map λk=>enc (itr (nx r) k c)
structure Marks (r:Reg) (done:List Bool) (D:Ck->Prop):Prop where
 len:done.length=(cks r).length
 at_:∀(j:Nat) (c:Ck),(cks r)[j]?=some c->(done[j]?=some true↔D c)
theorem Marks.get{r:Reg}{done:List Bool}{D:Ck->Prop}(h:Marks r done D){j:Nat}{c:Ck}(d:(cks r)[j]?=some c):∃b,done[j]?=some b/\(b=true↔D c):=by have a:=(Ab.1 d).1;have f:=Ac (l:=done) (i:=j) (by rw [h.len];exact a);refine ⟨done[j]'(by rw [h.len];exact a),f,?_⟩;rw [<-h.at_ j c d,f];simp
theorem Marks.set{r:Reg}(hr:RegOK r){done:List Bool}{D:Ck->Prop}(h:Marks r done D){j:Nat}{c:Ck}(f:(cks r)[j]?=some c):Marks r (done.set j true) λd=>D d\/d=c:=by
 refine ⟨by rw [List.length_set,h.len],λi d hi=>?_⟩;have a:=(Ab.1 hi).1;rw [List.getElem?_set];by_cases e:j=i
 ·subst e;rw [if_pos rfl,if_pos (by rw [h.len];exact a)];rw [f] at hi;injection hi with hi;exact ⟨λ_=>.inr hi.symm,λ_=>rfl⟩
 ·rw [if_neg e,h.at_ i d hi];refine ⟨.inl,λq=>q.elim id λq=>?_⟩;subst q;exact (e (J0k (J2m hr) f hi)).elim
theorem Closed.add{r:Reg}{D:Ck->Prop}(h:Closed r D){c:Ck}(a:Crk r c.1 c.2):Closed r λd=>D d\/∃k,d=Go.Proofs.YtmfagdfkpjgeiaaGreat.itr (nx r) k c:=by refine ⟨λd hd=>hd.elim (h.1 d) λ⟨k,e⟩=>by rw [e];exact Zw a k,λd hd=>hd.imp (h.2 d) λ⟨k,e⟩=>⟨k+1,by rw [e];rfl⟩⟩
def hd4(h:Int):Prop:=h=0\/h=1\/h=2\/h=3
theorem br_gt{α:Type}{a b:Int}{x y:Option α}(h:a > b):@W.br wv α (@W.cm wv .gtr a b) x y=x:=br_t (by rw [Jat];exact decide_eq_true h)
theorem Jwv{α:Type}{a b:Int}{x y:Option α}(h:¬a > b):@W.br wv α (@W.cm wv .gtr a b) x y=y:=br_f (by rw [Jat];exact decide_eq_false h)
theorem sign_ok(a:Int):@j7 wv a=some (if a > 0 then 1 else if a<0 then -1 else 0):=by
 unfold j7;by_cases h:a > 0
 ·rw [br_gt h,if_pos h]
 ·rw [Jwv h,if_neg h];by_cases d:a<0
  ·rw [Qw d,if_pos d]
  ·rw [Kq d,if_neg d]
theorem k_sign{α:Type}(a:Int)(k:Int->Option α):@W.call wv α Xg (a:Int) k=k (if a > 0 then 1 else if a<0 then -1 else 0):=ca_s (c:=Xg) (sign_ok a)
theorem Jk7(p:Cell){h:Int}(a:hd4 h)(n:Nat):(h=0/\(fwd p h n).1=p.1+n/\(fwd p h n).2=p.2)\/(h=1/\(fwd p h n).1=p.1/\(fwd p h n).2=p.2+n)\/(h=2/\(fwd p h n).1=p.1 - n/\(fwd p h n).2=p.2)\/(h=3/\(fwd p h n).1=p.1/\(fwd p h n).2=p.2 - n):=by unfold fwd dirH;rcases a with rfl|rfl|rfl|rfl<;>simp<;>omega
theorem Jji{p:Cell}{h:Int}(f:hd4 h){n:Nat}(v:0<n)(m:Y2 p)(l:Y2 (fwd p h n)):@Yc wv (p,fwd p h n)=some (dirH h):=by
 have g:=Jk7 p f n;generalize fwd p h n=q at *
 unfold Y2 at m l;have r:@W.ar wv .sub .i64 q.1 p.1=q.1 - p.1:=by rw [Zb,wr (by omega) (by omega)]
 have o:@W.ar wv .sub .i64 q.2 p.2=q.2 - p.2:=by rw [Zb,wr (by omega) (by omega)]
 unfold Yc;dsimp only;rw [r,o,k_sign,k_sign];refine congrArg some ?_;rcases g with ⟨rfl,d,a⟩|⟨rfl,d,a⟩|⟨rfl,d,a⟩|⟨rfl,d,a⟩
 ·rw [if_pos (by omega),if_neg (by omega),if_neg (by omega)];rfl
 ·rw [if_neg (by omega),if_neg (by omega),if_pos (by omega)];rfl
 ·rw [if_neg (by omega),if_pos (by omega),if_neg (by omega),if_neg (by omega)];rfl
 ·rw [if_neg (by omega),if_neg (by omega),if_neg (by omega),if_pos (by omega)];rfl
theorem Jwo{p:Cell}{h:Int}(d:hd4 h)(a:Y2 p):@j8 wv (p,dirH h)=some (Qm p h):=by
 unfold Y2 at a;have g:@W.ar wv .sub .i64 p.1 1=p.1 - 1:=by rw [Zb,wr (by omega) (by omega)]
 have f:@W.ar wv .sub .i64 p.2 1=p.2 - 1:=by rw [Zb,wr (by omega) (by omega)]
 unfold j8;dsimp only;rw [g,f];rcases d with rfl|rfl|rfl|rfl
 ·rw [br_t (by rfl)];rfl
 ·rw [br_f (by rfl),br_t (by rfl)];rfl
 ·rw [br_f (by rfl),br_f (by rfl),br_t (by rfl)];rfl
 ·rw [br_f (by rfl),br_f (by rfl),br_f (by rfl)];rfl
theorem cross_ok{h h':Int}(d:hd4 h)(a:hd4 h'):@W.cm wv .lss (@W.ar wv .sub .i64 (@W.ar wv .mul .i64 (dirH h).1 (dirH h').2) (@W.ar wv .mul .i64 (dirH h).2 (dirH h').1)) 0=decide (rgt h h'):=by rcases d with rfl|rfl|rfl|rfl<;>rcases a with rfl|rfl|rfl|rfl<;>rfl
noncomputable def addK{β:Type}(o:List Cell)(c:Cell)(K:List Cell->Option β):Option β:=
 @W.br wv β (@W.cm wv .gtr (@W.ln wv Cell o) 0) (@W.gd wv β (@W.ib wv (@W.ar wv .sub .i64 (@W.ln wv Cell o) 1) (@W.ln wv Cell o)) (@W.ge wv β Cell o (@W.ar wv .sub .i64 (@W.ln wv Cell o) 1) λv=>
  @W.br wv β (@W.an wv (@W.cm wv .eql v.1 c.1) (@W.cm wv .eql v.2 c.2)) (K o) (@W.gd wv β (@W.ft wv 16 (@W.pl wv (@W.ln wv Cell o) 1)) (K (@W.ap wv Cell o (c::[]))))))
 (@W.gd wv β (@W.ft wv 16 (@W.pl wv (@W.ln wv Cell o) 1)) (K (@W.ap wv Cell o (c::[]))))
theorem an_eq(a b:Cell):@W.an wv (@W.cm wv .eql a.1 b.1) (@W.cm wv .eql a.2 b.2)=decide (a=b):=by rw [w_an,Xr,Xr,Bool.eq_iff_iff,Bool.and_eq_true,beq_iff_eq,beq_iff_eq,decide_eq_true_eq,Prod.ext_iff]
theorem Jxm{o:List Cell}(h:0<o.length)(hl:o.length<=1000000000):∃z,o.getLast?=some z/\fget o (@W.ar wv .sub .i64 (@W.ln wv Cell o) 1)=some z:=by
 have e:@W.ar wv .sub .i64 (@W.ln wv Cell o) 1=((o.length - 1:Nat):Int):=by rw [w_ln,Zb,wr (by omega) (by omega)];omega
 have a:o[o.length - 1]?=some o[o.length - 1]:=Ac (by omega);exact ⟨_,by rw [Ar,a],by rw [e];exact fg a⟩
theorem J3m{β:Type}{o:List Cell}(hl:o.length<=1000000000)(c:Cell)(K:List Cell->Option β):addK o c K=K (ddS o c):=by
 unfold addK ddS;by_cases h:0<o.length
 ·obtain ⟨z,f,d⟩:=Jxm h hl;rw [br_t (by rw [Jat,w_ln];exact decide_eq_true (by omega)),Jjr (by rw [w_ln,Zb,wr (by omega) (by omega)];omega),ge_s d,an_eq,f];by_cases e:z=c
  ·rw [br_t (decide_eq_true e),if_pos (by rw [e])]
  ·rw [br_f (decide_eq_false e),if_neg (by simpa using e),w_ln,w_pl,Jie (by omega) (by omega),w_ap]
 ·have a:o=[]:=List.eq_nil_of_length_eq_zero (by omega);subst a;rw [br_f (by rfl),w_ln,w_pl,Jie (by simp) (by simp),w_ap];rfl
noncomputable def trimK(o:List Cell):Option (List Cell):=
 @W.br wv (List Cell) (@W.cm wv .gtr (@W.ln wv Cell o) 1) (@W.gd wv (List Cell) (@W.ib wv 0 (@W.ln wv Cell o)) (@W.ge wv (List Cell) Cell o 0 λv=>
  @W.gd wv (List Cell) (@W.ib wv (@W.ar wv .sub .i64 (@W.ln wv Cell o) 1) (@W.ln wv Cell o)) (@W.ge wv (List Cell) Cell o (@W.ar wv .sub .i64 (@W.ln wv Cell o) 1) λw=>
  @W.br wv (List Cell) (@W.an wv (@W.cm wv .eql v.1 w.1) (@W.cm wv .eql v.2 w.2)) (@W.gd wv (List Cell) (@W.le wv 0 (@W.ar wv .sub .i64 (@W.ln wv Cell o) 1)) (@W.gd wv (List Cell) (@W.le wv (@W.ar wv .sub .i64 (@W.ln wv Cell o) 1) (@W.ln wv Cell o))
   (@W.gd wv (List Cell) (@W.le wv 0 0) (@W.gd wv (List Cell) (@W.le wv 0 (@W.ar wv .sub .i64 (@W.ln wv Cell o) 1)) (@W.gd wv (List Cell) (@W.le wv (@W.pl wv 0 (@W.ar wv .sub .i64 (@W.ln wv Cell o) 1)) (@W.ln wv Cell o))
   (some (@W.ct wv Cell o 0 (@W.ar wv .sub .i64 (@W.ln wv Cell o) 1)))))))) (some o)))) (some o)
theorem trimK_ok{o:List Cell}(hl:o.length<=1000000000):trimK o=some (trim o):=by
 unfold trimK trim;by_cases h:1<o.length
 ·obtain ⟨z,f,d⟩:=Jxm (o:=o) (by omega) hl;have e:@W.ar wv .sub .i64 (@W.ln wv Cell o) 1=((o.length - 1:Nat):Int):=by rw [w_ln,Zb,wr (by omega) (by omega)];omega
  have a:o[0]?=some o[0]:=Ac (by omega);rw [br_t (by rw [Jat,w_ln];exact decide_eq_true (by omega)),Jjr (by rw [w_ln];omega),ge_s (fg0 a),Jjr (by rw [e,w_ln];omega),ge_s d,an_eq,f,Ax,a];by_cases q:o[0]=z
  ·rw [br_t (decide_eq_true q),if_pos ⟨h,by rw [q]⟩,e,le_t (by omega),le_t (by rw [w_ln];omega),le_t (by omega),le_t (by omega),le_t (by rw [w_pl,w_ln];omega),w_ct,List.dropLast_eq_take];simp
  ·rw [br_f (decide_eq_false q),if_neg λhx=>q (by have:=hx.2;injection this)]
 ·rw [br_f (by rw [Jat,w_ln];exact decide_eq_false (by omega)),if_neg λhx=>h hx.1]
def Jaw(P:Cell)(h:Int)(k:Nat):List Cell:=(Ae k).map λj=>Qm (fwd P h j) h
theorem Jg1(P:Cell)(h:Int)(k:Nat):Jaw P h (k+1)=Jaw P h k++[Qm (fwd P h k) h]:=by unfold Jaw;rw [List.range_succ,Ap];rfl
theorem Joe(P:Cell)(h:Int)(k:Nat):(Jaw P h k).length=k:=by unfold Jaw;rw [Aa,Ai]
theorem Jff{P:Cell}{h:Int}(a:hd4 h){k L:Nat}(d:k<=L)(g:Y2 P)(f:Y2 (fwd P h L)):Y2 (fwd P h k):=by
 have m:=Jk7 P a k;have l:=Jk7 P a L;have:hd4 h:=a;generalize fwd P h k=u at *
 generalize fwd P h L=v at *
 unfold Y2 at *
 omega
theorem fwd_ne{P:Cell}{h:Int}(a:hd4 h){k L:Nat}(f:k<L):fwd P h k≠fwd P h L:=by
 have d:=Jk7 P a k;have g:=Jk7 P a L;intro e;rw [e] at d;generalize fwd P h L=v at *
 omega
theorem fwd_add{P:Cell}{h:Int}(d:hd4 h){k L:Nat}(l:k<L)(g:Y2 P)(f:Y2 (fwd P h L)):@W.ar wv .add .i64 (fwd P h k).1 (dirH h).1=(fwd P h (k+1)).1/\@W.ar wv .add .i64 (fwd P h k).2 (dirH h).2=(fwd P h (k+1)).2:=by
 have e:fwd P h (k+1)=addC (fwd P h k) (dirH h):=by rw [Jpi,Jlg]
 have a:=Jff d (k:=k+1) (L:=L) (by omega) g f;rw [e] at a ⊢;unfold Y2 addC at a;unfold addC;dsimp only at a ⊢;rw [Ks,Ks,wr (by omega) (by omega),wr (by omega) (by omega)];exact ⟨rfl,rfl⟩
section
variable {r:Reg} {s:Ck}
theorem Jp6{N i:Nat}(h:i<(tps r s N).length):ptK r s (tpN r s N (i+1))=fwd (ptK r s (tpN r s N i)) (hdK r s (tpN r s N i)) (tpN r s N (i+1) - tpN r s N i):=by have a:=Jn6 r s h;have:=edge r s h (tpN r s N (i+1) - tpN r s N i) (by omega);rwa [show tpN r s N i+(tpN r s N (i+1) - tpN r s N i)=tpN r s N (i+1) by omega] at this
theorem Jtp{N i:Nat}(h:i<(tps r s N).length):∀k,tpN r s N i+k<tpN r s N (i+1)->raw r s (tpN r s N i+k)=raw r s (tpN r s N i)++Jaw (ptK r s (tpN r s N i)) (hdK r s (tpN r s N i)) k
 | 0,_=>by simp [Jaw]
 | k+1,f=>by
  rw [<-Nat.add_assoc,Jdx,Jtp h k (by omega),Jg1,Ao]
  congr 2
  have d:=Jnb r s h k (by omega);have a:=Jnb r s h (k+1) (by omega);rw [<-Nat.add_assoc] at a;unfold rawK;rw [d,a,edge r s h k (by omega),if_neg];unfold rgt;omega
noncomputable def cornC(r:Reg)(s:Ck)(N i:Nat):List Cell:=if rgt (hdK r s (tpN r s N i)) (hdK r s (tpN r s N (i+1))) then [addC (Qm (fwd (ptK r s (tpN r s N i)) (hdK r s (tpN r s N i)) (tpN r s N (i+1) - tpN r s N i - 1)) (hdK r s (tpN r s N i))) (dirH (hdK r s (tpN r s N i)))] else []
theorem raw_edge{N i:Nat}(h:i<(tps r s N).length) :
  raw r s (tpN r s N (i+1))=raw r s (tpN r s N i)++Jaw (ptK r s (tpN r s N i)) (hdK r s (tpN r s N i)) (tpN r s N (i+1) - tpN r s N i)++cornC r s N i:=by
 have a:=Jn6 r s h;obtain ⟨k,d⟩:∃k,tpN r s N (i+1)=tpN r s N i+k+1:=⟨tpN r s N (i+1) - tpN r s N i - 1,by omega⟩;have l:=Jnb r s h k (by omega);have g:=edge r s h k (by omega);have f:=Jtp h k (by omega);unfold cornC;rw [d,show tpN r s N i+k+1 - tpN r s N i=k+1 by omega,Jdx,f,Jg1,Ao,Ao,Ao,Nat.add_sub_cancel]
 congr 2
 unfold rawK;rw [l,g];rfl
end
abbrev Sr1:=HP (List Cell) (HP Int (HP (List Cell) (HP Int (HP Int (HP Int (HP Int (HP Int (HP Int (HP Int (HP Int (HP Int (HP Int Unit))))))))))))
theorem Jv2{r:Reg}{s:Ck}{N:Nat}(hN:Rnd (nx r) s N){i:Nat}(h:i<(tps r s N).length):(poly r s N)[i]?=some (ptK r s (tpN r s N i)):=by rw [Jpn r s hN.pos,List.getElem?_map,Jij r s h];rfl
theorem Jkc{r:Reg}{s:Ck}{N:Nat}(hN:Rnd (nx r) s N){i:Nat}(h:i<(tps r s N).length):(poly r s N)[(i+1) % (tps r s N).length]?=some (ptK r s (tpN r s N (i+1))):=by
 by_cases a:i+1<(tps r s N).length
 ·rw [Nat.mod_eq_of_lt a];exact Jv2 hN a
 ·have e:i+1=(tps r s N).length:=by omega
  rw [e,Nat.mod_self,Jv2 hN (by omega),Jj7 r s hN.pos,Jme r s (Nat.le_refl _)];have:ptK r s N=s.1:=congrArg Prod.fst hN.back;rw [this];rfl
theorem J22{r:Reg}{s:Ck}{N:Nat}(hN:Rnd (nx r) s N){i:Nat}(h:i<(tps r s N).length):∃L,0<L/\L<=N/\(poly r s N)[(i+2) % (tps r s N).length]?=some (fwd (ptK r s (tpN r s N (i+1))) (hdK r s (tpN r s N (i+1))) L):=by
 by_cases f:i+1<(tps r s N).length
 ·have a:tpN r s N (i+1)<tpN r s N (i+2):=Jn6 r s f;have d:=Jxz r s (N:=N) (i:=i+2);refine ⟨tpN r s N (i+2) - tpN r s N (i+1),by omega,by omega,?_⟩;rw [Jkc hN f];exact congrArg some (Jp6 f)
 ·have e:i+1=(tps r s N).length:=by omega
  have l:=hN.pos;have g:0<(tps r s N).length:=by omega
  have a:tpN r s N 0<tpN r s N 1:=Jn6 r s g;have d:=Jxz r s (N:=N) (i:=1);refine ⟨tpN r s N 1 - tpN r s N 0,by omega,by omega,?_⟩;have em:(i+2) % (tps r s N).length=(0+1) % (tps r s N).length:=by rw [show i+2=0+1+(tps r s N).length by omega,Nat.add_mod_right]
  rw [em,Jkc hN g,Jme r s (i:=i+1) (by omega)];have o:ptK r s N=ptK r s (tpN r s N 0):=by rw [Jj7 r s l];exact congrArg Prod.fst hN.back
  have m:hdK r s N=hdK r s (tpN r s N 0):=by rw [Jj7 r s l];exact congrArg Prod.snd hN.back
  rw [o,m];exact congrArg some (Jp6 g)
theorem poly_len{r:Reg}{s:Ck}{N:Nat}(hN:Rnd (nx r) s N):(poly r s N).length=(tps r s N).length:=by rw [Jpn r s hN.pos,Aa]
theorem Jvq{a:Int}{b n:Nat}(e:a=(b:Int)):@W.ar wv .rem .i64 a (n:Int)=((b % n:Nat):Int):=by rw [w_rem,e,Int.tmod_eq_emod_of_nonneg (by omega)];exact (Int.natCast_emod _ _).symm
abbrev Sp1:=HP (List Cell) (HP Int (HP (List Cell) (HP Int (HP Int (HP Int (HP Int Unit))))))
theorem Jua(m:List Cell):∀o:List Cell,(m.foldl ddS o).length<=o.length+m.length:=by
 induction m with
 | nil=>intro o;exact Nat.le_refl _
 | cons c m a=>
  intro o;rw [List.foldl_cons,As];refine Nat.le_trans (a _) ?_;unfold ddS;split
  ·omega
  ·rw [Aq,List.length_singleton];omega
theorem ploop_L1(pts:List Cell)(i j:Nat)(o:List Cell){P:Cell}{h:Int}(g:hd4 h){L:Nat}(hL:L<=1000000)(w:Y2 P)(r:Y2 (fwd P h L))(G:o.length<=100000000)(hi:i<=1000000000)(F:pts.length<=1000000000)(A:0<pts.length)
  (l:pts[(i+1) % pts.length]?=some (fwd P h L)) :
  Yl (@X4 wv) bigN (⟨pts,(i:Int),o,P.1,P.2,(dirH h).1,(dirH h).2,()⟩:Sp1) =
   some (⟨pts,(i:Int),(Jaw P h L).foldl ddS o,(fwd P h L).1,(fwd P h L).2,(dirH h).1,(dirH h).2,()⟩:Sp1):=by
 have y:@W.ar wv .rem .i64 (@W.ar wv .add .i64 (i:Int) 1) (pts.length:Int)=(((i+1) % pts.length:Nat):Int):=Jvq (by rw [Ks,wr (by omega) (by omega)];omega);have a:@W.cm wv .neq (pts.length:Int) 0=true:=by rw [Jna];exact bne_iff_ne.2 (by omega)
 have key:=Ql (b:=@X4 wv) (e:=(⟨pts,(i:Int),(Jaw P h L).foldl ddS o,(fwd P h L).1,(fwd P h L).2,(dirH h).1,(dirH h).2,()⟩:Sp1))
  (λk=>(⟨pts,(i:Int),(Jaw P h k).foldl ddS o,(fwd P h k).1,(fwd P h k).2,(dirH h).1,(dirH h).2,()⟩:Sp1)) L (by omega) (λk f=>by
   have m:=fwd_add g f w r;have d:=Jua (Jaw P h k) o;rw [Joe] at d;unfold X4;dsimp only;rw [w_ln,gd_t a,y,ge_s (fg l),br_t (by rw [an_eq,w_nt,decide_eq_false (fwd_ne g f)];rfl)];refine (ca_s (c:=Xl) (Jwo g (Jff g (by omega) w r))).trans ?_;rw [m.1,m.2,Jg1,List.foldl_append];generalize (Jaw P h k).foldl ddS o=o1 at *
   generalize Qm (fwd P h k) h=c;generalize fwd P h (k+1)=v;obtain ⟨E,B⟩:=c;have f:=J3m (β:=Nx Sp1 Sp1) (o:=o1) (by omega) (E,B) (λo'=>some (.go (⟨pts,(i:Int),o',v.1,v.2,(dirH h).1,(dirH h).2,()⟩:Sp1)));unfold addK at f;exact f) (by unfold X4;dsimp only;rw [w_ln,gd_t a,y,ge_s (fg l),br_f (by rw [an_eq,w_nt,decide_eq_true rfl];rfl)])
 have ec:Jaw P h 0=[]:=rfl;simp only [ec,Jx2,List.foldl_nil] at key;exact key
abbrev Sp0:=HP (List Cell) (HP Int (HP Int (HP Int (HP Int (HP Int (HP (List Cell) Unit))))))
theorem pwalk_ok{r:Reg}(hr:RegOK r){s:Ck}(hl:Least r s){N:Nat}(hN:Rnd (nx r) s N)(Z:N<=1000000):@zp wv (poly r s N)=some (Jju (raw r s N)):=by
 have hs:=hl.1;have J:=hN.pos;have hn:=tps_len r s N;have h2n:=tps_two hl hN;have m:=poly_len hN;have step:∀i,i<(tps r s N).length->@Y1 wv (⟨poly r s N,(i:Int),(ptK r s (tpN r s N i)).1,(ptK r s (tpN r s N i)).2,(dirH (hdK r s (tpN r s N i))).1,(dirH (hdK r s (tpN r s N i))).2,dd (raw r s (tpN r s N i)),()⟩:Sp0) =
   if i+1=(tps r s N).length then some (.out (⟨dd (raw r s (tpN r s N (i+1))),()⟩:HP (List Cell) Unit)) else
    some (.go (⟨poly r s N,((i+1:Nat):Int),(ptK r s (tpN r s N (i+1))).1,(ptK r s (tpN r s N (i+1))).2,(dirH (hdK r s (tpN r s N (i+1)))).1,(dirH (hdK r s (tpN r s N (i+1)))).2,dd (raw r s (tpN r s N (i+1))),()⟩:Sp0)):=λi hi=>by
  have F:=Jn6 r s hi;have hTle:=Jxz r s (N:=N) (i:=i+1);have w:=Jkc hN hi;obtain ⟨L2,hL2,hL2',O⟩:=J22 hN hi;have v:hd4 (hdK r s (tpN r s N i)):=(Zw hs _).e;have A:hd4 (hdK r s (tpN r s N (i+1))):=(Zw hs _).e;have s0:=Jbn hr (Zw hs (tpN r s N i));have f:=Jbn hr (Zw hs (tpN r s N (i+1)));rw [show (itr (nx r) (tpN r s N i) s).1=ptK r s (tpN r s N i) from rfl] at s0;rw [show (itr (nx r) (tpN r s N (i+1)) s).1=ptK r s (tpN r s N (i+1)) from rfl] at f;have hE:=Jp6 hi;have a:=raw_edge hi;have Y:=Jph r s (tpN r s N i);have hdl:=J3q (raw r s (tpN r s N i));have X:Y2 (fwd (ptK r s (tpN r s N (i+1))) (hdK r s (tpN r s N (i+1))) L2):=by have M:=Ag O;rw [Jpn r s J] at M;obtain ⟨k,_,hk⟩:=Ah.1 M;rw [<-hk];exact Jbn hr (Zw hs k)
  unfold cornC at a;generalize hdK r s (tpN r s N i)=h at *
  generalize hdK r s (tpN r s N (i+1))=h' at *
  generalize ptK r s (tpN r s N i)=P at *
  generalize ptK r s (tpN r s N (i+1))=Q at *
  have hwE:=Jji (p:=Q) A hL2 f X;generalize fwd Q h' L2=R at *
  obtain ⟨L,hL⟩:∃L,tpN r s N (i+1) - tpN r s N i=L+1:=⟨tpN r s N (i+1) - tpN r s N i - 1,by omega⟩;rw [hL] at hE a;subst hE;have H:@W.ar wv .add .i64 (i:Int) 1=((i+1:Nat):Int):=by rw [Ks,wr (by omega) (by omega)];omega
  have e1:@W.ar wv .rem .i64 ((i+1:Nat):Int) ((tps r s N).length:Int)=(((i+1) % (tps r s N).length:Nat):Int):=Jvq rfl;have e2:@W.ar wv .rem .i64 (@W.ar wv .add .i64 ((i+1:Nat):Int) 1) ((tps r s N).length:Int)=(((i+2) % (tps r s N).length:Nat):Int):=Jvq (by rw [Ks,wr (by omega) (by omega)];omega);have y:@W.cm wv .neq ((tps r s N).length:Int) 0=true:=by rw [Jna];exact bne_iff_ne.2 (by omega)
  have G:=Jua (Jaw P h (L+1)) (dd (raw r s (tpN r s N i)));rw [Joe] at G;unfold Y1;dsimp only;refine (lo_s (ploop_L1 _ i ((i+1) % (tps r s N).length) _ v (by omega) s0 f (by omega) (by omega) (by omega) (by omega) (by rw [m];exact w))).trans ?_;dsimp only;rw [w_ln,m,gd_t y,H,e1,ge_s (fg w),gd_t y,e2,ge_s (fg O)];refine (ca_s (c:=Ky) hwE).trans ?_;rw [cross_ok v A];have l:@W.ar wv .sub .i64 (fwd P h (L+1)).1 (dirH h).1=(fwd P h L).1/\@W.ar wv .sub .i64 (fwd P h (L+1)).2 (dirH h).2=(fwd P h L).2:=by
   have e:fwd P h (L+1)=addC (fwd P h L) (dirH h):=by rw [Jpi,Jlg]
   have h3:=Jff v (k:=L) (L:=L+1) (by omega) s0 f;unfold Y2 at h3;rw [e,Zb,Zb];unfold addC;dsimp only;rw [wr (by omega) (by omega),wr (by omega) (by omega)];omega
  let K:List Cell->Option (Nx Sp0 (HP (List Cell) Unit)):=λo=>@W.br wv _ (@W.cm wv .eql ((i+1:Nat):Int) ((tps r s N).length:Int)) (some (.out ⟨o,()⟩)) (some (.go ⟨poly r s N,((i+1:Nat):Int),(fwd P h (L+1)).1,(fwd P h (L+1)).2,(dirH h').1,(dirH h').2,o,()⟩));have hK:∀o:List Cell,K o=if i+1=(tps r s N).length then some (.out (⟨o,()⟩:HP (List Cell) Unit)) else some (.go (⟨poly r s N,((i+1:Nat):Int),(fwd P h (L+1)).1,(fwd P h (L+1)).2,(dirH h').1,(dirH h').2,o,()⟩:Sp0)):=λo=>by
   show @W.br wv _ _ _ _=_;by_cases e:i+1=(tps r s N).length
   ·rw [br_t (by rw [Xr];exact beq_iff_eq.2 (by omega)),if_pos e]
   ·rw [br_f (by rw [Xr];exact beq_eq_false_iff_ne.2 (by omega)),if_neg e]
  by_cases g:rgt h h'
  ·have hb:-2000000000<=(Qm (fwd P h L) h).1/\(Qm (fwd P h L) h).1<=2000000000/\-2000000000<=(Qm (fwd P h L) h).2/\(Qm (fwd P h L) h).2<=2000000000:=by have:=Jff v (k:=L) (L:=L+1) (by omega) s0 f;unfold Y2 at this;unfold Qm;rcases v with rfl|rfl|rfl|rfl<;>simp<;>omega
   have hd:-1<=(dirH h).1/\(dirH h).1<=1/\-1<=(dirH h).2/\(dirH h).2<=1:=by rcases v with rfl|rfl|rfl|rfl<;>simp [dirH]
   rw [br_t (decide_eq_true g),l.1,l.2];refine (ca_s (c:=Xl) (Jwo v (Jff v (k:=L) (L:=L+1) (by omega) s0 f))).trans ?_;have a1:@W.ar wv .add .i64 (Qm (fwd P h L) h).1 (dirH h).1=(addC (Qm (fwd P h L) h) (dirH h)).1:=by rw [Ks,wr (by omega) (by omega)];rfl
   have a2:@W.ar wv .add .i64 (Qm (fwd P h L) h).2 (dirH h).2=(addC (Qm (fwd P h L) h) (dirH h)).2:=by rw [Ks,wr (by omega) (by omega)];rfl
   rw [a1,a2,a,if_pos g,Jix,dd_add,Nat.add_sub_cancel];generalize (Jaw P h (L+1)).foldl ddS (dd (raw r s (tpN r s N i)))=E at *
   generalize addC (Qm (fwd P h L) h) (dirH h)=c;exact (show _=addK E c K from rfl).trans ((J3m (by omega) _ _).trans (hK _))
  ·rw [br_f (decide_eq_false g),a,if_neg g,List.append_nil,dd_add];generalize (Jaw P h (L+1)).foldl ddS (dd (raw r s (tpN r s N i)))=E at *
   exact hK E
 have B:tpN r s N ((tps r s N).length - 1+1)=N:=Jme r s (by omega);have d:=Ql (b:=@Y1 wv) (e:=(⟨dd (raw r s N),()⟩:HP (List Cell) Unit)) (λi=>(⟨poly r s N,(i:Int),(ptK r s (tpN r s N i)).1,(ptK r s (tpN r s N i)).2,(dirH (hdK r s (tpN r s N i))).1,(dirH (hdK r s (tpN r s N i))).2,dd (raw r s (tpN r s N i)),()⟩:Sp0)) ((tps r s N).length - 1) (by omega) (λi hi=>by
  rw [step i (by omega),if_neg (by omega)]) (by rw [step _ (by omega),if_pos (by omega),B])
 have g0:=Jv2 hN (i:=0) (by omega);have w:=Jkc hN (i:=0) (by omega);rw [Nat.mod_eq_of_lt (by omega)] at w;have hE:=Jp6 (r:=r) (s:=s) (N:=N) (i:=0) (by omega);have F:=Jn6 r s (N:=N) (i:=0) (by omega);have s0:=Jbn hr (Zw hs (tpN r s N 0));have f:=Jbn hr (Zw hs (tpN r s N (0+1)));rw [show (itr (nx r) (tpN r s N 0) s).1=ptK r s (tpN r s N 0) from rfl] at s0;rw [show (itr (nx r) (tpN r s N (0+1)) s).1=ptK r s (tpN r s N (0+1)) from rfl] at f;rw [hE] at w f;have hwE:=Jji (p:=ptK r s (tpN r s N 0)) (Zw hs (tpN r s N 0)).e (n:=tpN r s N (0+1) - tpN r s N 0) (by omega) s0 f;unfold zp;rw [ge_s (fg0 g0),ge_s (fg0 g0),ge_s (i:=1) (fg (i:=1) w)];refine (ca_s (c:=Ky) hwE).trans ?_;have H:raw r s (tpN r s N 0)=[]:=by rw [Jj7 r s J];rfl
 rw [H] at d;refine (lo_s d).trans ?_;exact (show _=trimK (dd (raw r s N)) from rfl).trans (trimK_ok (by have:=J3q (raw r s N);have:=Jph r s N;omega))
noncomputable def Jda(r:Reg)(s:Ck):J0:=(1,true,Jju (raw r s (perN r s)))
theorem Jwl{r:Reg}(a:(X5 r).length<=8000){s:Ck}(hs:Crk r s.1 s.2):(Jju (raw r s (perN r s))).length<=65536:=by have h:=once_len (raw r s (perN r s));have g:=Jph r s (perN r s);have f:=Jvg hs;have d:=Ju2 r;omega
theorem Joc{r:Reg}(h:Starts r (Zg r)):(Zg r).length<=(cks r).length:=by have d:(Zg r).Nodup:=h.pw.imp λ{a b} (h:yx a.1 b.1) (e:a=b)=>Jhx a.1 (by subst e;exact h);exact zg d λs hs=>((h.mem s).1 hs).mem
open Classical in
theorem J3v(r:Reg)(hl:LimR r)(l:RegOK r->(X5 r).length<=8000):@Zd wv r=some (if RegOK r then (Zg r).map (Jda r) else []):=by
 have a:RegOK r->(cks r).length<=1000000:=λh=>by have:=l h;have:=Ju2 r;omega
 unfold Zd;rw [k_Trace hl a];by_cases hr:RegOK r
 case neg=>
  rw [if_neg hr,if_neg hr];exact (lo_s (show Yl (@X2 wv) bigN ⟨[],0,0,[],()⟩=some ⟨[],()⟩ from Jh6 (n:=18446744073709551615) rfl)).trans rfl
 rw [if_pos hr,if_pos hr];have f:=(Jrt r hl a).2 hr;have a:=a hr;have l:=l hr;have v:=Joc f;have g:((Zg r).map (pol r)).length=(Zg r).length:=Aa _;have d:=Ql (b:=@X2 wv) (e:=(⟨(Zg r).map (Jda r),()⟩:HP (List J0) Unit)) (λi=>(⟨(Zg r).map (pol r),((Zg r).length:Int),(i:Int),((Zg r).take i).map (Jda r),()⟩:HP (List (List Cell)) (HP Int (HP Int (HP (List J0) Unit))))) (Zg r).length (by omega) (λi hi=>by
  have hx:=Ac hi;generalize (Zg r)[i]=s at hx;have hs:Least r s:=(f.mem s).1 (Ag hx);have y:((Zg r).map (pol r))[i]?=some (pol r s):=by rw [List.getElem?_map,hx];rfl
  have w:=Jvg hs.1;have o:=pwalk_ok hr hs (Jfx hs.1) (by omega);have m:=Jwl l hs.1;unfold X2;dsimp only;rw [Qw (by omega),ge_s (fg y)];refine (ca_s (c:=Zk) o).trans ?_;rw [br_t (by rw [Jir,w_ln];exact decide_eq_true (by omega)),w_ln,w_pl,Aa,List.length_take,fit40 (by omega) (by omega),Ks,wr (by omega) (by omega),w_ap,Jgq hx];rfl) (by unfold X2;dsimp only;rw [Kq (by omega),Au])
 rw [w_ln,g];exact (lo_s d).trans rfl
open Classical in
theorem k_Walk{α:Type}{r:Reg}(hl:LimR r)(a:RegOK r->(X5 r).length<=8000)(k:List (Int×(Bool×List (Int×Int)))->Option α):@W.call wv α Qk r k=k (if RegOK r then (Zg r).map (Jda r) else []):=ca_s (c:=Qk) (J3v r hl a)
theorem J4w{n:Nat}{l:List Nat}(h:l.Nodup)(a:∀x∈l,x<n):l.length<=n:=by have:=zg (m:=Ae n) h λx hx=>Af.2 (a x hx);rwa [Ai] at this
theorem J28{r:Reg}(h:RegOK r):(X5 r).length<=67108864:=by
 have m:((X5 r).map λc:Cell=>((c.2+4096) * 8192+(c.1+4096)).toNat).Nodup:=by refine List.pairwise_map.2 ((List.Pairwise.and_mem.1 h.cells_pw).imp λ{a b} ⟨l,g,d⟩ e=>?_);have ba:=h.bd (Zz.1 l);have bb:=h.bd (Zz.1 g);unfold yx at d;omega
 have:=J4w (n:=67108864) m λx hx=>by obtain ⟨c,f,rfl⟩:=Ah.1 hx;have:=h.bd (Zz.1 f);omega
 rwa [Aa] at this
open Classical in
theorem Jsq(r:Reg)(hl:LimR r):@K2 wv r=some (if RegOK r then ((X5 r).length:Int) else 0):=by
 unfold K2;rw [Jvu hl];by_cases h:RegOK r
 case neg=>rw [br_t (by simp [w_nt,h]),if_neg h]
 rw [br_f (by simp [w_nt,h]),if_pos h];have hL:=hl.1;have o:=J28 h;have d:=Ql (b:=@Qt wv) (e:=(⟨((X5 r).length:Int),()⟩:HP Int Unit)) (λi=>(⟨(((r.take i).flatMap rowC).length:Int),(i:Int),r,()⟩:HP Int (HP Int (HP Reg Unit)))) r.length (by omega) (λi hi=>by
  have a:=Ac hi;generalize r[i]=w at a;have hLw:=hl.2 w (Ag a);have g:=Ql (b:=@Qp wv) (e:=(⟨(((r.take i).flatMap rowC).length+(rowC w).length:Nat),(i:Int),r,()⟩:HP Int (HP Int (HP Reg Unit)))) (λk=>(⟨((((r.take i).flatMap rowC).length+((w.2.take k).flatMap (Jf5 w.1)).length:Nat):Int),(i:Int),(k:Int),r,()⟩:HP Int (HP Int (HP Int (HP Reg Unit))))) w.2.length (by omega) (λk m=>by
   have f:=Ac m;generalize w.2[k]=u at f;have v:=(h.rs w (Ag a)).bd u (Ag f);have l:=cells_le a f;rw [Jky] at l;unfold Qp;dsimp only;simp only [ge_s (fg a),ge_s (fg f)];rw [w_ln,Qw (by omega),Zb,wr (n:=u.2 - u.1) (by omega) (by omega),Ks,Ks,wr (by omega) (by omega),wr (n:=(k:Int)+1) (by omega) (by omega),J4e f,Aq,Jky,
    show ((((r.take i).flatMap rowC).length+((w.2.take k).flatMap (Jf5 w.1)).length:Nat):Int)+(u.2 - u.1)=((((r.take i).flatMap rowC).length+(((w.2.take k).flatMap (Jf5 w.1)).length+(u.2 - u.1).toNat):Nat):Int) by omega]
   rfl) (by unfold Qp;dsimp only;simp only [ge_s (fg a)];rw [w_ln,Kq (by omega),Au];rfl)
  simp only [List.take_zero,List.flatMap_nil,List.length_nil,Nat.add_zero] at g;unfold Qt;dsimp only;rw [w_ln,Qw (by omega)];refine (lo_s g).trans ?_;dsimp only;rw [Ks,wr (by omega) (by omega),Jlz a,Aq];rfl) (by unfold Qt;dsimp only;rw [w_ln,Kq (by omega),Au];rfl)
 exact (lo_s d).trans rfl
theorem nb_of{a b:Cell}(h:nbC a b):nb a b:=by
 unfold nb;rcases h with ⟨f|f,d⟩|⟨f,d|d⟩
 ·rw [f,d,Av];rfl
 ·rw [f,d,Av];rfl
 ·rw [f,d,Av];rfl
 ·rw [f,d,Av];rfl
theorem walk_VT{r:Reg}(hr:RegOK r)(f:(X5 r).length<=8000){s:Ck}(hs:Crk r s.1 s.2):VT (Jda r s):=by
 have hN:=Jfx hs;have d:=Jv7 hs hN;have m:=Jwl f hs;have o:∀c∈Jju (raw r s (perN r s)),grid c:=λc h=>hr.bd (raw_in hs ((once_mem c).1 h));unfold Jda;generalize Jju (raw r s (perN r s))=l at *
 have v:=List.length_pos_iff.2 d.ne;refine ⟨⟨(by decide:(1:Int)<=1),(by decide:(1:Int)<=7)⟩,⟨v,m⟩,λi hi c f=>⟨o c (Ag f),λp A g=>?_⟩,λ_=>?_⟩
 ·exact nb_of (d.adj (i - 1) p c g (by rw [show i - 1+1=i by omega];exact f))
 ·refine d.cl.imp id λh a b y w=>nb_of (h a b ?_ ?_)
  ·rw [Ar];exact y
  ·rw [Ax];exact w
def boxR(x y:Int)(n m:Nat):Reg:=(Ae m).map λi:Nat=>(y+(i:Int),[(x,x+(n:Int))])
theorem box_ok(x y:Int)(n m:Nat)(hx:-100000<=x/\x<=100000)(f:-100000<=y/\y<=100000)(g:n<=100000)(h:m<=100000):@jt wv (x,(y,((n:Int),(m:Int))))=some (boxR x y n m):=by
 have a:=Ql (b:=@Xn wv) (e:=(⟨boxR x y n m,()⟩:HP Reg Unit)) (λi=>(⟨x,y,(n:Int),(m:Int),(i:Int),boxR x y n i,()⟩:HP Int (HP Int (HP Int (HP Int (HP Int (HP Reg Unit))))))) m (by omega) (λi hi=>by
  have d:(boxR x y n i).length=i:=by unfold boxR;rw [Aa,Ai]
  unfold Xn;dsimp only;rw [Qw (by omega),w_ln,d,w_pl,fit32 (by omega) (by omega),Ks,Ks,Ks,wr (n:=(i:Int)+1) (by omega) (by omega),wr (n:=y+(i:Int)) (by omega) (by omega),wr (n:=x+(n:Int)) (by omega) (by omega),w_ap];have e:boxR x y n (i+1)=boxR x y n i++[(y+(i:Int),[(x,x+(n:Int))])]:=by unfold boxR;rw [List.range_succ,Ap];rfl
  rw [e];rfl) (by unfold Xn;dsimp only;rw [Kq (by omega)])
 unfold jt;exact (lo_s a).trans rfl
section
variable {x y:Int} {n m:Nat}
theorem Jeg{c:Cell}:Qf (boxR x y n m) c↔(x<=c.1/\c.1<x+n)/\(y<=c.2/\c.2<y+m):=by
 unfold Qf boxR;constructor
 ·rintro ⟨w,h,f,u,a,d,g⟩;obtain ⟨i,hi,rfl⟩:=Ah.1 h;rw [Af] at hi;dsimp only at a f;rw [Ad] at a;subst a;exact ⟨⟨d,g⟩,by omega,by omega⟩
 ·rintro ⟨⟨f,d⟩,g,l⟩;refine ⟨_,Ah.2 ⟨(c.2 - y).toNat,Af.2 (by omega),rfl⟩,by dsimp only;omega,(x,x+(n:Int)),Ad.2 rfl,f,d⟩
theorem Jl5(g:0<n)(hx:-4096<=x/\x+n<=4096)(f:-4096<=y/\y+m<=4096):RegOK (boxR x y n m):=by
 refine ⟨λw a=>?_,?_,λw a=>?_,λw a=>?_⟩
 ·obtain ⟨i,hi,rfl⟩:=Ah.1 a;rw [Af] at hi;dsimp only;omega
 ·exact List.pairwise_map.2 (List.pairwise_lt_range.imp λh=>by dsimp only;omega)
 ·obtain ⟨i,hi,rfl⟩:=Ah.1 a;exact λh=>by cases h
 ·obtain ⟨i,hi,rfl⟩:=Ah.1 a;exact ⟨λu d=>by rw [Ad] at d;subst d;dsimp only;omega,Am _ _⟩
theorem box_lim(d:m<=1000000):LimR (boxR x y n m):=by refine ⟨by unfold boxR;rw [Aa,Ai];omega,λw a=>?_⟩;obtain ⟨i,hi,rfl⟩:=Ah.1 a;simp
theorem Jr5:(X5 (boxR x y n m)).length<=m * n:=by
 have h:∀w∈boxR x y n m,(rowC w).length<=n:=λw a=>by obtain ⟨i,hi,rfl⟩:=Ah.1 a;unfold rowC;rw [List.flatMap_cons,List.flatMap_nil,List.append_nil,Jky];dsimp only;omega
 have:=Jvv (f:=rowC) (l:=boxR x y n m) (n:=n) h;have hl:(boxR x y n m).length=m:=by unfold boxR;rw [Aa,Ai]
 rw [hl] at this;exact this
def bck(x y:Int)(n m k:Nat):Ck:=
 if k<n then ((x+k,y),0) else if k<n+m then ((x+n,y+(k - n:Nat)),1) else if k<2 * n+m then ((x+n - (k - n - m:Nat),y+m),2) else ((x,y+m - (k - 2 * n - m:Nat)),3)
theorem Jcw(a:0<n)(d:0<m){k:Nat}(f:k<2 * n+2 * m):Crk (boxR x y n m) (bck x y n m k).1 (bck x y n m k).2:=by
 unfold bck;split
 ·refine .inl ⟨rfl,?_⟩;simp only [Jeg];omega
 split
 ·refine .inr (.inl ⟨rfl,?_⟩);simp only [Jeg];omega
 split
 ·refine .inr (.inr (.inl ⟨rfl,?_⟩));simp only [Jeg];omega
 ·refine .inr (.inr (.inr ⟨rfl,?_⟩));simp only [Jeg];omega
theorem J1k(g:0<n)(l:0<m){c:Ck}(h:Crk (boxR x y n m) c.1 c.2):∃k,k<2 * n+2 * m/\c=bck x y n m k:=by
 obtain ⟨⟨a,b⟩,t⟩:=c;simp only [Crk,Jeg] at h;rcases h with ⟨rfl,f,d⟩|⟨rfl,f,d⟩|⟨rfl,f,d⟩|⟨rfl,f,d⟩
 ·refine ⟨(a - x).toNat,by omega,?_⟩;unfold bck;rw [if_pos (by omega)];refine Prod.ext (Prod.ext ?_ ?_) rfl<;>dsimp only<;>omega
 ·refine ⟨n+(b - y).toNat,by omega,?_⟩;unfold bck;rw [if_neg (by omega),if_pos (by omega)];refine Prod.ext (Prod.ext ?_ ?_) rfl<;>dsimp only<;>omega
 ·refine ⟨n+m+(x+n - a).toNat,by omega,?_⟩;unfold bck;rw [if_neg (by omega),if_neg (by omega),if_pos (by omega)];refine Prod.ext (Prod.ext ?_ ?_) rfl<;>dsimp only<;>omega
 ·refine ⟨2 * n+m+(y+m - b).toNat,by omega,?_⟩;unfold bck;rw [if_neg (by omega),if_neg (by omega),if_neg (by omega)];refine Prod.ext (Prod.ext ?_ ?_) rfl<;>dsimp only<;>omega
theorem bck_next(f:0<n)(g:0<m){k:Nat}(l:k+1<2 * n+2 * m):nx (boxR x y n m) (bck x y n m k)=bck x y n m (k+1):=by
 have o:=Jcw (x:=x) (y:=y) f g (k:=k) (by omega);have a:=Jcw (x:=x) (y:=y) f g l;have d:Xk (bck x y n m k).2 (bck x y n m k).1=(bck x y n m (k+1)).1:=by
  unfold bck Xk
  (repeat' split)<;>first|(refine Prod.ext ?_ ?_<;>dsimp only at *<;>omega)|(dsimp only at *;omega)
 have h:=rule o (y:=(bck x y n m (k+1)).2) (by rw [d];exact a) (by
  rw [d];by_cases q:(bck x y n m (k+1)).2=((bck x y n m k).2+1) % 4
  ·exact .inl q
  ·refine .inr λh=>?_;revert q h;unfold bck
   (repeat' split)<;>intro q h<;>first
    | (dsimp only at q;omega)
    | (simp [Crk,Jeg] at h;omega))
 rw [<-h,d]
theorem bck_last(d:0<n)(f:0<m):nx (boxR x y n m) (bck x y n m (2 * n+2 * m - 1))=bck x y n m 0:=by
 have g:=Jcw (x:=x) (y:=y) d f (k:=2 * n+2 * m - 1) (by omega);have a:=Jcw (x:=x) (y:=y) d f (k:=0) (by omega);have o:bck x y n m (2 * n+2 * m - 1)=((x,y+1),3):=by unfold bck;rw [if_neg (by omega),if_neg (by omega),if_neg (by omega)];refine Prod.ext (Prod.ext ?_ ?_) rfl<;>dsimp only<;>omega
 have l:bck x y n m 0=((x,y),0):=by unfold bck;rw [if_pos d];refine Prod.ext (Prod.ext ?_ ?_) rfl<;>dsimp only<;>omega
 rw [o] at g ⊢;rw [l] at a ⊢;have h:Xk 3 (x,y+1)=(x,y):=by simp [Xk]
 have:=rule (c:=((x,y+1),3)) g (y:=0) (by dsimp only;rw [h];exact a) (.inl rfl);dsimp only at this;rw [h] at this;exact this.symm
theorem Jik(a:0<n)(d:0<m):∀k,k<2 * n+2 * m->itr (nx (boxR x y n m)) k (bck x y n m 0)=bck x y n m k
 | 0,_=>rfl
 | k+1,f=>by rw [show itr (nx (boxR x y n m)) (k+1) (bck x y n m 0)=nx (boxR x y n m) (itr (nx (boxR x y n m)) k (bck x y n m 0)) from rfl,Jik a d k (by omega),bck_next a d f]
theorem bck_inj{j k:Nat}(d:j<2 * n+2 * m)(a:k<2 * n+2 * m)(h:bck x y n m j=bck x y n m k):j=k:=by
 unfold bck at h;revert h
 (repeat' split)<;>intro h<;>simp only [Prod.mk.injEq] at h<;>omega
theorem Jrc(a:0<n)(d:0<m):Rnd (nx (boxR x y n m)) (bck x y n m 0) (2 * n+2 * m):=by
 refine ⟨by omega,?_,λi f hi e=>?_⟩
 ·rw [show 2 * n+2 * m=2 * n+2 * m - 1+1 by omega];show nx (boxR x y n m) (itr (nx (boxR x y n m)) (2 * n+2 * m - 1) (bck x y n m 0))=_;rw [Jik a d _ (by omega),bck_last a d]
 ·rw [Jik a d i hi] at e;have:=bck_inj hi (by omega) e;omega
theorem Jyd(a:0<n):bck x y n m 0=((x,y),0):=by unfold bck;rw [if_pos a];refine Prod.ext (Prod.ext ?_ ?_) rfl<;>dsimp only<;>omega
theorem Jtm(a:0<n)(d:0<m):Least (boxR x y n m) (bck x y n m 0):=by
 refine ⟨Jcw a d (by omega),λk=>?_⟩;have f:=Zw (Jcw (x:=x) (y:=y) a d (k:=0) (by omega)) k;obtain ⟨j,g,e⟩:=J1k a d f;rw [e,Jyd a];unfold bck yx
 (repeat' split)<;>dsimp only<;>omega
theorem Jin(a:0<n)(d:0<m):Zg (boxR x y n m)=[bck x y n m 0]:=by refine Jm0 ⟨Am _ _,λc=>?_⟩;rw [Ad];refine ⟨λe=>by rw [e];exact Jtm a d,λh=>?_⟩;obtain ⟨k,f,e⟩:=J1k a d h.1;exact (Jtm a d).same h (k:=k) (by rw [Jik a d k f];exact e)
def bwalk(x y:Int)(n m:Nat):List Cell:=(Ae n).map (λk:Nat=>(x+(k:Int),y))++(Ae m).map (λk:Nat=>(x+n - 1,y+(k:Int)))++(Ae n).map (λk:Nat=>(x+n - 1 - (k:Int),y+m - 1))++(Ae m).map λk:Nat=>(x,y+m - 1 - (k:Int))
theorem Jgg{α:Type}(f:Nat->α)(a b:Nat):(Ae (a+b)).map f=(Ae a).map f++(Ae b).map λk=>f (a+k):=by rw [List.range_add,Ap,List.map_map];rfl
theorem flat_one{α β:Type}{l:List α}{g:α->List β}{f:α->β}(h:∀k∈l,g k=[f k]):l.flatMap g=l.map f:=by
 induction l with
 | nil=>rfl
 | cons a l d=>rw [List.flatMap_cons,List.map_cons,h a (List.mem_cons_self ..),d λk m=>h k (List.mem_cons_of_mem _ m)];rfl
theorem Jwb(d:0<n)(f:0<m):raw (boxR x y n m) (bck x y n m 0) (2 * n+2 * m)=bwalk x y n m:=by
 have hK:∀k,k<2 * n+2 * m->rawK (boxR x y n m) (bck x y n m 0) k=[Qm (bck x y n m k).1 (bck x y n m k).2]:=λk a=>by
  have h:itr (nx (boxR x y n m)) k (bck x y n m 0)=bck x y n m k:=Jik d f k a;have g:(itr (nx (boxR x y n m)) (k+1) (bck x y n m 0)).2=(bck x y n m k).2\/(itr (nx (boxR x y n m)) (k+1) (bck x y n m 0)).2=((bck x y n m k).2+1) % 4:=by
   by_cases q:k+1<2 * n+2 * m
   ·rw [Jik d f (k+1) q];unfold bck
    (repeat' split)<;>first|exact .inl rfl|exact .inr rfl|(exfalso;omega)
   ·have:k+1=2 * n+2 * m:=by omega
    rw [this,(Jrc d f).back,Jyd d];right;unfold bck;rw [if_neg (by omega),if_neg (by omega),if_neg (by omega)];rfl
  have hd:=(Jcw (x:=x) (y:=y) d f a).e;unfold rawK ptK hdK;rw [h];rw [if_neg];unfold rgt;rcases g with e|e<;>rw [e]<;>omega
 unfold raw;have e:(Ae (2 * n+2 * m)).flatMap (rawK (boxR x y n m) (bck x y n m 0))=(Ae (2 * n+2 * m)).map λk=>Qm (bck x y n m k).1 (bck x y n m k).2:=by exact flat_one λk a=>hK k (Af.1 a)
 rw [e,show 2 * n+2 * m=n+m+n+m by omega,Jgg,Jgg,Jgg];unfold bwalk
 congr 1
 ·congr 1
  ·congr 1
   ·refine Ak λk a=>?_;rw [Af] at a;unfold bck;rw [if_pos (by omega)];rfl
   ·refine Ak λk a=>?_;rw [Af] at a;unfold bck;rw [if_neg (by omega),if_pos (by omega)];refine Prod.ext ?_ ?_<;>simp [Qm]
  ·refine Ak λk a=>?_;rw [Af] at a;unfold bck;rw [if_neg (by omega),if_neg (by omega),if_pos (by omega)];refine Prod.ext ?_ ?_<;>simp [Qm]<;>omega
 ·refine Ak λk a=>?_;rw [Af] at a;unfold bck;rw [if_neg (by omega),if_neg (by omega),if_neg (by omega)];refine Prod.ext ?_ ?_<;>simp [Qm]<;>omega
end
theorem awake_true:@Jav wv ()=some true:=by
 classical
 have hr:RegOK (boxR 0 0 2 2):=Jl5 (by decide) (by decide) (by decide);have a:=Jr5 (x:=0) (y:=0) (n:=2) (m:=2);have hW:@Zd wv (boxR 0 0 2 2)=some [(1,true,[(0,0),(1,0),(1,1),(0,1)])]:=by rw [J3v _ (box_lim (by decide)) (λ_=>by omega),if_pos hr,Jin (by decide) (by decide)];show some [Jda _ _]=_;unfold Jda;rw [Jqg (Jcw (by decide) (by decide) (by decide)) (Jrc (by decide) (by decide)),Jwb (by decide) (by decide)];exact congrArg some (by decide)
 have hB:=box_ok 0 0 2 2 (by decide) (by decide) (by decide) (by decide);unfold Jav;refine (ca_s (c:=Jb5) hB).trans ((ca_s (c:=Qk) hW).trans ?_)
 kernel_rfl
end Go.Proofs.YtmfagdfkpjgeiaaGreat
