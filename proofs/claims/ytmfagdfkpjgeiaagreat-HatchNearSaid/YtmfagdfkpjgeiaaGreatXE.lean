/- Choosing the next crack. Conditions: at most 10^9 headings at a corner and corners so far. -/
import Derived.Test.YtmfagdfkpjgeiaaGreatXD
open Option renaming some -> AC, none -> AD
open Bool renaming true -> AE, false -> AF
open _root_ renaming List -> AG, Option -> AH, Int -> AI, Nat -> AM, Bool -> AN, if_neg -> AR, if_pos -> AS, congrArg -> AT, decide_eq_true -> AW, decide_eq_false -> B0
set_option linter.unusedVariables false
set_option linter.unusedSimpArgs false
set_option linter.unusedSectionVars false
set_option maxRecDepth 100000
namespace Go.Proofs.YtmfagdfkpjgeiaaGreat
open Go Go.Vv Go.Dn Go.Dn.W
open List renaming length_map -> Aa, getElem?_eq_some_iff -> Ab, mem_singleton -> Ac, range -> Ad, getElem?_eq_getElem -> Ae, mem_range -> Af, mem_map -> Ag, length_range -> Ah, pairwise_iff_getElem -> Ai, map_congr_left -> Aj, pairwise_singleton -> Ak, append_assoc -> Am, mem_of_getElem? -> Ao, map_append -> Ap, getLast?_eq_getElem? -> Aq, length_cons -> Ar, mem_append -> Au, head?_eq_getElem? -> Av
open Int renaming sub_self -> As
def oU(l:AG AI)(a b c:AI):AI:=if a∈l then a else if b∈l then b else if c∈l then c else b
def Mi(po:AG Cell)(q:Cell)(h h':AI):AG Cell:=if h'≠h then po++[q] else po
theorem Jh0{α:Type}{m:Cr}{p:Cell}{x:AI}(hl:(Cq m p).length<=1000000000)(k:AN->AH α):@W.call wv α Jb ((@W.mg wv (.p I I) (.ls I) m p [],x):AG AI×AI) k=k (decide (x∈Cq m p)):=by rw [vP];exact J6f hl k
section
variable (a:AQ) (h hl hr s5 s6:AI) (m:Cr) (s8 s9 x y:AI) (s12:AG Cell) (s13:AG (AG Cell)) (po:AG Cell)
abbrev TH(h hl hr s5 s6:AI)(m:Cr)(s8 s9 x y:AI)(s12:AG Cell)(s13:AG (AG Cell))(po:AG Cell)(i:AM):HP AI (HP AI (HP AI (HP AI (HP AI (HP AI (HP AI (HP Cr (HP AI (HP AI (HP AI (HP AI (HP (AG Cell) (HP (AG (AG Cell)) (HP (AG Cell) Unit)))))))))))))):=
 ⟨h,hl,h,hr,(i:AI),s5,s6,m,s8,s9,x,y,s12,s13,po,()⟩
abbrev Lb(h:AI)(s5 s6:AI)(m:Cr)(s8 s9 x y:AI)(s12:AG Cell)(s13:AG (AG Cell))(po:AG Cell)(c:AI):HP AI (HP AI (HP AI (HP Cr (HP AI (HP AI (HP AI (HP AI (HP (AG Cell) (HP (AG (AG Cell)) (HP (AG Cell) Unit)))))))))):=
 ⟨c,s5,s6,m,s8,s9,x,y,s12,s13,Mi po (x,y) h c,()⟩
theorem J0k(f:(Cq m (x,y)).length<=1000000000)(l:po.length<=1000000000){i:AM}{c:AI}(hi:i=0/\c=hl\/i=1/\c=h\/i=2/\c=hr) :
  @K1 wv a (TH h hl hr s5 s6 m s8 s9 x y s12 s13 po i)=if c∈Cq m (x,y) then AC (.out (Lb h s5 s6 m s8 s9 x y s12 s13 po c)) else AC (.go (TH h hl hr s5 s6 m s8 s9 x y s12 s13 po (i+1))):=by
 have g:@W.ar wv .add .i64 (i:AI) 1=((i+1:AM):AI):=by rw [J6,wr (by omega) (by omega)];omega
 have tail:∀(c:AI),(@W.br wv (Nx _ _) (decide (c∈Cq m (x,y))) (@W.br wv _ (@W.cm wv .neq c h) (@W.gd wv _ (@W.ft wv 16 (@W.pl wv (@W.ln wv Cell po) 1)) (AC (.out (⟨c,s5,s6,m,s8,s9,x,y,s12,s13,@W.ap wv Cell po ((x,y)::[]),()⟩:HP AI (HP AI (HP AI (HP Cr (HP AI (HP AI (HP AI (HP AI (HP (AG Cell) (HP (AG (AG Cell)) (HP (AG Cell) Unit))))))))))))))
   (AC (.out ⟨c,s5,s6,m,s8,s9,x,y,s12,s13,po,()⟩))) (AC (.go (TH h hl hr s5 s6 m s8 s9 x y s12 s13 po (i+1)))))=if c∈Cq m (x,y) then AC (.out (Lb h s5 s6 m s8 s9 x y s12 s13 po c)) else AC (.go (TH h hl hr s5 s6 m s8 s9 x y s12 s13 po (i+1))):=by
  intro c;by_cases d:c∈Cq m (x,y)
  .rw [BF (AW d),AS d];by_cases e:c=h
   .rw [BA (by rw [TN];simp [e]),Lb,Mi,AR (by simp [e])]
   .rw [BF (by rw [TN];simpa using e),AZ,BZ,GI (by omega) (by omega),DL,Lb,Mi,AS e]
  .rw [BA (B0 d),AR d]
 unfold K1;dsimp only;rw [g];rcases hi with ⟨rfl,rfl⟩|⟨rfl,rfl⟩|⟨rfl,rfl⟩
 .rw [Ky (by decide),BF (by rfl)];exact (Jh0 f _).trans (tail _)
 .rw [Ky (by decide),BA (by rfl),BF (by rfl)];exact (Jh0 f _).trans (tail _)
 .rw [Ky (by decide),BA (by rfl),BA (by rfl),BF (by rfl)];exact (Jh0 f _).trans (tail _)
theorem iq:@K1 wv a (TH h hl hr s5 s6 m s8 s9 x y s12 s13 po 3)=AC (.out (Lb h s5 s6 m s8 s9 x y s12 s13 po h)):=by unfold K1;dsimp only;rw [J2 (by decide),Lb,Mi,AR (by simp)]
theorem qo:@Jee wv=@K1 wv:=rfl
theorem qp(r:(Cq m (x,y)).length<=1000000000)(l:po.length<=1000000000) :
  Qm (@K1 wv a) CK (TH h hl hr s5 s6 m s8 s9 x y s12 s13 po 0)=AC (Lb h s5 s6 m s8 s9 x y s12 s13 po (oU (Cq m (x,y)) hl h hr)):=by
 have d:=J0k a h hl hr s5 s6 m s8 s9 x y s12 s13 po r l (.inl ⟨rfl,rfl⟩);have f:=J0k a h hl hr s5 s6 m s8 s9 x y s12 s13 po r l (.inr (.inl ⟨rfl,rfl⟩));have g:=J0k a h hl hr s5 s6 m s8 s9 x y s12 s13 po r l (.inr (.inr ⟨rfl,rfl⟩));have B:=iq a h hl hr s5 s6 m s8 s9 x y s12 s13 po;unfold oU;by_cases A:hl∈Cq m (x,y)
 .rw [AS A] at d ⊢;exact Kc (TH h hl hr s5 s6 m s8 s9 x y s12 s13 po) 0 (by decide) (λi hi=>by omega) d
 rw [AR A] at d ⊢;by_cases w:h∈Cq m (x,y)
 .rw [AS w] at f ⊢;exact Kc (TH h hl hr s5 s6 m s8 s9 x y s12 s13 po) 1 (by decide) (λi hi=>by rw [show i=0 by omega];exact d) f
 rw [AR w] at f ⊢;by_cases v:hr∈Cq m (x,y)
 .rw [AS v] at g ⊢;exact Kc (TH h hl hr s5 s6 m s8 s9 x y s12 s13 po) 2 (by decide) (λi hi=>by
   rcases (show i=0\/i=1 by omega) with rfl|rfl
   .exact d
   .exact f) g
 rw [AR v] at g ⊢;exact Kc (TH h hl hr s5 s6 m s8 s9 x y s12 s13 po) 3 (by decide) (λi hi=>by
  rcases (show i=0\/i=1\/i=2 by omega) with rfl|rfl|rfl
  .exact d
  .exact f
  .exact g) B
end
abbrev iR:=HP AI (HP AI (HP AI (HP Cr (HP AI (HP AI (HP AI (HP AI (HP (AG Cell) (HP (AG (AG Cell)) (HP (AG Cell) Unit))))))))))
abbrev iZ:=HP AI (HP AI (HP Cr (HP (AG Cell) (HP (AG (AG Cell)) (HP (AG Cell) Unit)))))
abbrev kW(h n i:AI)(m:Cr)(x0 y0 x y:AI)(cs:AG Cell)(out:AG (AG Cell))(po:AG Cell):iR:=⟨h,n,i,m,x0,y0,x,y,cs,out,po,()⟩
abbrev vY(n i:AI)(m:Cr)(cs:AG Cell)(out:AG (AG Cell))(po:AG Cell):iZ:=⟨n,i,m,cs,out,po,()⟩
noncomputable def kZ(h n i:AI)(m:Cr)(x0 a:AI)(q:Cell)(cs:AG Cell)(out:AG (AG Cell))(po:AG Cell):Nx iR iZ:=
 if q=(x0,a) then .out (vY n i m cs out po) else
  .go (kW (oU (Cq m q) ((h+1) % 4) h ((h+3) % 4)) n i m x0 a q.1 q.2 cs out (Mi po q h (oU (Cq m q) ((h+1) % 4) h ((h+3) % 4))))
theorem J9u(a:AQ)(h n i:AI)(m:Cr)(x0 d x y:AI)(cs:AG Cell)(out:AG (AG Cell))(po:AG Cell)(f:0<=h/\h<=3)(hs:jc (x,y))(w:(Cq m (X7 h (x,y))).length<=1000000000)(r:po.length<=1000000000) :
  (@W.call wv (Nx iR iZ) Kn ((h,(x,y)):AI×(AI×AI)) λ(v:AI×AI)=>
   @W.br wv (Nx iR iZ) (@W.an wv (@W.cm wv .eql v.1 x0) (@W.cm wv .eql v.2 d)) (AC (.out (vY n i m cs out po)))
   (@W.call wv (Nx iR iZ) Kk (h:AI) λ(v20:AI)=>@W.call wv (Nx iR iZ) Ke (h:AI) λ(v21:AI)=>
    @W.loop wv _ _ (Nx iR iZ) (@K1 wv a) ⟨h,v20,h,v21,0,n,i,m,x0,d,v.1,v.2,cs,out,po,()⟩ λv25=>
     AC (.go ⟨v25.e,v25.j.e,v25.j.j.e,v25.j.j.j.e,v25.j.j.j.j.e,v25.j.j.j.j.j.e,v25.j.j.j.j.j.j.e,v25.j.j.j.j.j.j.j.e,v25.j.j.j.j.j.j.j.j.e,v25.j.j.j.j.j.j.j.j.j.e,v25.j.j.j.j.j.j.j.j.j.j.e,()⟩))) =
   AC (kZ h n i m x0 d (X7 h (x,y)) cs out po):=by
 rw [fu hs];generalize X7 h (x,y)=q at *
 obtain ⟨qx,qy⟩:=q;unfold kZ;by_cases e:(qx,qy)=(x0,d)
 .rw [AS e,BF (by rw [Nf,Q3,Q3];injection e with l g;simp [l,g])]
 .rw [AR e,BA (by
   rw [Nf,Q3,Q3,Bool.and_eq_false_iff,beq_eq_false_iff_ne,beq_eq_false_iff_ne];by_cases l:qx=x0
   .exact .inr λg=>e (by dsimp only at g;rw [l,g])
   .exact .inl l),fU f.1 f.2,WR f.1 f.2]
  refine (BN (qp a h ((h+1) % 4) ((h+3) % 4) n i m x0 d qx qy cs out po w r)).trans ?_;rfl
theorem J1u{m:Cr}{T:Cell->AI->Prop}(h:BL m T)(hT:∀p x,T p x->x=0\/x=1\/x=2\/x=3)(p:Cell):(Cq m p).length<=4:=
 jV (m:=[0,1,2,3]) (h.one p) λx hx=>by rcases hT p x ((h.mem p x).1 hx) with rfl|rfl|rfl|rfl<;>simp
theorem YJ(a:AQ)(h n i:AI)(m:Cr)(x0 f x y:AI)(cs:AG Cell)(out:AG (AG Cell))(po:AG Cell){T:Cell->AI->Prop}(hM:BL m T)(hT:∀p x,T p x->x=0\/x=1\/x=2\/x=3)(hx:T (x,y) h)
  (hs:jc (x,y)) (v:po.length<=1000000000) :
  ∃r,BL r (λq z=>T q z/\¬(q=(x,y)/\z=h))/\@Qh wv a (kW h n i m x0 f x y cs out po)=AC (kZ h n i r x0 f (X7 h (x,y)) cs out po):=by
 have A:0<=h/\h<=3:=by have:=hT _ _ hx;omega
 have L:=J1u hM hT (x,y);obtain ⟨e,B,G⟩:=Kbj (l:=Cq m (x,y)) h (by omega);have d:h∈Cq m (x,y):=(hM.mem _ _).2 hx;rcases G with ⟨_,H⟩|⟨j,w,rfl⟩
 .exact (H d).elim
 have J:=(Ab.1 w).1;have em:@W.mg wv (.p I I) (.ls I) m (x,y) []=Cq m (x,y):=vP m (x,y);have ed:@W.md wv (.p I I) (.ls I) m (x,y)=Fg m (x,y):=fK m (x,y);by_cases g:(Cq m (x,y)).length=1
 .have hl:Cq m (x,y)=[h]:=by obtain ⟨z,F⟩:=List.length_eq_one_iff.1 g;rw [F] at d ⊢;rw [Ac.1 d]
  have hM':=hM.del hl;refine ⟨_,hM',?_⟩;have K:=J1u hM' (λp x h=>hT p x h.1) (X7 h (x,y));unfold Qh;dsimp only;rw [em,B,J2 (by omega),BF (by show (((Cq m (x,y)).length:AI)==1)=AE;rw [g];rfl),ed];exact J9u a h n i (Fg m (x,y)) x0 f x y cs out po A hs (by omega) v
 .have hM':=hM.cut w g;refine ⟨_,hM',?_⟩;have K:=J1u hM' (λp x h=>hT p x h.1) (X7 h (x,y));unfold Qh;dsimp only;have E:@W.ar wv .add .i64 (j:AI) 1=((j+1:AM):AI):=by rw [J6,wr (by omega) (by omega)];omega
  have ec:(Cq m (x,y)).take (j:AI).toNat++((Cq m (x,y)).drop ((j+1:AM):AI).toNat).take (((Cq m (x,y)).length:AI) - ((j+1:AM):AI)).toNat=(Cq m (x,y)).take j++(Cq m (x,y)).drop (j+1):=by
   congr 1
   rw [Int.toNat_natCast,List.take_of_length_le (by rw [List.length_drop];omega)]
  have es:@W.ms wv (.p I I) (.ls I) m (x,y) (@W.ap wv I.T (@W.ct wv I.T (Cq m (x,y)) 0 (j:AI)) (@W.ct wv I.T (Cq m (x,y)) (@W.ar wv .add .i64 (j:AI) 1) (@W.mi wv (@W.ln wv I.T (Cq m (x,y))) (@W.ar wv .add .i64 (j:AI) 1))))=Ed m (x,y) ((Cq m (x,y)).take j++(Cq m (x,y)).drop (j+1)):=by rw [E,<-ec];exact PU m (x,y) _
  rw [em,B,J2 (by omega),BA (by show (((Cq m (x,y)).length:AI)==1)=AF;rw [beq_eq_false_iff_ne];omega),es];refine (KJ (n:=((Cq m (x,y)).length:AI)) (by omega) (by omega) (by decide)).trans ?_;refine (Cy (show ((decide (0<=(j:AI)/\(j:AI)<(Cq m (x,y)).length))&&((decide ((j:AI)+1<=@W.ar wv .add .i64 (j:AI) 1))&&(decide (@W.ar wv .add .i64 (j:AI) 1<=((Cq m (x,y)).length:AI)))))=AE by rw [E];simp only [Bool.and_eq_true,decide_eq_true_eq];omega)).trans ?_
  rw [qo];exact J9u a h n i _ x0 f x y cs out po A hs (by omega) v
theorem Oy{m:Cr}{T:Cell->AI->Prop}(hM:BL m T){r:AQ}(hT:∀p x,T p x->DX r p x){p:Cell}{x:AI}(v:T (X7 x p) (Ee r p x)) :
  oU (Cq m (X7 x p)) ((x+1) % 4) x ((x+3) % 4)=Ee r p x:=by
 unfold oU;have d:∀y,y∈Cq m (X7 x p)->DX r (X7 x p) y:=λy l=>hT _ _ ((hM.mem _ _).1 l);have a:=(hM.mem _ _).2 v;unfold Ee at a ⊢;dsimp only at a ⊢;by_cases g:DX r (X7 x p) ((x+1) % 4)
 .rw [AS g] at a ⊢;rw [AS a]
 .rw [AR g] at a ⊢;rw [AR λh=>g (d _ h)];by_cases f:DX r (X7 x p) x
  .rw [AS f] at a ⊢;rw [AS a]
  .rw [AR f] at a ⊢;rw [AR λh=>f (d _ h),AS a]
theorem jY{r:AQ}(hr:AJ r){p:Cell}{x:AI}(h:DX r p x):jc p:=by have:=hr.bd (Kai h);unfold K6 at this;unfold jc;rcases h.e with rfl|rfl|rfl|rfl<;>simp at this<;>omega
theorem UK(r:AQ)(s:Ck)(a n:AM):(seg r s a n).length<=n:=by have:=List.length_filterMap_le (λi=>JU r s (a+i)) (Ad n);rw [Ah] at this;exact this
theorem qw(a r:AQ)(hr:AJ r)(O:(Ia r).length<=1000000){S:Ck->Prop}(hS:Closed r S){m:Cr}(hM:BL m λp x=>S (p,x)){s:Ck}(hs:S s)(hl:CX r s)(n i:AI)(cs:AG Cell)(out:AG (AG Cell)) :
  ∃d,Qm (@Qh wv a) CK (kW s.2 n i m s.1.1 s.1.2 s.1.1 s.1.2 cs out [s.1])=AC (vY n i d cs out (pol r s))/\BL d (λp x=>S (p,x)/\¬ ∃k,(p,x)=CS (nx r) k s):=by
 have hN:=nN hl.1;have Q:=J1n hl.1;have hp:=hN.pos;unfold pol;generalize E9 r s=N at *
 obtain ⟨M,rfl⟩:∃M,N=M+1:=⟨N - 1,by omega⟩;have f:=hl.mem;have step:∀k,k<M+1->∀m,BL m (λp x=>S (p,x)/\¬ ∃j,j<k/\(p,x)=CS (nx r) j s) ->
   ∃d,BL d (λp x=>S (p,x)/\¬ ∃j,j<k+1/\(p,x)=CS (nx r) j s) /\
    @Qh wv a (kW (Ce r s k) n i m s.1.1 s.1.2 (EB r s k).1 (EB r s k).2 cs out (s.1::seg r s 0 k))=AC (kZ (Ce r s k) n i d s.1.1 s.1.2 (EB r s (k+1)) cs out (s.1::seg r s 0 k)):=by
  intro k L m P;have hSk:S (EB r s k,Ce r s k):=hS.CS hs k;obtain ⟨d,y,w⟩:=YJ a (Ce r s k) n i m s.1.1 s.1.2 (EB r s k).1 (EB r s k).2 cs out (s.1::seg r s 0 k) P (λp x h=>(hS.1 _ h.1).e) ⟨hSk,λ⟨j,v,e⟩=>by have:=(ring r).dist f hN (i:=j) (j:=k) (by omega) L e.symm;omega⟩ (jY hr (hS.1 _ hSk)) (by have:=UK r s 0 k;rw [Ar];omega)
  refine ⟨d,y.congr λp x=>?_,w⟩;constructor
  .rintro ⟨⟨l,g⟩,Y⟩;refine ⟨l,λ⟨j,v,e⟩=>?_⟩;by_cases H:j=k
   .subst H;exact Y ⟨AT Prod.fst e,AT Prod.snd e⟩
   .exact g ⟨j,by omega,e⟩
  .rintro ⟨l,g⟩;refine ⟨⟨l,λ⟨j,v,e⟩=>g ⟨j,by omega,e⟩⟩,λ⟨K,Z⟩=>g ⟨k,by omega,?_⟩⟩;rw [K,Z];rfl
 obtain ⟨e,R,d,rfl,h⟩:=jh (b:=@Qh wv a)
  (λk st=>∃m,st=kW (Ce r s k) n i m s.1.1 s.1.2 (EB r s k).1 (EB r s k).2 cs out (s.1::seg r s 0 k)/\BL m (λp x=>S (p,x)/\¬ ∃j,j<k/\(p,x)=CS (nx r) j s))
  (λe=>∃m,e=vY n i m cs out (poly r s (M+1))/\BL m (λp x=>S (p,x)/\¬ ∃k,(p,x)=CS (nx r) k s))
  M (by omega) (s0:=kW s.2 n i m s.1.1 s.1.2 s.1.1 s.1.2 cs out [s.1])
  ⟨m,rfl,hM.congr λp x=>⟨λh=>⟨h,λ⟨j,v,_⟩=>by omega⟩,And.left⟩⟩
  (λk st L=>by
   rintro ⟨B,rfl,y⟩;obtain ⟨A,w,J⟩:=step k (by omega) B y;have G:EB r s (k+1)≠s.1:=hl.ne hN (k:=k+1) (by omega) (by omega);have F:(λp x=>S (p,x)/\¬ ∃j,j<k+1/\(p,x)=CS (nx r) j s) (X7 (Ce r s k) (EB r s k)) (Ee r (EB r s k) (Ce r s k)):=⟨hS.CS hs (k+1),λ⟨j,v,e⟩=>by have:=(ring r).dist f hN (i:=j) (j:=k+1) (by omega) (by omega) e.symm;omega⟩
   have E:=Oy w (r:=r) (λp x h=>hS.1 _ h.1) F;refine ⟨_,J.trans ?_,A,rfl,w⟩;unfold kZ;rw [AR G,xH,E];have K:Ee r (EB r s k) (Ce r s k)=Ce r s (k+1):=rfl;rw [K,<-xH]
   congr 3
   rw [xK,Nat.zero_add];unfold Mi;by_cases e:Ce r s (k+1)=Ce r s k
   .have:JU r s k=AD:=AS e;rw [AR (by simpa using e),this];simp
   .have:JU r s k=AC (EB r s (k+1)):=AR e;rw [AS e,this];rfl)
  (by
   rintro st ⟨B,rfl,y⟩;obtain ⟨A,w,J⟩:=step M (by omega) B y;have X:EB r s (M+1)=s.1:=AT Prod.fst hN.back;refine ⟨_,J.trans ?_,A,rfl,w.congr λp x=>⟨λ⟨l,g⟩=>⟨l,λ⟨k,e⟩=>?_⟩,λ⟨l,g⟩=>⟨l,λ⟨j,_,e⟩=>g ⟨j,e⟩⟩⟩⟩
   .unfold kZ;rw [X,AS rfl];rfl
   .obtain ⟨j,v,e'⟩:=hN.qA k;exact g ⟨j,v,e.trans e'⟩)
 exact ⟨d,R,h⟩
theorem CX.same{r:AQ}{s t:Ck}(h:CX r s)(h':CX r t){k:AM}(e:t=CS (nx r) k s):t=s:=by
 obtain ⟨j,a⟩:=(nN h.1).to s k;rw [<-e] at a;have f:=h.2 k;have d:=h'.2 j;rw [<-e] at f;rw [a] at d;rcases Kaz s.1 t.1 with q|q|q
 .exact (d q).elim
 .exact h.uniq h' q.symm
 .exact (f q).elim
abbrev pK(n:AI)(i:AM)(m:Cr)(cs:AG Cell)(out:AG (AG Cell)):HP AI (HP AI (HP Cr (HP (AG Cell) (HP (AG (AG Cell)) Unit)))):=⟨n,(i:AI),m,cs,out,()⟩
structure kQ (r:AQ) (cs:AG Cell) (i:AM) (m:Cr) (out:AG (AG Cell)):Prop where
 ex:∃(S:Ck->Prop) (ls:AG Ck),Closed r S/\BL m (λp x=>S (p,x))/\(∀c,S c->∃j,i<=j/\cs[j]?=AC c.1)/\out=ls.map (pol r) /\
  ls.Pairwise (λa b=>yx a.1 b.1)/\(∀s∈ls,CX r s/\∃j,j<i/\cs[j]?=AC s.1)/\∀s,CX r s->s∈ls\/S s
theorem aU{cs:AG Cell}(h:cs.Pairwise yx){i j:AM}{a b:Cell}(m:cs[i]?=AC a)(l:cs[j]?=AC b)(d:i<j):yx a b:=by obtain ⟨g,v⟩:=Ab.1 m;obtain ⟨f,r⟩:=Ab.1 l;rw [<-v,<-r];exact Ai.1 h i j g f d
theorem YK(a r:AQ)(hr:AJ r)(G:(Ia r).length<=1000000){cs:AG Cell}(F:cs.Pairwise yx)(N:cs.length<=1000000000){i:AM}(hi:i<cs.length){m:Cr}{out:AG (AG Cell)}(h:kQ r cs i m out) :
  ∃H out',@Qg wv a (pK cs.length i m cs out)=AC (.go (pK cs.length (i+1) H cs out'))/\kQ r cs (i+1) H out':=by
 obtain ⟨S,ls,hS,hM,K,rfl,w,d,v⟩:=h.ex;have f:cs[i]?=AC cs[i]:=Ae hi;generalize cs[i]=p at f;have Y:=J1u hM (λp x h=>(hS.1 _ h).e) p;have Q:@W.ar wv .add .i64 (i:AI) 1=((i+1:AM):AI):=by rw [J6,wr (by omega) (by omega)];omega
 have em:@W.mg wv (.p I I) (.ls I) m (p.1,p.2) []=Cq m p:=vP m p;cases g:Cq m p with
 | nil=>
  refine ⟨m,_,?_,S,ls,hS,hM,λc hSc=>?_,rfl,w,λs hs=>⟨(d s hs).1,?_⟩,v⟩
  .unfold Qg;dsimp only;rw [Ky (by omega),Fj (by rw [AZ];omega),BH (fg f)];rw [em,g,BA (by rfl),Q]
  .obtain ⟨j,B,e⟩:=K c hSc;refine ⟨j,?_,e⟩;by_cases A:j=i
   .subst A;rw [f] at e;injection e with e;have:=(hM.mem c.1 c.2).2 hSc;rw [<-e,g] at this;cases this
   .omega
  .obtain ⟨j,B,e⟩:=(d s hs).2;exact ⟨j,by omega,e⟩
 | cons x l=>
  have hSp:S (p,x):=(hM.mem p x).1 (by rw [g];exact List.mem_cons_self ..);have E:∀c,S c->¬yx c.1 p:=λc hSc y=>by
   obtain ⟨j,B,e⟩:=K c hSc;rcases Nat.lt_or_eq_of_le B with q|q
   .exact J31 (aU F f e q) y
   .subst q;rw [f] at e;injection e with e;rw [e] at y;exact nR _ y
  have hl:CX r (p,x):=⟨hS.1 _ hSp,λk=>E _ (hS.CS hSp k)⟩;have M:ls.length<=1000000:=by have J:ls.Nodup:=w.imp λ{a b} (h:yx a.1 b.1) (e:a=b)=>nR a.1 (by subst e;exact h);have:(ls.length:AM)<=(Ia r).length:=jV J λs hs=>(d s hs).1.mem;omega
  obtain ⟨H,R,hM'⟩:=qw a r hr G hS hM hSp hl (cs.length:AI) (i:AI) cs (ls.map (pol r));refine ⟨H,_,?_,_,ls++[(p,x)],hS.sub hl.1,hM',λc hSc=>?_,rfl,?_,λs hs=>?_,λt L=>?_⟩
  .unfold Qg;dsimp only;rw [Ky (by omega),Fj (by rw [AZ];omega),BH (fg f)];rw [em,g,BF (by show decide (((x::l).length:AI) > 0)=AE;rw [Ar];exact AW (by omega))];refine (BH (x:=x) rfl).trans ((BN R).trans ?_);dsimp only;rw [AZ,BZ,Aa,KJ (by omega) (by omega) (by decide),Q,DL,Ap];rfl
  .obtain ⟨j,B,e⟩:=K c hSc.1;refine ⟨j,?_,e⟩;by_cases A:j=i
   .subst A;rw [f] at e;injection e with e;refine (hSc.2 ⟨0,?_⟩).elim;exact hl.only (hS.1 _ hSc.1) e.symm (E _ (hS.2 _ hSc.1))
   .omega
  .refine List.pairwise_append.2 ⟨w,Ak _ _,λa X b P=>?_⟩;rw [Ac] at P;subst P;obtain ⟨j,B,e⟩:=(d a X).2;exact aU F e f B
  .rcases Au.1 hs with hs|hs
   .obtain ⟨j,B,e⟩:=(d s hs).2;exact ⟨(d s hs).1,j,by omega,e⟩
   .rw [Ac] at hs;subst hs;exact ⟨hl,i,by omega,f⟩
  .rcases v t L with q|q
   .exact .inl (Au.2 (.inl q))
   .by_cases O:∃k,t=CS (nx r) k (p,x)
    .obtain ⟨k,e⟩:=O;exact .inl (Au.2 (.inr (Ac.2 (hl.same L e))))
    .exact .inr ⟨q,O⟩
open Classical in
noncomputable def jv(r:AQ):AG Ck:=if h:∃l,Starts r l then h.choose else []
theorem Jpy{r:AQ}{l:AG Ck}(h:Starts r l):jv r=l:=by have hx:∃l,Starts r l:=⟨l,h⟩;unfold jv;rw [dif_pos hx];exact hx.choose_spec.uniq h
theorem aY(a r:AQ)(hr:AJ r)(g:(Ia r).length<=1000000){cs:AG Cell}(A:cs.Pairwise yx)(f:cs.length<=1000000000){m:Cr}(hM:BL m λp x=>DX r p x)(d:∀p,p∈cs↔∃x,DX r p x) :
  Starts r (jv r)/\Qm (@Qg wv a) CK (pK cs.length 0 m cs [])=AC ⟨(jv r).map (pol r),()⟩:=by
 obtain ⟨e,F,hQ⟩:=jh (b:=@Qg wv a)
  (λi s=>∃m out,s=pK cs.length i m cs out/\kQ r cs i m out)
  (λe=>∃ls,Starts r ls/\e=⟨ls.map (pol r),()⟩) cs.length (by omega) (s0:=pK cs.length 0 m cs [])
  ⟨m,[],rfl,λc=>DX r c.1 c.2,[],⟨λc h=>h,λc h=>J6i h⟩,hM,λc h=>by obtain ⟨j,B⟩:=List.getElem?_of_mem ((d c.1).2 ⟨_,h⟩);exact ⟨j,Nat.zero_le _,B⟩,rfl,.nil,λs hs=>(List.not_mem_nil hs).elim,λs hs=>.inr hs.1⟩
  (λi s hi=>by rintro ⟨m,out,rfl,h⟩;obtain ⟨E,out',v,H⟩:=YK a r hr g A f hi h;exact ⟨_,v,E,out',rfl,H⟩)
  (by
   rintro s ⟨m,out,rfl,h⟩;obtain ⟨S,ls,hS,hM,G,rfl,w,y,l⟩:=h.ex;refine ⟨_,?_,ls,⟨w,λc=>⟨λh=>(y c h).1,λh=>(l c h).elim id λq=>?_⟩⟩,rfl⟩
   .unfold Qg;dsimp only;rw [J2 (by omega)]
   .obtain ⟨j,B,e⟩:=G c q;have:=(Ab.1 e).1;omega)
 obtain ⟨ls,v,rfl⟩:=hQ;rw [Jpy v];exact ⟨v,F⟩
theorem J3i{l:AG Cell}(g:l.Nodup)(h:l.Pairwise λa b=>Go.Proofs.ltOf IL b a=AF)(d:∀x∈l,okB x=AE):l.Pairwise yx:=by
 refine (List.Pairwise.and g h).imp_of_mem λ{a b} w v ⟨f,m⟩=>?_;have r:¬IL b a<0:=by simpa [Go.Proofs.ltOf] using m
 rw [bU (d b v) (d a w)] at r;rcases Kaz a b with q|q|q
 .exact q
 .exact (f q).elim
 .exact (r q).elim
theorem Jnt(p:AG Cell)(f:p.length<=1000000)(d:∀x∈p,okB x=AE):∃q:AG Cell,bV (t:=.p I I) IL okB lH zB p=AC q/\q.Perm p/\q.Pairwise λa b=>Go.Proofs.ltOf IL b a=AF:=
 Jnn (t:=.p I I) pG (eq:=lH) (d0:=zB) (l:=p) (show p.length<_ by omega) d
open Classical in
theorem Juh(r:AQ)(hl:DJ r)(d:AJ r->(Ia r).length<=1000000):@Jap wv r=AC (if AJ r then (jv r).map (pol r) else [])/\(AJ r->Starts r (jv r)):=by
 unfold Jap;rw [Kg hl];by_cases hr:AJ r
 case neg=>exact ⟨by rw [BF (by simp [BO,hr]),AR hr],λh=>(hr h).elim⟩
 rw [BA (by simp [BO,hr]),AS hr];have d:=d hr;obtain ⟨m,F,hM0⟩:=J4q r r hr hl.1;have hM:BL m λp x=>DX r p x:=hM0.congr λp x=>XE hr p x;have a:∀p,p∈m.map (·.1)↔∃x,DX r p x:=λp=>hM.key p;have B:m.length<=1000000:=by
  have:(m.map (·.1)).length<=((Ia r).map (·.1)).length:=jV hM.nd λp f=>by obtain ⟨x,hx⟩:=(a p).1 f;exact Ag.2 ⟨(p,x),M4.2 hx,rfl⟩
  rw [Aa,Aa] at this;omega
 have hokB:∀p,p∈m.map (·.1)->okB p=AE:=λp f=>by obtain ⟨x,hx⟩:=(a p).1 f;have:=jY hr hx;unfold jc at this;unfold okB;exact AW (by omega)
 have w:∃l,Starts r l:=by obtain ⟨q,E,v,y⟩:=Jnt (m.map (·.1)) (by rw [Aa];omega) hokB;exact ⟨_,(aY r r hr d (cs:=q) (J3i (v.nodup_iff.2 hM.nd) y λx hx=>hokB x (v.mem_iff.1 hx)) (by rw [v.length_eq,Aa];omega) hM λp=>(v.mem_iff).trans (a p)).1⟩
 refine ⟨?_,λ_=>by obtain ⟨l,h⟩:=w;rw [Jpy h];exact h⟩;rw [AZ];refine (BN F).trans ?_;dsimp only;rw [AZ,GI (by omega) (by omega)];refine J8t λA f=>?_;obtain ⟨p,rfl⟩:∃p:AG Cell,p=A:=⟨A,rfl⟩;have f:List.Perm (α:=Cell) p (m.map (·.1)):=f;obtain ⟨q,E,v,y⟩:=Jnt p (by rw [f.length_eq,Aa];omega) λx hx=>hokB x (f.mem_iff.1 hx);have g:q.Perm (m.map (·.1)):=v.trans f;have hL6:=(aY r r hr d (cs:=q) (J3i (g.nodup_iff.2 hM.nd) y λx hx=>hokB x (g.mem_iff.1 hx)) (by rw [g.length_eq,Aa];omega) hM λp=>(g.mem_iff).trans (a p)).2;refine (BM (c:=Jsn) E).trans ?_;rw [AZ];exact (BN hL6).trans rfl
open Classical in
theorem WU{α:Type}{r:AQ}(hl:DJ r)(a:AJ r->(Ia r).length<=1000000)(k:AG (AG (AI×AI))->AH α):@W.call wv α Yg r k=k (if AJ r then (jv r).map (pol r) else []):=BM (c:=Yg) (Juh r hl a).1
def enc(c:Ck):Cell×Cell:=(c.1,X7 c.2 c.1)
abbrev SV:=HP (AG (AI×AI)) (HP AI (HP AQ (HP (AG (Cell×Cell)) Unit)))
abbrev SY:=HP (AG (Cell×Cell)) Unit
noncomputable def side(r:AQ)(c:Cell)(e:Cell×Cell)(K:AG (Cell×Cell)->AH (Nx SV SY))(o:AG (Cell×Cell)):AH (Nx SV SY):=
 @W.call wv (Nx SV SY) Jf6 ((r,c):AQ×(AI×AI)) λv=>
  @W.br wv (Nx SV SY) (@W.nt wv v) (@W.gd wv (Nx SV SY) (@W.ft wv 32 (@W.pl wv (@W.ln wv (Cell×Cell) o) 1)) (K (@W.ap wv (Cell×Cell) o (e::[])))) (K o)
instance (a b:Cell):Decidable (yx a b):=inferInstanceAs (Decidable (_\/_))
theorem Jqb{r:AQ}{c:Cell}{k:Ck}(h:k∈bN r c):K6 k.1 k.2=c:=by rcases nX.1 h with ⟨_,rfl⟩|⟨_,rfl⟩|⟨_,rfl⟩|⟨_,rfl⟩<;>simp [K6]
theorem Jxi(r:AQ)(c:Cell):(bN r c).Nodup:=by
 classical
 unfold bN;split<;>split<;>split<;>split<;>simp
theorem J66{r:AQ}(h:AJ r):(Ia r).Nodup:=by refine List.pairwise_flatMap.2 ⟨λc _=>Jxi r c,h.IQ.imp λ{a b} d x hx y f e=>?_⟩;rw [e] at hx;have:=(Jqb hx).symm.trans (Jqb f);subst this;exact nR _ d
theorem J77{α:Type}{l:AG α}(h:l.Nodup){i j:AM}{x:α}(hi:l[i]?=AC x)(m:l[j]?=AC x):i=j:=by
 obtain ⟨d,g⟩:=Ab.1 hi;obtain ⟨a,f⟩:=Ab.1 m;rcases Nat.lt_trichotomy i j with q|q|q
 .exact (Ai.1 h i j d a q (by rw [g,f])).elim
 .exact q
 .exact (Ai.1 h j i a d q (by rw [g,f])).elim
theorem VR{r:AQ}{p:Cell}{x:AI}(h:DX r p x):¬DX r (X7 x p) ((x+2) % 4):=by obtain ⟨g,f⟩:=p;rcases h with ⟨rfl,d,a⟩|⟨rfl,d,a⟩|⟨rfl,d,a⟩|⟨rfl,d,a⟩<;>simp [X7,DX] at *<;>grind
theorem rule{r:AQ}{c:Ck}(m:DX r c.1 c.2){y:AI}(d:DX r (X7 c.2 c.1) y)(hl:y=(c.2+1) % 4\/¬DX r (X7 c.2 c.1) ((c.2+1) % 4)):(X7 c.2 c.1,y)=nx r c:=by
 unfold nx;refine Prod.ext rfl ?_;show y=Ee r c.1 c.2;unfold Ee;dsimp only;by_cases g:DX r (X7 c.2 c.1) ((c.2+1) % 4)
 .rw [AS g];exact hl.elim id λh=>(h g).elim
 .rw [AR g];have v:y≠(c.2+1) % 4:=λe=>g (e▸d);have w:=VR m;have l:y≠(c.2+2) % 4:=λe=>w (e▸d);have hd:=d.e;have hx:=m.e;by_cases f:DX r (X7 c.2 c.1) c.2
  .rw [AS f];apply Classical.byContradiction;intro a;have:=f.opp d (λe=>a e.symm);omega
  .rw [AR f];have a:y≠c.2:=λe=>f (e▸d);omega
theorem KH{α:Type}{a b:AI}{x:AH α}(h:a<=b):@W.gd wv α (@W.le wv a b) x=x:=Cy (by rw [Tp];exact AW h)
noncomputable def ringL(r:AQ)(c:Ck)(n:AM):AG (Cell×Cell):=(Ad n).map λk=>enc (CS (nx r) k c)
structure Marks (r:AQ) (done:AG AN) (D:Ck->Prop):Prop where
 len:done.length=(Ia r).length
 at_:∀(j:AM) (c:Ck),(Ia r)[j]?=AC c->(done[j]?=AC AE↔D c)
theorem Marks.get{r:AQ}{done:AG AN}{D:Ck->Prop}(h:Marks r done D){j:AM}{c:Ck}(d:(Ia r)[j]?=AC c):∃b,done[j]?=AC b/\(b=AE↔D c):=by have a:=(Ab.1 d).1;have f:=Ae (l:=done) (i:=j) (by rw [h.len];exact a);refine ⟨done[j]'(by rw [h.len];exact a),f,?_⟩;rw [<-h.at_ j c d,f];simp
theorem Marks.set{r:AQ}(hr:AJ r){done:AG AN}{D:Ck->Prop}(h:Marks r done D){j:AM}{c:Ck}(f:(Ia r)[j]?=AC c):Marks r (done.set j AE) λd=>D d\/d=c:=by
 refine ⟨by rw [List.length_set,h.len],λi d hi=>?_⟩;have a:=(Ab.1 hi).1;rw [List.getElem?_set];by_cases e:j=i
 .subst e;rw [AS rfl,AS (by rw [h.len];exact a)];rw [f] at hi;injection hi with hi;exact ⟨λ_=>.inr hi.symm,λ_=>rfl⟩
 .rw [AR e,h.at_ i d hi];refine ⟨.inl,λq=>q.elim id λq=>?_⟩;subst q;exact (e (J77 (J66 hr) f hi)).elim
theorem Closed.add{r:AQ}{D:Ck->Prop}(h:Closed r D){c:Ck}(a:DX r c.1 c.2):Closed r λd=>D d\/∃k,d=Go.Proofs.YtmfagdfkpjgeiaaGreat.CS (nx r) k c:=by refine ⟨λd hd=>hd.elim (h.1 d) λ⟨k,e⟩=>by rw [e];exact zd a k,λd hd=>hd.imp (h.2 d) λ⟨k,e⟩=>⟨k+1,by rw [e];rfl⟩⟩
def hd4(h:AI):Prop:=h=0\/h=1\/h=2\/h=3
theorem qY{α:Type}{a b:AI}{x y:AH α}(h:a > b):@W.br wv α (@W.cm wv .gtr a b) x y=x:=BF (by rw [jm];exact AW h)
theorem iF{α:Type}{a b:AI}{x y:AH α}(h:¬a > b):@W.br wv α (@W.cm wv .gtr a b) x y=y:=BA (by rw [jm];exact B0 h)
theorem UF(a:AI):@Jbd wv a=AC (if a > 0 then 1 else if a<0 then -1 else 0):=by
 unfold Jbd;by_cases h:a > 0
 .rw [qY h,AS h]
 .rw [iF h,AR h];by_cases d:a<0
  .rw [Ky d,AS d]
  .rw [J2 d,AR d]
theorem QC{α:Type}(a:AI)(k:AI->AH α):@W.call wv α Xv (a:AI) k=k (if a > 0 then 1 else if a<0 then -1 else 0):=BM (c:=Xv) (UF a)
theorem sJ(p:Cell){h:AI}(a:hd4 h)(n:AM):(h=0/\(fwd p h n).1=p.1+n/\(fwd p h n).2=p.2)\/(h=1/\(fwd p h n).1=p.1/\(fwd p h n).2=p.2+n)\/(h=2/\(fwd p h n).1=p.1 - n/\(fwd p h n).2=p.2)\/(h=3/\(fwd p h n).1=p.1/\(fwd p h n).2=p.2 - n):=by unfold fwd BS;rcases a with rfl|rfl|rfl|rfl<;>simp<;>omega
theorem Jnf{p:Cell}{h:AI}(f:hd4 h){n:AM}(w:0<n)(m:jc p)(l:jc (fwd p h n)):@Y2 wv (p,fwd p h n)=AC (BS h):=by
 have g:=sJ p f n;generalize fwd p h n=q at *
 unfold jc at m l;have v:@W.ar wv .sub .i64 q.1 p.1=q.1 - p.1:=by rw [Yc,wr (by omega) (by omega)]
 have r:@W.ar wv .sub .i64 q.2 p.2=q.2 - p.2:=by rw [Yc,wr (by omega) (by omega)]
 unfold Y2;dsimp only;rw [v,r,QC,QC];refine AT AC ?_;rcases g with ⟨rfl,d,a⟩|⟨rfl,d,a⟩|⟨rfl,d,a⟩|⟨rfl,d,a⟩
 .rw [AS (by omega),AR (by omega),AR (by omega)];rfl
 .rw [AR (by omega),AR (by omega),AS (by omega)];rfl
 .rw [AR (by omega),AS (by omega),AR (by omega),AR (by omega)];rfl
 .rw [AR (by omega),AR (by omega),AR (by omega),AS (by omega)];rfl
theorem J3j{p:Cell}{h:AI}(d:hd4 h)(a:jc p):@Jbc wv (p,BS h)=AC (K6 p h):=by
 unfold jc at a;have g:@W.ar wv .sub .i64 p.1 1=p.1 - 1:=by rw [Yc,wr (by omega) (by omega)]
 have f:@W.ar wv .sub .i64 p.2 1=p.2 - 1:=by rw [Yc,wr (by omega) (by omega)]
 unfold Jbc;dsimp only;rw [g,f];rcases d with rfl|rfl|rfl|rfl
 .rw [BF (by rfl)];rfl
 .rw [BA (by rfl),BF (by rfl)];rfl
 .rw [BA (by rfl),BA (by rfl),BF (by rfl)];rfl
 .rw [BA (by rfl),BA (by rfl),BA (by rfl)];rfl
theorem Rt{h h':AI}(d:hd4 h)(a:hd4 h'):@W.cm wv .lss (@W.ar wv .sub .i64 (@W.ar wv .mul .i64 (BS h).1 (BS h').2) (@W.ar wv .mul .i64 (BS h).2 (BS h').1)) 0=decide (ZY h h'):=by rcases d with rfl|rfl|rfl|rfl<;>rcases a with rfl|rfl|rfl|rfl<;>rfl
noncomputable def YA{β:Type}(o:AG Cell)(c:Cell)(K:AG Cell->AH β):AH β:=
 @W.br wv β (@W.cm wv .gtr (@W.ln wv Cell o) 0) (@W.gd wv β (@W.ib wv (@W.ar wv .sub .i64 (@W.ln wv Cell o) 1) (@W.ln wv Cell o)) (@W.ge wv β Cell o (@W.ar wv .sub .i64 (@W.ln wv Cell o) 1) λv=>
  @W.br wv β (@W.an wv (@W.cm wv .eql v.1 c.1) (@W.cm wv .eql v.2 c.2)) (K o) (@W.gd wv β (@W.ft wv 16 (@W.pl wv (@W.ln wv Cell o) 1)) (K (@W.ap wv Cell o (c::[]))))))
 (@W.gd wv β (@W.ft wv 16 (@W.pl wv (@W.ln wv Cell o) 1)) (K (@W.ap wv Cell o (c::[]))))
theorem MP(a b:Cell):@W.an wv (@W.cm wv .eql a.1 b.1) (@W.cm wv .eql a.2 b.2)=decide (a=b):=by rw [Nf,Q3,Q3,Bool.eq_iff_iff,Bool.and_eq_true,beq_iff_eq,beq_iff_eq,decide_eq_true_eq,Prod.ext_iff]
theorem J2f{o:AG Cell}(h:0<o.length)(hl:o.length<=1000000000):∃z,o.getLast?=AC z/\Fb o (@W.ar wv .sub .i64 (@W.ln wv Cell o) 1)=AC z:=by
 have e:@W.ar wv .sub .i64 (@W.ln wv Cell o) 1=((o.length - 1:AM):AI):=by rw [AZ,Yc,wr (by omega) (by omega)];omega
 have a:o[o.length - 1]?=AC o[o.length - 1]:=Ae (by omega);exact ⟨_,by rw [Aq,a],by rw [e];exact fg a⟩
theorem J8h{β:Type}{o:AG Cell}(hl:o.length<=1000000000)(c:Cell)(K:AG Cell->AH β):YA o c K=K (JO o c):=by
 unfold YA JO;by_cases h:0<o.length
 .obtain ⟨z,f,d⟩:=J2f h hl;rw [BF (by rw [jm,AZ];exact AW (by omega)),Fj (by rw [AZ,Yc,wr (by omega) (by omega)];omega),BH d,MP,f];by_cases e:z=c
  .rw [BF (AW e),AS (by rw [e])]
  .rw [BA (B0 e),AR (by simpa using e),AZ,BZ,GI (by omega) (by omega),DL]
 .have a:o=[]:=List.eq_nil_of_length_eq_zero (by omega);subst a;rw [BA (by rfl),AZ,BZ,GI (by simp) (by simp),DL];rfl
noncomputable def Nl(o:AG Cell):AH (AG Cell):=
 @W.br wv (AG Cell) (@W.cm wv .gtr (@W.ln wv Cell o) 1) (@W.gd wv (AG Cell) (@W.ib wv 0 (@W.ln wv Cell o)) (@W.ge wv (AG Cell) Cell o 0 λv=>
  @W.gd wv (AG Cell) (@W.ib wv (@W.ar wv .sub .i64 (@W.ln wv Cell o) 1) (@W.ln wv Cell o)) (@W.ge wv (AG Cell) Cell o (@W.ar wv .sub .i64 (@W.ln wv Cell o) 1) λw=>
  @W.br wv (AG Cell) (@W.an wv (@W.cm wv .eql v.1 w.1) (@W.cm wv .eql v.2 w.2)) (@W.gd wv (AG Cell) (@W.le wv 0 (@W.ar wv .sub .i64 (@W.ln wv Cell o) 1)) (@W.gd wv (AG Cell) (@W.le wv (@W.ar wv .sub .i64 (@W.ln wv Cell o) 1) (@W.ln wv Cell o))
   (@W.gd wv (AG Cell) (@W.le wv 0 0) (@W.gd wv (AG Cell) (@W.le wv 0 (@W.ar wv .sub .i64 (@W.ln wv Cell o) 1)) (@W.gd wv (AG Cell) (@W.le wv (@W.pl wv 0 (@W.ar wv .sub .i64 (@W.ln wv Cell o) 1)) (@W.ln wv Cell o))
   (AC (@W.ct wv Cell o 0 (@W.ar wv .sub .i64 (@W.ln wv Cell o) 1)))))))) (AC o)))) (AC o)
theorem Nk{o:AG Cell}(hl:o.length<=1000000000):Nl o=AC (trim o):=by
 unfold Nl trim;by_cases h:1<o.length
 .obtain ⟨z,f,d⟩:=J2f (o:=o) (by omega) hl;have e:@W.ar wv .sub .i64 (@W.ln wv Cell o) 1=((o.length - 1:AM):AI):=by rw [AZ,Yc,wr (by omega) (by omega)];omega
  have a:o[0]?=AC o[0]:=Ae (by omega);rw [BF (by rw [jm,AZ];exact AW (by omega)),Fj (by rw [AZ];omega),BH (lG a),Fj (by rw [e,AZ];omega),BH d,MP,f,Av,a];by_cases q:o[0]=z
  .rw [BF (AW q),AS ⟨h,by rw [q]⟩,e,KH (by omega),KH (by rw [AZ];omega),KH (by omega),KH (by omega),KH (by rw [BZ,AZ];omega),oo,List.dropLast_eq_take];simp
  .rw [BA (B0 q),AR λhx=>q (by have:=hx.2;injection this)]
 .rw [BA (by rw [jm,AZ];exact B0 (by omega)),AR λhx=>h hx.1]
def KS(P:Cell)(h:AI)(k:AM):AG Cell:=(Ad k).map λj=>K6 (fwd P h j) h
theorem Jkk(P:Cell)(h:AI)(k:AM):KS P h (k+1)=KS P h k++[K6 (fwd P h k) h]:=by unfold KS;rw [List.range_succ,Ap];rfl
theorem Jsx(P:Cell)(h:AI)(k:AM):(KS P h k).length=k:=by unfold KS;rw [Aa,Ah]
theorem tZ{P:Cell}{h:AI}(a:hd4 h){k L:AM}(d:k<=L)(g:jc P)(f:jc (fwd P h L)):jc (fwd P h k):=by
 have m:=sJ P a k;have l:=sJ P a L;have:hd4 h:=a;generalize fwd P h k=u at *
 generalize fwd P h L=v at *
 unfold jc at *
 omega
theorem gM{P:Cell}{h:AI}(a:hd4 h){k L:AM}(f:k<L):fwd P h k≠fwd P h L:=by
 have d:=sJ P a k;have g:=sJ P a L;intro e;rw [e] at d;generalize fwd P h L=v at *
 omega
theorem Wo{P:Cell}{h:AI}(d:hd4 h){k L:AM}(l:k<L)(g:jc P)(f:jc (fwd P h L)):@W.ar wv .add .i64 (fwd P h k).1 (BS h).1=(fwd P h (k+1)).1/\@W.ar wv .add .i64 (fwd P h k).2 (BS h).2=(fwd P h (k+1)).2:=by
 have e:fwd P h (k+1)=EC (fwd P h k) (BS h):=by rw [Jwb,Jo0]
 have a:=tZ d (k:=k+1) (L:=L) (by omega) g f;rw [e] at a ⊢;unfold jc EC at a;unfold EC;dsimp only at a ⊢;rw [J6,J6,wr (by omega) (by omega),wr (by omega) (by omega)];exact ⟨rfl,rfl⟩
section
variable {r:AQ} {s:Ck}
theorem wW{N i:AM}(h:i<(EJ r s N).length):EB r s (tpN r s N (i+1))=fwd (EB r s (tpN r s N i)) (Ce r s (tpN r s N i)) (tpN r s N (i+1) - tpN r s N i):=by have a:=mI r s h;have:=edge r s h (tpN r s N (i+1) - tpN r s N i) (by omega);rwa [show tpN r s N i+(tpN r s N (i+1) - tpN r s N i)=tpN r s N (i+1) by omega] at this
theorem Jxn{N i:AM}(h:i<(EJ r s N).length):∀k,tpN r s N i+k<tpN r s N (i+1)->raw r s (tpN r s N i+k)=raw r s (tpN r s N i)++KS (EB r s (tpN r s N i)) (Ce r s (tpN r s N i)) k
 | 0,_=>by simp [KS]
 | k+1,f=>by
  rw [<-Nat.add_assoc,jT,Jxn h k (by omega),Jkk,Am]
  congr 2
  have d:=sK r s h k (by omega);have a:=sK r s h (k+1) (by omega);rw [<-Nat.add_assoc] at a;unfold Ec;rw [d,a,edge r s h k (by omega),AR];unfold ZY;omega
noncomputable def Ru(r:AQ)(s:Ck)(N i:AM):AG Cell:=if ZY (Ce r s (tpN r s N i)) (Ce r s (tpN r s N (i+1))) then [EC (K6 (fwd (EB r s (tpN r s N i)) (Ce r s (tpN r s N i)) (tpN r s N (i+1) - tpN r s N i - 1)) (Ce r s (tpN r s N i))) (BS (Ce r s (tpN r s N i)))] else []
theorem Oe{N i:AM}(h:i<(EJ r s N).length) :
  raw r s (tpN r s N (i+1))=raw r s (tpN r s N i)++KS (EB r s (tpN r s N i)) (Ce r s (tpN r s N i)) (tpN r s N (i+1) - tpN r s N i)++Ru r s N i:=by
 have a:=mI r s h;obtain ⟨k,d⟩:∃k,tpN r s N (i+1)=tpN r s N i+k+1:=⟨tpN r s N (i+1) - tpN r s N i - 1,by omega⟩;have l:=sK r s h k (by omega);have g:=edge r s h k (by omega);have f:=Jxn h k (by omega);unfold Ru;rw [d,show tpN r s N i+k+1 - tpN r s N i=k+1 by omega,jT,f,Jkk,Am,Am,Am,Nat.add_sub_cancel]
 congr 2
 unfold Ec;rw [l,g];rfl
end
abbrev Sr1:=HP (AG Cell) (HP AI (HP (AG Cell) (HP AI (HP AI (HP AI (HP AI (HP AI (HP AI (HP AI (HP AI (HP AI (HP AI Unit))))))))))))
theorem J0p{r:AQ}{s:Ck}{N:AM}(hN:FK (nx r) s N){i:AM}(h:i<(EJ r s N).length):(poly r s N)[i]?=AC (EB r s (tpN r s N i)):=by rw [Jvc r s hN.pos,List.getElem?_map,mQ r s h];rfl
theorem wo{r:AQ}{s:Ck}{N:AM}(hN:FK (nx r) s N){i:AM}(h:i<(EJ r s N).length):(poly r s N)[(i+1) % (EJ r s N).length]?=AC (EB r s (tpN r s N (i+1))):=by
 by_cases a:i+1<(EJ r s N).length
 .rw [Nat.mod_eq_of_lt a];exact J0p hN a
 .have e:i+1=(EJ r s N).length:=by omega
  rw [e,Nat.mod_self,J0p hN (by omega),xG r s hN.pos,sN r s (Nat.le_refl _)];have:EB r s N=s.1:=AT Prod.fst hN.back;rw [this];rfl
theorem J6w{r:AQ}{s:Ck}{N:AM}(hN:FK (nx r) s N){i:AM}(h:i<(EJ r s N).length):∃L,0<L/\L<=N/\(poly r s N)[(i+2) % (EJ r s N).length]?=AC (fwd (EB r s (tpN r s N (i+1))) (Ce r s (tpN r s N (i+1))) L):=by
 by_cases f:i+1<(EJ r s N).length
 .have a:tpN r s N (i+1)<tpN r s N (i+2):=mI r s f;have d:=J15 r s (N:=N) (i:=i+2);refine ⟨tpN r s N (i+2) - tpN r s N (i+1),by omega,by omega,?_⟩;rw [wo hN f];exact AT AC (wW f)
 .have e:i+1=(EJ r s N).length:=by omega
  have l:=hN.pos;have g:0<(EJ r s N).length:=by omega
  have a:tpN r s N 0<tpN r s N 1:=mI r s g;have d:=J15 r s (N:=N) (i:=1);refine ⟨tpN r s N 1 - tpN r s N 0,by omega,by omega,?_⟩;have em:(i+2) % (EJ r s N).length=(0+1) % (EJ r s N).length:=by rw [show i+2=0+1+(EJ r s N).length by omega,Nat.add_mod_right]
  rw [em,wo hN g,sN r s (i:=i+1) (by omega)];have v:EB r s N=EB r s (tpN r s N 0):=by rw [xG r s l];exact AT Prod.fst hN.back
  have m:Ce r s N=Ce r s (tpN r s N 0):=by rw [xG r s l];exact AT Prod.snd hN.back
  rw [v,m];exact AT AC (wW g)
theorem Ou{r:AQ}{s:Ck}{N:AM}(hN:FK (nx r) s N):(poly r s N).length=(EJ r s N).length:=by rw [Jvc r s hN.pos,Aa]
theorem J0d{a:AI}{b n:AM}(e:a=(b:AI)):@W.ar wv .rem .i64 a (n:AI)=((b % n:AM):AI):=by rw [oO,e,Int.tmod_eq_emod_of_nonneg (by omega)];exact (Int.natCast_emod _ _).symm
abbrev iV:=HP (AG Cell) (HP AI (HP (AG Cell) (HP AI (HP AI (HP AI (HP AI Unit))))))
theorem Jys(m:AG Cell):∀o:AG Cell,(m.foldl JO o).length<=o.length+m.length:=by
 induction m with
 | nil=>intro o;exact Nat.le_refl _
 | cons c m a=>
  intro o;rw [List.foldl_cons,Ar];refine Nat.le_trans (a _) ?_;unfold JO;split
  .omega
  .rw [List.length_append,List.length_singleton];omega
theorem Ov(pts:AG Cell)(i j:AM)(o:AG Cell){P:Cell}{h:AI}(g:hd4 h){L:AM}(hL:L<=1000000)(w:jc P)(r:jc (fwd P h L))(G:o.length<=100000000)(hi:i<=1000000000)(F:pts.length<=1000000000)(A:0<pts.length)
  (l:pts[(i+1) % pts.length]?=AC (fwd P h L)) :
  Qm (@Yq wv) CK (⟨pts,(i:AI),o,P.1,P.2,(BS h).1,(BS h).2,()⟩:iV) =
   AC (⟨pts,(i:AI),(KS P h L).foldl JO o,(fwd P h L).1,(fwd P h L).2,(BS h).1,(BS h).2,()⟩:iV):=by
 have y:@W.ar wv .rem .i64 (@W.ar wv .add .i64 (i:AI) 1) (pts.length:AI)=(((i+1) % pts.length:AM):AI):=J0d (by rw [J6,wr (by omega) (by omega)];omega);have a:@W.cm wv .neq (pts.length:AI) 0=AE:=by rw [TN];exact bne_iff_ne.2 (by omega)
 have key:=Kc (b:=@Yq wv) (e:=(⟨pts,(i:AI),(KS P h L).foldl JO o,(fwd P h L).1,(fwd P h L).2,(BS h).1,(BS h).2,()⟩:iV))
  (λk=>(⟨pts,(i:AI),(KS P h k).foldl JO o,(fwd P h k).1,(fwd P h k).2,(BS h).1,(BS h).2,()⟩:iV)) L (by omega) (λk f=>by
   have m:=Wo g f w r;have d:=Jys (KS P h k) o;rw [Jsx] at d;unfold Yq;dsimp only;rw [AZ,Cy a,y,BH (fg l),BF (by rw [MP,BO,B0 (gM g f)];rfl)];refine (BM (c:=Xx) (J3j g (tZ g (by omega) w r))).trans ?_;rw [m.1,m.2,Jkk,List.foldl_append];generalize (KS P h k).foldl JO o=o1 at *
   generalize K6 (fwd P h k) h=c;generalize fwd P h (k+1)=v;obtain ⟨E,B⟩:=c;have f:=J8h (β:=Nx iV iV) (o:=o1) (by omega) (E,B) (λo'=>AC (.go (⟨pts,(i:AI),o',v.1,v.2,(BS h).1,(BS h).2,()⟩:iV)));unfold YA at f;exact f) (by unfold Yq;dsimp only;rw [AZ,Cy a,y,BH (fg l),BA (by rw [MP,BO,AW rfl];rfl)])
 have ec:KS P h 0=[]:=rfl;simp only [ec,J1w,List.foldl_nil] at key;exact key
abbrev qg:=HP (AG Cell) (HP AI (HP AI (HP AI (HP AI (HP AI (HP (AG Cell) Unit))))))
theorem Oi{r:AQ}(hr:AJ r){s:Ck}(hl:CX r s){N:AM}(hN:FK (nx r) s N)(Z:N<=1000000):@Jbo wv (poly r s N)=AC (NH (raw r s N)):=by
 have hs:=hl.1;have J:=hN.pos;have hn:=Tx r s N;have h2n:=Tw hl hN;have m:=Ou hN;have step:∀i,i<(EJ r s N).length->@jk wv (⟨poly r s N,(i:AI),(EB r s (tpN r s N i)).1,(EB r s (tpN r s N i)).2,(BS (Ce r s (tpN r s N i))).1,(BS (Ce r s (tpN r s N i))).2,dd (raw r s (tpN r s N i)),()⟩:qg) =
   if i+1=(EJ r s N).length then AC (.out (⟨dd (raw r s (tpN r s N (i+1))),()⟩:HP (AG Cell) Unit)) else
    AC (.go (⟨poly r s N,((i+1:AM):AI),(EB r s (tpN r s N (i+1))).1,(EB r s (tpN r s N (i+1))).2,(BS (Ce r s (tpN r s N (i+1)))).1,(BS (Ce r s (tpN r s N (i+1)))).2,dd (raw r s (tpN r s N (i+1))),()⟩:qg)):=λi hi=>by
  have F:=mI r s hi;have hTle:=J15 r s (N:=N) (i:=i+1);have w:=wo hN hi;obtain ⟨L2,hL2,hL2',O⟩:=J6w hN hi;have v:hd4 (Ce r s (tpN r s N i)):=(zd hs _).e;have A:hd4 (Ce r s (tpN r s N (i+1))):=(zd hs _).e;have s0:=jY hr (zd hs (tpN r s N i));have f:=jY hr (zd hs (tpN r s N (i+1)));rw [show (CS (nx r) (tpN r s N i) s).1=EB r s (tpN r s N i) from rfl] at s0;rw [show (CS (nx r) (tpN r s N (i+1)) s).1=EB r s (tpN r s N (i+1)) from rfl] at f;have hE:=wW hi;have a:=Oe hi;have Y:=wT r s (tpN r s N i);have hdl:=Ka1 (raw r s (tpN r s N i));have X:jc (fwd (EB r s (tpN r s N (i+1))) (Ce r s (tpN r s N (i+1))) L2):=by have M:=Ao O;rw [Jvc r s J] at M;obtain ⟨k,_,hk⟩:=Ag.1 M;rw [<-hk];exact jY hr (zd hs k)
  unfold Ru at a;generalize Ce r s (tpN r s N i)=h at *
  generalize Ce r s (tpN r s N (i+1))=h' at *
  generalize EB r s (tpN r s N i)=P at *
  generalize EB r s (tpN r s N (i+1))=Q at *
  have hwE:=Jnf (p:=Q) A hL2 f X;generalize fwd Q h' L2=R at *
  obtain ⟨L,hL⟩:∃L,tpN r s N (i+1) - tpN r s N i=L+1:=⟨tpN r s N (i+1) - tpN r s N i - 1,by omega⟩;rw [hL] at hE a;subst hE;have H:@W.ar wv .add .i64 (i:AI) 1=((i+1:AM):AI):=by rw [J6,wr (by omega) (by omega)];omega
  have e1:@W.ar wv .rem .i64 ((i+1:AM):AI) ((EJ r s N).length:AI)=(((i+1) % (EJ r s N).length:AM):AI):=J0d rfl;have e2:@W.ar wv .rem .i64 (@W.ar wv .add .i64 ((i+1:AM):AI) 1) ((EJ r s N).length:AI)=(((i+2) % (EJ r s N).length:AM):AI):=J0d (by rw [J6,wr (by omega) (by omega)];omega);have y:@W.cm wv .neq ((EJ r s N).length:AI) 0=AE:=by rw [TN];exact bne_iff_ne.2 (by omega)
  have G:=Jys (KS P h (L+1)) (dd (raw r s (tpN r s N i)));rw [Jsx] at G;unfold jk;dsimp only;refine (BN (Ov _ i ((i+1) % (EJ r s N).length) _ v (by omega) s0 f (by omega) (by omega) (by omega) (by omega) (by rw [m];exact w))).trans ?_;dsimp only;rw [AZ,m,Cy y,H,e1,BH (fg w),Cy y,e2,BH (fg O)];refine (BM (c:=K7) hwE).trans ?_;rw [Rt v A];have l:@W.ar wv .sub .i64 (fwd P h (L+1)).1 (BS h).1=(fwd P h L).1/\@W.ar wv .sub .i64 (fwd P h (L+1)).2 (BS h).2=(fwd P h L).2:=by
   have e:fwd P h (L+1)=EC (fwd P h L) (BS h):=by rw [Jwb,Jo0]
   have h3:=tZ v (k:=L) (L:=L+1) (by omega) s0 f;unfold jc at h3;rw [e,Yc,Yc];unfold EC;dsimp only;rw [wr (by omega) (by omega),wr (by omega) (by omega)];omega
  let K:AG Cell->AH (Nx qg (HP (AG Cell) Unit)):=λo=>@W.br wv _ (@W.cm wv .eql ((i+1:AM):AI) ((EJ r s N).length:AI)) (AC (.out ⟨o,()⟩)) (AC (.go ⟨poly r s N,((i+1:AM):AI),(fwd P h (L+1)).1,(fwd P h (L+1)).2,(BS h').1,(BS h').2,o,()⟩));have hK:∀o:AG Cell,K o=if i+1=(EJ r s N).length then AC (.out (⟨o,()⟩:HP (AG Cell) Unit)) else AC (.go (⟨poly r s N,((i+1:AM):AI),(fwd P h (L+1)).1,(fwd P h (L+1)).2,(BS h').1,(BS h').2,o,()⟩:qg)):=λo=>by
   show @W.br wv _ _ _ _=_;by_cases e:i+1=(EJ r s N).length
   .rw [BF (by rw [Q3];exact beq_iff_eq.2 (by omega)),AS e]
   .rw [BA (by rw [Q3];exact beq_eq_false_iff_ne.2 (by omega)),AR e]
  by_cases g:ZY h h'
  .have hb:-2000000000<=(K6 (fwd P h L) h).1/\(K6 (fwd P h L) h).1<=2000000000/\-2000000000<=(K6 (fwd P h L) h).2/\(K6 (fwd P h L) h).2<=2000000000:=by have:=tZ v (k:=L) (L:=L+1) (by omega) s0 f;unfold jc at this;unfold K6;rcases v with rfl|rfl|rfl|rfl<;>simp<;>omega
   have hd:-1<=(BS h).1/\(BS h).1<=1/\-1<=(BS h).2/\(BS h).2<=1:=by rcases v with rfl|rfl|rfl|rfl<;>simp [BS]
   rw [BF (AW g),l.1,l.2];refine (BM (c:=Xx) (J3j v (tZ v (k:=L) (L:=L+1) (by omega) s0 f))).trans ?_;have a1:@W.ar wv .add .i64 (K6 (fwd P h L) h).1 (BS h).1=(EC (K6 (fwd P h L) h) (BS h)).1:=by rw [J6,wr (by omega) (by omega)];rfl
   have a2:@W.ar wv .add .i64 (K6 (fwd P h L) h).2 (BS h).2=(EC (K6 (fwd P h L) h) (BS h)).2:=by rw [J6,wr (by omega) (by omega)];rfl
   rw [a1,a2,a,AS g,mK,Rn,Nat.add_sub_cancel];generalize (KS P h (L+1)).foldl JO (dd (raw r s (tpN r s N i)))=E at *
   generalize EC (K6 (fwd P h L) h) (BS h)=c;exact (show _=YA E c K from rfl).trans ((J8h (by omega) _ _).trans (hK _))
  .rw [BA (B0 g),a,AR g,List.append_nil,Rn];generalize (KS P h (L+1)).foldl JO (dd (raw r s (tpN r s N i)))=E at *
   exact hK E
 have B:tpN r s N ((EJ r s N).length - 1+1)=N:=sN r s (by omega);have d:=Kc (b:=@jk wv) (e:=(⟨dd (raw r s N),()⟩:HP (AG Cell) Unit)) (λi=>(⟨poly r s N,(i:AI),(EB r s (tpN r s N i)).1,(EB r s (tpN r s N i)).2,(BS (Ce r s (tpN r s N i))).1,(BS (Ce r s (tpN r s N i))).2,dd (raw r s (tpN r s N i)),()⟩:qg)) ((EJ r s N).length - 1) (by omega) (λi hi=>by
  rw [step i (by omega),AR (by omega)]) (by rw [step _ (by omega),AS (by omega),B])
 have g0:=J0p hN (i:=0) (by omega);have w:=wo hN (i:=0) (by omega);rw [Nat.mod_eq_of_lt (by omega)] at w;have hE:=wW (r:=r) (s:=s) (N:=N) (i:=0) (by omega);have F:=mI r s (N:=N) (i:=0) (by omega);have s0:=jY hr (zd hs (tpN r s N 0));have f:=jY hr (zd hs (tpN r s N (0+1)));rw [show (CS (nx r) (tpN r s N 0) s).1=EB r s (tpN r s N 0) from rfl] at s0;rw [show (CS (nx r) (tpN r s N (0+1)) s).1=EB r s (tpN r s N (0+1)) from rfl] at f;rw [hE] at w f;have hwE:=Jnf (p:=EB r s (tpN r s N 0)) (zd hs (tpN r s N 0)).e (n:=tpN r s N (0+1) - tpN r s N 0) (by omega) s0 f;unfold Jbo;rw [BH (lG g0),BH (lG g0),BH (i:=1) (fg (i:=1) w)];refine (BM (c:=K7) hwE).trans ?_;have H:raw r s (tpN r s N 0)=[]:=by rw [xG r s J];rfl
 rw [H] at d;refine (BN d).trans ?_;exact (show _=Nl (dd (raw r s N)) from rfl).trans (Nk (by have:=Ka1 (raw r s N);have:=wT r s N;omega))
noncomputable def bI(r:AQ)(s:Ck):Jk:=(1,AE,NH (raw r s (E9 r s)))
theorem J28{r:AQ}(a:(Jq r).length<=8000){s:Ck}(hs:DX r s.1 s.2):(NH (raw r s (E9 r s))).length<=65536:=by have h:=O1 (raw r s (E9 r s));have g:=wT r s (E9 r s);have f:=J1n hs;have d:=J0q r;omega
theorem Jsp{r:AQ}(h:Starts r (jv r)):(jv r).length<=(Ia r).length:=by have d:(jv r).Nodup:=h.pw.imp λ{a b} (h:yx a.1 b.1) (e:a=b)=>nR a.1 (by subst e;exact h);exact jV d λs hs=>((h.mem s).1 hs).mem
open Classical in
theorem J7p(r:AQ)(hl:DJ r)(l:AJ r->(Jq r).length<=8000):@Xg wv r=AC (if AJ r then (jv r).map (bI r) else []):=by
 have a:AJ r->(Ia r).length<=1000000:=λh=>by have:=l h;have:=J0q r;omega
 unfold Xg;rw [WU hl a];by_cases hr:AJ r
 case neg=>
  rw [AR hr,AR hr];exact (BN (show Qm (@Yi wv) CK ⟨[],0,0,[],()⟩=AC ⟨[],()⟩ from ZO (n:=18446744073709551615) rfl)).trans rfl
 rw [AS hr,AS hr];have f:=(Juh r hl a).2 hr;have a:=a hr;have l:=l hr;have w:=Jsp f;have g:((jv r).map (pol r)).length=(jv r).length:=Aa _;have d:=Kc (b:=@Yi wv) (e:=(⟨(jv r).map (bI r),()⟩:HP (AG Jk) Unit)) (λi=>(⟨(jv r).map (pol r),((jv r).length:AI),(i:AI),((jv r).take i).map (bI r),()⟩:HP (AG (AG Cell)) (HP AI (HP AI (HP (AG Jk) Unit))))) (jv r).length (by omega) (λi hi=>by
  have hx:=Ae hi;generalize (jv r)[i]=s at hx;have hs:CX r s:=(f.mem s).1 (Ao hx);have A:((jv r).map (pol r))[i]?=AC (pol r s):=by rw [List.getElem?_map,hx];rfl
  have y:=J1n hs.1;have v:=Oi hr hs (nN hs.1) (by omega);have m:=J28 l hs.1;unfold Yi;dsimp only;rw [Ky (by omega),BH (fg A)];refine (BM (c:=jq) v).trans ?_;rw [BF (by rw [KY,AZ];exact AW (by omega)),AZ,BZ,Aa,List.length_take,TQ (by omega) (by omega),J6,wr (by omega) (by omega),DL,Q9 hx];rfl) (by unfold Yi;dsimp only;rw [J2 (by omega),List.take_length])
 rw [AZ,g];exact (BN d).trans rfl
theorem aD{a b:Cell}(h:aF a b):nb a b:=by
 unfold nb;rcases h with ⟨f|f,d⟩|⟨f,d|d⟩
 .rw [f,d,As];rfl
 .rw [f,d,As];rfl
 .rw [f,d,As];rfl
 .rw [f,d,As];rfl
theorem Tn{r:AQ}(hr:AJ r)(f:(Jq r).length<=8000){s:Ck}(hs:DX r s.1 s.2):VT (bI r s):=by
 have hN:=nN hs;have d:=J1c hs hN;have m:=J28 f hs;have v:∀c∈NH (raw r s (E9 r s)),grid c:=λc h=>hr.bd (Od hs ((J2x c).1 h));unfold bI;generalize NH (raw r s (E9 r s))=l at *
 have w:=List.length_pos_iff.2 d.ne;refine ⟨⟨(by decide:(1:AI)<=1),(by decide:(1:AI)<=7)⟩,⟨w,m⟩,λi hi c f=>⟨v c (Ao f),λp B g=>?_⟩,λ_=>?_⟩
 .exact aD (d.adj (i - 1) p c g (by rw [show i - 1+1=i by omega];exact f))
 .refine d.cl.imp id λh a b A y=>aD (h a b ?_ ?_)
  .rw [Aq];exact A
  .rw [Av];exact y
def Ch(x y:AI)(n m:AM):AQ:=(Ad m).map λi:AM=>(y+(i:AI),[(x,x+(n:AI))])
theorem iG(x y:AI)(n m:AM)(hx:-100000<=x/\x<=100000)(f:-100000<=y/\y<=100000)(g:n<=100000)(h:m<=100000):@Jay wv (x,(y,((n:AI),(m:AI))))=AC (Ch x y n m):=by
 have a:=Kc (b:=@Ya wv) (e:=(⟨Ch x y n m,()⟩:HP AQ Unit)) (λi=>(⟨x,y,(n:AI),(m:AI),(i:AI),Ch x y n i,()⟩:HP AI (HP AI (HP AI (HP AI (HP AI (HP AQ Unit))))))) m (by omega) (λi hi=>by
  have d:(Ch x y n i).length=i:=by unfold Ch;rw [Aa,Ah]
  unfold Ya;dsimp only;rw [Ky (by omega),AZ,d,BZ,aZ (by omega) (by omega),J6,J6,J6,wr (n:=(i:AI)+1) (by omega) (by omega),wr (n:=y+(i:AI)) (by omega) (by omega),wr (n:=x+(n:AI)) (by omega) (by omega),DL];have e:Ch x y n (i+1)=Ch x y n i++[(y+(i:AI),[(x,x+(n:AI))])]:=by unfold Ch;rw [List.range_succ,Ap];rfl
  rw [e];rfl) (by unfold Ya;dsimp only;rw [J2 (by omega)])
 unfold Jay;exact (BN a).trans rfl
section
variable {x y:AI} {n m:AM}
theorem lX{c:Cell}:J1 (Ch x y n m) c↔(x<=c.1/\c.1<x+n)/\(y<=c.2/\c.2<y+m):=by
 unfold J1 Ch;constructor
 .rintro ⟨w,h,f,u,a,d,g⟩;obtain ⟨i,hi,rfl⟩:=Ag.1 h;rw [Af] at hi;dsimp only at a f;rw [Ac] at a;subst a;exact ⟨⟨d,g⟩,by omega,by omega⟩
 .rintro ⟨⟨f,d⟩,g,l⟩;refine ⟨_,Ag.2 ⟨(c.2 - y).toNat,Af.2 (by omega),rfl⟩,by dsimp only;omega,(x,x+(n:AI)),Ac.2 rfl,f,d⟩
theorem XP(g:0<n)(hx:-4096<=x/\x+n<=4096)(f:-4096<=y/\y+m<=4096):AJ (Ch x y n m):=by
 refine ⟨λw a=>?_,?_,λw a=>?_,λw a=>?_⟩
 .obtain ⟨i,hi,rfl⟩:=Ag.1 a;rw [Af] at hi;dsimp only;omega
 .exact List.pairwise_map.2 (List.pairwise_lt_range.imp λh=>by dsimp only;omega)
 .obtain ⟨i,hi,rfl⟩:=Ag.1 a;exact λh=>by cases h
 .obtain ⟨i,hi,rfl⟩:=Ag.1 a;exact ⟨λu d=>by rw [Ac] at d;subst d;dsimp only;omega,Ak _ _⟩
theorem XR(d:m<=1000000):DJ (Ch x y n m):=by refine ⟨by unfold Ch;rw [Aa,Ah];omega,λw a=>?_⟩;obtain ⟨i,hi,rfl⟩:=Ag.1 a;simp
theorem J8w:(Jq (Ch x y n m)).length<=m * n:=by
 have h:∀w∈Ch x y n m,(CV w).length<=n:=λw a=>by obtain ⟨i,hi,rfl⟩:=Ag.1 a;unfold CV;rw [List.flatMap_cons,List.flatMap_nil,List.append_nil,Za];dsimp only;omega
 have:=Jj8 (f:=CV) (l:=Ch x y n m) (n:=n) h;have hl:(Ch x y n m).length=m:=by unfold Ch;rw [Aa,Ah]
 rw [hl] at this;exact this
def DZ(x y:AI)(n m k:AM):Ck:=
 if k<n then ((x+k,y),0) else if k<n+m then ((x+n,y+(k - n:AM)),1) else if k<2 * n+m then ((x+n - (k - n - m:AM),y+m),2) else ((x,y+m - (k - 2 * n - m:AM)),3)
theorem bR(a:0<n)(d:0<m){k:AM}(f:k<2 * n+2 * m):DX (Ch x y n m) (DZ x y n m k).1 (DZ x y n m k).2:=by
 unfold DZ;split
 .refine .inl ⟨rfl,?_⟩;simp only [lX];omega
 split
 .refine .inr (.inl ⟨rfl,?_⟩);simp only [lX];omega
 split
 .refine .inr (.inr (.inl ⟨rfl,?_⟩));simp only [lX];omega
 .refine .inr (.inr (.inr ⟨rfl,?_⟩));simp only [lX];omega
theorem Kas(g:0<n)(l:0<m){c:Ck}(h:DX (Ch x y n m) c.1 c.2):∃k,k<2 * n+2 * m/\c=DZ x y n m k:=by
 obtain ⟨⟨a,b⟩,t⟩:=c;simp only [DX,lX] at h;rcases h with ⟨rfl,f,d⟩|⟨rfl,f,d⟩|⟨rfl,f,d⟩|⟨rfl,f,d⟩
 .refine ⟨(a - x).toNat,by omega,?_⟩;unfold DZ;rw [AS (by omega)];refine Prod.ext (Prod.ext ?_ ?_) rfl<;>dsimp only<;>omega
 .refine ⟨n+(b - y).toNat,by omega,?_⟩;unfold DZ;rw [AR (by omega),AS (by omega)];refine Prod.ext (Prod.ext ?_ ?_) rfl<;>dsimp only<;>omega
 .refine ⟨n+m+(x+n - a).toNat,by omega,?_⟩;unfold DZ;rw [AR (by omega),AR (by omega),AS (by omega)];refine Prod.ext (Prod.ext ?_ ?_) rfl<;>dsimp only<;>omega
 .refine ⟨2 * n+m+(y+m - b).toNat,by omega,?_⟩;unfold DZ;rw [AR (by omega),AR (by omega),AR (by omega)];refine Prod.ext (Prod.ext ?_ ?_) rfl<;>dsimp only<;>omega
theorem SC(f:0<n)(g:0<m){k:AM}(l:k+1<2 * n+2 * m):nx (Ch x y n m) (DZ x y n m k)=DZ x y n m (k+1):=by
 have r:=bR (x:=x) (y:=y) f g (k:=k) (by omega);have a:=bR (x:=x) (y:=y) f g l;have d:X7 (DZ x y n m k).2 (DZ x y n m k).1=(DZ x y n m (k+1)).1:=by
  unfold DZ X7
  (repeat' split)<;>first|(refine Prod.ext ?_ ?_<;>dsimp only at *<;>omega)|(dsimp only at *;omega)
 have h:=rule r (y:=(DZ x y n m (k+1)).2) (by rw [d];exact a) (by
  rw [d];by_cases q:(DZ x y n m (k+1)).2=((DZ x y n m k).2+1) % 4
  .exact .inl q
  .refine .inr λh=>?_;revert q h;unfold DZ
   (repeat' split)<;>intro q h<;>first
    | (dsimp only at q;omega)
    | (simp [DX,lX] at h;omega))
 rw [<-h,d]
theorem SE(d:0<n)(f:0<m):nx (Ch x y n m) (DZ x y n m (2 * n+2 * m - 1))=DZ x y n m 0:=by
 have g:=bR (x:=x) (y:=y) d f (k:=2 * n+2 * m - 1) (by omega);have a:=bR (x:=x) (y:=y) d f (k:=0) (by omega);have r:DZ x y n m (2 * n+2 * m - 1)=((x,y+1),3):=by unfold DZ;rw [AR (by omega),AR (by omega),AR (by omega)];refine Prod.ext (Prod.ext ?_ ?_) rfl<;>dsimp only<;>omega
 have l:DZ x y n m 0=((x,y),0):=by unfold DZ;rw [AS d];refine Prod.ext (Prod.ext ?_ ?_) rfl<;>dsimp only<;>omega
 rw [r] at g ⊢;rw [l] at a ⊢;have h:X7 3 (x,y+1)=(x,y):=by simp [X7]
 have:=rule (c:=((x,y+1),3)) g (y:=0) (by dsimp only;rw [h];exact a) (.inl rfl);dsimp only at this;rw [h] at this;exact this.symm
theorem mY(a:0<n)(d:0<m):∀k,k<2 * n+2 * m->CS (nx (Ch x y n m)) k (DZ x y n m 0)=DZ x y n m k
 | 0,_=>rfl
 | k+1,f=>by rw [show CS (nx (Ch x y n m)) (k+1) (DZ x y n m 0)=nx (Ch x y n m) (CS (nx (Ch x y n m)) k (DZ x y n m 0)) from rfl,mY a d k (by omega),SC a d f]
theorem XU{j k:AM}(d:j<2 * n+2 * m)(a:k<2 * n+2 * m)(h:DZ x y n m j=DZ x y n m k):j=k:=by
 unfold DZ at h;revert h
 (repeat' split)<;>intro h<;>simp only [Prod.mk.injEq] at h<;>omega
theorem Kao(a:0<n)(d:0<m):FK (nx (Ch x y n m)) (DZ x y n m 0) (2 * n+2 * m):=by
 refine ⟨by omega,?_,λi f hi e=>?_⟩
 .rw [show 2 * n+2 * m=2 * n+2 * m - 1+1 by omega];show nx (Ch x y n m) (CS (nx (Ch x y n m)) (2 * n+2 * m - 1) (DZ x y n m 0))=_;rw [mY a d _ (by omega),SE a d]
 .rw [mY a d i hi] at e;have:=XU hi (by omega) e;omega
theorem J27(a:0<n):DZ x y n m 0=((x,y),0):=by unfold DZ;rw [AS a];refine Prod.ext (Prod.ext ?_ ?_) rfl<;>dsimp only<;>omega
theorem Jw0(a:0<n)(d:0<m):CX (Ch x y n m) (DZ x y n m 0):=by
 refine ⟨bR a d (by omega),λk=>?_⟩;have f:=zd (bR (x:=x) (y:=y) a d (k:=0) (by omega)) k;obtain ⟨j,g,e⟩:=Kas a d f;rw [e,J27 a];unfold DZ yx
 (repeat' split)<;>dsimp only<;>omega
theorem J57(a:0<n)(d:0<m):jv (Ch x y n m)=[DZ x y n m 0]:=by refine Jpy ⟨Ak _ _,λc=>?_⟩;rw [Ac];refine ⟨λe=>by rw [e];exact Jw0 a d,λh=>?_⟩;obtain ⟨k,f,e⟩:=Kas a d h.1;exact (Jw0 a d).same h (k:=k) (by rw [mY a d k f];exact e)
def aW(x y:AI)(n m:AM):AG Cell:=(Ad n).map (λk:AM=>(x+(k:AI),y))++(Ad m).map (λk:AM=>(x+n - 1,y+(k:AI)))++(Ad n).map (λk:AM=>(x+n - 1 - (k:AI),y+m - 1))++(Ad m).map λk:AM=>(x,y+m - 1 - (k:AI))
theorem Jke{α:Type}(f:AM->α)(a b:AM):(Ad (a+b)).map f=(Ad a).map f++(Ad b).map λk=>f (a+k):=by rw [List.range_add,Ap,List.map_map];rfl
theorem RD{α β:Type}{l:AG α}{g:α->AG β}{f:α->β}(h:∀k∈l,g k=[f k]):l.flatMap g=l.map f:=by
 induction l with
 | nil=>rfl
 | cons a l d=>rw [List.flatMap_cons,List.map_cons,h a (List.mem_cons_self ..),d λk m=>h k (List.mem_cons_of_mem _ m)];rfl
theorem XQ(d:0<n)(f:0<m):raw (Ch x y n m) (DZ x y n m 0) (2 * n+2 * m)=aW x y n m:=by
 have hK:∀k,k<2 * n+2 * m->Ec (Ch x y n m) (DZ x y n m 0) k=[K6 (DZ x y n m k).1 (DZ x y n m k).2]:=λk a=>by
  have h:CS (nx (Ch x y n m)) k (DZ x y n m 0)=DZ x y n m k:=mY d f k a;have g:(CS (nx (Ch x y n m)) (k+1) (DZ x y n m 0)).2=(DZ x y n m k).2\/(CS (nx (Ch x y n m)) (k+1) (DZ x y n m 0)).2=((DZ x y n m k).2+1) % 4:=by
   by_cases q:k+1<2 * n+2 * m
   .rw [mY d f (k+1) q];unfold DZ
    (repeat' split)<;>first|exact .inl rfl|exact .inr rfl|(exfalso;omega)
   .have:k+1=2 * n+2 * m:=by omega
    rw [this,(Kao d f).back,J27 d];right;unfold DZ;rw [AR (by omega),AR (by omega),AR (by omega)];rfl
  have hd:=(bR (x:=x) (y:=y) d f a).e;unfold Ec EB Ce;rw [h];rw [AR];unfold ZY;rcases g with e|e<;>rw [e]<;>omega
 unfold raw;have e:(Ad (2 * n+2 * m)).flatMap (Ec (Ch x y n m) (DZ x y n m 0))=(Ad (2 * n+2 * m)).map λk=>K6 (DZ x y n m k).1 (DZ x y n m k).2:=by exact RD λk a=>hK k (Af.1 a)
 rw [e,show 2 * n+2 * m=n+m+n+m by omega,Jke,Jke,Jke];unfold aW
 congr 1
 .congr 1
  .congr 1
   .refine Aj λk a=>?_;rw [Af] at a;unfold DZ;rw [AS (by omega)];rfl
   .refine Aj λk a=>?_;rw [Af] at a;unfold DZ;rw [AR (by omega),AS (by omega)];refine Prod.ext ?_ ?_<;>simp [K6]
  .refine Aj λk a=>?_;rw [Af] at a;unfold DZ;rw [AR (by omega),AR (by omega),AS (by omega)];refine Prod.ext ?_ ?_<;>simp [K6]<;>omega
 .refine Aj λk a=>?_;rw [Af] at a;unfold DZ;rw [AR (by omega),AR (by omega),AR (by omega)];refine Prod.ext ?_ ?_<;>simp [K6]<;>omega
end
theorem iH:@Jcx wv ()=AC AE:=by
 classical
 have hr:AJ (Ch 0 0 2 2):=XP (by decide) (by decide) (by decide);have a:=J8w (x:=0) (y:=0) (n:=2) (m:=2);have hW:@Xg wv (Ch 0 0 2 2)=AC [(1,AE,[(0,0),(1,0),(1,1),(0,1)])]:=by rw [J7p _ (XR (by decide)) (λ_=>by omega),AS hr,J57 (by decide) (by decide)];show AC [bI _ _]=_;unfold bI;rw [Kbo (bR (by decide) (by decide) (by decide)) (Kao (by decide) (by decide)),XQ (by decide) (by decide)];exact AT AC (by decide)
 have hB:=iG 0 0 2 2 (by decide) (by decide) (by decide) (by decide);unfold Jcx;refine (BM (c:=Jeq) hB).trans ((BM (c:=jw) hW).trans ?_)
 kernel_rfl
end Go.Proofs.YtmfagdfkpjgeiaaGreat
