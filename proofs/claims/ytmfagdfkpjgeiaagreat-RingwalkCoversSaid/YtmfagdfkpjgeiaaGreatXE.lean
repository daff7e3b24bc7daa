/- Choosing the next crack. Conditions: at most 10^9 headings at a corner and corners so far. -/
import Derived.Test.YtmfagdfkpjgeiaaGreatXD
set_option linter.unusedVariables false
set_option linter.unusedSimpArgs false
set_option linter.unusedSectionVars false
set_option maxRecDepth 100000
namespace Go.Proofs.YtmfagdfkpjgeiaaGreat
open Go Go.Vv Go.Dn Go.Dn.W
open List renaming length_map → Aa, getElem?_eq_some_iff → Ab, getElem?_eq_getElem → Ac, mem_singleton → Ad, range → Ae, mem_range → Af, mem_of_getElem? → Ag, mem_map → Ah, length_range → Ai, pairwise_iff_getElem → Aj, map_congr_left → Ak, pairwise_singleton → Am, append_assoc → Ao, map_append → Ap, length_append → Aq, getLast?_eq_getElem? → Ar, length_cons → As, take_length → Au, mem_append → Aw, head?_eq_getElem? → Ax
open Int renaming sub_self → Av
def Jw5 (l:List Int) (a b c:Int):Int:=if a∈l then a else if b∈l then b else if c∈l then c else b
def addP (po:List Cell) (q:Cell) (h h':Int):List Cell:=if h'≠h then po++[q] else po
theorem Jdt {α:Type} {m:Cr} {p:Cell} {x:Int} (hl:(atC m p).length≤1000000000) (k:Bool→Option α):@W.call wv α Jb ((@W.mg wv (.p I I) (.ls I) m p [],x):List Int×Int) k=k (decide (x∈atC m p)):=by
 rw [Jy8];exact Jxc hl k
section
variable (a:Reg) (h hl hr s5 s6:Int) (m:Cr) (s8 s9 x y:Int) (s12:List Cell) (s13:List (List Cell)) (po:List Cell)
abbrev st8 (h hl hr s5 s6:Int) (m:Cr) (s8 s9 x y:Int) (s12:List Cell) (s13:List (List Cell)) (po:List Cell) (i:Nat):HP Int (HP Int (HP Int (HP Int (HP Int (HP Int (HP Int (HP Cr (HP Int (HP Int (HP Int (HP Int (HP (List Cell) (HP (List (List Cell)) (HP (List Cell) Unit)))))))))))))) :=
 ⟨h,⟨hl,⟨h,⟨hr,⟨(i:Int),⟨s5,⟨s6,⟨m,⟨s8,⟨s9,⟨x,⟨y,⟨s12,⟨s13,⟨po,()⟩⟩⟩⟩⟩⟩⟩⟩⟩⟩⟩⟩⟩⟩⟩
abbrev fin8 (h:Int) (s5 s6:Int) (m:Cr) (s8 s9 x y:Int) (s12:List Cell) (s13:List (List Cell)) (po:List Cell) (c:Int):HP Int (HP Int (HP Int (HP Cr (HP Int (HP Int (HP Int (HP Int (HP (List Cell) (HP (List (List Cell)) (HP (List Cell) Unit)))))))))) :=
 ⟨c,⟨s5,⟨s6,⟨m,⟨s8,⟨s9,⟨x,⟨y,⟨s12,⟨s13,⟨addP po (x,y) h c,()⟩⟩⟩⟩⟩⟩⟩⟩⟩⟩⟩
theorem Jtr (hm:(atC m (x,y)).length≤1000000000) (hp:po.length≤1000000000) {i:Nat} {c:Int} (hi:i=0∧c=hl∨i=1∧c=h∨i=2∧c=hr) :
  @Kk wv a (st8 h hl hr s5 s6 m s8 s9 x y s12 s13 po i)=if c∈atC m (x,y) then some (.out (fin8 h s5 s6 m s8 s9 x y s12 s13 po c)) else some (.go (st8 h hl hr s5 s6 m s8 s9 x y s12 s13 po (i+1))):=by
 have e3:@W.ar wv .add .i64 (i:Int) 1=((i+1:Nat):Int):=by rw [K4,wr (by omega) (by omega)];omega
 have tail:∀(c:Int),(@W.br wv (Nx _ _) (decide (c∈atC m (x,y))) (@W.br wv _ (@W.cm wv .neq c h) (@W.gd wv _ (@W.ft wv 16 (@W.pl wv (@W.ln wv Cell po) 1)) (some (.out (⟨c,⟨s5,⟨s6,⟨m,⟨s8,⟨s9,⟨x,⟨y,⟨s12,⟨s13,⟨@W.ap wv Cell po ((x,y)::[]),()⟩⟩⟩⟩⟩⟩⟩⟩⟩⟩⟩:HP Int (HP Int (HP Int (HP Cr (HP Int (HP Int (HP Int (HP Int (HP (List Cell) (HP (List (List Cell)) (HP (List Cell) Unit))))))))))))))
   (some (.out ⟨c,⟨s5,⟨s6,⟨m,⟨s8,⟨s9,⟨x,⟨y,⟨s12,⟨s13,⟨po,()⟩⟩⟩⟩⟩⟩⟩⟩⟩⟩⟩))) (some (.go (st8 h hl hr s5 s6 m s8 s9 x y s12 s13 po (i+1)))))=if c∈atC m (x,y) then some (.out (fin8 h s5 s6 m s8 s9 x y s12 s13 po c)) else some (.go (st8 h hl hr s5 s6 m s8 s9 x y s12 s13 po (i+1))):=by
  intro c
  by_cases hc:c∈atC m (x,y)
  ·rw [br_t (decide_eq_true hc),if_pos hc]
   by_cases e:c=h
   ·rw [br_f (by rw [Jny];simp [e]),fin8,addP,if_neg (by simp [e])]
   ·rw [br_t (by rw [Jny];simpa using e),w_ln,w_pl,Jih (by omega) (by omega),w_ap,fin8,addP,if_pos e]
  ·rw [br_f (decide_eq_false hc),if_neg hc]
 unfold Kk
 dsimp only
 rw [e3]
 rcases hi with ⟨rfl,rfl⟩|⟨rfl,rfl⟩|⟨rfl,rfl⟩
 ·rw [Xw (by decide),br_t (by rfl)];exact (Jdt hm _).trans (tail _)
 ·rw [Xw (by decide),br_f (by rfl),br_t (by rfl)];exact (Jdt hm _).trans (tail _)
 ·rw [Xw (by decide),br_f (by rfl),br_f (by rfl),br_t (by rfl)];exact (Jdt hm _).trans (tail _)
theorem L8_end:@Kk wv a (st8 h hl hr s5 s6 m s8 s9 x y s12 s13 po 3)=some (.out (fin8 h s5 s6 m s8 s9 x y s12 s13 po h)):=by
 unfold Kk
 dsimp only
 rw [Kz (by decide),fin8,addP,if_neg (by simp)]
theorem L9_L8:@Jbd wv=@Kk wv:=rfl
theorem L8_ok (hm:(atC m (x,y)).length≤1000000000) (hp:po.length≤1000000000) :
  Xk (@Kk wv a) bigN (st8 h hl hr s5 s6 m s8 s9 x y s12 s13 po 0)=some (fin8 h s5 s6 m s8 s9 x y s12 s13 po (Jw5 (atC m (x,y)) hl h hr)):=by
 have b0:=Jtr a h hl hr s5 s6 m s8 s9 x y s12 s13 po hm hp (.inl ⟨rfl,rfl⟩)
 have b1:=Jtr a h hl hr s5 s6 m s8 s9 x y s12 s13 po hm hp (.inr (.inl ⟨rfl,rfl⟩))
 have b2:=Jtr a h hl hr s5 s6 m s8 s9 x y s12 s13 po hm hp (.inr (.inr ⟨rfl,rfl⟩))
 have b3:=L8_end a h hl hr s5 s6 m s8 s9 x y s12 s13 po
 unfold Jw5
 by_cases h0:hl∈atC m (x,y)
 ·rw [if_pos h0] at b0 ⊢
  exact Xa (st8 h hl hr s5 s6 m s8 s9 x y s12 s13 po) 0 (by decide) (fun i hi=>by omega) b0
 rw [if_neg h0] at b0 ⊢
 by_cases h1:h∈atC m (x,y)
 ·rw [if_pos h1] at b1 ⊢
  exact Xa (st8 h hl hr s5 s6 m s8 s9 x y s12 s13 po) 1 (by decide) (fun i hi=>by rw [show i=0 by omega];exact b0) b1
 rw [if_neg h1] at b1 ⊢
 by_cases h2:hr∈atC m (x,y)
 ·rw [if_pos h2] at b2 ⊢
  exact Xa (st8 h hl hr s5 s6 m s8 s9 x y s12 s13 po) 2 (by decide) (fun i hi=>by
   rcases (show i=0∨i=1 by omega) with rfl|rfl
   ·exact b0
   ·exact b1) b2
 rw [if_neg h2] at b2 ⊢
 exact Xa (st8 h hl hr s5 s6 m s8 s9 x y s12 s13 po) 3 (by decide) (fun i hi=>by
  rcases (show i=0∨i=1∨i=2 by omega) with rfl|rfl|rfl
  ·exact b0
  ·exact b1
  ·exact b2) b3
end
abbrev St7:=HP Int (HP Int (HP Int (HP Cr (HP Int (HP Int (HP Int (HP Int (HP (List Cell) (HP (List (List Cell)) (HP (List Cell) Unit))))))))))
abbrev Ou7:=HP Int (HP Int (HP Cr (HP (List Cell) (HP (List (List Cell)) (HP (List Cell) Unit)))))
abbrev st7 (h n i:Int) (m:Cr) (x0 y0 x y:Int) (cs:List Cell) (out:List (List Cell)) (po:List Cell):St7:=⟨h,⟨n,⟨i,⟨m,⟨x0,⟨y0,⟨x,⟨y,⟨cs,⟨out,⟨po,()⟩⟩⟩⟩⟩⟩⟩⟩⟩⟩⟩
abbrev ou7 (n i:Int) (m:Cr) (cs:List Cell) (out:List (List Cell)) (po:List Cell):Ou7:=⟨n,⟨i,⟨m,⟨cs,⟨out,⟨po,()⟩⟩⟩⟩⟩⟩
noncomputable def nx7 (h n i:Int) (m:Cr) (x0 y0:Int) (q:Cell) (cs:List Cell) (out:List (List Cell)) (po:List Cell):Nx St7 Ou7 :=
 if q=(x0,y0) then .out (ou7 n i m cs out po) else
  .go (st7 (Jw5 (atC m q) ((h+1) % 4) h ((h+3) % 4)) n i m x0 y0 q.1 q.2 cs out (addP po q h (Jw5 (atC m q) ((h+1) % 4) h ((h+3) % 4))))
theorem J24 (a:Reg) (h n i:Int) (m:Cr) (x0 y0 x y:Int) (cs:List Cell) (out:List (List Cell)) (po:List Cell) (hh:0≤h∧h≤3) (hs:Yr (x,y)) (hm:(atC m (Qa h (x,y))).length≤1000000000) (hp:po.length≤1000000000) :
  (@W.call wv (Nx St7 Ou7) J8 ((h,(x,y)):Int×(Int×Int)) fun (v:Int×Int) =>
   @W.br wv (Nx St7 Ou7) (@W.an wv (@W.cm wv .eql v.1 x0) (@W.cm wv .eql v.2 y0)) (some (.out (ou7 n i m cs out po)))
   (@W.call wv (Nx St7 Ou7) J5 (h:Int) fun (v20:Int)=>@W.call wv (Nx St7 Ou7) J1 (h:Int) fun (v21:Int) =>
    @W.loop wv _ _ (Nx St7 Ou7) (@Kk wv a) ⟨h,⟨v20,⟨h,⟨v21,⟨0,⟨n,⟨i,⟨m,⟨x0,⟨y0,⟨v.1,⟨v.2,⟨cs,⟨out,⟨po,()⟩⟩⟩⟩⟩⟩⟩⟩⟩⟩⟩⟩⟩⟩⟩ fun v25 =>
     some (.go ⟨v25.hd,⟨v25.tl.hd,⟨v25.tl.tl.hd,⟨v25.tl.tl.tl.hd,⟨v25.tl.tl.tl.tl.hd,⟨v25.tl.tl.tl.tl.tl.hd,⟨v25.tl.tl.tl.tl.tl.tl.hd,⟨v25.tl.tl.tl.tl.tl.tl.tl.hd,⟨v25.tl.tl.tl.tl.tl.tl.tl.tl.hd,⟨v25.tl.tl.tl.tl.tl.tl.tl.tl.tl.hd,⟨v25.tl.tl.tl.tl.tl.tl.tl.tl.tl.tl.hd,()⟩⟩⟩⟩⟩⟩⟩⟩⟩⟩⟩))) =
   some (nx7 h n i m x0 y0 (Qa h (x,y)) cs out po):=by
 rw [k_from hs]
 generalize Qa h (x,y)=q at *
 obtain ⟨qx,qy⟩:=q
 unfold nx7
 by_cases e:(qx,qy)=(x0,y0)
 ·rw [if_pos e,br_t (by rw [w_an,Yt,Yt];injection e with e1 e2;simp [e1,e2])]
 ·rw [if_neg e,br_f (by
   rw [w_an,Yt,Yt,Bool.and_eq_false_iff,beq_eq_false_iff_ne,beq_eq_false_iff_ne]
   by_cases e1:qx=x0
   ·exact .inr fun e2=>e (by dsimp only at e2;rw [e1,e2])
   ·exact .inl e1),k_left hh.1 hh.2,k_right hh.1 hh.2]
  refine (lo_s (L8_ok a h ((h+1) % 4) ((h+3) % 4) n i m x0 y0 qx qy cs out po hm hp)).trans ?_
  rfl
theorem Jv9 {m:Cr} {T:Cell→Int→Prop} (h:MapOK m T) (hT:∀p x,T p x→x=0∨x=1∨x=2∨x=3) (p:Cell):(atC m p).length≤4 :=
 zy (m:=[0,1,2,3]) (h.one p) fun x hx=>by rcases hT p x ((h.mem p x).1 hx) with rfl|rfl|rfl|rfl<;>simp
theorem L7_step (a:Reg) (h n i:Int) (m:Cr) (x0 y0 x y:Int) (cs:List Cell) (out:List (List Cell)) (po:List Cell) {T:Cell→Int→Prop} (hM:MapOK m T) (hT:∀p x,T p x→x=0∨x=1∨x=2∨x=3) (hx:T (x,y) h)
  (hs:Yr (x,y)) (hp:po.length≤1000000000) :
  ∃m',MapOK m' (fun q z=>T q z∧¬(q=(x,y)∧z=h))∧@Kv wv a (st7 h n i m x0 y0 x y cs out po)=some (nx7 h n i m' x0 y0 (Qa h (x,y)) cs out po):=by
 have hh:0≤h∧h≤3:=by have:=hT _ _ hx;omega
 have h4:=Jv9 hM hT (x,y)
 obtain ⟨e,he,hq⟩:=J2p (l:=atC m (x,y)) h (by omega)
 have hin:h∈atC m (x,y):=(hM.mem _ _).2 hx
 rcases hq with ⟨_,hn⟩|⟨j,hj,rfl⟩
 ·exact (hn hin).elim
 have hjl:=(Ab.1 hj).1
 have em:@W.mg wv (.p I I) (.ls I) m (x,y) []=atC m (x,y):=Jy8 m (x,y)
 have ed:@W.md wv (.p I I) (.ls I) m (x,y)=delC m (x,y):=md_del m (x,y)
 by_cases h1:(atC m (x,y)).length=1
 ·have hl:atC m (x,y)=[h]:=by
   obtain ⟨z,hz⟩:=List.length_eq_one_iff.1 h1
   rw [hz] at hin ⊢
   rw [Ad.1 hin]
  have hM':=hM.del hl
  refine ⟨_,hM',?_⟩
  have h5:=Jv9 hM' (fun p x h=>hT p x h.1) (Qa h (x,y))
  unfold Kv
  dsimp only
  rw [em,he,Kz (by omega),br_t (by show (((atC m (x,y)).length:Int)==1)=true;rw [h1];rfl),ed]
  exact J24 a h n i (delC m (x,y)) x0 y0 x y cs out po hh hs (by omega) hp
 ·have hM':=hM.cut hj h1
  refine ⟨_,hM',?_⟩
  have h5:=Jv9 hM' (fun p x h=>hT p x h.1) (Qa h (x,y))
  unfold Kv
  dsimp only
  have e3:@W.ar wv .add .i64 (j:Int) 1=((j+1:Nat):Int):=by rw [K4,wr (by omega) (by omega)];omega
  have ec:(atC m (x,y)).take (j:Int).toNat++((atC m (x,y)).drop ((j+1:Nat):Int).toNat).take (((atC m (x,y)).length:Int) - ((j+1:Nat):Int)).toNat=(atC m (x,y)).take j++(atC m (x,y)).drop (j+1):=by
   congr 1
   rw [Int.toNat_natCast,List.take_of_length_le (by rw [List.length_drop];omega)]
  have es:@W.ms wv (.p I I) (.ls I) m (x,y) (@W.ap wv I.T (@W.ct wv I.T (atC m (x,y)) 0 (j:Int)) (@W.ct wv I.T (atC m (x,y)) (@W.ar wv .add .i64 (j:Int) 1) (@W.mi wv (@W.ln wv I.T (atC m (x,y))) (@W.ar wv .add .i64 (j:Int) 1))))=putC m (x,y) ((atC m (x,y)).take j++(atC m (x,y)).drop (j+1)):=by
   rw [e3,←ec]
   exact ms_put m (x,y) _
  rw [em,he,Kz (by omega),br_f (by show (((atC m (x,y)).length:Int)==1)=false;rw [beq_eq_false_iff_ne];omega),es]
  refine (fitB (n:=((atC m (x,y)).length:Int)) (by omega) (by omega) (by decide)).trans ?_
  refine (gd_t (show ((decide (0≤(j:Int)∧(j:Int)<(atC m (x,y)).length))&&((decide ((j:Int)+1≤@W.ar wv .add .i64 (j:Int) 1))&&(decide (@W.ar wv .add .i64 (j:Int) 1≤((atC m (x,y)).length:Int)))))=true by
   rw [e3];simp only [Bool.and_eq_true,decide_eq_true_eq];omega)).trans ?_
  rw [L9_L8]
  exact J24 a h n i _ x0 y0 x y cs out po hh hs (by omega) hp
theorem pick_nxt {m:Cr} {T:Cell→Int→Prop} (hM:MapOK m T) {r:Reg} (hT:∀p x,T p x→Crk r p x) {p:Cell} {x:Int} (hn:T (Qa x p) (nxtH r p x)) :
  Jw5 (atC m (Qa x p)) ((x+1) % 4) x ((x+3) % 4)=nxtH r p x:=by
 unfold Jw5
 have hmem:∀y,y∈atC m (Qa x p)→Crk r (Qa x p) y:=fun y hy=>hT _ _ ((hM.mem _ _).1 hy)
 have hin:=(hM.mem _ _).2 hn
 unfold nxtH at hin ⊢
 dsimp only at hin ⊢
 by_cases h1:Crk r (Qa x p) ((x+1) % 4)
 ·rw [if_pos h1] at hin ⊢
  rw [if_pos hin]
 ·rw [if_neg h1] at hin ⊢
  rw [if_neg fun h=>h1 (hmem _ h)]
  by_cases h2:Crk r (Qa x p) x
  ·rw [if_pos h2] at hin ⊢
   rw [if_pos hin]
  ·rw [if_neg h2] at hin ⊢
   rw [if_neg fun h=>h2 (hmem _ h),if_pos hin]
theorem Jbe {r:Reg} (hr:RegOK r) {p:Cell} {x:Int} (h:Crk r p x):Yr p:=by
 have:=hr.bd (J0h h)
 unfold Kd at this
 unfold Yr
 rcases h.hd with rfl|rfl|rfl|rfl<;>simp at this<;>omega
theorem seg_len (r:Reg) (s:Ck) (a n:Nat):(seg r s a n).length≤n:=by
 have:=List.length_filterMap_le (fun i=>jx r s (a+i)) (Ae n)
 rw [Ai] at this
 exact this
theorem L7_ok (a r:Reg) (hr:RegOK r) (hcks:(cks r).length≤1000000) {S:Ck→Prop} (hS:Closed r S) {m:Cr} (hM:MapOK m fun p x=>S (p,x)) {s:Ck} (hs:S s) (hl:Least r s) (n i:Int) (cs:List Cell) (out:List (List Cell)) :
  ∃m',Xk (@Kv wv a) bigN (st7 s.2 n i m s.1.1 s.1.2 s.1.1 s.1.2 cs out [s.1])=some (ou7 n i m' cs out (pol r s))∧MapOK m' (fun p x=>S (p,x)∧¬ ∃k,(p,x)=itr (nx r) k s):=by
 have hN:=Jbu hl.1
 have hle:=Jpq hl.1
 have hp:=hN.pos
 unfold pol
 generalize perN r s=N at *
 obtain ⟨M,rfl⟩:∃M,N=M+1:=⟨N - 1,by omega⟩
 have hmem:=hl.mem
 have step:∀k,k<M+1→∀m,MapOK m (fun p x=>S (p,x)∧¬ ∃j,j<k∧(p,x)=itr (nx r) j s) →
   ∃m',MapOK m' (fun p x=>S (p,x)∧¬ ∃j,j<k+1∧(p,x)=itr (nx r) j s) ∧
    @Kv wv a (st7 (hdK r s k) n i m s.1.1 s.1.2 (ptK r s k).1 (ptK r s k).2 cs out (s.1::seg r s 0 k))=some (nx7 (hdK r s k) n i m' s.1.1 s.1.2 (ptK r s (k+1)) cs out (s.1::seg r s 0 k)):=by
  intro k hk m hm
  have hSk:S (ptK r s k,hdK r s k):=hS.itr hs k
  obtain ⟨m',h1,h2⟩:=L7_step a (hdK r s k) n i m s.1.1 s.1.2 (ptK r s k).1 (ptK r s k).2 cs out (s.1::seg r s 0 k) hm (fun p x h=>(hS.1 _ h.1).hd) ⟨hSk,fun ⟨j,hj,e⟩=>by
    have:=(ring r).dist hmem hN (i:=j) (j:=k) (by omega) hk e.symm
    omega⟩ (Jbe hr (hS.1 _ hSk)) (by have:=seg_len r s 0 k;rw [As];omega)
  refine ⟨m',h1.congr fun p x=>?_,h2⟩
  constructor
  ·rintro ⟨⟨g1,g2⟩,g3⟩
   refine ⟨g1,fun ⟨j,hj,e⟩=>?_⟩
   by_cases hjk:j=k
   ·subst hjk
    exact g3 ⟨congrArg Prod.fst e,congrArg Prod.snd e⟩
   ·exact g2 ⟨j,by omega,e⟩
  ·rintro ⟨g1,g2⟩
   refine ⟨⟨g1,fun ⟨j,hj,e⟩=>g2 ⟨j,by omega,e⟩⟩,fun ⟨e1,e2⟩=>g2 ⟨k,by omega,?_⟩⟩
   rw [e1,e2];rfl
 obtain ⟨e,he,m',rfl,h⟩:=Zm (b:=@Kv wv a)
  (fun k st=>∃m,st=st7 (hdK r s k) n i m s.1.1 s.1.2 (ptK r s k).1 (ptK r s k).2 cs out (s.1::seg r s 0 k)∧MapOK m (fun p x=>S (p,x)∧¬ ∃j,j<k∧(p,x)=itr (nx r) j s))
  (fun e=>∃m,e=ou7 n i m cs out (poly r s (M+1))∧MapOK m (fun p x=>S (p,x)∧¬ ∃k,(p,x)=itr (nx r) k s))
  M (by omega) (s0:=st7 s.2 n i m s.1.1 s.1.2 s.1.1 s.1.2 cs out [s.1])
  ⟨m,rfl,hM.congr fun p x=>⟨fun h=>⟨h,fun ⟨j,hj,_⟩=>by omega⟩,And.left⟩⟩
  (fun k st hk=>by
   rintro ⟨m1,rfl,h1⟩
   obtain ⟨m2,h2,h3⟩:=step k (by omega) m1 h1
   have hne:ptK r s (k+1)≠s.1:=hl.ne hN (k:=k+1) (by omega) (by omega)
   have hnx:(fun p x=>S (p,x)∧¬ ∃j,j<k+1∧(p,x)=itr (nx r) j s) (Qa (hdK r s k) (ptK r s k)) (nxtH r (ptK r s k) (hdK r s k)):=⟨hS.itr hs (k+1),fun ⟨j,hj,e⟩=>by
    have:=(ring r).dist hmem hN (i:=j) (j:=k+1) (by omega) (by omega) e.symm
    omega⟩
   have hpk:=pick_nxt h2 (r:=r) (fun p x h=>hS.1 _ h.1) hnx
   refine ⟨_,h3.trans ?_,m2,rfl,h2⟩
   unfold nx7
   rw [if_neg hne,Ji0,hpk]
   have e1:nxtH r (ptK r s k) (hdK r s k)=hdK r s (k+1):=rfl
   rw [e1,←Ji0]
   congr 3
   rw [Jir,Nat.zero_add]
   unfold addP
   by_cases e:hdK r s (k+1)=hdK r s k
   ·have:jx r s k=none:=if_pos e
    rw [if_neg (by simpa using e),this];simp
   ·have:jx r s k=some (ptK r s (k+1)):=if_neg e
    rw [if_pos e,this];rfl)
  (by
   rintro st ⟨m1,rfl,h1⟩
   obtain ⟨m2,h2,h3⟩:=step M (by omega) m1 h1
   have hb:ptK r s (M+1)=s.1:=congrArg Prod.fst hN.back
   refine ⟨_,h3.trans ?_,m2,rfl,h2.congr fun p x=>⟨fun ⟨g1,g2⟩=>⟨g1,fun ⟨k,e⟩=>?_⟩,fun ⟨g1,g2⟩=>⟨g1,fun ⟨j,_,e⟩=>g2 ⟨j,e⟩⟩⟩⟩
   ·unfold nx7
    rw [hb,if_pos rfl]
    rfl
   ·obtain ⟨j,hj,e'⟩:=hN.modN k
    exact g2 ⟨j,hj,e.trans e'⟩)
 exact ⟨m',he,h⟩
theorem Least.same {r:Reg} {s t:Ck} (h:Least r s) (h':Least r t) {k:Nat} (e:t=itr (nx r) k s):t=s:=by
 obtain ⟨j,hj⟩:=(Jbu h.1).to s k
 rw [←e] at hj
 have h1:=h.2 k
 have h2:=h'.2 j
 rw [←e] at h1
 rw [hj] at h2
 rcases J1j s.1 t.1 with q|q|q
 ·exact (h2 q).elim
 ·exact h.uniq h' q.symm
 ·exact (h1 q).elim
abbrev st6 (n:Int) (i:Nat) (m:Cr) (cs:List Cell) (out:List (List Cell)):HP Int (HP Int (HP Cr (HP (List Cell) (HP (List (List Cell)) Unit)))):=⟨n,⟨(i:Int),⟨m,⟨cs,⟨out,()⟩⟩⟩⟩⟩
structure Inv6 (r:Reg) (cs:List Cell) (i:Nat) (m:Cr) (out:List (List Cell)):Prop where
 ex:∃(S:Ck→Prop) (ls:List Ck),Closed r S∧MapOK m (fun p x=>S (p,x))∧(∀c,S c→∃j,i≤j∧cs[j]?=some c.1)∧out=ls.map (pol r) ∧
  ls.Pairwise (fun a b=>yx a.1 b.1)∧(∀s∈ls,Least r s∧∃j,j<i∧cs[j]?=some s.1)∧∀s,Least r s→s∈ls∨S s
theorem cs_lt {cs:List Cell} (h:cs.Pairwise yx) {i j:Nat} {a b:Cell} (ha:cs[i]?=some a) (hb:cs[j]?=some b) (hij:i<j):yx a b:=by
 obtain ⟨p1,e1⟩:=Ab.1 ha
 obtain ⟨p2,e2⟩:=Ab.1 hb
 rw [←e1,←e2]
 exact Aj.1 h i j p1 p2 hij
theorem L6_step (a r:Reg) (hr:RegOK r) (hcks:(cks r).length≤1000000) {cs:List Cell} (hcs:cs.Pairwise yx) (hlen:cs.length≤1000000000) {i:Nat} (hi:i<cs.length) {m:Cr} {out:List (List Cell)} (h:Inv6 r cs i m out) :
  ∃m' out',@Kw wv a (st6 cs.length i m cs out)=some (.go (st6 cs.length (i+1) m' cs out'))∧Inv6 r cs (i+1) m' out':=by
 obtain ⟨S,ls,hS,hM,hc,rfl,hpw,hls,hall⟩:=h.ex
 have hp:cs[i]?=some cs[i]:=Ac hi
 generalize cs[i]=p at hp
 have h4:=Jv9 hM (fun p x h=>(hS.1 _ h).hd) p
 have e3:@W.ar wv .add .i64 (i:Int) 1=((i+1:Nat):Int):=by rw [K4,wr (by omega) (by omega)];omega
 have em:@W.mg wv (.p I I) (.ls I) m (p.1,p.2) []=atC m p:=Jy8 m p
 cases hat:atC m p with
 | nil =>
  refine ⟨m,_,?_,⟨S,ls,hS,hM,fun c hSc=>?_,rfl,hpw,fun s hs=>⟨(hls s hs).1,?_⟩,hall⟩⟩
  ·unfold Kw
   dsimp only
   rw [Xw (by omega),Jkf (by rw [w_ln];omega),ge_s (fg hp)]
   rw [em,hat,br_f (by rfl),e3]
  ·obtain ⟨j,hj,e⟩:=hc c hSc
   refine ⟨j,?_,e⟩
   by_cases hji:j=i
   ·subst hji
    rw [hp] at e
    injection e with e
    have:=(hM.mem c.1 c.2).2 hSc
    rw [←e,hat] at this
    cases this
   ·omega
  ·obtain ⟨j,hj,e⟩:=(hls s hs).2
   exact ⟨j,by omega,e⟩
 | cons x l =>
  have hSp:S (p,x):=(hM.mem p x).1 (by rw [hat];exact List.mem_cons_self ..)
  have hge:∀c,S c→¬yx c.1 p:=fun c hSc hlt=>by
   obtain ⟨j,hj,e⟩:=hc c hSc
   rcases Nat.lt_or_eq_of_le hj with q|q
   ·exact Jwi (cs_lt hcs hp e q) hlt
   ·subst q;rw [hp] at e;injection e with e;rw [e] at hlt;exact Jb8 _ hlt
  have hl:Least r (p,x):=⟨hS.1 _ hSp,fun k=>hge _ (hS.itr hSp k)⟩
  have hlsn:ls.length≤1000000:=by
   have hnd:ls.Nodup:=hpw.imp fun {a b} (h:yx a.1 b.1) (e:a=b)=>Jb8 a.1 (by subst e;exact h)
   have:(ls.length:Nat)≤(cks r).length:=zy hnd fun s hs=>(hls s hs).1.mem
   omega
  obtain ⟨m',hw,hM'⟩:=L7_ok a r hr hcks hS hM hSp hl (cs.length:Int) (i:Int) cs (ls.map (pol r))
  refine ⟨m',_,?_,⟨_,ls++[(p,x)],hS.sub hl.1,hM',fun c hSc=>?_,rfl,?_,fun s hs=>?_,fun t ht=>?_⟩⟩
  ·unfold Kw
   dsimp only
   rw [Xw (by omega),Jkf (by rw [w_ln];omega),ge_s (fg hp)]
   rw [em,hat,br_t (by show decide (((x::l).length:Int) > 0)=true;rw [As];exact decide_eq_true (by omega))]
   refine (ge_s (x:=x) rfl).trans ((lo_s hw).trans ?_)
   dsimp only
   rw [w_ln,w_pl,Aa,fitB (by omega) (by omega) (by decide),e3,w_ap,Ap]
   rfl
  ·obtain ⟨j,hj,e⟩:=hc c hSc.1
   refine ⟨j,?_,e⟩
   by_cases hji:j=i
   ·subst hji
    rw [hp] at e
    injection e with e
    refine (hSc.2 ⟨0,?_⟩).elim
    exact hl.only (hS.1 _ hSc.1) e.symm (hge _ (hS.2 _ hSc.1))
   ·omega
  ·refine List.pairwise_append.2 ⟨hpw,Am _ _,fun a ha b hb=>?_⟩
   rw [Ad] at hb
   subst hb
   obtain ⟨j,hj,e⟩:=(hls a ha).2
   exact cs_lt hcs e hp hj
  ·rcases Aw.1 hs with hs|hs
   ·obtain ⟨j,hj,e⟩:=(hls s hs).2
    exact ⟨(hls s hs).1,j,by omega,e⟩
   ·rw [Ad] at hs
    subst hs
    exact ⟨hl,i,by omega,hp⟩
  ·rcases hall t ht with q|q
   ·exact .inl (Aw.2 (.inl q))
   ·by_cases hk:∃k,t=itr (nx r) k (p,x)
    ·obtain ⟨k,e⟩:=hk
     exact .inl (Aw.2 (.inr (Ad.2 (hl.same ht e))))
    ·exact .inr ⟨q,hk⟩
open Classical in
noncomputable def Xj (r:Reg):List Ck:=if h:∃l,Starts r l then h.choose else []
theorem Jkb {r:Reg} {l:List Ck} (h:Starts r l):Xj r=l:=by
 have hx:∃l,Starts r l:=⟨l,h⟩
 unfold Xj
 rw [dif_pos hx]
 exact hx.choose_spec.uniq h
theorem L6_ok (a r:Reg) (hr:RegOK r) (hcks:(cks r).length≤1000000) {cs:List Cell} (hcs:cs.Pairwise yx) (hlen:cs.length≤1000000000) {m:Cr} (hM:MapOK m fun p x=>Crk r p x) (hmem:∀p,p∈cs↔∃x,Crk r p x) :
  Starts r (Xj r)∧Xk (@Kw wv a) bigN (st6 cs.length 0 m cs [])=some ⟨(Xj r).map (pol r),()⟩:=by
 obtain ⟨e,he,hQ⟩:=Zm (b:=@Kw wv a)
  (fun i s=>∃m out,s=st6 cs.length i m cs out∧Inv6 r cs i m out)
  (fun e=>∃ls,Starts r ls∧e=⟨ls.map (pol r),()⟩) cs.length (by omega) (s0:=st6 cs.length 0 m cs [])
  ⟨m,[],rfl,⟨fun c=>Crk r c.1 c.2,[],⟨fun c h=>h,fun c h=>Jy7 h⟩,hM,fun c h=>by
   obtain ⟨j,hj⟩:=List.getElem?_of_mem ((hmem c.1).2 ⟨_,h⟩)
   exact ⟨j,Nat.zero_le _,hj⟩,rfl,.nil,fun s hs=>(List.not_mem_nil hs).elim,fun s hs=>.inr hs.1⟩⟩
  (fun i s hi=>by
   rintro ⟨m,out,rfl,h⟩
   obtain ⟨m',out',h1,h2⟩:=L6_step a r hr hcks hcs hlen hi h
   exact ⟨_,h1,m',out',rfl,h2⟩)
  (by
   rintro s ⟨m,out,rfl,h⟩
   obtain ⟨S,ls,hS,hM,hc,rfl,hpw,hls,hall⟩:=h.ex
   refine ⟨_,?_,ls,⟨hpw,fun c=>⟨fun h=>(hls c h).1,fun h=>(hall c h).elim id fun q=>?_⟩⟩,rfl⟩
   ·unfold Kw
    dsimp only
    rw [Kz (by omega)]
   ·obtain ⟨j,hj,e⟩:=hc c q
    have:=(Ab.1 e).1
    omega)
 obtain ⟨ls,h1,rfl⟩:=hQ
 rw [Jkb h1]
 exact ⟨h1,he⟩
theorem Jwy {l:List Cell} (hnd:l.Nodup) (h:l.Pairwise fun a b=>Go.Proofs.ltOf cmpB b a=false) (hok:∀x∈l,okB x=true):l.Pairwise yx:=by
 refine (List.Pairwise.and hnd h).imp_of_mem fun {a b} ha hb ⟨hne,hlt⟩=>?_
 have h1:¬cmpB b a<0:=by simpa [Go.Proofs.ltOf] using hlt
 rw [Jd4 (hok b hb) (hok a ha)] at h1
 rcases J1j a b with q|q|q
 ·exact q
 ·exact (hne q).elim
 ·exact (h1 q).elim
theorem Jh4 (p:List Cell) (hlen:p.length≤1000000) (hok:∀x∈p,okB x=true):∃q:List Cell,Je7 (t:=.p I I) cmpB okB eqB zB p=some q∧q.Perm p∧q.Pairwise fun a b=>Go.Proofs.ltOf cmpB b a=false :=
 Jqi (t:=.p I I) swoB (eq:=eqB) (d0:=zB) (l:=p) (show p.length<_ by omega) hok
open Classical in
theorem Jpf (r:Reg) (hl:LimR r) (hcks:RegOK r→(cks r).length≤1000000):@Zj wv r=some (if RegOK r then (Xj r).map (pol r) else [])∧(RegOK r→Starts r (Xj r)):=by
 unfold Zj
 rw [Ze hl]
 by_cases hr:RegOK r
 case neg=>exact ⟨by rw [br_t (by simp [w_nt,hr]),if_neg hr],fun h=>(hr h).elim⟩
 rw [br_f (by simp [w_nt,hr]),if_pos hr]
 have hcks:=hcks hr
 obtain ⟨m,he,hM0⟩:=Jx1 r r hr hl.1
 have hM:MapOK m fun p x=>Crk r p x:=hM0.congr fun p x=>crk_iff hr p x
 have hkey:∀p,p∈m.map (·.1)↔∃x,Crk r p x:=fun p=>hM.key p
 have hlen:m.length≤1000000:=by
  have:(m.map (·.1)).length≤((cks r).map (·.1)).length:=zy hM.nd fun p hp=>by
   obtain ⟨x,hx⟩:=(hkey p).1 hp
   exact Ah.2 ⟨(p,x),je.2 hx,rfl⟩
  rw [Aa,Aa] at this
  omega
 have hokB:∀p,p∈m.map (·.1)→okB p=true:=fun p hp=>by
  obtain ⟨x,hx⟩:=(hkey p).1 hp
  have:=Jbe hr hx
  unfold Yr at this
  unfold okB
  exact decide_eq_true (by omega)
 have hst:∃l,Starts r l:=by
  obtain ⟨q,h1,h2,h3⟩:=Jh4 (m.map (·.1)) (by rw [Aa];omega) hokB
  exact ⟨_,(L6_ok r r hr hcks (cs:=q) (Jwy (h2.nodup_iff.2 hM.nd) h3 fun x hx=>hokB x (h2.mem_iff.1 hx)) (by rw [h2.length_eq,Aa];omega) hM fun p=>(h2.mem_iff).trans (hkey p)).1⟩
 refine ⟨?_,fun _=>by obtain ⟨l,h⟩:=hst;rw [Jkb h];exact h⟩
 rw [w_ln]
 refine (lo_s he).trans ?_
 dsimp only
 rw [w_ln,Jih (by omega) (by omega)]
 refine J25 fun p0 hp=>?_
 obtain ⟨p,rfl⟩:∃p:List Cell,p=p0:=⟨p0,rfl⟩
 have hp:List.Perm (α:=Cell) p (m.map (·.1)):=hp
 obtain ⟨q,h1,h2,h3⟩:=Jh4 p (by rw [hp.length_eq,Aa];omega) fun x hx=>hokB x (hp.mem_iff.1 hx)
 have h2':q.Perm (m.map (·.1)):=h2.trans hp
 have hL6:=(L6_ok r r hr hcks (cs:=q) (Jwy (h2'.nodup_iff.2 hM.nd) h3 fun x hx=>hokB x (h2'.mem_iff.1 hx)) (by rw [h2'.length_eq,Aa];omega) hM fun p=>(h2'.mem_iff).trans (hkey p)).2
 refine (ca_s (c:=Jm7) h1).trans ?_
 rw [w_ln]
 exact (lo_s hL6).trans rfl
open Classical in
theorem k_Trace {α:Type} {r:Reg} (hl:LimR r) (hcks:RegOK r→(cks r).length≤1000000) (k:List (List (Int×Int))→Option α):@W.call wv α Xf r k=k (if RegOK r then (Xj r).map (pol r) else []):=ca_s (c:=Xf) (Jpf r hl hcks).1
def enc (c:Ck):Cell×Cell:=(c.1,Qa c.2 c.1)
abbrev St22:=HP (List (Int×Int)) (HP Int (HP Reg (HP (List (Cell×Cell)) Unit)))
abbrev Ou22:=HP (List (Cell×Cell)) Unit
noncomputable def side (r:Reg) (c:Cell) (e:Cell×Cell) (K:List (Cell×Cell)→Option (Nx St22 Ou22)) (o:List (Cell×Cell)):Option (Nx St22 Ou22) :=
 @W.call wv (Nx St22 Ou22) Jce ((r,c):Reg×(Int×Int)) fun v =>
  @W.br wv (Nx St22 Ou22) (@W.nt wv v) (@W.gd wv (Nx St22 Ou22) (@W.ft wv 32 (@W.pl wv (@W.ln wv (Cell×Cell) o) 1)) (K (@W.ap wv (Cell×Cell) o (e::[])))) (K o)
instance (a b:Cell):Decidable (yx a b):=inferInstanceAs (Decidable (_∨_))
theorem Jjh {r:Reg} {c:Cell} {k:Ck} (h:k∈Jh8 r c):Kd k.1 k.2=c:=by
 rcases Jaw.1 h with ⟨_,rfl⟩|⟨_,rfl⟩|⟨_,rfl⟩|⟨_,rfl⟩<;>simp [Kd]
theorem Jsl (r:Reg) (c:Cell):(Jh8 r c).Nodup:=by
 classical
 unfold Jh8
 split<;>split<;>split<;>split<;>simp
theorem Jzu {r:Reg} (h:RegOK r):(cks r).Nodup:=by
 refine List.pairwise_flatMap.2 ⟨fun c _=>Jsl r c,h.cells_pw.imp fun {a b} hab x hx y hy e=>?_⟩
 rw [e] at hx
 have:=(Jjh hx).symm.trans (Jjh hy)
 subst this
 exact Jb8 _ hab
theorem J1f {α:Type} {l:List α} (h:l.Nodup) {i j:Nat} {x:α} (hi:l[i]?=some x) (hj:l[j]?=some x):i=j:=by
 obtain ⟨p1,e1⟩:=Ab.1 hi
 obtain ⟨p2,e2⟩:=Ab.1 hj
 rcases Nat.lt_trichotomy i j with q|q|q
 ·exact (Aj.1 h i j p1 p2 q (by rw [e1,e2])).elim
 ·exact q
 ·exact (Aj.1 h j i p2 p1 q (by rw [e1,e2])).elim
theorem no_back {r:Reg} {p:Cell} {x:Int} (h:Crk r p x):¬Crk r (Qa x p) ((x+2) % 4):=by
 obtain ⟨p1,p2⟩:=p
 rcases h with ⟨rfl,h3,h4⟩|⟨rfl,h3,h4⟩|⟨rfl,h3,h4⟩|⟨rfl,h3,h4⟩<;>simp [Qa,Crk] at *<;>grind
theorem rule {r:Reg} {c:Ck} (hc:Crk r c.1 c.2) {y:Int} (hy:Crk r (Qa c.2 c.1) y) (hl:y=(c.2+1) % 4∨¬Crk r (Qa c.2 c.1) ((c.2+1) % 4)):(Qa c.2 c.1,y)=nx r c:=by
 unfold nx
 refine Prod.ext rfl ?_
 show y=nxtH r c.1 c.2
 unfold nxtH
 dsimp only
 by_cases h1:Crk r (Qa c.2 c.1) ((c.2+1) % 4)
 ·rw [if_pos h1]
  exact hl.elim id fun h=>(h h1).elim
 ·rw [if_neg h1]
  have hne:y≠(c.2+1) % 4:=fun e=>h1 (e▸hy)
  have hb:=no_back hc
  have hne2:y≠(c.2+2) % 4:=fun e=>hb (e▸hy)
  have hd:=hy.hd
  have hx:=hc.hd
  by_cases h2:Crk r (Qa c.2 c.1) c.2
  ·rw [if_pos h2]
   apply Classical.byContradiction
   intro hne3
   have:=h2.opp hy (fun e=>hne3 e.symm)
   omega
  ·rw [if_neg h2]
   have hne3:y≠c.2:=fun e=>h2 (e▸hy)
   omega
theorem le_t {α:Type} {a b:Int} {x:Option α} (h:a≤b):@W.gd wv α (@W.le wv a b) x=x:=gd_t (by rw [w_le];exact decide_eq_true h)
noncomputable def ringL (r:Reg) (c:Ck) (n:Nat):List (Cell×Cell):=(Ae n).map fun k=>enc (itr (nx r) k c)
structure Marks (r:Reg) (done:List Bool) (D:Ck→Prop):Prop where
 len:done.length=(cks r).length
 at_:∀(j:Nat) (c:Ck),(cks r)[j]?=some c→(done[j]?=some true↔D c)
theorem Marks.get {r:Reg} {done:List Bool} {D:Ck→Prop} (h:Marks r done D) {j:Nat} {c:Ck} (hj:(cks r)[j]?=some c):∃b,done[j]?=some b∧(b=true↔D c):=by
 have hlt:=(Ab.1 hj).1
 have hb:=Ac (l:=done) (i:=j) (by rw [h.len];exact hlt)
 refine ⟨done[j]'(by rw [h.len];exact hlt),hb,?_⟩
 rw [←h.at_ j c hj,hb]
 simp
theorem Marks.set {r:Reg} (hr:RegOK r) {done:List Bool} {D:Ck→Prop} (h:Marks r done D) {j:Nat} {c:Ck} (hj:(cks r)[j]?=some c):Marks r (done.set j true) fun d=>D d∨d=c:=by
 refine ⟨by rw [List.length_set,h.len],fun i d hi=>?_⟩
 have hlt:=(Ab.1 hi).1
 rw [List.getElem?_set]
 by_cases e:j=i
 ·subst e
  rw [if_pos rfl,if_pos (by rw [h.len];exact hlt)]
  rw [hj] at hi;injection hi with hi
  exact ⟨fun _=>.inr hi.symm,fun _=>rfl⟩
 ·rw [if_neg e,h.at_ i d hi]
  refine ⟨.inl,fun q=>q.elim id fun q=>?_⟩
  subst q
  exact (e (J1f (Jzu hr) hj hi)).elim
theorem Closed.add {r:Reg} {D:Ck→Prop} (h:Closed r D) {c:Ck} (hc:Crk r c.1 c.2):Closed r fun d=>D d∨∃k,d=Go.Proofs.YtmfagdfkpjgeiaaGreat.itr (nx r) k c:=by
 refine ⟨fun d hd=>hd.elim (h.1 d) fun ⟨k,e⟩=>by rw [e];exact Yk hc k,fun d hd=>hd.imp (h.2 d) fun ⟨k,e⟩=>⟨k+1,by rw [e];rfl⟩⟩
def hd4 (h:Int):Prop:=h=0∨h=1∨h=2∨h=3
theorem br_gt {α:Type} {a b:Int} {x y:Option α} (h:a > b):@W.br wv α (@W.cm wv .gtr a b) x y=x:=br_t (by rw [Jan];exact decide_eq_true h)
theorem J1n {α:Type} {a b:Int} {x y:Option α} (h:¬a > b):@W.br wv α (@W.cm wv .gtr a b) x y=y:=br_f (by rw [Jan];exact decide_eq_false h)
theorem sign_ok (a:Int):@Zw wv a=some (if a > 0 then 1 else if a<0 then -1 else 0):=by
 unfold Zw
 by_cases h:a > 0
 ·rw [br_gt h,if_pos h]
 ·rw [J1n h,if_neg h]
  by_cases h2:a<0
  ·rw [Xw h2,if_pos h2]
  ·rw [Kz h2,if_neg h2]
theorem k_sign {α:Type} (a:Int) (k:Int→Option α):@W.call wv α Q7 (a:Int) k=k (if a > 0 then 1 else if a<0 then -1 else 0):=ca_s (c:=Q7) (sign_ok a)
theorem Jj4 (p:Cell) {h:Int} (hh:hd4 h) (n:Nat):(h=0∧(fwd p h n).1=p.1+n∧(fwd p h n).2=p.2)∨(h=1∧(fwd p h n).1=p.1∧(fwd p h n).2=p.2+n)∨(h=2∧(fwd p h n).1=p.1 - n∧(fwd p h n).2=p.2)∨(h=3∧(fwd p h n).1=p.1∧(fwd p h n).2=p.2 - n):=by
 unfold fwd dirH
 rcases hh with rfl|rfl|rfl|rfl<;>simp<;>omega
theorem Jh7 {p:Cell} {h:Int} (hh:hd4 h) {n:Nat} (hn:0<n) (h1:Yr p) (h2:Yr (fwd p h n)):@Xz wv (p,fwd p h n)=some (dirH h):=by
 have hf:=Jj4 p hh n
 generalize fwd p h n=q at *
 unfold Yr at h1 h2
 have e1:@W.ar wv .sub .i64 q.1 p.1=q.1 - p.1:=by rw [zg,wr (by omega) (by omega)]
 have e2:@W.ar wv .sub .i64 q.2 p.2=q.2 - p.2:=by rw [zg,wr (by omega) (by omega)]
 unfold Xz
 dsimp only
 rw [e1,e2,k_sign,k_sign]
 refine congrArg some ?_
 rcases hf with ⟨rfl,f1,f2⟩|⟨rfl,f1,f2⟩|⟨rfl,f1,f2⟩|⟨rfl,f1,f2⟩
 ·rw [if_pos (by omega),if_neg (by omega),if_neg (by omega)];rfl
 ·rw [if_neg (by omega),if_neg (by omega),if_pos (by omega)];rfl
 ·rw [if_neg (by omega),if_pos (by omega),if_neg (by omega),if_neg (by omega)];rfl
 ·rw [if_neg (by omega),if_neg (by omega),if_neg (by omega),if_pos (by omega)];rfl
theorem Jvj {p:Cell} {h:Int} (hh:hd4 h) (hp:Yr p):@Zy wv (p,dirH h)=some (Kd p h):=by
 unfold Yr at hp
 have e1:@W.ar wv .sub .i64 p.1 1=p.1 - 1:=by rw [zg,wr (by omega) (by omega)]
 have e2:@W.ar wv .sub .i64 p.2 1=p.2 - 1:=by rw [zg,wr (by omega) (by omega)]
 unfold Zy
 dsimp only
 rw [e1,e2]
 rcases hh with rfl|rfl|rfl|rfl
 ·rw [br_t (by rfl)];rfl
 ·rw [br_f (by rfl),br_t (by rfl)];rfl
 ·rw [br_f (by rfl),br_f (by rfl),br_t (by rfl)];rfl
 ·rw [br_f (by rfl),br_f (by rfl),br_f (by rfl)];rfl
theorem cross_ok {h h':Int} (hh:hd4 h) (hh':hd4 h'):@W.cm wv .lss (@W.ar wv .sub .i64 (@W.ar wv .mul .i64 (dirH h).1 (dirH h').2) (@W.ar wv .mul .i64 (dirH h).2 (dirH h').1)) 0=decide (rgt h h'):=by
 rcases hh with rfl|rfl|rfl|rfl<;>rcases hh' with rfl|rfl|rfl|rfl<;>rfl
noncomputable def addK {β:Type} (o:List Cell) (c:Cell) (K:List Cell→Option β):Option β :=
 @W.br wv β (@W.cm wv .gtr (@W.ln wv Cell o) 0) (@W.gd wv β (@W.ib wv (@W.ar wv .sub .i64 (@W.ln wv Cell o) 1) (@W.ln wv Cell o)) (@W.ge wv β Cell o (@W.ar wv .sub .i64 (@W.ln wv Cell o) 1) fun v =>
  @W.br wv β (@W.an wv (@W.cm wv .eql v.1 c.1) (@W.cm wv .eql v.2 c.2)) (K o) (@W.gd wv β (@W.ft wv 16 (@W.pl wv (@W.ln wv Cell o) 1)) (K (@W.ap wv Cell o (c::[]))))))
 (@W.gd wv β (@W.ft wv 16 (@W.pl wv (@W.ln wv Cell o) 1)) (K (@W.ap wv Cell o (c::[]))))
theorem an_eq (a b:Cell):@W.an wv (@W.cm wv .eql a.1 b.1) (@W.cm wv .eql a.2 b.2)=decide (a=b):=by
 rw [w_an,Yt,Yt,Bool.eq_iff_iff,Bool.and_eq_true,beq_iff_eq,beq_iff_eq,decide_eq_true_eq,Prod.ext_iff]
theorem Ju4 {o:List Cell} (h:0<o.length) (hl:o.length≤1000000000):∃z,o.getLast?=some z∧fget o (@W.ar wv .sub .i64 (@W.ln wv Cell o) 1)=some z:=by
 have e:@W.ar wv .sub .i64 (@W.ln wv Cell o) 1=((o.length - 1:Nat):Int):=by rw [w_ln,zg,wr (by omega) (by omega)];omega
 have hg:o[o.length - 1]?=some o[o.length - 1]:=Ac (by omega)
 exact ⟨_,by rw [Ar,hg],by rw [e];exact fg hg⟩
theorem J0z {β:Type} {o:List Cell} (hl:o.length≤1000000000) (c:Cell) (K:List Cell→Option β):addK o c K=K (ddS o c):=by
 unfold addK ddS
 by_cases h:0<o.length
 ·obtain ⟨z,h1,h2⟩:=Ju4 h hl
  rw [br_t (by rw [Jan,w_ln];exact decide_eq_true (by omega)),Jkf (by rw [w_ln,zg,wr (by omega) (by omega)];omega),ge_s h2,an_eq,h1]
  by_cases e:z=c
  ·rw [br_t (decide_eq_true e),if_pos (by rw [e])]
  ·rw [br_f (decide_eq_false e),if_neg (by simpa using e),w_ln,w_pl,Jih (by omega) (by omega),w_ap]
 ·have ho:o=[]:=List.eq_nil_of_length_eq_zero (by omega)
  subst ho
  rw [br_f (by rfl),w_ln,w_pl,Jih (by simp) (by simp),w_ap]
  rfl
noncomputable def trimK (o:List Cell):Option (List Cell) :=
 @W.br wv (List Cell) (@W.cm wv .gtr (@W.ln wv Cell o) 1) (@W.gd wv (List Cell) (@W.ib wv 0 (@W.ln wv Cell o)) (@W.ge wv (List Cell) Cell o 0 fun v =>
  @W.gd wv (List Cell) (@W.ib wv (@W.ar wv .sub .i64 (@W.ln wv Cell o) 1) (@W.ln wv Cell o)) (@W.ge wv (List Cell) Cell o (@W.ar wv .sub .i64 (@W.ln wv Cell o) 1) fun w =>
  @W.br wv (List Cell) (@W.an wv (@W.cm wv .eql v.1 w.1) (@W.cm wv .eql v.2 w.2)) (@W.gd wv (List Cell) (@W.le wv 0 (@W.ar wv .sub .i64 (@W.ln wv Cell o) 1)) (@W.gd wv (List Cell) (@W.le wv (@W.ar wv .sub .i64 (@W.ln wv Cell o) 1) (@W.ln wv Cell o))
   (@W.gd wv (List Cell) (@W.le wv 0 0) (@W.gd wv (List Cell) (@W.le wv 0 (@W.ar wv .sub .i64 (@W.ln wv Cell o) 1)) (@W.gd wv (List Cell) (@W.le wv (@W.pl wv 0 (@W.ar wv .sub .i64 (@W.ln wv Cell o) 1)) (@W.ln wv Cell o))
   (some (@W.ct wv Cell o 0 (@W.ar wv .sub .i64 (@W.ln wv Cell o) 1)))))))) (some o)))) (some o)
theorem trimK_ok {o:List Cell} (hl:o.length≤1000000000):trimK o=some (trim o):=by
 unfold trimK trim
 by_cases h:1<o.length
 ·obtain ⟨z,h1,h2⟩:=Ju4 (o:=o) (by omega) hl
  have e:@W.ar wv .sub .i64 (@W.ln wv Cell o) 1=((o.length - 1:Nat):Int):=by rw [w_ln,zg,wr (by omega) (by omega)];omega
  have h0:o[0]?=some o[0]:=Ac (by omega)
  rw [br_t (by rw [Jan,w_ln];exact decide_eq_true (by omega)),Jkf (by rw [w_ln];omega),ge_s (fg0 h0),Jkf (by rw [e,w_ln];omega),ge_s h2,an_eq,h1,Ax,h0]
  by_cases q:o[0]=z
  ·rw [br_t (decide_eq_true q),if_pos ⟨h,by rw [q]⟩,e,le_t (by omega),le_t (by rw [w_ln];omega),le_t (by omega),le_t (by omega),le_t (by rw [w_pl,w_ln];omega),w_ct,List.dropLast_eq_take]
   simp
  ·rw [br_f (decide_eq_false q),if_neg fun hx=>q (by have:=hx.2;injection this)]
 ·rw [br_f (by rw [Jan,w_ln];exact decide_eq_false (by omega)),if_neg fun hx=>h hx.1]
def Jad (P:Cell) (h:Int) (k:Nat):List Cell:=(Ae k).map fun j=>Kd (fwd P h j) h
theorem Jfm (P:Cell) (h:Int) (k:Nat):Jad P h (k+1)=Jad P h k++[Kd (fwd P h k) h]:=by unfold Jad;rw [List.range_succ,Ap];rfl
theorem Jl6 (P:Cell) (h:Int) (k:Nat):(Jad P h k).length=k:=by unfold Jad;rw [Aa,Ai]
theorem Jdk {P:Cell} {h:Int} (hh:hd4 h) {k L:Nat} (hk:k≤L) (h1:Yr P) (h2:Yr (fwd P h L)):Yr (fwd P h k):=by
 have f1:=Jj4 P hh k
 have f2:=Jj4 P hh L
 have:hd4 h:=hh
 generalize fwd P h k=u at *
 generalize fwd P h L=v at *
 unfold Yr at *
 omega
theorem fwd_ne {P:Cell} {h:Int} (hh:hd4 h) {k L:Nat} (hk:k<L):fwd P h k≠fwd P h L:=by
 have f1:=Jj4 P hh k
 have f2:=Jj4 P hh L
 intro e
 rw [e] at f1
 generalize fwd P h L=v at *
 omega
theorem fwd_add {P:Cell} {h:Int} (hh:hd4 h) {k L:Nat} (hk:k<L) (h1:Yr P) (h2:Yr (fwd P h L)):@W.ar wv .add .i64 (fwd P h k).1 (dirH h).1=(fwd P h (k+1)).1∧@W.ar wv .add .i64 (fwd P h k).2 (dirH h).2=(fwd P h (k+1)).2:=by
 have e:fwd P h (k+1)=addC (fwd P h k) (dirH h):=by rw [Jpc,Jkh]
 have h3:=Jdk hh (k:=k+1) (L:=L) (by omega) h1 h2
 rw [e] at h3 ⊢
 unfold Yr addC at h3
 unfold addC
 dsimp only at h3 ⊢
 rw [K4,K4,wr (by omega) (by omega),wr (by omega) (by omega)]
 exact ⟨rfl,rfl⟩
section
variable {r:Reg} {s:Ck}
theorem Jo3 {N i:Nat} (h:i<(tps r s N).length):ptK r s (tpN r s N (i+1))=fwd (ptK r s (tpN r s N i)) (hdK r s (tpN r s N i)) (tpN r s N (i+1) - tpN r s N i):=by
 have hlt:=Jmp r s h
 have:=edge r s h (tpN r s N (i+1) - tpN r s N i) (by omega)
 rwa [show tpN r s N i+(tpN r s N (i+1) - tpN r s N i)=tpN r s N (i+1) by omega] at this
theorem Jr5 {N i:Nat} (h:i<(tps r s N).length):∀k,tpN r s N i+k<tpN r s N (i+1)→raw r s (tpN r s N i+k)=raw r s (tpN r s N i)++Jad (ptK r s (tpN r s N i)) (hdK r s (tpN r s N i)) k
 | 0,_=>by simp [Jad]
 | k+1,hk=>by
  rw [←Nat.add_assoc,Jcv,Jr5 h k (by omega),Jfm,Ao]
  congr 2
  have e1:=Ji8 r s h k (by omega)
  have e2:=Ji8 r s h (k+1) (by omega)
  rw [←Nat.add_assoc] at e2
  unfold rawK
  rw [e1,e2,edge r s h k (by omega),if_neg]
  unfold rgt
  omega
noncomputable def cornC (r:Reg) (s:Ck) (N i:Nat):List Cell:=if rgt (hdK r s (tpN r s N i)) (hdK r s (tpN r s N (i+1))) then [addC (Kd (fwd (ptK r s (tpN r s N i)) (hdK r s (tpN r s N i)) (tpN r s N (i+1) - tpN r s N i - 1)) (hdK r s (tpN r s N i))) (dirH (hdK r s (tpN r s N i)))] else []
theorem raw_edge {N i:Nat} (h:i<(tps r s N).length) :
  raw r s (tpN r s N (i+1))=raw r s (tpN r s N i)++Jad (ptK r s (tpN r s N i)) (hdK r s (tpN r s N i)) (tpN r s N (i+1) - tpN r s N i)++cornC r s N i:=by
 have hlt:=Jmp r s h
 obtain ⟨k,hk⟩:∃k,tpN r s N (i+1)=tpN r s N i+k+1:=⟨tpN r s N (i+1) - tpN r s N i - 1,by omega⟩
 have e1:=Ji8 r s h k (by omega)
 have e2:=edge r s h k (by omega)
 have e3:=Jr5 h k (by omega)
 unfold cornC
 rw [hk,show tpN r s N i+k+1 - tpN r s N i=k+1 by omega,Jcv,e3,Jfm,Ao,Ao,Ao,Nat.add_sub_cancel]
 congr 2
 unfold rawK
 rw [e1,e2]
 rfl
end
abbrev Sr1:=HP (List Cell) (HP Int (HP (List Cell) (HP Int (HP Int (HP Int (HP Int (HP Int (HP Int (HP Int (HP Int (HP Int (HP Int Unit))))))))))))
theorem Jtg {r:Reg} {s:Ck} {N:Nat} (hN:Rnd (nx r) s N) {i:Nat} (h:i<(tps r s N).length):(poly r s N)[i]?=some (ptK r s (tpN r s N i)):=by
 rw [Jn8 r s hN.pos,List.getElem?_map,Jhm r s h];rfl
theorem Jiv {r:Reg} {s:Ck} {N:Nat} (hN:Rnd (nx r) s N) {i:Nat} (h:i<(tps r s N).length):(poly r s N)[(i+1) % (tps r s N).length]?=some (ptK r s (tpN r s N (i+1))):=by
 by_cases h1:i+1<(tps r s N).length
 ·rw [Nat.mod_eq_of_lt h1];exact Jtg hN h1
 ·have e:i+1=(tps r s N).length:=by omega
  rw [e,Nat.mod_self,Jtg hN (by omega),Jiu r s hN.pos,Ji2 r s (Nat.le_refl _)]
  have:ptK r s N=s.1:=congrArg Prod.fst hN.back
  rw [this];rfl
theorem J2d {r:Reg} {s:Ck} {N:Nat} (hN:Rnd (nx r) s N) {i:Nat} (h:i<(tps r s N).length):∃L,0<L∧L≤N∧(poly r s N)[(i+2) % (tps r s N).length]?=some (fwd (ptK r s (tpN r s N (i+1))) (hdK r s (tpN r s N (i+1))) L):=by
 by_cases h1:i+1<(tps r s N).length
 ·have hlt:tpN r s N (i+1)<tpN r s N (i+2):=Jmp r s h1
  have hle:=Jvi r s (N:=N) (i:=i+2)
  refine ⟨tpN r s N (i+2) - tpN r s N (i+1),by omega,by omega,?_⟩
  rw [Jiv hN h1]
  exact congrArg some (Jo3 h1)
 ·have e:i+1=(tps r s N).length:=by omega
  have hp:=hN.pos
  have h0:0<(tps r s N).length:=by omega
  have hlt:tpN r s N 0<tpN r s N 1:=Jmp r s h0
  have hle:=Jvi r s (N:=N) (i:=1)
  refine ⟨tpN r s N 1 - tpN r s N 0,by omega,by omega,?_⟩
  have em:(i+2) % (tps r s N).length=(0+1) % (tps r s N).length:=by rw [show i+2=0+1+(tps r s N).length by omega,Nat.add_mod_right]
  rw [em,Jiv hN h0,Ji2 r s (i:=i+1) (by omega)]
  have e1:ptK r s N=ptK r s (tpN r s N 0):=by rw [Jiu r s hp];exact congrArg Prod.fst hN.back
  have e2:hdK r s N=hdK r s (tpN r s N 0):=by rw [Jiu r s hp];exact congrArg Prod.snd hN.back
  rw [e1,e2]
  exact congrArg some (Jo3 h0)
theorem poly_len {r:Reg} {s:Ck} {N:Nat} (hN:Rnd (nx r) s N):(poly r s N).length=(tps r s N).length:=by rw [Jn8 r s hN.pos,Aa]
theorem Jss {a:Int} {b n:Nat} (e:a=(b:Int)):@W.ar wv .rem .i64 a (n:Int)=((b % n:Nat):Int):=by
 rw [w_rem,e,Int.tmod_eq_emod_of_nonneg (by omega)]
 exact (Int.natCast_emod _ _).symm
abbrev Sp1:=HP (List Cell) (HP Int (HP (List Cell) (HP Int (HP Int (HP Int (HP Int Unit))))))
theorem Jr0 (m:List Cell):∀o:List Cell,(m.foldl ddS o).length≤o.length+m.length:=by
 induction m with
 | nil=>intro o;exact Nat.le_refl _
 | cons c m ih =>
  intro o
  rw [List.foldl_cons,As]
  refine Nat.le_trans (ih _) ?_
  unfold ddS
  split
  ·omega
  ·rw [Aq,List.length_singleton];omega
theorem ploop_L1 (pts:List Cell) (i j:Nat) (o:List Cell) {P:Cell} {h:Int} (hh:hd4 h) {L:Nat} (hL:L≤1000000) (h1:Yr P) (h2:Yr (fwd P h L)) (ho:o.length≤100000000) (hi:i≤1000000000) (hp:pts.length≤1000000000) (hp0:0<pts.length)
  (hq:pts[(i+1) % pts.length]?=some (fwd P h L)) :
  Xk (@Xo wv) bigN (⟨pts,⟨(i:Int),⟨o,⟨P.1,⟨P.2,⟨(dirH h).1,⟨(dirH h).2,()⟩⟩⟩⟩⟩⟩⟩:Sp1) =
   some (⟨pts,⟨(i:Int),⟨(Jad P h L).foldl ddS o,⟨(fwd P h L).1,⟨(fwd P h L).2,⟨(dirH h).1,⟨(dirH h).2,()⟩⟩⟩⟩⟩⟩⟩:Sp1):=by
 have e0:@W.ar wv .rem .i64 (@W.ar wv .add .i64 (i:Int) 1) (pts.length:Int)=(((i+1) % pts.length:Nat):Int):=Jss (by rw [K4,wr (by omega) (by omega)];omega)
 have hne:@W.cm wv .neq (pts.length:Int) 0=true:=by rw [Jny];exact bne_iff_ne.2 (by omega)
 have key:=Xa (b:=@Xo wv) (e:=(⟨pts,⟨(i:Int),⟨(Jad P h L).foldl ddS o,⟨(fwd P h L).1,⟨(fwd P h L).2,⟨(dirH h).1,⟨(dirH h).2,()⟩⟩⟩⟩⟩⟩⟩:Sp1))
  (fun k=>(⟨pts,⟨(i:Int),⟨(Jad P h k).foldl ddS o,⟨(fwd P h k).1,⟨(fwd P h k).2,⟨(dirH h).1,⟨(dirH h).2,()⟩⟩⟩⟩⟩⟩⟩:Sp1)) L (by omega) (fun k hk=>by
   have ha:=fwd_add hh hk h1 h2
   have hlen:=Jr0 (Jad P h k) o
   rw [Jl6] at hlen
   unfold Xo
   dsimp only
   rw [w_ln,gd_t hne,e0,ge_s (fg hq),br_t (by rw [an_eq,w_nt,decide_eq_false (fwd_ne hh hk)];rfl)]
   refine (ca_s (c:=Q4) (Jvj hh (Jdk hh (by omega) h1 h2))).trans ?_
   rw [ha.1,ha.2,Jfm,List.foldl_append]
   generalize (Jad P h k).foldl ddS o=o1 at *
   generalize Kd (fwd P h k) h=c
   generalize fwd P h (k+1)=v
   obtain ⟨c1,c2⟩:=c
   have hk:=J0z (β:=Nx Sp1 Sp1) (o:=o1) (by omega) (c1,c2) (fun o'=>some (.go (⟨pts,⟨(i:Int),⟨o',⟨v.1,⟨v.2,⟨(dirH h).1,⟨(dirH h).2,()⟩⟩⟩⟩⟩⟩⟩:Sp1)))
   unfold addK at hk
   exact hk) (by
   unfold Xo
   dsimp only
   rw [w_ln,gd_t hne,e0,ge_s (fg hq),br_f (by rw [an_eq,w_nt,decide_eq_true rfl];rfl)])
 have ec:Jad P h 0=[]:=rfl
 simp only [ec,Jve,List.foldl_nil] at key
 exact key
abbrev Sp0:=HP (List Cell) (HP Int (HP Int (HP Int (HP Int (HP Int (HP (List Cell) Unit))))))
theorem pwalk_ok {r:Reg} (hr:RegOK r) {s:Ck} (hl:Least r s) {N:Nat} (hN:Rnd (nx r) s N) (hle:N≤1000000):@jk wv (poly r s N)=some (Jij (raw r s N)):=by
 have hs:=hl.1
 have hp:=hN.pos
 have hn:=tps_len r s N
 have h2n:=tps_two hl hN
 have hlen:=poly_len hN
 have step:∀i,i<(tps r s N).length→@Ys wv (⟨poly r s N,⟨(i:Int),⟨(ptK r s (tpN r s N i)).1,⟨(ptK r s (tpN r s N i)).2,⟨(dirH (hdK r s (tpN r s N i))).1,⟨(dirH (hdK r s (tpN r s N i))).2,⟨dd (raw r s (tpN r s N i)),()⟩⟩⟩⟩⟩⟩⟩:Sp0) =
   if i+1=(tps r s N).length then some (.out (⟨dd (raw r s (tpN r s N (i+1))),()⟩:HP (List Cell) Unit)) else
    some (.go (⟨poly r s N,⟨((i+1:Nat):Int),⟨(ptK r s (tpN r s N (i+1))).1,⟨(ptK r s (tpN r s N (i+1))).2,⟨(dirH (hdK r s (tpN r s N (i+1)))).1,⟨(dirH (hdK r s (tpN r s N (i+1)))).2,⟨dd (raw r s (tpN r s N (i+1))),()⟩⟩⟩⟩⟩⟩⟩:Sp0)):=fun i hi=>by
  have hlt:=Jmp r s hi
  have hTle:=Jvi r s (N:=N) (i:=i+1)
  have g1:=Jiv hN hi
  obtain ⟨L2,hL2,hL2',g2⟩:=J2d hN hi
  have hh:hd4 (hdK r s (tpN r s N i)):=(Yk hs _).hd
  have hh':hd4 (hdK r s (tpN r s N (i+1))):=(Yk hs _).hd
  have s0:=Jbe hr (Yk hs (tpN r s N i))
  have s1:=Jbe hr (Yk hs (tpN r s N (i+1)))
  rw [show (itr (nx r) (tpN r s N i) s).1=ptK r s (tpN r s N i) from rfl] at s0
  rw [show (itr (nx r) (tpN r s N (i+1)) s).1=ptK r s (tpN r s N (i+1)) from rfl] at s1
  have hE:=Jo3 hi
  have hraw:=raw_edge hi
  have hrl:=Jkv r s (tpN r s N i)
  have hdl:=J0s (raw r s (tpN r s N i))
  have s2:Yr (fwd (ptK r s (tpN r s N (i+1))) (hdK r s (tpN r s N (i+1))) L2):=by
   have hm:=Ag g2
   rw [Jn8 r s hp] at hm
   obtain ⟨k,_,hk⟩:=Ah.1 hm
   rw [←hk]
   exact Jbe hr (Yk hs k)
  unfold cornC at hraw
  generalize hdK r s (tpN r s N i)=h at *
  generalize hdK r s (tpN r s N (i+1))=h' at *
  generalize ptK r s (tpN r s N i)=P at *
  generalize ptK r s (tpN r s N (i+1))=Q at *
  have hwE:=Jh7 (p:=Q) hh' hL2 s1 s2
  generalize fwd Q h' L2=R at *
  obtain ⟨L,hL⟩:∃L,tpN r s N (i+1) - tpN r s N i=L+1:=⟨tpN r s N (i+1) - tpN r s N i - 1,by omega⟩
  rw [hL] at hE hraw
  subst hE
  have e0:@W.ar wv .add .i64 (i:Int) 1=((i+1:Nat):Int):=by rw [K4,wr (by omega) (by omega)];omega
  have e1:@W.ar wv .rem .i64 ((i+1:Nat):Int) ((tps r s N).length:Int)=(((i+1) % (tps r s N).length:Nat):Int):=Jss rfl
  have e2:@W.ar wv .rem .i64 (@W.ar wv .add .i64 ((i+1:Nat):Int) 1) ((tps r s N).length:Int)=(((i+2) % (tps r s N).length:Nat):Int):=Jss (by rw [K4,wr (by omega) (by omega)];omega)
  have hne:@W.cm wv .neq ((tps r s N).length:Int) 0=true:=by rw [Jny];exact bne_iff_ne.2 (by omega)
  have hfl:=Jr0 (Jad P h (L+1)) (dd (raw r s (tpN r s N i)))
  rw [Jl6] at hfl
  unfold Ys
  dsimp only
  refine (lo_s (ploop_L1 _ i ((i+1) % (tps r s N).length) _ hh (by omega) s0 s1 (by omega) (by omega) (by omega) (by omega) (by rw [hlen];exact g1))).trans ?_
  dsimp only
  rw [w_ln,hlen,gd_t hne,e0,e1,ge_s (fg g1),gd_t hne,e2,ge_s (fg g2)]
  refine (ca_s (c:=Ko) hwE).trans ?_
  rw [cross_ok hh hh']
  have hsub:@W.ar wv .sub .i64 (fwd P h (L+1)).1 (dirH h).1=(fwd P h L).1∧@W.ar wv .sub .i64 (fwd P h (L+1)).2 (dirH h).2=(fwd P h L).2:=by
   have e:fwd P h (L+1)=addC (fwd P h L) (dirH h):=by rw [Jpc,Jkh]
   have h3:=Jdk hh (k:=L) (L:=L+1) (by omega) s0 s1
   unfold Yr at h3
   rw [e,zg,zg]
   unfold addC
   dsimp only
   rw [wr (by omega) (by omega),wr (by omega) (by omega)]
   omega
  let K:List Cell→Option (Nx Sp0 (HP (List Cell) Unit)):=fun o=>@W.br wv _ (@W.cm wv .eql ((i+1:Nat):Int) ((tps r s N).length:Int)) (some (.out ⟨o,()⟩)) (some (.go ⟨poly r s N,⟨((i+1:Nat):Int),⟨(fwd P h (L+1)).1,⟨(fwd P h (L+1)).2,⟨(dirH h').1,⟨(dirH h').2,⟨o,()⟩⟩⟩⟩⟩⟩⟩))
  have hK:∀o:List Cell,K o=if i+1=(tps r s N).length then some (.out (⟨o,()⟩:HP (List Cell) Unit)) else some (.go (⟨poly r s N,⟨((i+1:Nat):Int),⟨(fwd P h (L+1)).1,⟨(fwd P h (L+1)).2,⟨(dirH h').1,⟨(dirH h').2,⟨o,()⟩⟩⟩⟩⟩⟩⟩:Sp0)):=fun o=>by
   show @W.br wv _ _ _ _=_
   by_cases e:i+1=(tps r s N).length
   ·rw [br_t (by rw [Yt];exact beq_iff_eq.2 (by omega)),if_pos e]
   ·rw [br_f (by rw [Yt];exact beq_eq_false_iff_ne.2 (by omega)),if_neg e]
  by_cases hr':rgt h h'
  ·have hb:-2000000000≤(Kd (fwd P h L) h).1∧(Kd (fwd P h L) h).1≤2000000000∧-2000000000≤(Kd (fwd P h L) h).2∧(Kd (fwd P h L) h).2≤2000000000:=by
    have:=Jdk hh (k:=L) (L:=L+1) (by omega) s0 s1
    unfold Yr at this
    unfold Kd
    rcases hh with rfl|rfl|rfl|rfl<;>simp<;>omega
   have hd:-1≤(dirH h).1∧(dirH h).1≤1∧-1≤(dirH h).2∧(dirH h).2≤1:=by
    rcases hh with rfl|rfl|rfl|rfl<;>simp [dirH]
   rw [br_t (decide_eq_true hr'),hsub.1,hsub.2]
   refine (ca_s (c:=Q4) (Jvj hh (Jdk hh (k:=L) (L:=L+1) (by omega) s0 s1))).trans ?_
   have a1:@W.ar wv .add .i64 (Kd (fwd P h L) h).1 (dirH h).1=(addC (Kd (fwd P h L) h) (dirH h)).1:=by rw [K4,wr (by omega) (by omega)];rfl
   have a2:@W.ar wv .add .i64 (Kd (fwd P h L) h).2 (dirH h).2=(addC (Kd (fwd P h L) h) (dirH h)).2:=by rw [K4,wr (by omega) (by omega)];rfl
   rw [a1,a2,hraw,if_pos hr',Jhc,dd_add,Nat.add_sub_cancel]
   generalize (Jad P h (L+1)).foldl ddS (dd (raw r s (tpN r s N i)))=o1 at *
   generalize addC (Kd (fwd P h L) h) (dirH h)=c
   exact (show _=addK o1 c K from rfl).trans ((J0z (by omega) _ _).trans (hK _))
  ·rw [br_f (decide_eq_false hr'),hraw,if_neg hr',List.append_nil,dd_add]
   generalize (Jad P h (L+1)).foldl ddS (dd (raw r s (tpN r s N i)))=o1 at *
   exact hK o1
 have hend:tpN r s N ((tps r s N).length - 1+1)=N:=Ji2 r s (by omega)
 have hloop:=Xa (b:=@Ys wv) (e:=(⟨dd (raw r s N),()⟩:HP (List Cell) Unit)) (fun i=>(⟨poly r s N,⟨(i:Int),⟨(ptK r s (tpN r s N i)).1,⟨(ptK r s (tpN r s N i)).2,⟨(dirH (hdK r s (tpN r s N i))).1,⟨(dirH (hdK r s (tpN r s N i))).2,⟨dd (raw r s (tpN r s N i)),()⟩⟩⟩⟩⟩⟩⟩:Sp0)) ((tps r s N).length - 1) (by omega) (fun i hi=>by
  rw [step i (by omega),if_neg (by omega)]) (by
  rw [step _ (by omega),if_pos (by omega),hend])
 have g0:=Jtg hN (i:=0) (by omega)
 have g1:=Jiv hN (i:=0) (by omega)
 rw [Nat.mod_eq_of_lt (by omega)] at g1
 have hE:=Jo3 (r:=r) (s:=s) (N:=N) (i:=0) (by omega)
 have hlt:=Jmp r s (N:=N) (i:=0) (by omega)
 have s0:=Jbe hr (Yk hs (tpN r s N 0))
 have s1:=Jbe hr (Yk hs (tpN r s N (0+1)))
 rw [show (itr (nx r) (tpN r s N 0) s).1=ptK r s (tpN r s N 0) from rfl] at s0
 rw [show (itr (nx r) (tpN r s N (0+1)) s).1=ptK r s (tpN r s N (0+1)) from rfl] at s1
 rw [hE] at g1 s1
 have hwE:=Jh7 (p:=ptK r s (tpN r s N 0)) (Yk hs (tpN r s N 0)).hd (n:=tpN r s N (0+1) - tpN r s N 0) (by omega) s0 s1
 unfold jk
 rw [ge_s (fg0 g0),ge_s (fg0 g0),ge_s (i:=1) (fg (i:=1) g1)]
 refine (ca_s (c:=Ko) hwE).trans ?_
 have e0:raw r s (tpN r s N 0)=[]:=by rw [Jiu r s hp];rfl
 rw [e0] at hloop
 refine (lo_s hloop).trans ?_
 exact (show _=trimK (dd (raw r s N)) from rfl).trans (trimK_ok (by have:=J0s (raw r s N);have:=Jkv r s N;omega))
noncomputable def Jal (r:Reg) (s:Ck):Jkk:=(1,true,Jij (raw r s (perN r s)))
theorem Jv1 {r:Reg} (hc:(Zd r).length≤8000) {s:Ck} (hs:Crk r s.1 s.2):(Jij (raw r s (perN r s))).length≤65536:=by
 have h1:=Jwd (raw r s (perN r s))
 have h2:=Jkv r s (perN r s)
 have h3:=Jpq hs
 have h4:=Jps r
 omega
theorem Jml {r:Reg} (h:Starts r (Xj r)):(Xj r).length≤(cks r).length:=by
 have hnd:(Xj r).Nodup:=h.pw.imp fun {a b} (h:yx a.1 b.1) (e:a=b)=>Jb8 a.1 (by subst e;exact h)
 exact zy hnd fun s hs=>((h.mem s).1 hs).mem
open Classical in
theorem Jyt (r:Reg) (hl:LimR r) (hc:RegOK r→(Zd r).length≤8000):@Yy wv r=some (if RegOK r then (Xj r).map (Jal r) else []):=by
 have hck:RegOK r→(cks r).length≤1000000:=fun h=>by have:=hc h;have:=Jps r;omega
 unfold Yy
 rw [k_Trace hl hck]
 by_cases hr:RegOK r
 case neg =>
  rw [if_neg hr,if_neg hr]
  exact (lo_s (show Xk (@Xh wv) bigN ⟨[],⟨0,⟨0,⟨[],()⟩⟩⟩⟩=some ⟨[],()⟩ from Jcm (n:=18446744073709551615) rfl)).trans rfl
 rw [if_pos hr,if_pos hr]
 have hst:=(Jpf r hl hck).2 hr
 have hck:=hck hr
 have hc:=hc hr
 have hsl:=Jml hst
 have hlen:((Xj r).map (pol r)).length=(Xj r).length:=Aa _
 have hloop:=Xa (b:=@Xh wv) (e:=(⟨(Xj r).map (Jal r),()⟩:HP (List Jkk) Unit)) (fun i=>(⟨(Xj r).map (pol r),⟨((Xj r).length:Int),⟨(i:Int),⟨((Xj r).take i).map (Jal r),()⟩⟩⟩⟩:HP (List (List Cell)) (HP Int (HP Int (HP (List Jkk) Unit))))) (Xj r).length (by omega) (fun i hi=>by
  have hx:=Ac hi
  generalize (Xj r)[i]=s at hx
  have hs:Least r s:=(hst.mem s).1 (Ag hx)
  have hg:((Xj r).map (pol r))[i]?=some (pol r s):=by rw [List.getElem?_map,hx];rfl
  have hpe:=Jpq hs.1
  have hw:=pwalk_ok hr hs (Jbu hs.1) (by omega)
  have hwl:=Jv1 hc hs.1
  unfold Xh
  dsimp only
  rw [Xw (by omega),ge_s (fg hg)]
  refine (ca_s (c:=Yw) hw).trans ?_
  rw [br_t (by rw [Jlp,w_ln];exact decide_eq_true (by omega)),w_ln,w_pl,Aa,List.length_take,fit40 (by omega) (by omega),K4,wr (by omega) (by omega),w_ap,Jfa hx]
  rfl) (by
  unfold Xh
  dsimp only
  rw [Kz (by omega),Au])
 rw [w_ln,hlen]
 exact (lo_s hloop).trans rfl
open Classical in
theorem k_Walk {α:Type} {r:Reg} (hl:LimR r) (hc:RegOK r→(Zd r).length≤8000) (k:List (Int×(Bool×List (Int×Int)))→Option α):@W.call wv α Ku r k=k (if RegOK r then (Xj r).map (Jal r) else []):=ca_s (c:=Ku) (Jyt r hl hc)
theorem Jyy {n:Nat} {l:List Nat} (h:l.Nodup) (hb:∀x∈l,x<n):l.length≤n:=by
 have:=zy (m:=Ae n) h fun x hx=>Af.2 (hb x hx)
 rwa [Ai] at this
theorem J2c {r:Reg} (h:RegOK r):(Zd r).length≤67108864:=by
 have h1:((Zd r).map fun c:Cell=>((c.2+4096) * 8192+(c.1+4096)).toNat).Nodup:=by
  refine List.pairwise_map.2 ((List.Pairwise.and_mem.1 h.cells_pw).imp fun {a b} ⟨ha,hb,hab⟩ e=>?_)
  have ba:=h.bd (zu.1 ha)
  have bb:=h.bd (zu.1 hb)
  unfold yx at hab
  omega
 have:=Jyy (n:=67108864) h1 fun x hx=>by
  obtain ⟨c,hc,rfl⟩:=Ah.1 hx
  have:=h.bd (zu.1 hc)
  omega
 rwa [Aa] at this
open Classical in
theorem Jp3 (r:Reg) (hl:LimR r):@Xs wv r=some (if RegOK r then ((Zd r).length:Int) else 0):=by
 unfold Xs
 rw [Jte hl]
 by_cases h:RegOK r
 case neg=>rw [br_t (by simp [w_nt,h]),if_neg h]
 rw [br_f (by simp [w_nt,h]),if_pos h]
 have hL:=hl.1
 have hc:=J2c h
 have hloop:=Xa (b:=@Qg wv) (e:=(⟨((Zd r).length:Int),()⟩:HP Int Unit)) (fun i=>(⟨(((r.take i).flatMap rowC).length:Int),⟨(i:Int),⟨r,()⟩⟩⟩:HP Int (HP Int (HP Reg Unit)))) r.length (by omega) (fun i hi=>by
  have hw:=Ac hi
  generalize r[i]=w at hw
  have hLw:=hl.2 w (Ag hw)
  have hin:=Xa (b:=@Qj wv) (e:=(⟨(((r.take i).flatMap rowC).length+(rowC w).length:Nat),⟨(i:Int),⟨r,()⟩⟩⟩:HP Int (HP Int (HP Reg Unit)))) (fun k=>(⟨((((r.take i).flatMap rowC).length+((w.2.take k).flatMap (Jet w.1)).length:Nat):Int),⟨(i:Int),⟨(k:Int),⟨r,()⟩⟩⟩⟩:HP Int (HP Int (HP Int (HP Reg Unit))))) w.2.length (by omega) (fun k hk=>by
   have hu:=Ac hk
   generalize w.2[k]=u at hu
   have hb:=(h.rs w (Ag hw)).bd u (Ag hu)
   have hle:=cells_le hw hu
   rw [Jj2] at hle
   unfold Qj
   dsimp only
   simp only [ge_s (fg hw),ge_s (fg hu)]
   rw [w_ln,Xw (by omega),zg,wr (n:=u.2 - u.1) (by omega) (by omega),K4,K4,wr (by omega) (by omega),wr (n:=(k:Int)+1) (by omega) (by omega),J2o hu,Aq,Jj2,
    show ((((r.take i).flatMap rowC).length+((w.2.take k).flatMap (Jet w.1)).length:Nat):Int)+(u.2 - u.1)=((((r.take i).flatMap rowC).length+(((w.2.take k).flatMap (Jet w.1)).length+(u.2 - u.1).toNat):Nat):Int) by omega]
   rfl) (by
   unfold Qj
   dsimp only
   simp only [ge_s (fg hw)]
   rw [w_ln,Kz (by omega),Au]
   rfl)
  simp only [List.take_zero,List.flatMap_nil,List.length_nil,Nat.add_zero] at hin
  unfold Qg
  dsimp only
  rw [w_ln,Xw (by omega)]
  refine (lo_s hin).trans ?_
  dsimp only
  rw [K4,wr (by omega) (by omega),Jgf hw,Aq]
  rfl) (by
  unfold Qg
  dsimp only
  rw [w_ln,Kz (by omega),Au]
  rfl)
 exact (lo_s hloop).trans rfl
open Classical in
theorem Js1 {α:Type} {r:Reg} (hl:LimR r) (k:Int→Option α):@W.call wv α Ky r k=k (if RegOK r then ((Zd r).length:Int) else 0):=ca_s (c:=Ky) (Jp3 r hl)
theorem Small_ok (r:Reg):∃b,@Xq wv r=some b∧(b=true→LimR r∧(RegOK r→(Zd r).length≤600)):=by
 classical
 unfold Xq
 rw [w_ln]
 by_cases h:(r.length:Int) > 40
 ·exact ⟨false,br_gt h,fun h=>by cases h⟩
 rw [J1n h]
 obtain ⟨e,he,hq⟩:=Jwu (b:=@Qh wv) r (by omega) (fun i=>(⟨(i:Int),⟨r,()⟩⟩:HP Int (HP Reg Unit))) (fun w=>w.2.length > 40) (fun i w=>.inl ()) (.inr ⟨r,()⟩) (fun i w hi hw=>by
  have e3:@W.ar wv .add .i64 (i:Int) 1=((i+1:Nat):Int):=by rw [K4,wr (by omega) (by omega)];omega
  unfold Qh
  dsimp only
  rw [w_ln,Xw (by omega),ge_s (fg hw),w_ln,e3]
  exact ⟨fun h=>br_gt (by omega),fun h=>J1n (by omega)⟩) (by
  unfold Qh
  dsimp only
  rw [w_ln,Kz (by omega)])
 rcases hq with ⟨rfl,hn⟩|⟨i,w,hw,hp,rfl⟩
 ·have hl:LimR r:=⟨by omega,fun w hw=>by have:=hn w hw;omega⟩
  refine ⟨decide ((if RegOK r then ((Zd r).length:Int) else 0)≤600),(lo_s he).trans ?_,fun hb=>⟨hl,fun hr=>?_⟩⟩
  ·dsimp only
   rw [Js1 hl,Jlp]
  ·rw [if_pos hr] at hb
   have:=of_decide_eq_true hb
   omega
 ·exact ⟨false,(lo_s he).trans rfl,fun h=>by cases h⟩
theorem nb_of {a b:Cell} (h:nbC a b):nb a b:=by
 unfold nb
 rcases h with ⟨h1|h1,h2⟩|⟨h1,h2|h2⟩
 ·rw [h1,h2,Av];rfl
 ·rw [h1,h2,Av];rfl
 ·rw [h1,h2,Av];rfl
 ·rw [h1,h2,Av];rfl
theorem walk_VT {r:Reg} (hr:RegOK r) (hc:(Zd r).length≤8000) {s:Ck} (hs:Crk r s.1 s.2):VT (Jal r s):=by
 have hN:=Jbu hs
 have hcl:=Js8 hs hN
 have hle:=Jv1 hc hs
 have hin:∀c∈Jij (raw r s (perN r s)),grid c:=fun c h=>hr.bd (raw_in hs ((Jo8 c).1 h))
 unfold Jal
 generalize Jij (raw r s (perN r s))=l at *
 have hp:=List.length_pos_iff.2 hcl.ne
 refine ⟨⟨(by decide:(1:Int)≤1),(by decide:(1:Int)≤7)⟩,⟨hp,hle⟩,fun i hi c hc=>⟨hin c (Ag hc),fun p h0 hpr=>?_⟩,fun _=>?_⟩
 ·exact nb_of (hcl.adj (i - 1) p c hpr (by rw [show i - 1+1=i by omega];exact hc))
 ·refine hcl.cl.imp id fun h a b ha hb=>nb_of (h a b ?_ ?_)
  ·rw [Ar];exact ha
  ·rw [Ax];exact hb
def boxR (x y:Int) (n m:Nat):Reg:=(Ae m).map fun i:Nat=>(y+(i:Int),[(x,x+(n:Int))])
theorem box_ok (x y:Int) (n m:Nat) (hx:-100000≤x∧x≤100000) (hy:-100000≤y∧y≤100000) (hn:n≤100000) (hm:m≤100000):@X5 wv (x,(y,((n:Int),(m:Int))))=some (boxR x y n m):=by
 have hloop:=Xa (b:=@Q8 wv) (e:=(⟨boxR x y n m,()⟩:HP Reg Unit)) (fun i=>(⟨x,⟨y,⟨(n:Int),⟨(m:Int),⟨(i:Int),⟨boxR x y n i,()⟩⟩⟩⟩⟩⟩:HP Int (HP Int (HP Int (HP Int (HP Int (HP Reg Unit))))))) m (by omega) (fun i hi=>by
  have hlen:(boxR x y n i).length=i:=by unfold boxR;rw [Aa,Ai]
  unfold Q8
  dsimp only
  rw [Xw (by omega),w_ln,hlen,w_pl,Jzf (by omega) (by omega),K4,K4,K4,wr (n:=(i:Int)+1) (by omega) (by omega),wr (n:=y+(i:Int)) (by omega) (by omega),wr (n:=x+(n:Int)) (by omega) (by omega),w_ap]
  have e:boxR x y n (i+1)=boxR x y n i++[(y+(i:Int),[(x,x+(n:Int))])]:=by unfold boxR;rw [List.range_succ,Ap];rfl
  rw [e]
  rfl) (by
  unfold Q8
  dsimp only
  rw [Kz (by omega)])
 unfold X5
 exact (lo_s hloop).trans rfl
section
variable {x y:Int} {n m:Nat}
theorem Jlw {c:Cell}:Kg (boxR x y n m) c↔(x≤c.1∧c.1<x+n)∧(y≤c.2∧c.2<y+m):=by
 unfold Kg boxR
 constructor
 ·rintro ⟨w,hw,h1,u,hu,h2,h3⟩
  obtain ⟨i,hi,rfl⟩:=Ah.1 hw
  rw [Af] at hi
  dsimp only at hu h1
  rw [Ad] at hu
  subst hu
  exact ⟨⟨h2,h3⟩,by omega,by omega⟩
 ·rintro ⟨⟨h1,h2⟩,h3,h4⟩
  refine ⟨_,Ah.2 ⟨(c.2 - y).toNat,Af.2 (by omega),rfl⟩,by dsimp only;omega,(x,x+(n:Int)),Ad.2 rfl,h1,h2⟩
theorem box_reg (hn:0<n) (hx:-4096≤x∧x+n≤4096) (hy:-4096≤y∧y+m≤4096):RegOK (boxR x y n m):=by
 refine ⟨fun w hw=>?_,?_,fun w hw=>?_,fun w hw=>?_⟩
 ·obtain ⟨i,hi,rfl⟩:=Ah.1 hw
  rw [Af] at hi
  dsimp only;omega
 ·exact List.pairwise_map.2 (List.pairwise_lt_range.imp fun h=>by dsimp only;omega)
 ·obtain ⟨i,hi,rfl⟩:=Ah.1 hw
  exact fun h=>by cases h
 ·obtain ⟨i,hi,rfl⟩:=Ah.1 hw
  exact ⟨fun u hu=>by rw [Ad] at hu;subst hu;dsimp only;omega,Am _ _⟩
theorem box_lim (hm:m≤1000000):LimR (boxR x y n m):=by
 refine ⟨by unfold boxR;rw [Aa,Ai];omega,fun w hw=>?_⟩
 obtain ⟨i,hi,rfl⟩:=Ah.1 hw
 simp
theorem Jzy:(Zd (boxR x y n m)).length≤m * n:=by
 have h:∀w∈boxR x y n m,(rowC w).length≤n:=fun w hw=>by
  obtain ⟨i,hi,rfl⟩:=Ah.1 hw
  unfold rowC
  rw [List.flatMap_cons,List.flatMap_nil,List.append_nil,Jj2]
  dsimp only;omega
 have:=Jjf (f:=rowC) (l:=boxR x y n m) (n:=n) h
 have hl:(boxR x y n m).length=m:=by unfold boxR;rw [Aa,Ai]
 rw [hl] at this
 exact this
def bck (x y:Int) (n m k:Nat):Ck :=
 if k<n then ((x+k,y),0) else if k<n+m then ((x+n,y+(k - n:Nat)),1) else if k<2 * n+m then ((x+n - (k - n - m:Nat),y+m),2) else ((x,y+m - (k - 2 * n - m:Nat)),3)
theorem Jds (hn:0<n) (hm:0<m) {k:Nat} (hk:k<2 * n+2 * m):Crk (boxR x y n m) (bck x y n m k).1 (bck x y n m k).2:=by
 unfold bck
 split
 ·refine .inl ⟨rfl,?_⟩;simp only [Jlw];omega
 split
 ·refine .inr (.inl ⟨rfl,?_⟩);simp only [Jlw];omega
 split
 ·refine .inr (.inr (.inl ⟨rfl,?_⟩));simp only [Jlw];omega
 ·refine .inr (.inr (.inr ⟨rfl,?_⟩));simp only [Jlw];omega
theorem J2a (hn:0<n) (hm:0<m) {c:Ck} (h:Crk (boxR x y n m) c.1 c.2):∃k,k<2 * n+2 * m∧c=bck x y n m k:=by
 obtain ⟨⟨a,b⟩,t⟩:=c
 simp only [Crk,Jlw] at h
 rcases h with ⟨rfl,h1,h2⟩|⟨rfl,h1,h2⟩|⟨rfl,h1,h2⟩|⟨rfl,h1,h2⟩
 ·refine ⟨(a - x).toNat,by omega,?_⟩
  unfold bck
  rw [if_pos (by omega)]
  refine Prod.ext (Prod.ext ?_ ?_) rfl<;>dsimp only<;>omega
 ·refine ⟨n+(b - y).toNat,by omega,?_⟩
  unfold bck
  rw [if_neg (by omega),if_pos (by omega)]
  refine Prod.ext (Prod.ext ?_ ?_) rfl<;>dsimp only<;>omega
 ·refine ⟨n+m+(x+n - a).toNat,by omega,?_⟩
  unfold bck
  rw [if_neg (by omega),if_neg (by omega),if_pos (by omega)]
  refine Prod.ext (Prod.ext ?_ ?_) rfl<;>dsimp only<;>omega
 ·refine ⟨2 * n+m+(y+m - b).toNat,by omega,?_⟩
  unfold bck
  rw [if_neg (by omega),if_neg (by omega),if_neg (by omega)]
  refine Prod.ext (Prod.ext ?_ ?_) rfl<;>dsimp only<;>omega
theorem bck_next (hn:0<n) (hm:0<m) {k:Nat} (hk:k+1<2 * n+2 * m):nx (boxR x y n m) (bck x y n m k)=bck x y n m (k+1):=by
 have hc:=Jds (x:=x) (y:=y) hn hm (k:=k) (by omega)
 have hc':=Jds (x:=x) (y:=y) hn hm hk
 have e1:Qa (bck x y n m k).2 (bck x y n m k).1=(bck x y n m (k+1)).1:=by
  unfold bck Qa
  (repeat' split)<;>first|(refine Prod.ext ?_ ?_<;>dsimp only at *<;>omega)|(dsimp only at *;omega)
 have h:=rule hc (y:=(bck x y n m (k+1)).2) (by rw [e1];exact hc') (by
  rw [e1]
  by_cases q:(bck x y n m (k+1)).2=((bck x y n m k).2+1) % 4
  ·exact .inl q
  ·refine .inr fun h=>?_
   revert q h
   unfold bck
   (repeat' split)<;>intro q h<;>first
    | (dsimp only at q;omega)
    | (simp [Crk,Jlw] at h;omega))
 rw [←h,e1]
theorem bck_last (hn:0<n) (hm:0<m):nx (boxR x y n m) (bck x y n m (2 * n+2 * m - 1))=bck x y n m 0:=by
 have hc:=Jds (x:=x) (y:=y) hn hm (k:=2 * n+2 * m - 1) (by omega)
 have hc':=Jds (x:=x) (y:=y) hn hm (k:=0) (by omega)
 have e0:bck x y n m (2 * n+2 * m - 1)=((x,y+1),3):=by
  unfold bck
  rw [if_neg (by omega),if_neg (by omega),if_neg (by omega)]
  refine Prod.ext (Prod.ext ?_ ?_) rfl<;>dsimp only<;>omega
 have e2:bck x y n m 0=((x,y),0):=by
  unfold bck
  rw [if_pos hn]
  refine Prod.ext (Prod.ext ?_ ?_) rfl<;>dsimp only<;>omega
 rw [e0] at hc ⊢
 rw [e2] at hc' ⊢
 have e1:Qa 3 (x,y+1)=(x,y):=by simp [Qa]
 have:=rule (c:=((x,y+1),3)) hc (y:=0) (by dsimp only;rw [e1];exact hc') (.inl rfl)
 dsimp only at this
 rw [e1] at this
 exact this.symm
theorem Jg4 (hn:0<n) (hm:0<m):∀k,k<2 * n+2 * m→itr (nx (boxR x y n m)) k (bck x y n m 0)=bck x y n m k
 | 0,_=>rfl
 | k+1,hk=>by
  rw [show itr (nx (boxR x y n m)) (k+1) (bck x y n m 0)=nx (boxR x y n m) (itr (nx (boxR x y n m)) k (bck x y n m 0)) from rfl,Jg4 hn hm k (by omega),bck_next hn hm hk]
theorem bck_inj {j k:Nat} (hj:j<2 * n+2 * m) (hk:k<2 * n+2 * m) (h:bck x y n m j=bck x y n m k):j=k:=by
 unfold bck at h
 revert h
 (repeat' split)<;>intro h<;>simp only [Prod.mk.injEq] at h<;>omega
theorem Jy0 (hn:0<n) (hm:0<m):Rnd (nx (boxR x y n m)) (bck x y n m 0) (2 * n+2 * m):=by
 refine ⟨by omega,?_,fun i h0 hi e=>?_⟩
 ·rw [show 2 * n+2 * m=2 * n+2 * m - 1+1 by omega]
  show nx (boxR x y n m) (itr (nx (boxR x y n m)) (2 * n+2 * m - 1) (bck x y n m 0))=_
  rw [Jg4 hn hm _ (by omega),bck_last hn hm]
 ·rw [Jg4 hn hm i hi] at e
  have:=bck_inj hi (by omega) e
  omega
theorem Jva (hn:0<n):bck x y n m 0=((x,y),0):=by
 unfold bck
 rw [if_pos hn]
 refine Prod.ext (Prod.ext ?_ ?_) rfl<;>dsimp only<;>omega
theorem Jsf (hn:0<n) (hm:0<m):Least (boxR x y n m) (bck x y n m 0):=by
 refine ⟨Jds hn hm (by omega),fun k=>?_⟩
 have hc:=Yk (Jds (x:=x) (y:=y) hn hm (k:=0) (by omega)) k
 obtain ⟨j,hj,e⟩:=J2a hn hm hc
 rw [e,Jva hn]
 unfold bck yx
 (repeat' split)<;>dsimp only<;>omega
theorem Jxs (hn:0<n) (hm:0<m):Xj (boxR x y n m)=[bck x y n m 0]:=by
 refine Jkb ⟨Am _ _,fun c=>?_⟩
 rw [Ad]
 refine ⟨fun e=>by rw [e];exact Jsf hn hm,fun h=>?_⟩
 obtain ⟨k,hk,e⟩:=J2a hn hm h.1
 exact (Jsf hn hm).same h (k:=k) (by rw [Jg4 hn hm k hk];exact e)
def bwalk (x y:Int) (n m:Nat):List Cell:=(Ae n).map (fun k:Nat=>(x+(k:Int),y))++(Ae m).map (fun k:Nat=>(x+n - 1,y+(k:Int)))++(Ae n).map (fun k:Nat=>(x+n - 1 - (k:Int),y+m - 1))++(Ae m).map fun k:Nat=>(x,y+m - 1 - (k:Int))
theorem Je3 {α:Type} (f:Nat→α) (a b:Nat):(Ae (a+b)).map f=(Ae a).map f++(Ae b).map fun k=>f (a+k):=by
 rw [List.range_add,Ap,List.map_map];rfl
theorem flat_one {α β:Type} {l:List α} {g:α→List β} {f:α→β} (h:∀k∈l,g k=[f k]):l.flatMap g=l.map f:=by
 induction l with
 | nil=>rfl
 | cons a l ih=>rw [List.flatMap_cons,List.map_cons,h a (List.mem_cons_self ..),ih fun k hk=>h k (List.mem_cons_of_mem _ hk)];rfl
theorem box_raw (hn:0<n) (hm:0<m):raw (boxR x y n m) (bck x y n m 0) (2 * n+2 * m)=bwalk x y n m:=by
 have hK:∀k,k<2 * n+2 * m→rawK (boxR x y n m) (bck x y n m 0) k=[Kd (bck x y n m k).1 (bck x y n m k).2]:=fun k hk=>by
  have e1:itr (nx (boxR x y n m)) k (bck x y n m 0)=bck x y n m k:=Jg4 hn hm k hk
  have e2:(itr (nx (boxR x y n m)) (k+1) (bck x y n m 0)).2=(bck x y n m k).2∨(itr (nx (boxR x y n m)) (k+1) (bck x y n m 0)).2=((bck x y n m k).2+1) % 4:=by
   by_cases q:k+1<2 * n+2 * m
   ·rw [Jg4 hn hm (k+1) q]
    unfold bck
    (repeat' split)<;>first|exact .inl rfl|exact .inr rfl|(exfalso;omega)
   ·have:k+1=2 * n+2 * m:=by omega
    rw [this,(Jy0 hn hm).back,Jva hn]
    right
    unfold bck
    rw [if_neg (by omega),if_neg (by omega),if_neg (by omega)]
    rfl
  have hd:=(Jds (x:=x) (y:=y) hn hm hk).hd
  unfold rawK ptK hdK
  rw [e1]
  rw [if_neg]
  unfold rgt
  rcases e2 with e|e<;>rw [e]<;>omega
 unfold raw
 have e:(Ae (2 * n+2 * m)).flatMap (rawK (boxR x y n m) (bck x y n m 0))=(Ae (2 * n+2 * m)).map fun k=>Kd (bck x y n m k).1 (bck x y n m k).2:=by
  exact flat_one fun k hk=>hK k (Af.1 hk)
 rw [e,show 2 * n+2 * m=n+m+n+m by omega,Je3,Je3,Je3]
 unfold bwalk
 congr 1
 ·congr 1
  ·congr 1
   ·refine Ak fun k hk=>?_
    rw [Af] at hk
    unfold bck
    rw [if_pos (by omega)]
    rfl
   ·refine Ak fun k hk=>?_
    rw [Af] at hk
    unfold bck
    rw [if_neg (by omega),if_pos (by omega)]
    refine Prod.ext ?_ ?_<;>simp [Kd]
  ·refine Ak fun k hk=>?_
   rw [Af] at hk
   unfold bck
   rw [if_neg (by omega),if_neg (by omega),if_pos (by omega)]
   refine Prod.ext ?_ ?_<;>simp [Kd]<;>omega
 ·refine Ak fun k hk=>?_
  rw [Af] at hk
  unfold bck
  rw [if_neg (by omega),if_neg (by omega),if_neg (by omega)]
  refine Prod.ext ?_ ?_<;>simp [Kd]<;>omega
end
theorem Jxp:@Xp wv ()=some true:=by
 classical
 have hr:RegOK (boxR 0 0 2 2):=box_reg (by decide) (by decide) (by decide)
 have hcl:=Jzy (x:=0) (y:=0) (n:=2) (m:=2)
 have hW:@Yy wv (boxR 0 0 2 2)=some [(1,true,[(0,0),(1,0),(1,1),(0,1)])]:=by
  rw [Jyt _ (box_lim (by decide)) (fun _=>by omega),if_pos hr,Jxs (by decide) (by decide)]
  show some [Jal _ _]=_
  unfold Jal
  rw [J2v (Jds (by decide) (by decide) (by decide)) (Jy0 (by decide) (by decide)),box_raw (by decide) (by decide)]
  exact congrArg some (by decide)
 have hB:=box_ok 0 0 2 2 (by decide) (by decide) (by decide) (by decide)
 unfold Xp
 refine (ca_s (c:=Q6) hB).trans ((ca_s (c:=Ku) hW).trans ?_)
 kernel_rfl
theorem Jt9 {α:Type} (k:Bool→Option α):@W.call wv α Ke (():Unit) k=k true:=ca_s (c:=Ke) Jxp
end Go.Proofs.YtmfagdfkpjgeiaaGreat
