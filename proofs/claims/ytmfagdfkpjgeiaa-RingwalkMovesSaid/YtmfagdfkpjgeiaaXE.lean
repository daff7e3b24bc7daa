/- Choosing the next crack. Conditions: at most 10^9 headings at a corner and corners so far. -/
import Derived.Test.YtmfagdfkpjgeiaaXD
import Derived.Test.YtmfagdfkpjgeiaaFC
open List renaming length_map → Aa, getElem?_eq_getElem → Ab, getElem?_eq_some_iff → Ac, mem_of_getElem? → Ad, length_append → Ae, getElem?_map → Af, getElem?_of_mem → Ag, length_take → Ah, mem_map → Ai, map_append → Aj, length_cons → Ak, pairwise_iff_getElem → Am, take_length → Ao, replicate → Ap, append_assoc → Ar, mem_append → As, length_range → Au, range → Av, getElem?_append_right → Aw, length_pos_iff → Ax, length_flatMap → Ay, append_nil → Az, mem_singleton → Ba, pairwise_map → Bb, take_of_length_le → Bc, eq_nil_of_length_eq_zero → Be, getElem?_replicate → Bk, length_replicate → Bm, pairwise_append → Bn, mem_cons → Bo, map_cons → Bp, map_congr_left → Bq
open Int renaming toNat_natCast → Aq, tmod_eq_emod_of_nonneg → Bh
open Nat renaming mod_eq_of_lt → Bd, add_sub_cancel → Bf, le_refl → Bg, sub_self → Br
open Bool renaming and_eq_true → Bj, and_eq_false_iff → Bl
namespace Go.Proofs.Ytmfagdfkpjgeiaa
open Go Go.Vv Go.Dn Go.Dn.W
set_option linter.unusedVariables false
set_option linter.unusedSimpArgs false
set_option maxRecDepth 100000
def Jro (l:List Int) (a b c:Int):Int:=if a∈l then a else if b∈l then b else if c∈l then c else b
def addP (po:List Cell) (q:Cell) (h h':Int):List Cell:=if h'≠h then po++[q] else po
theorem jy {α:Type} {m:Cr} {p:Cell} {x:Int} (hl:(atC m p).length≤1000000000) (k:Bool→Option α):@W.call wv α c_slices_Containsboundary_heading_boundary_heading_ ((@W.mg wv (.p I I) (.ls I) m p [],x):List Int×Int) k=k (decide (x∈atC m p)):=by
 rw [Jss];exact Jre hl k
section
variable (a:Reg) (h hl hr s5 s6:Int) (m:Cr) (s8 s9 x y:Int) (s12:List Cell) (s13:List (List Cell)) (po:List Cell)
abbrev st8 (h hl hr s5 s6:Int) (m:Cr) (s8 s9 x y:Int) (s12:List Cell) (s13:List (List Cell)) (po:List Cell) (i:Nat):HP Int (HP Int (HP Int (HP Int (HP Int (HP Int (HP Int (HP Cr (HP Int (HP Int (HP Int (HP Int (HP (List Cell) (HP (List (List Cell)) (HP (List Cell) Unit)))))))))))))) :=
 ⟨h,⟨hl,⟨h,⟨hr,⟨(i:Int),⟨s5,⟨s6,⟨m,⟨s8,⟨s9,⟨x,⟨y,⟨s12,⟨s13,⟨po,()⟩⟩⟩⟩⟩⟩⟩⟩⟩⟩⟩⟩⟩⟩⟩
abbrev fin8 (h:Int) (s5 s6:Int) (m:Cr) (s8 s9 x y:Int) (s12:List Cell) (s13:List (List Cell)) (po:List Cell) (c:Int):HP Int (HP Int (HP Int (HP Cr (HP Int (HP Int (HP Int (HP Int (HP (List Cell) (HP (List (List Cell)) (HP (List Cell) Unit)))))))))) :=
 ⟨c,⟨s5,⟨s6,⟨m,⟨s8,⟨s9,⟨x,⟨y,⟨s12,⟨s13,⟨addP po (x,y) h c,()⟩⟩⟩⟩⟩⟩⟩⟩⟩⟩⟩
theorem Jmw (hm:(atC m (x,y)).length≤1000000000) (hp:po.length≤1000000000) {i:Nat} {c:Int} (hi:i=0∧c=hl∨i=1∧c=h∨i=2∧c=hr) :
  @t_boundary_Trace_L8 wv a (st8 h hl hr s5 s6 m s8 s9 x y s12 s13 po i)=if c∈atC m (x,y) then some (.out (fin8 h s5 s6 m s8 s9 x y s12 s13 po c)) else some (.go (st8 h hl hr s5 s6 m s8 s9 x y s12 s13 po (i+1))):=by
 have e3:@W.ar wv .add .i64 (i:Int) 1=((i+1:Nat):Int):=by rw [Jx,wr (by omega) (by omega)];omega
 have tail:∀(c:Int),(@W.br wv (Nx _ _) (decide (c∈atC m (x,y))) (@W.br wv _ (@W.cm wv .neq c h) (@W.gd wv _ (@W.ft wv 16 (@W.pl wv (@W.ln wv Cell po) 1)) (some (.out (⟨c,⟨s5,⟨s6,⟨m,⟨s8,⟨s9,⟨x,⟨y,⟨s12,⟨s13,⟨@W.ap wv Cell po ((x,y)::[]),()⟩⟩⟩⟩⟩⟩⟩⟩⟩⟩⟩:HP Int (HP Int (HP Int (HP Cr (HP Int (HP Int (HP Int (HP Int (HP (List Cell) (HP (List (List Cell)) (HP (List Cell) Unit))))))))))))))
   (some (.out ⟨c,⟨s5,⟨s6,⟨m,⟨s8,⟨s9,⟨x,⟨y,⟨s12,⟨s13,⟨po,()⟩⟩⟩⟩⟩⟩⟩⟩⟩⟩⟩))) (some (.go (st8 h hl hr s5 s6 m s8 s9 x y s12 s13 po (i+1)))))=if c∈atC m (x,y) then some (.out (fin8 h s5 s6 m s8 s9 x y s12 s13 po c)) else some (.go (st8 h hl hr s5 s6 m s8 s9 x y s12 s13 po (i+1))):=by
  intro c
  by_cases hc:c∈atC m (x,y)
  ·rw [br_t (decide_eq_true hc),if_pos hc]
   by_cases e:c=h
   ·rw [br_f (by rw [zw];simp [e]),fin8,addP,if_neg (by simp [e])]
   ·rw [br_t (by rw [zw];simpa using e),w_ln,w_pl,Jat (by omega) (by omega),w_ap,fin8,addP,if_pos e]
  ·rw [br_f (decide_eq_false hc),if_neg hc]
 unfold t_boundary_Trace_L8
 dsimp only
 rw [e3]
 rcases hi with ⟨rfl,rfl⟩|⟨rfl,rfl⟩|⟨rfl,rfl⟩
 ·rw [Kj (by decide),br_t (by rfl)];exact (jy hm _).trans (tail _)
 ·rw [Kj (by decide),br_f (by rfl),br_t (by rfl)];exact (jy hm _).trans (tail _)
 ·rw [Kj (by decide),br_f (by rfl),br_f (by rfl),br_t (by rfl)];exact (jy hm _).trans (tail _)
theorem L8_end:@t_boundary_Trace_L8 wv a (st8 h hl hr s5 s6 m s8 s9 x y s12 s13 po 3)=some (.out (fin8 h s5 s6 m s8 s9 x y s12 s13 po h)):=by
 unfold t_boundary_Trace_L8
 dsimp only
 rw [Jy (by decide),fin8,addP,if_neg (by simp)]
theorem L9_L8:@t_boundary_Trace_L9 wv=@t_boundary_Trace_L8 wv:=rfl
theorem L8_ok (hm:(atC m (x,y)).length≤1000000000) (hp:po.length≤1000000000) :
  K3 (@t_boundary_Trace_L8 wv a) bigN (st8 h hl hr s5 s6 m s8 s9 x y s12 s13 po 0)=some (fin8 h s5 s6 m s8 s9 x y s12 s13 po (Jro (atC m (x,y)) hl h hr)):=by
 have b0:=Jmw a h hl hr s5 s6 m s8 s9 x y s12 s13 po hm hp (.inl ⟨rfl,rfl⟩)
 have b1:=Jmw a h hl hr s5 s6 m s8 s9 x y s12 s13 po hm hp (.inr (.inl ⟨rfl,rfl⟩))
 have b2:=Jmw a h hl hr s5 s6 m s8 s9 x y s12 s13 po hm hp (.inr (.inr ⟨rfl,rfl⟩))
 have b3:=L8_end a h hl hr s5 s6 m s8 s9 x y s12 s13 po
 unfold Jro
 by_cases h0:hl∈atC m (x,y)
 ·rw [if_pos h0] at b0 ⊢
  exact Ka (st8 h hl hr s5 s6 m s8 s9 x y s12 s13 po) 0 (by decide) (fun i hi=>by omega) b0
 rw [if_neg h0] at b0 ⊢
 by_cases h1:h∈atC m (x,y)
 ·rw [if_pos h1] at b1 ⊢
  exact Ka (st8 h hl hr s5 s6 m s8 s9 x y s12 s13 po) 1 (by decide) (fun i hi=>by rw [show i=0 by omega];exact b0) b1
 rw [if_neg h1] at b1 ⊢
 by_cases h2:hr∈atC m (x,y)
 ·rw [if_pos h2] at b2 ⊢
  exact Ka (st8 h hl hr s5 s6 m s8 s9 x y s12 s13 po) 2 (by decide) (fun i hi=>by
   rcases (show i=0∨i=1 by omega) with rfl|rfl
   ·exact b0
   ·exact b1) b2
 rw [if_neg h2] at b2 ⊢
 exact Ka (st8 h hl hr s5 s6 m s8 s9 x y s12 s13 po) 3 (by decide) (fun i hi=>by
  rcases (show i=0∨i=1∨i=2 by omega) with rfl|rfl|rfl
  ·exact b0
  ·exact b1
  ·exact b2) b3
end
end Go.Proofs.Ytmfagdfkpjgeiaa
namespace Go.Proofs.Ytmfagdfkpjgeiaa
open Go Go.Vv Go.Dn Go.Dn.W
set_option linter.unusedVariables false
set_option linter.unusedSimpArgs false
set_option linter.unusedSectionVars false
set_option maxRecDepth 100000
abbrev St7:=HP Int (HP Int (HP Int (HP Cr (HP Int (HP Int (HP Int (HP Int (HP (List Cell) (HP (List (List Cell)) (HP (List Cell) Unit))))))))))
abbrev Ou7:=HP Int (HP Int (HP Cr (HP (List Cell) (HP (List (List Cell)) (HP (List Cell) Unit)))))
abbrev st7 (h n i:Int) (m:Cr) (x0 y0 x y:Int) (cs:List Cell) (out:List (List Cell)) (po:List Cell):St7:=⟨h,⟨n,⟨i,⟨m,⟨x0,⟨y0,⟨x,⟨y,⟨cs,⟨out,⟨po,()⟩⟩⟩⟩⟩⟩⟩⟩⟩⟩⟩
abbrev ou7 (n i:Int) (m:Cr) (cs:List Cell) (out:List (List Cell)) (po:List Cell):Ou7:=⟨n,⟨i,⟨m,⟨cs,⟨out,⟨po,()⟩⟩⟩⟩⟩⟩
noncomputable def nx7 (h n i:Int) (m:Cr) (x0 y0:Int) (q:Cell) (cs:List Cell) (out:List (List Cell)) (po:List Cell):Nx St7 Ou7 :=
 if q=(x0,y0) then .out (ou7 n i m cs out po) else
  .go (st7 (Jro (atC m q) ((h+1) % 4) h ((h+3) % 4)) n i m x0 y0 q.1 q.2 cs out (addP po q h (Jro (atC m q) ((h+1) % 4) h ((h+3) % 4))))
theorem Jr9 (a:Reg) (h n i:Int) (m:Cr) (x0 y0 x y:Int) (cs:List Cell) (out:List (List Cell)) (po:List Cell) (hh:0≤h∧h≤3) (hs:J9 (x,y)) (hm:(atC m (Kh h (x,y))).length≤1000000000) (hp:po.length≤1000000000) :
  (@W.call wv (Nx St7 Ou7) c_boundary_heading_from ((h,(x,y)):Int×(Int×Int)) fun (v:Int×Int) =>
   @W.br wv (Nx St7 Ou7) (@W.an wv (@W.cm wv .eql v.1 x0) (@W.cm wv .eql v.2 y0)) (some (.out (ou7 n i m cs out po)))
   (@W.call wv (Nx St7 Ou7) c_boundary_heading_left (h:Int) fun (v20:Int)=>@W.call wv (Nx St7 Ou7) c_boundary_heading_right (h:Int) fun (v21:Int) =>
    @W.loop wv _ _ (Nx St7 Ou7) (@t_boundary_Trace_L8 wv a) ⟨h,⟨v20,⟨h,⟨v21,⟨0,⟨n,⟨i,⟨m,⟨x0,⟨y0,⟨v.1,⟨v.2,⟨cs,⟨out,⟨po,()⟩⟩⟩⟩⟩⟩⟩⟩⟩⟩⟩⟩⟩⟩⟩ fun v25 =>
     some (.go ⟨v25.hd,⟨v25.tl.hd,⟨v25.tl.tl.hd,⟨v25.tl.tl.tl.hd,⟨v25.tl.tl.tl.tl.hd,⟨v25.tl.tl.tl.tl.tl.hd,⟨v25.tl.tl.tl.tl.tl.tl.hd,⟨v25.tl.tl.tl.tl.tl.tl.tl.hd,⟨v25.tl.tl.tl.tl.tl.tl.tl.tl.hd,⟨v25.tl.tl.tl.tl.tl.tl.tl.tl.tl.hd,⟨v25.tl.tl.tl.tl.tl.tl.tl.tl.tl.tl.hd,()⟩⟩⟩⟩⟩⟩⟩⟩⟩⟩⟩))) =
   some (nx7 h n i m x0 y0 (Kh h (x,y)) cs out po):=by
 rw [k_from hs]
 generalize Kh h (x,y)=q at *
 obtain ⟨qx,qy⟩:=q
 unfold nx7
 by_cases e:(qx,qy)=(x0,y0)
 ·rw [if_pos e,br_t (by rw [w_an,Q4,Q4];injection e with e1 e2;simp [e1,e2])]
 ·rw [if_neg e,br_f (by
   rw [w_an,Q4,Q4,Bl,beq_eq_false_iff_ne,beq_eq_false_iff_ne]
   by_cases e1:qx=x0
   ·exact .inr fun e2=>e (by dsimp only at e2;rw [e1,e2])
   ·exact .inl e1),k_left hh.1 hh.2,k_right hh.1 hh.2]
  refine (lo_s (L8_ok a h ((h+1) % 4) ((h+3) % 4) n i m x0 y0 qx qy cs out po hm hp)).trans ?_
  rfl
theorem Jpm {m:Cr} {T:Cell→Int→Prop} (h:MapOK m T) (hT:∀p x,T p x→x=0∨x=1∨x=2∨x=3) (p:Cell):(atC m p).length≤4 :=
 Xj (m:=[0,1,2,3]) (h.one p) fun x hx=>by rcases hT p x ((h.mem p x).1 hx) with rfl|rfl|rfl|rfl<;>simp
theorem L7_step (a:Reg) (h n i:Int) (m:Cr) (x0 y0 x y:Int) (cs:List Cell) (out:List (List Cell)) (po:List Cell) {T:Cell→Int→Prop} (hM:MapOK m T) (hT:∀p x,T p x→x=0∨x=1∨x=2∨x=3) (hx:T (x,y) h)
  (hs:J9 (x,y)) (hp:po.length≤1000000000) :
  ∃m',MapOK m' (fun q z=>T q z∧¬(q=(x,y)∧z=h))∧@t_boundary_Trace_L7 wv a (st7 h n i m x0 y0 x y cs out po)=some (nx7 h n i m' x0 y0 (Kh h (x,y)) cs out po):=by
 have hh:0≤h∧h≤3:=by have:=hT _ _ hx;omega
 have h4:=Jpm hM hT (x,y)
 obtain ⟨e,he,hq⟩:=Jue (l:=atC m (x,y)) h (by omega)
 have hin:h∈atC m (x,y):=(hM.mem _ _).2 hx
 rcases hq with ⟨_,hn⟩|⟨j,hj,rfl⟩
 ·exact (hn hin).elim
 have hjl:=(Ac.1 hj).1
 have em:@W.mg wv (.p I I) (.ls I) m (x,y) []=atC m (x,y):=Jss m (x,y)
 have ed:@W.md wv (.p I I) (.ls I) m (x,y)=delC m (x,y):=md_del m (x,y)
 by_cases h1:(atC m (x,y)).length=1
 ·have hl:atC m (x,y)=[h]:=by
   obtain ⟨z,hz⟩:=List.length_eq_one_iff.1 h1
   rw [hz] at hin ⊢
   rw [Ba.1 hin]
  have hM':=hM.del hl
  refine ⟨_,hM',?_⟩
  have h5:=Jpm hM' (fun p x h=>hT p x h.1) (Kh h (x,y))
  unfold t_boundary_Trace_L7
  dsimp only
  rw [em,he,Jy (by omega),br_t (by show (((atC m (x,y)).length:Int)==1)=true;rw [h1];rfl),ed]
  exact Jr9 a h n i (delC m (x,y)) x0 y0 x y cs out po hh hs (by omega) hp
 ·have hM':=hM.cut hj h1
  refine ⟨_,hM',?_⟩
  have h5:=Jpm hM' (fun p x h=>hT p x h.1) (Kh h (x,y))
  unfold t_boundary_Trace_L7
  dsimp only
  have e3:@W.ar wv .add .i64 (j:Int) 1=((j+1:Nat):Int):=by rw [Jx,wr (by omega) (by omega)];omega
  have ec:(atC m (x,y)).take (j:Int).toNat++((atC m (x,y)).drop ((j+1:Nat):Int).toNat).take (((atC m (x,y)).length:Int) - ((j+1:Nat):Int)).toNat=(atC m (x,y)).take j++(atC m (x,y)).drop (j+1):=by
   congr 1
   rw [Aq,Bc (by rw [List.length_drop];omega)]
  have es:@W.ms wv (.p I I) (.ls I) m (x,y) (@W.ap wv I.T (@W.ct wv I.T (atC m (x,y)) 0 (j:Int)) (@W.ct wv I.T (atC m (x,y)) (@W.ar wv .add .i64 (j:Int) 1) (@W.mi wv (@W.ln wv I.T (atC m (x,y))) (@W.ar wv .add .i64 (j:Int) 1))))=putC m (x,y) ((atC m (x,y)).take j++(atC m (x,y)).drop (j+1)):=by
   rw [e3,←ec]
   exact ms_put m (x,y) _
  rw [em,he,Jy (by omega),br_f (by show (((atC m (x,y)).length:Int)==1)=false;rw [beq_eq_false_iff_ne];omega),es]
  refine (fitB (n:=((atC m (x,y)).length:Int)) (by omega) (by omega) (by decide)).trans ?_
  refine (gd_t (show ((decide (0≤(j:Int)∧(j:Int)<(atC m (x,y)).length))&&((decide ((j:Int)+1≤@W.ar wv .add .i64 (j:Int) 1))&&(decide (@W.ar wv .add .i64 (j:Int) 1≤((atC m (x,y)).length:Int)))))=true by
   rw [e3];simp only [Bj,decide_eq_true_eq];omega)).trans ?_
  rw [L9_L8]
  exact Jr9 a h n i _ x0 y0 x y cs out po hh hs (by omega) hp
theorem pick_nxt {m:Cr} {T:Cell→Int→Prop} (hM:MapOK m T) {r:Reg} (hT:∀p x,T p x→Crk r p x) {p:Cell} {x:Int} (hn:T (Kh x p) (nxtH r p x)) :
  Jro (atC m (Kh x p)) ((x+1) % 4) x ((x+3) % 4)=nxtH r p x:=by
 unfold Jro
 have hmem:∀y,y∈atC m (Kh x p)→Crk r (Kh x p) y:=fun y hy=>hT _ _ ((hM.mem _ _).1 hy)
 have hin:=(hM.mem _ _).2 hn
 unfold nxtH at hin ⊢
 dsimp only at hin ⊢
 by_cases h1:Crk r (Kh x p) ((x+1) % 4)
 ·rw [if_pos h1] at hin ⊢
  rw [if_pos hin]
 ·rw [if_neg h1] at hin ⊢
  rw [if_neg fun h=>h1 (hmem _ h)]
  by_cases h2:Crk r (Kh x p) x
  ·rw [if_pos h2] at hin ⊢
   rw [if_pos hin]
  ·rw [if_neg h2] at hin ⊢
   rw [if_neg fun h=>h2 (hmem _ h),if_pos hin]
theorem Qf {r:Reg} (hr:RegOK r) {p:Cell} {x:Int} (h:Crk r p x):J9 p:=by
 have:=hr.bd (Jtd h)
 unfold J4 at this
 unfold J9
 rcases h.hd with rfl|rfl|rfl|rfl<;>simp at this<;>omega
theorem Jn1 (r:Reg) (s:Ck) (a n:Nat):(seg r s a n).length≤n:=by
 have:=List.length_filterMap_le (fun i=>turnAt r s (a+i)) (Av n)
 rw [Au] at this
 exact this
theorem L7_ok (a r:Reg) (hr:RegOK r) (hcks:(cks r).length≤1000000) {S:Ck→Prop} (hS:Closed r S) {m:Cr} (hM:MapOK m fun p x=>S (p,x)) {s:Ck} (hs:S s) (hl:Least r s) (n i:Int) (cs:List Cell) (out:List (List Cell)) :
  ∃m',K3 (@t_boundary_Trace_L7 wv a) bigN (st7 s.2 n i m s.1.1 s.1.2 s.1.1 s.1.2 cs out [s.1])=some (ou7 n i m' cs out (pol r s))∧MapOK m' (fun p x=>S (p,x)∧¬ ∃k,(p,x)=itr (nx r) k s):=by
 have hN:=Xz hl.1
 have hle:=Jch hl.1
 have hp:=hN.pos
 unfold pol
 generalize perN r s=N at *
 obtain ⟨M,rfl⟩:∃M,N=M+1:=⟨N - 1,by omega⟩
 have hmem:=hl.mem
 have step:∀k,k<M+1→∀m,MapOK m (fun p x=>S (p,x)∧¬ ∃j,j<k∧(p,x)=itr (nx r) j s) →
   ∃m',MapOK m' (fun p x=>S (p,x)∧¬ ∃j,j<k+1∧(p,x)=itr (nx r) j s) ∧
    @t_boundary_Trace_L7 wv a (st7 (hdK r s k) n i m s.1.1 s.1.2 (ptK r s k).1 (ptK r s k).2 cs out (s.1::seg r s 0 k))=some (nx7 (hdK r s k) n i m' s.1.1 s.1.2 (ptK r s (k+1)) cs out (s.1::seg r s 0 k)):=by
  intro k hk m hm
  have hSk:S (ptK r s k,hdK r s k):=hS.itr hs k
  obtain ⟨m',h1,h2⟩:=L7_step a (hdK r s k) n i m s.1.1 s.1.2 (ptK r s k).1 (ptK r s k).2 cs out (s.1::seg r s 0 k) hm (fun p x h=>(hS.1 _ h.1).hd) ⟨hSk,fun ⟨j,hj,e⟩=>by
    have:=(ring r).dist hmem hN (i:=j) (j:=k) (by omega) hk e.symm
    omega⟩ (Qf hr (hS.1 _ hSk)) (by have:=Jn1 r s 0 k;rw [Ak];omega)
  refine ⟨m',h1.congr fun p x=>?_,h2⟩
  constructor
  ·rintro ⟨⟨g1,g2⟩,g3⟩
   refine ⟨g1,fun ⟨j,hj,e⟩=>?_⟩
   by_cases hjk:j=k
   ·subst hjk
    exact g3 ⟨congrArg Prod.fst e,congrArg Prod.snd e⟩
   ·exact g2 ⟨j,by omega,e⟩
  ·rintro ⟨g1,g2⟩
   refine ⟨⟨g1,fun ⟨j,hj,e⟩=>g2 ⟨j,by omega,e⟩⟩,fun ⟨e1,e2⟩=>g2 ⟨k,by omega,?_⟩⟩
   rw [e1,e2];rfl
 obtain ⟨e,he,m',rfl,h⟩:=Qh (b:=@t_boundary_Trace_L7 wv a)
  (fun k st=>∃m,st=st7 (hdK r s k) n i m s.1.1 s.1.2 (ptK r s k).1 (ptK r s k).2 cs out (s.1::seg r s 0 k)∧MapOK m (fun p x=>S (p,x)∧¬ ∃j,j<k∧(p,x)=itr (nx r) j s))
  (fun e=>∃m,e=ou7 n i m cs out (poly r s (M+1))∧MapOK m (fun p x=>S (p,x)∧¬ ∃k,(p,x)=itr (nx r) k s))
  M (by omega) (s0:=st7 s.2 n i m s.1.1 s.1.2 s.1.1 s.1.2 cs out [s.1])
  ⟨m,rfl,hM.congr fun p x=>⟨fun h=>⟨h,fun ⟨j,hj,_⟩=>by omega⟩,And.left⟩⟩
  (fun k st hk=>by
   rintro ⟨m1,rfl,h1⟩
   obtain ⟨m2,h2,h3⟩:=step k (by omega) m1 h1
   have hne:ptK r s (k+1)≠s.1:=hl.ne hN (k:=k+1) (by omega) (by omega)
   have hnx:(fun p x=>S (p,x)∧¬ ∃j,j<k+1∧(p,x)=itr (nx r) j s) (Kh (hdK r s k) (ptK r s k)) (nxtH r (ptK r s k) (hdK r s k)):=⟨hS.itr hs (k+1),fun ⟨j,hj,e⟩=>by
    have:=(ring r).dist hmem hN (i:=j) (j:=k+1) (by omega) (by omega) e.symm
    omega⟩
   have hpk:=pick_nxt h2 (r:=r) (fun p x h=>hS.1 _ h.1) hnx
   refine ⟨_,h3.trans ?_,m2,rfl,h2⟩
   unfold nx7
   rw [if_neg hne,Jh5,hpk]
   have e1:nxtH r (ptK r s k) (hdK r s k)=hdK r s (k+1):=rfl
   rw [e1,←Jh5]
   congr 3
   rw [Ja7,Nat.zero_add]
   unfold addP
   by_cases e:hdK r s (k+1)=hdK r s k
   ·have:turnAt r s k=none:=if_pos e
    rw [if_neg (by simpa using e),this];simp
   ·have:turnAt r s k=some (ptK r s (k+1)):=if_neg e
    rw [if_pos e,this];rfl)
  (by
   rintro st ⟨m1,rfl,h1⟩
   obtain ⟨m2,h2,h3⟩:=step M (by omega) m1 h1
   have hb:ptK r s (M+1)=s.1:=congrArg Prod.fst hN.back
   refine ⟨_,h3.trans ?_,m2,rfl,h2.congr fun p x=>⟨fun ⟨g1,g2⟩=>⟨g1,fun ⟨k,e⟩=>?_⟩,fun ⟨g1,g2⟩=>⟨g1,fun ⟨j,_,e⟩=>g2 ⟨j,e⟩⟩⟩⟩
   ·unfold nx7
    rw [hb,if_pos rfl]
    rfl
   ·obtain ⟨j,hj,e'⟩:=hN.modN k
    exact g2 ⟨j,hj,e.trans e'⟩)
 exact ⟨m',he,h⟩
end Go.Proofs.Ytmfagdfkpjgeiaa
namespace Go.Proofs.Ytmfagdfkpjgeiaa
open Go Go.Vv Go.Dn Go.Dn.W
set_option linter.unusedVariables false
set_option linter.unusedSimpArgs false
set_option linter.unusedSectionVars false
set_option maxRecDepth 100000
theorem Least.same {r:Reg} {s t:Ck} (h:Least r s) (h':Least r t) {k:Nat} (e:t=itr (nx r) k s):t=s:=by
 obtain ⟨j,hj⟩:=(Xz h.1).to s k
 rw [←e] at hj
 have h1:=h.2 k
 have h2:=h'.2 j
 rw [←e] at h1
 rw [hj] at h2
 rcases Joh s.1 t.1 with q|q|q
 ·exact (h2 q).elim
 ·exact h.uniq h' q.symm
 ·exact (h1 q).elim
abbrev st6 (n:Int) (i:Nat) (m:Cr) (cs:List Cell) (out:List (List Cell)):HP Int (HP Int (HP Cr (HP (List Cell) (HP (List (List Cell)) Unit)))):=⟨n,⟨(i:Int),⟨m,⟨cs,⟨out,()⟩⟩⟩⟩⟩
structure Inv6 (r:Reg) (cs:List Cell) (i:Nat) (m:Cr) (out:List (List Cell)):Prop where
 ex:∃(S:Ck→Prop) (ls:List Ck),Closed r S∧MapOK m (fun p x=>S (p,x))∧(∀c,S c→∃j,i≤j∧cs[j]?=some c.1)∧out=ls.map (pol r) ∧
  ls.Pairwise (fun a b=>yx a.1 b.1)∧(∀s∈ls,Least r s∧∃j,j<i∧cs[j]?=some s.1)∧∀s,Least r s→s∈ls∨S s
theorem cs_lt {cs:List Cell} (h:cs.Pairwise yx) {i j:Nat} {a b:Cell} (ha:cs[i]?=some a) (hb:cs[j]?=some b) (hij:i<j):yx a b:=by
 obtain ⟨p1,e1⟩:=Ac.1 ha
 obtain ⟨p2,e2⟩:=Ac.1 hb
 rw [←e1,←e2]
 exact Am.1 h i j p1 p2 hij
theorem L6_step (a r:Reg) (hr:RegOK r) (hcks:(cks r).length≤1000000) {cs:List Cell} (hcs:cs.Pairwise yx) (hlen:cs.length≤1000000000) {i:Nat} (hi:i<cs.length) {m:Cr} {out:List (List Cell)} (h:Inv6 r cs i m out) :
  ∃m' out',@t_boundary_Trace_L6 wv a (st6 cs.length i m cs out)=some (.go (st6 cs.length (i+1) m' cs out'))∧Inv6 r cs (i+1) m' out':=by
 obtain ⟨S,ls,hS,hM,hc,rfl,hpw,hls,hall⟩:=h.ex
 have hp:cs[i]?=some cs[i]:=Ab hi
 generalize cs[i]=p at hp
 have h4:=Jpm hM (fun p x h=>(hS.1 _ h).hd) p
 have e3:@W.ar wv .add .i64 (i:Int) 1=((i+1:Nat):Int):=by rw [Jx,wr (by omega) (by omega)];omega
 have em:@W.mg wv (.p I I) (.ls I) m (p.1,p.2) []=atC m p:=Jss m p
 cases hat:atC m p with
 | nil =>
  refine ⟨m,_,?_,⟨S,ls,hS,hM,fun c hSc=>?_,rfl,hpw,fun s hs=>⟨(hls s hs).1,?_⟩,hall⟩⟩
  ·unfold t_boundary_Trace_L6
   dsimp only
   rw [Kj (by omega),Jcg (by rw [w_ln];omega),ge_s (fg hp)]
   rw [em,hat,br_f (by rfl),e3]
  ·obtain ⟨j,hj,e⟩:=hc c hSc
   refine ⟨j,?_,e⟩
   by_cases hji:j=i
   ·subst hji
    rw [hp] at e
    injection e with e
    have:=(hM.mem c.1 c.2).2 hSc
    rw [←e,hat] at this
    cases this
   ·omega
  ·obtain ⟨j,hj,e⟩:=(hls s hs).2
   exact ⟨j,by omega,e⟩
 | cons x l =>
  have hSp:S (p,x):=(hM.mem p x).1 (by rw [hat];exact List.mem_cons_self ..)
  have hge:∀c,S c→¬yx c.1 p:=fun c hSc hlt=>by
   obtain ⟨j,hj,e⟩:=hc c hSc
   rcases Nat.lt_or_eq_of_le hj with q|q
   ·exact Jjs (cs_lt hcs hp e q) hlt
   ·subst q;rw [hp] at e;injection e with e;rw [e] at hlt;exact Yi _ hlt
  have hl:Least r (p,x):=⟨hS.1 _ hSp,fun k=>hge _ (hS.itr hSp k)⟩
  have hlsn:ls.length≤1000000:=by
   have hnd:ls.Nodup:=hpw.imp fun {a b} (h:yx a.1 b.1) (e:a=b)=>Yi a.1 (by subst e;exact h)
   have:(ls.length:Nat)≤(cks r).length:=Xj hnd fun s hs=>(hls s hs).1.mem
   omega
  obtain ⟨m',hw,hM'⟩:=L7_ok a r hr hcks hS hM hSp hl (cs.length:Int) (i:Int) cs (ls.map (pol r))
  refine ⟨m',_,?_,⟨_,ls++[(p,x)],hS.sub hl.1,hM',fun c hSc=>?_,rfl,?_,fun s hs=>?_,fun t ht=>?_⟩⟩
  ·unfold t_boundary_Trace_L6
   dsimp only
   rw [Kj (by omega),Jcg (by rw [w_ln];omega),ge_s (fg hp)]
   rw [em,hat,br_t (by show decide (((x::l).length:Int) > 0)=true;rw [Ak];exact decide_eq_true (by omega))]
   refine (ge_s (x:=x) rfl).trans ((lo_s hw).trans ?_)
   dsimp only
   rw [w_ln,w_pl,Aa,fitB (by omega) (by omega) (by decide),e3,w_ap,Aj]
   rfl
  ·obtain ⟨j,hj,e⟩:=hc c hSc.1
   refine ⟨j,?_,e⟩
   by_cases hji:j=i
   ·subst hji
    rw [hp] at e
    injection e with e
    refine (hSc.2 ⟨0,?_⟩).elim
    exact hl.only (hS.1 _ hSc.1) e.symm (hge _ (hS.2 _ hSc.1))
   ·omega
  ·refine Bn.2 ⟨hpw,List.pairwise_singleton _ _,fun a ha b hb=>?_⟩
   rw [Ba] at hb
   subst hb
   obtain ⟨j,hj,e⟩:=(hls a ha).2
   exact cs_lt hcs e hp hj
  ·rcases As.1 hs with hs|hs
   ·obtain ⟨j,hj,e⟩:=(hls s hs).2
    exact ⟨(hls s hs).1,j,by omega,e⟩
   ·rw [Ba] at hs
    subst hs
    exact ⟨hl,i,by omega,hp⟩
  ·rcases hall t ht with q|q
   ·exact .inl (As.2 (.inl q))
   ·by_cases hk:∃k,t=itr (nx r) k (p,x)
    ·obtain ⟨k,e⟩:=hk
     exact .inl (As.2 (.inr (Ba.2 (hl.same ht e))))
    ·exact .inr ⟨q,hk⟩
open Classical in
noncomputable def starts (r:Reg):List Ck:=if h:∃l,Starts r l then h.choose else []
theorem Jbj {r:Reg} {l:List Ck} (h:Starts r l):starts r=l:=by
 have hx:∃l,Starts r l:=⟨l,h⟩
 unfold starts
 rw [dif_pos hx]
 exact hx.choose_spec.uniq h
theorem L6_ok (a r:Reg) (hr:RegOK r) (hcks:(cks r).length≤1000000) {cs:List Cell} (hcs:cs.Pairwise yx) (hlen:cs.length≤1000000000) {m:Cr} (hM:MapOK m fun p x=>Crk r p x) (hmem:∀p,p∈cs↔∃x,Crk r p x) :
  Starts r (starts r)∧K3 (@t_boundary_Trace_L6 wv a) bigN (st6 cs.length 0 m cs [])=some ⟨(starts r).map (pol r),()⟩:=by
 obtain ⟨e,he,hQ⟩:=Qh (b:=@t_boundary_Trace_L6 wv a)
  (fun i s=>∃m out,s=st6 cs.length i m cs out∧Inv6 r cs i m out)
  (fun e=>∃ls,Starts r ls∧e=⟨ls.map (pol r),()⟩) cs.length (by omega) (s0:=st6 cs.length 0 m cs [])
  ⟨m,[],rfl,⟨fun c=>Crk r c.1 c.2,[],⟨fun c h=>h,fun c h=>Jno h⟩,hM,fun c h=>by
   obtain ⟨j,hj⟩:=Ag ((hmem c.1).2 ⟨_,h⟩)
   exact ⟨j,Nat.zero_le _,hj⟩,rfl,.nil,fun s hs=>(List.not_mem_nil hs).elim,fun s hs=>.inr hs.1⟩⟩
  (fun i s hi=>by
   rintro ⟨m,out,rfl,h⟩
   obtain ⟨m',out',h1,h2⟩:=L6_step a r hr hcks hcs hlen hi h
   exact ⟨_,h1,m',out',rfl,h2⟩)
  (by
   rintro s ⟨m,out,rfl,h⟩
   obtain ⟨S,ls,hS,hM,hc,rfl,hpw,hls,hall⟩:=h.ex
   refine ⟨_,?_,ls,⟨hpw,fun c=>⟨fun h=>(hls c h).1,fun h=>(hall c h).elim id fun q=>?_⟩⟩,rfl⟩
   ·unfold t_boundary_Trace_L6
    dsimp only
    rw [Jy (by omega)]
   ·obtain ⟨j,hj,e⟩:=hc c q
    have:=(Ac.1 e).1
    omega)
 obtain ⟨ls,h1,rfl⟩:=hQ
 rw [Jbj h1]
 exact ⟨h1,he⟩
theorem Jog {l:List Cell} (hnd:l.Nodup) (h:l.Pairwise fun a b=>Go.Proofs.ltOf cmpB b a=false) (hok:∀x∈l,okB x=true):l.Pairwise yx:=by
 refine (List.Pairwise.and hnd h).imp_of_mem fun {a b} ha hb ⟨hne,hlt⟩=>?_
 have h1:¬cmpB b a<0:=by simpa [Go.Proofs.ltOf] using hlt
 rw [jx (hok b hb) (hok a ha)] at h1
 rcases Joh a b with q|q|q
 ·exact q
 ·exact (hne q).elim
 ·exact (h1 q).elim
theorem Jc7 (p:List Cell) (hlen:p.length≤1000000) (hok:∀x∈p,okB x=true):∃q:List Cell,sortAny (t:=.p I I) cmpB okB eqB zB p=some q∧q.Perm p∧q.Pairwise fun a b=>Go.Proofs.ltOf cmpB b a=false :=
 Jk0 (t:=.p I I) swoB (eq:=eqB) (d0:=zB) (l:=p) (show p.length<_ by omega) hok
open Classical in
theorem Jdh (r:Reg) (hl:LimR r) (hcks:RegOK r→(cks r).length≤1000000):@t_boundary_Trace wv r=some (if RegOK r then (starts r).map (pol r) else [])∧(RegOK r→Starts r (starts r)):=by
 unfold t_boundary_Trace
 rw [K7 hl]
 by_cases hr:RegOK r
 case neg=>exact ⟨by rw [br_t (by simp [w_nt,hr]),if_neg hr],fun h=>(hr h).elim⟩
 rw [br_f (by simp [w_nt,hr]),if_pos hr]
 have hcks:=hcks hr
 obtain ⟨m,he,hM0⟩:=Jq1 r r hr hl.1
 have hM:MapOK m fun p x=>Crk r p x:=hM0.congr fun p x=>crk_iff hr p x
 have hkey:∀p,p∈m.map (·.1)↔∃x,Crk r p x:=fun p=>hM.key p
 have hlen:m.length≤1000000:=by
  have:(m.map (·.1)).length≤((cks r).map (·.1)).length:=Xj hM.nd fun p hp=>by
   obtain ⟨x,hx⟩:=(hkey p).1 hp
   exact Ai.2 ⟨(p,x),Kw.2 hx,rfl⟩
  rw [Aa,Aa] at this
  omega
 have hokB:∀p,p∈m.map (·.1)→okB p=true:=fun p hp=>by
  obtain ⟨x,hx⟩:=(hkey p).1 hp
  have:=Qf hr hx
  unfold J9 at this
  unfold okB
  exact decide_eq_true (by omega)
 have hst:∃l,Starts r l:=by
  obtain ⟨q,h1,h2,h3⟩:=Jc7 (m.map (·.1)) (by rw [Aa];omega) hokB
  exact ⟨_,(L6_ok r r hr hcks (cs:=q) (Jog (h2.nodup_iff.2 hM.nd) h3 fun x hx=>hokB x (h2.mem_iff.1 hx)) (by rw [h2.length_eq,Aa];omega) hM fun p=>(h2.mem_iff).trans (hkey p)).1⟩
 refine ⟨?_,fun _=>by obtain ⟨l,h⟩:=hst;rw [Jbj h];exact h⟩
 rw [w_ln]
 refine (lo_s he).trans ?_
 dsimp only
 rw [w_ln,Jat (by omega) (by omega)]
 refine Jwd fun p0 hp=>?_
 obtain ⟨p,rfl⟩:∃p:List Cell,p=p0:=⟨p0,rfl⟩
 have hp:List.Perm (α:=Cell) p (m.map (·.1)):=hp
 obtain ⟨q,h1,h2,h3⟩:=Jc7 p (by rw [hp.length_eq,Aa];omega) fun x hx=>hokB x (hp.mem_iff.1 hx)
 have h2':q.Perm (m.map (·.1)):=h2.trans hp
 have hL6:=(L6_ok r r hr hcks (cs:=q) (Jog (h2'.nodup_iff.2 hM.nd) h3 fun x hx=>hokB x (h2'.mem_iff.1 hx)) (by rw [h2'.length_eq,Aa];omega) hM fun p=>(h2'.mem_iff).trans (hkey p)).2
 refine (ca_s (c:=c_s26_27) h1).trans ?_
 rw [w_ln]
 exact (lo_s hL6).trans rfl
open Classical in
theorem k_Trace {α:Type} {r:Reg} (hl:LimR r) (hcks:RegOK r→(cks r).length≤1000000) (k:List (List (Int×Int))→Option α):@W.call wv α c_boundary_Trace r k=k (if RegOK r then (starts r).map (pol r) else []):=ca_s (c:=c_boundary_Trace) (Jdh r hl hcks).1
end Go.Proofs.Ytmfagdfkpjgeiaa
namespace Go.Proofs.Ytmfagdfkpjgeiaa
open Go Go.Vv Go.Dn Go.Dn.W
set_option linter.unusedVariables false
set_option linter.unusedSimpArgs false
set_option linter.unusedSectionVars false
set_option maxRecDepth 100000
def enc (c:Ck):Cell×Cell:=(c.1,Kh c.2 c.1)
abbrev St22:=HP (List (Int×Int)) (HP Int (HP Reg (HP (List (Cell×Cell)) Unit)))
abbrev Ou22:=HP (List (Cell×Cell)) Unit
noncomputable def side (r:Reg) (c:Cell) (e:Cell×Cell) (K:List (Cell×Cell)→Option (Nx St22 Ou22)) (o:List (Cell×Cell)):Option (Nx St22 Ou22) :=
 @W.call wv (Nx St22 Ou22) c_additiveref18_Contains ((r,c):Reg×(Int×Int)) fun v =>
  @W.br wv (Nx St22 Ou22) (@W.nt wv v) (@W.gd wv (Nx St22 Ou22) (@W.ft wv 32 (@W.pl wv (@W.ln wv (Cell×Cell) o) 1)) (K (@W.ap wv (Cell×Cell) o (e::[])))) (K o)
open Classical in
theorem Jh8 (r:Reg) (hl:LimR r) (hr:RegOK r) (c:Cell) (e:Cell×Cell) (K:List (Cell×Cell)→Option (Nx St22 Ou22)) (o:List (Cell×Cell)) (ho:o.length≤1000000000) :
  side r c e K o=K (o++if Kz r c then [] else [e]):=by
 unfold side
 refine (Jf6 hl _).trans ?_
 by_cases h:Kz r c
 ·rw [br_f (by simp [w_nt,hr,h]),if_pos h,Az]
 ·rw [br_t (by simp [w_nt,hr,h]),w_ln,w_pl,fit32 (by omega) (by omega),w_ap,if_neg h]
theorem Jns (r:Reg) (hl:LimR r) (hr:RegOK r) {cells:List Cell} {i:Nat} {x y:Int} (hc:cells[i]?=some (x,y)) (hb:J9 (x,y)) (hn:cells.length≤1000000000) {out:List (Cell×Cell)} (ho:out.length≤1000000000 - 10) :
  @t_additiveref22_cracks_L0 wv ⟨cells,⟨(i:Int),⟨r,⟨out,()⟩⟩⟩⟩=some (.go ⟨cells,⟨((i+1:Nat):Int),⟨r,⟨out++(cellCk r (x,y)).map enc,()⟩⟩⟩⟩):=by
 classical
 obtain ⟨⟨b1,b2⟩,b3,b4⟩:=hb
 dsimp only at b1 b2 b3 b4
 have hlt:=(Ac.1 hc).1
 have e0:@W.ar wv .add .i64 (i:Int) 1=((i+1:Nat):Int):=by rw [Jx,wr (by omega) (by omega)];omega
 have e1:@W.ar wv .add .i64 x 1=x+1:=by rw [Jx,wr (by omega) (by omega)]
 have e2:@W.ar wv .add .i64 y 1=y+1:=by rw [Jx,wr (by omega) (by omega)]
 have e3:@W.ar wv .sub .i64 x 1=x - 1:=by rw [Qj,wr (by omega) (by omega)]
 have e4:@W.ar wv .sub .i64 y 1=y - 1:=by rw [Qj,wr (by omega) (by omega)]
 unfold t_additiveref22_cracks_L0
 dsimp only
 rw [w_ln,Kj (by omega),ge_s (fg hc),ge_s (fg hc)]
 dsimp only
 rw [e0,e1,e2,e3,e4]
 refine (show _=side r (x,y - 1) ((x,y),(x+1,y)) (side r (x+1,y) ((x+1,y),(x+1,y+1)) (side r (x,y+1) ((x+1,y+1),(x,y+1)) (side r (x - 1,y) ((x,y+1),(x,y))
  fun o=>some (.go ⟨cells,⟨((i+1:Nat):Int),⟨r,⟨o,()⟩⟩⟩⟩)))) out from rfl).trans ?_
 have h1:∀(p:Prop) [Decidable p] (e:Cell×Cell),(if p then [] else [e]).length≤1:=fun p _ e=>by split<;>simp
 have g1:=h1 (Kz r (x,y - 1)) ((x,y),(x+1,y))
 have g2:=h1 (Kz r (x+1,y)) ((x+1,y),(x+1,y+1))
 have g3:=h1 (Kz r (x,y+1)) ((x+1,y+1),(x,y+1))
 rw [Jh8 r hl hr _ _ _ _ (by omega),Jh8 r hl hr _ _ _ _ (by rw [Ae];omega),Jh8 r hl hr _ _ _ _ (by rw [Ae,Ae];omega),Jh8 r hl hr _ _ _ _ (by rw [Ae,Ae,Ae];omega)]
 have hm:∀(p:Prop) [Decidable p] (c:Ck),(if p then [] else [c]).map enc=if p then [] else [enc c]:=fun p _ c=>by split<;>simp
 have d0:enc ((x,y),0)=((x,y),(x+1,y)):=rfl
 have d1:enc ((x+1,y),1)=((x+1,y),(x+1,y+1)):=rfl
 have d2:enc ((x+1,y+1),2)=((x+1,y+1),(x,y+1)):=by show ((x+1,y+1),(x+1 - 1,y+1))=_;rw [Int.add_sub_cancel]
 have d3:enc ((x,y+1),3)=((x,y+1),(x,y)):=by show ((x,y+1),(x,y+1 - 1))=_;rw [Int.add_sub_cancel]
 unfold cellCk
 rw [Aj,Aj,Aj,hm,hm,hm,hm,d0,d1,d2,d3]
 simp only [Ar]
open Classical in
theorem Ji3 (r:Reg) (hl:LimR r) (hr:RegOK r) (hc:(J7 r).length≤1000000):@t_additiveref22_cracks wv r=some ((cks r).map enc):=by
 unfold t_additiveref22_cracks
 rw [Jm5 hl (fun _=>by omega),if_pos hr]
 have hloop:=Ka (b:=@t_additiveref22_cracks_L0 wv) (e:=⟨(cks r).map enc,()⟩) (fun i=>⟨J7 r,⟨(i:Int),⟨r,⟨(((J7 r).take i).flatMap (cellCk r)).map enc,()⟩⟩⟩⟩) (J7 r).length (by omega) (fun i hi=>by
  have hx:=Ab hi
  generalize (J7 r)[i]=v at hx
  obtain ⟨x,y⟩:=v
  have hb:=hr.bd (Qx.1 (Ad hx))
  rw [Jns r hl hr hx (by unfold J9;omega) (by omega) (by
   rw [Aa]
   have:=Jnx (f:=cellCk r) (l:=(J7 r).take i) (n:=4) fun c _=>Jgy r c
   rw [Ah] at this
   omega),jp hx,Aj]) (by
  unfold t_additiveref22_cracks_L0
  dsimp only
  rw [w_ln,Jy (by omega),Ao]
  rfl)
 exact (lo_s hloop).trans rfl
open Classical in
theorem Jlq {α:Type} {r:Reg} (hl:LimR r) (hr:RegOK r) (hc:(J7 r).length≤1000000) (k:List ((Int×Int)×(Int×Int))→Option α):@W.call wv α c_additiveref22_cracks r k=k ((cks r).map enc):=ca_s (c:=c_additiveref22_cracks) (Ji3 r hl hr hc)
theorem Jkp {a b c d:Cell} (h1:-4≤b.1 - a.1∧b.1 - a.1≤4) (h2:-4≤d.2 - c.2∧d.2 - c.2≤4) (h3:-4≤b.2 - a.2∧b.2 - a.2≤4) (h4:-4≤d.1 - c.1∧d.1 - c.1≤4) :
  @t_additiveref22_left wv ((a,b),(c,d))=some (decide ((b.1 - a.1) * (d.2 - c.2) - (b.2 - a.2) * (d.1 - c.1) > 0)):=by
 have es:∀a b:Int,-4≤a - b∧a - b≤4→@W.ar wv .sub .i64 a b=a - b:=fun a b _=>by rw [Qj,wr (by omega) (by omega)]
 unfold t_additiveref22_left
 dsimp only
 rw [es b.1 a.1 h1,es d.2 c.2 h2,es b.2 a.2 h3,es d.1 c.1 h4]
 generalize b.1 - a.1=p at *
 generalize d.2 - c.2=q at *
 generalize b.2 - a.2=u at *
 generalize d.1 - c.1=v at *
 have m:∀x y:Int,-4≤x∧x≤4→-4≤y∧y≤4→x * y≤16∧-16≤x * y:=by
  intro x y hx hy
  rcases (show x=-4∨x=-3∨x=-2∨x=-1∨x=0∨x=1∨x=2∨x=3∨x=4 by omega) with rfl|rfl|rfl|rfl|rfl|rfl|rfl|rfl|rfl<;>omega
 have m1:=m p q h1 h2
 have m2:=m u v h3 h4
 rw [Jau,w_mul,w_mul,Qj,wr (n:=p * q) (by omega) (by omega),wr (n:=u * v) (by omega) (by omega),wr (by omega) (by omega)]
theorem Jn4 {p q:Cell} {x y:Int} (hx:x=0∨x=1∨x=2∨x=3) (hy:y=0∨y=1∨y=2∨y=3):@t_additiveref22_left wv (enc (p,x),enc (q,y))=some (decide (y=(x+1) % 4)):=by
 obtain ⟨p1,p2⟩:=p
 obtain ⟨q1,q2⟩:=q
 unfold enc Kh
 rcases hx with rfl|rfl|rfl|rfl<;>rcases hy with rfl|rfl|rfl|rfl <;>
 ·simp only [Int.reduceEq,if_true,if_false,↓reduceIte]
  rw [Jkp (by dsimp only;omega) (by dsimp only;omega) (by dsimp only;omega) (by dsimp only;omega)]
  refine congrArg some (decide_eq_decide.2 ?_)
  have z1:∀a:Int,a+1 - a=1:=fun a=>by omega
  have z2:∀a:Int,a - 1 - a=-1:=fun a=>by omega
  simp only [z1,z2,Int.sub_self]
  decide
theorem Jkg (a b:Cell):@t_additiveref22_lower wv (a,b)=some (decide (a.2<b.2∨(a.2=b.2∧a.1<b.1))):=by
 unfold t_additiveref22_lower
 dsimp only
 by_cases h:a.2=b.2
 ·rw [br_f (by rw [zw];simp [h]),Jlw];simp [h]
 ·rw [br_t (by rw [zw];simpa using h),Jlw];simp [h]
instance (a b:Cell):Decidable (yx a b):=inferInstanceAs (Decidable (_∨_))
theorem Jnr {α:Type} (a b:Cell) (k:Bool→Option α):@W.call wv α c_additiveref22_lower (((a.1,a.2),(b.1,b.2)):(Int×Int)×(Int×Int)) k=k (decide (yx a b)):=ca_s (c:=c_additiveref22_lower) (Jkg a b)
end Go.Proofs.Ytmfagdfkpjgeiaa
namespace Go.Proofs.Ytmfagdfkpjgeiaa
open Go Go.Vv Go.Dn Go.Dn.W
set_option linter.unusedVariables false
set_option linter.unusedSimpArgs false
set_option linter.unusedSectionVars false
set_option maxRecDepth 100000
theorem Je5 {r:Reg} {c:Cell} {k:Ck} (h:k∈cellCk r c):J4 k.1 k.2=c:=by
 rcases X1.1 h with ⟨_,rfl⟩|⟨_,rfl⟩|⟨_,rfl⟩|⟨_,rfl⟩<;>simp [J4]
theorem Jlm (r:Reg) (c:Cell):(cellCk r c).Nodup:=by
 classical
 unfold cellCk
 split<;>split<;>split<;>split<;>simp
theorem Ju7 {r:Reg} (h:RegOK r):(cks r).Nodup:=by
 refine List.pairwise_flatMap.2 ⟨fun c _=>Jlm r c,h.cells_pw.imp fun {a b} hab x hx y hy e=>?_⟩
 rw [e] at hx
 have:=(Je5 hx).symm.trans (Je5 hy)
 subst this
 exact Yi _ hab
theorem Jvz {α:Type} {l:List α} (h:l.Nodup) {i j:Nat} {x:α} (hi:l[i]?=some x) (hj:l[j]?=some x):i=j:=by
 obtain ⟨p1,e1⟩:=Ac.1 hi
 obtain ⟨p2,e2⟩:=Ac.1 hj
 rcases Nat.lt_trichotomy i j with q|q|q
 ·exact (Am.1 h i j p1 p2 q (by rw [e1,e2])).elim
 ·exact q
 ·exact (Am.1 h j i p2 p1 q (by rw [e1,e2])).elim
theorem no_back {r:Reg} {p:Cell} {x:Int} (h:Crk r p x):¬Crk r (Kh x p) ((x+2) % 4):=by
 obtain ⟨p1,p2⟩:=p
 rcases h with ⟨rfl,h3,h4⟩|⟨rfl,h3,h4⟩|⟨rfl,h3,h4⟩|⟨rfl,h3,h4⟩<;>simp [Kh,Crk] at *<;>grind
theorem rule {r:Reg} {c:Ck} (hc:Crk r c.1 c.2) {y:Int} (hy:Crk r (Kh c.2 c.1) y) (hl:y=(c.2+1) % 4∨¬Crk r (Kh c.2 c.1) ((c.2+1) % 4)):(Kh c.2 c.1,y)=nx r c:=by
 unfold nx
 refine Prod.ext rfl ?_
 show y=nxtH r c.1 c.2
 unfold nxtH
 dsimp only
 by_cases h1:Crk r (Kh c.2 c.1) ((c.2+1) % 4)
 ·rw [if_pos h1]
  exact hl.elim id fun h=>(h h1).elim
 ·rw [if_neg h1]
  have hne:y≠(c.2+1) % 4:=fun e=>h1 (e▸hy)
  have hb:=no_back hc
  have hne2:y≠(c.2+2) % 4:=fun e=>hb (e▸hy)
  have hd:=hy.hd
  have hx:=hc.hd
  by_cases h2:Crk r (Kh c.2 c.1) c.2
  ·rw [if_pos h2]
   apply Classical.byContradiction
   intro hne3
   have:=h2.opp hy (fun e=>hne3 e.symm)
   omega
  ·rw [if_neg h2]
   have hne3:y≠c.2:=fun e=>h2 (e▸hy)
   omega
abbrev St23:=HP (List (Cell×Cell)) (HP Int (HP Int (HP Int Unit)))
theorem after_ok {r:Reg} (hr:RegOK r) (hn:(cks r).length≤1000000) {j:Nat} {c:Ck} (hj:(cks r)[j]?=some c) :
  ∃k:Nat,(cks r)[k]?=some (nx r c)∧@t_additiveref22_after wv ((cks r).map enc,(j:Int))=some (k:Int):=by
 have hc:Crk r c.1 c.2:=Kw.1 (Ad hj)
 have hje:((cks r).map enc)[j]?=some (enc c):=by rw [Af,hj];rfl
 have hget:∀ {i:Nat} {d:Ck},(cks r)[i]?=some d→((cks r).map enc)[i]?=some (enc d):=fun {i d} h=>by rw [Af,h];rfl
 let q:=Kh c.2 c.1
 obtain ⟨e,he,k,hk,rfl⟩:=Qh (b:=@t_additiveref22_after_L0 wv)
  (fun i s=>∃nxt:Int,s=(⟨(cks r).map enc,⟨(j:Int),⟨nxt,⟨(i:Int),()⟩⟩⟩⟩:St23) ∧
   ((nxt=-1∧∀i' d,i'<i→(cks r)[i']?=some d→d.1≠q) ∨
    ∃(k:Nat) (y:Int),nxt=k∧(cks r)[k]?=some (q,y)∧(y=(c.2+1) % 4∨∀i' d,i'<i→(cks r)[i']?=some d→d≠(q,(c.2+1) % 4))))
  (fun e=>∃k:Nat,(cks r)[k]?=some (nx r c)∧e=(⟨(k:Int),()⟩:HP Int Unit))
  (cks r).length (by omega) (s0:=⟨(cks r).map enc,⟨(j:Int),⟨-1,⟨0,()⟩⟩⟩⟩)
  ⟨-1,rfl,.inl ⟨rfl,fun i' d h=>by omega⟩⟩
  (fun i s hi=>by
   rintro ⟨nxt,rfl,hI⟩
   have hx:=Ab hi
   generalize (cks r)[i]=d at hx
   have hd:Crk r d.1 d.2:=Kw.1 (Ad hx)
   have e3:@W.ar wv .add .i64 (i:Int) 1=((i+1:Nat):Int):=by rw [Jx,wr (by omega) (by omega)];omega
   have hde:=hget hx
   by_cases hq:d.1=q
   ·have htest:@W.an wv (@W.cm wv .eql (enc d).1.1 (enc c).2.1) (@W.cm wv .eql (enc d).1.2 (enc c).2.2)=true:=by
     show ((d.1.1==q.1)&&(d.1.2==q.2))=true
     rw [hq];simp
    obtain ⟨dp,dy⟩:=d
    obtain rfl:dp=q:=hq
    have step:∀y:Int,(y=(c.2+1) % 4∨∀i' d',i'<i+1→(cks r)[i']?=some d'→d'≠(q,(c.2+1) % 4))↔(y=(c.2+1) % 4∨(dy≠(c.2+1) % 4∧∀i' d',i'<i→(cks r)[i']?=some d'→d'≠(q,(c.2+1) % 4))):=fun y=>by
     refine or_congr Iff.rfl ⟨fun h=>⟨fun e=>h i _ (by omega) hx (by rw [e]),fun i' d' hi'=>h i' d' (by omega)⟩,fun ⟨h1,h2⟩ i' d' hi' hd'=>?_⟩
     by_cases e:i'=i
     ·subst e;rw [hx] at hd';injection hd' with hd';rw [←hd'];exact fun e=>h1 (congrArg Prod.snd e)
     ·exact h2 i' d' (by omega) hd'
    rcases hI with ⟨rfl,hno⟩|⟨k,y,rfl,hk,hy⟩
    ·refine ⟨⟨(cks r).map enc,⟨(j:Int),⟨(i:Int),⟨((i+1:Nat):Int),()⟩⟩⟩⟩,?_,(i:Int),rfl,.inr ⟨i,dy,rfl,hx,(step dy).2 ?_⟩⟩
     ·unfold t_additiveref22_after_L0
      dsimp only
      rw [w_ln,Aa,Kj (by omega),ge_s (fg hde),ge_s (fg hje),br_t htest,Kj (by omega),e3]
     ·by_cases e:dy=(c.2+1) % 4
      ·exact .inl e
      ·exact .inr ⟨e,fun i' d' h1 h2 e'=>hno i' d' h1 h2 (by rw [e'])⟩
    ·have hleft:@t_additiveref22_left wv (enc c,enc (q,dy))=some (decide (dy=(c.2+1) % 4)):=Jn4 (p:=c.1) (x:=c.2) hc.hd hd.hd
     by_cases e:dy=(c.2+1) % 4
     ·refine ⟨⟨(cks r).map enc,⟨(j:Int),⟨(i:Int),⟨((i+1:Nat):Int),()⟩⟩⟩⟩,?_,(i:Int),rfl,.inr ⟨i,dy,rfl,hx,(step dy).2 (.inl e)⟩⟩
      unfold t_additiveref22_after_L0
      dsimp only
      rw [w_ln,Aa,Kj (by omega),ge_s (fg hde),ge_s (fg hje),br_t htest,Jy (by omega),ge_s (fg hje),ge_s (fg hde)]
      refine (ca_s (c:=c_additiveref22_left) hleft).trans ?_
      rw [br_t (decide_eq_true e),e3]
     ·refine ⟨⟨(cks r).map enc,⟨(j:Int),⟨(k:Int),⟨((i+1:Nat):Int),()⟩⟩⟩⟩,?_,(k:Int),rfl,.inr ⟨k,y,rfl,hk,(step y).2 (hy.imp id fun h=>⟨e,h⟩)⟩⟩
      unfold t_additiveref22_after_L0
      dsimp only
      rw [w_ln,Aa,Kj (by omega),ge_s (fg hde),ge_s (fg hje),br_t htest,Jy (by omega),ge_s (fg hje),ge_s (fg hde)]
      refine (ca_s (c:=c_additiveref22_left) hleft).trans ?_
      rw [br_f (decide_eq_false e),e3]
   ·have htest:@W.an wv (@W.cm wv .eql (enc d).1.1 (enc c).2.1) (@W.cm wv .eql (enc d).1.2 (enc c).2.2)=false:=by
     show ((d.1.1==q.1)&&(d.1.2==q.2))=false
     rw [Bl,beq_eq_false_iff_ne,beq_eq_false_iff_ne]
     by_cases h1:d.1.1=q.1
     ·exact .inr fun h2=>hq (Prod.ext h1 h2)
     ·exact .inl h1
    refine ⟨⟨(cks r).map enc,⟨(j:Int),⟨nxt,⟨((i+1:Nat):Int),()⟩⟩⟩⟩,?_,nxt,rfl,?_⟩
    ·unfold t_additiveref22_after_L0
     dsimp only
     rw [w_ln,Aa,Kj (by omega),ge_s (fg hde),ge_s (fg hje),br_f htest,e3]
    ·rcases hI with ⟨rfl,hno⟩|⟨k,y,rfl,hk,hy⟩
     ·refine .inl ⟨rfl,fun i' d' h1 h2=>?_⟩
      by_cases e:i'=i
      ·subst e;rw [hx] at h2;injection h2 with h2;rw [←h2];exact hq
      ·exact hno i' d' (by omega) h2
     ·refine .inr ⟨k,y,rfl,hk,hy.imp id fun h i' d' h1 h2=>?_⟩
      by_cases e:i'=i
      ·subst e;rw [hx] at h2;injection h2 with h2;rw [←h2];exact fun e=>hq (congrArg Prod.fst e)
      ·exact h i' d' (by omega) h2)
  (by
   rintro s ⟨nxt,rfl,hI⟩
   have hall:∀d:Ck,Crk r d.1 d.2→∃i,i<(cks r).length∧(cks r)[i]?=some d:=fun d hd=>by
    obtain ⟨i,hi⟩:=Ag (Kw.2 hd)
    exact ⟨i,(Ac.1 hi).1,hi⟩
   rcases hI with ⟨rfl,hno⟩|⟨k,y,rfl,hk,hy⟩
   ·obtain ⟨i,h1,h2⟩:=hall (nx r c) (Jno hc)
    exact (hno i _ h1 h2 rfl).elim
   ·refine ⟨⟨(k:Int),()⟩,?_,k,?_,rfl⟩
    ·unfold t_additiveref22_after_L0
     dsimp only
     rw [w_ln,Aa,Jy (by omega)]
    ·rw [←rule hc (y:=y) (Kw.1 (Ad hk)) (hy.imp id fun h hx=>?_)]
     ·exact hk
     ·obtain ⟨i,h1,h2⟩:=hall (q,(c.2+1) % 4) hx
      exact h i _ h1 h2 rfl)
 exact ⟨k,hk,(lo_s he).trans rfl⟩
theorem k_after {r:Reg} (hr:RegOK r) (hn:(cks r).length≤1000000) {j:Nat} {c:Ck} (hj:(cks r)[j]?=some c) :
  ∃k:Nat,(cks r)[k]?=some (nx r c)∧∀ {α:Type} (K:Int→Option α),@W.call wv α c_additiveref22_after (((cks r).map enc,(j:Int)):List ((Int×Int)×(Int×Int))×Int) K=K (k:Int):=by
 obtain ⟨k,h1,h2⟩:=after_ok hr hn hj
 exact ⟨k,h1,fun K=>ca_s (c:=c_additiveref22_after) h2⟩
end Go.Proofs.Ytmfagdfkpjgeiaa
namespace Go.Proofs.Ytmfagdfkpjgeiaa
open Go Go.Vv Go.Dn Go.Dn.W
set_option linter.unusedVariables false
set_option linter.unusedSimpArgs false
set_option linter.unusedSectionVars false
set_option maxRecDepth 100000
theorem Jdn (r:Reg) (c:Ck):(pol r c)[0]?=some c.1:=rfl
theorem le_t {α:Type} {a b:Int} {x:Option α} (h:a≤b):@W.gd wv α (@W.le wv a b) x=x:=gd_t (by rw [w_le];exact decide_eq_true h)
abbrev St24:=HP (List (List Cell)) (HP Int (HP (List Cell) Unit))
theorem Jvb {r:Reg} {ls:List Ck} (hl:ls.length≤1000000) (hp:ls.Pairwise fun a b=>yx a.1 b.1) {s:Ck} (hs:∀a∈ls,a.1≠s.1) :
  ∃ls':List Ck,@t_additiveref22_insert wv (ls.map (pol r),pol r s)=some (ls'.map (pol r))∧(ls'.Pairwise fun a b=>yx a.1 b.1)∧∀x,x∈ls'↔x∈ls∨x=s:=by
 obtain ⟨e,he,k,hk,rfl,h1,h2⟩:=Jkl (b:=@t_additiveref22_insert_L0 wv)
  (fun st=>∃i:Nat,i≤ls.length∧st=(⟨ls.map (pol r),⟨(i:Int),⟨pol r s,()⟩⟩⟩:St24)∧∀j a,j<i→ls[j]?=some a→yx a.1 s.1)
  (fun e=>∃k:Nat,k≤ls.length∧e=(⟨ls.map (pol r),⟨(k:Int),⟨pol r s,()⟩⟩⟩:St24)∧(∀j a,j<k→ls[j]?=some a→yx a.1 s.1)∧∀j a,k≤j→ls[j]?=some a→yx s.1 a.1)
  (fun st=>ls.length - st.tl.hd.toNat)
  (fun st=>by
   rintro ⟨i,hi,rfl,hI⟩
   by_cases hlt:i<ls.length
   ·have hx:=Ab hlt
    generalize ls[i]=a at hx
    have hm:(ls.map (pol r))[i]?=some (pol r a):=by rw [Af,hx];rfl
    have e3:@W.ar wv .add .i64 (i:Int) 1=((i+1:Nat):Int):=by rw [Jx,wr (by omega) (by omega)];omega
    by_cases hy:yx a.1 s.1
    ·refine .inl ⟨⟨ls.map (pol r),⟨((i+1:Nat):Int),⟨pol r s,()⟩⟩⟩,?_,⟨i+1,by omega,rfl,fun j b hj hb=>?_⟩,?_⟩
     ·unfold t_additiveref22_insert_L0
      dsimp only
      rw [w_ln,Aa,Kj (by omega),ge_s (fg hm),ge_s (fg0 (Jdn r a)),ge_s (fg0 (Jdn r s)),Jnr,br_t (decide_eq_true hy),e3]
     ·by_cases e:j=i
      ·subst e;rw [hx] at hb;injection hb with hb;rw [←hb];exact hy
      ·exact hI j b (by omega) hb
     ·dsimp only;omega
    ·refine .inr ⟨_,?_,i,hi,rfl,hI,fun j b hj hb=>?_⟩
     ·unfold t_additiveref22_insert_L0
      dsimp only
      rw [w_ln,Aa,Kj (by omega),ge_s (fg hm),ge_s (fg0 (Jdn r a)),ge_s (fg0 (Jdn r s)),Jnr,br_f (decide_eq_false hy)]
     ·have hsa:yx s.1 a.1:=by
       rcases Joh a.1 s.1 with q|q|q
       ·exact (hy q).elim
       ·exact (hs a (Ad hx) q).elim
       ·exact q
      rcases Nat.lt_or_eq_of_le hj with q|q
      ·obtain ⟨p1,e1⟩:=Ac.1 hx
       obtain ⟨p2,e2⟩:=Ac.1 hb
       have:=Am.1 hp i j p1 p2 q
       rw [e1,e2] at this
       exact Ji2 hsa this
      ·subst q;rw [hx] at hb;injection hb with hb;rw [←hb];exact hsa
   ·have:i=ls.length:=by omega
    subst this
    refine .inr ⟨_,?_,ls.length,Bg _,rfl,hI,fun j b hj hb=>by have:=(Ac.1 hb).1;omega⟩
    unfold t_additiveref22_insert_L0
    dsimp only
    rw [w_ln,Aa,Jy (by omega)]) (s0:=⟨ls.map (pol r),⟨0,⟨pol r s,()⟩⟩⟩)
  ⟨0,Nat.zero_le _,rfl,fun j a h=>by omega⟩ (by dsimp only;omega)
 refine ⟨ls.take k++s::ls.drop k,?_,?_,fun x=>?_⟩
 ·refine (lo_s he).trans ?_
  have c1:@W.ct wv (List Cell) (ls.map (pol r)) 0 (k:Int)=(ls.take k).map (pol r):=by rw [w_ct];simp
  have c2:@W.ct wv (List Cell) (ls.map (pol r)) (k:Int) (@W.mi wv (@W.ln wv (List Cell) (ls.map (pol r))) (k:Int))=(ls.drop k).map (pol r):=by
   rw [w_ct,w_mi,w_ln,Bc (by simp),Aq,List.map_drop]
  dsimp only
  rw [c1,c2,le_t (by omega),le_t (by rw [w_ln,Aa];omega)]
  simp only [w_ln,w_pl,w_ap,Ae,Aa,Ah,List.length_drop,Ak,List.length_nil]
  rw [fitB (by omega) (by omega) (by decide),fitB (by omega) (by omega) (by decide),le_t (by omega),le_t (by omega),fitB (by omega) (by omega) (by decide)]
  simp
 ·refine Bn.2 ⟨hp.sublist (List.take_sublist _ _),List.pairwise_cons.2 ⟨fun a ha=>?_,hp.sublist (List.drop_sublist _ _)⟩,fun a ha b hb=>?_⟩
  ·obtain ⟨j,hj⟩:=Ag ha
   rw [List.getElem?_drop] at hj
   exact h2 _ a (by omega) hj
  ·obtain ⟨j,hj⟩:=Ag ha
   have hjk:=(Ac.1 hj).1
   rw [Ah] at hjk
   rw [List.getElem?_take_of_lt (by omega)] at hj
   have hya:=h1 j a (by omega) hj
   rcases Bo.1 hb with rfl|hb
   ·exact hya
   ·obtain ⟨i,hi⟩:=Ag hb
    rw [List.getElem?_drop] at hi
    exact Ji2 hya (h2 _ b (by omega) hi)
 ·have hm:x∈ls↔x∈ls.take k∨x∈ls.drop k:=by rw [←As,List.take_append_drop]
  rw [hm,As,Bo]
  exact ⟨fun h=>h.elim (fun h=>.inl (.inl h)) fun h=>h.elim .inr fun h=>.inl (.inr h),fun h=>h.elim (fun h=>h.elim .inl fun h=>.inr (.inr h)) fun h=>.inr (.inl h)⟩
noncomputable def ringL (r:Reg) (c:Ck) (n:Nat):List (Cell×Cell):=(Av n).map fun k=>enc (itr (nx r) k c)
theorem Jmh {r:Reg} {c:Ck} {n k:Nat} (h:k<n):(ringL r c n)[k]?=some (enc (itr (nx r) k c)):=by
 unfold ringL
 rw [Af,List.getElem?_range h]
 rfl
theorem Jtp (c:Ck):(enc c).2.1 - (enc c).1.1=(dirH c.2).1∧(enc c).2.2 - (enc c).1.2=(dirH c.2).2:=by
 unfold enc
 rw [Ja5]
 unfold addC
 dsimp only
 omega
theorem dirH_inj {x y:Int} (hx:x=0∨x=1∨x=2∨x=3) (hy:y=0∨y=1∨y=2∨y=3):((dirH x).1=(dirH y).1∧(dirH x).2=(dirH y).2)↔x=y:=by
 rcases hx with rfl|rfl|rfl|rfl<;>rcases hy with rfl|rfl|rfl|rfl<;>simp [dirH]
abbrev St25:=HP (List (Cell×Cell)) (HP Int (HP Int (HP (List Cell) Unit)))
theorem Jmf {r:Reg} (hr:RegOK r) {c:Ck} (h:Crk r c.1 c.2):∀k,∀d:Cell×Cell,d=enc (itr (nx r) k c)→J9 d.1∧J9 d.2:=by
 rintro k d rfl
 exact ⟨Qf hr (Kq h k),Qf hr (Kq h (k+1))⟩
theorem Jrx {r:Reg} (hr:RegOK r) {c:Ck} (h:Crk r c.1 c.2) {N:Nat} (hN:Rnd (nx r) c N) (hle:N≤1000000) :
  K3 (@t_additiveref22_polygon_L0 wv) bigN ⟨ringL r c N,⟨(N:Int),⟨0,⟨[],()⟩⟩⟩⟩=some ⟨seg r c (N - 1) N,()⟩:=by
 have hp:=hN.pos
 have hseg:seg r c (N - 1) 0=[]:=rfl
 refine (hseg▸Ka (b:=@t_additiveref22_polygon_L0 wv) (fun i=>(⟨ringL r c N,⟨(N:Int),⟨(i:Int),⟨seg r c (N - 1) i,()⟩⟩⟩⟩:St25)) N (by omega) (fun i hi=>?_) ?_)
 ·have e3:@W.ar wv .add .i64 (i:Int) 1=((i+1:Nat):Int):=by rw [Jx,wr (by omega) (by omega)];omega
  have e4:@W.ar wv .rem .i64 (@W.ar wv .sub .i64 (@W.ar wv .add .i64 (i:Int) (N:Int)) 1) (N:Int)=(((i+N - 1) % N:Nat):Int):=by
   rw [Jx,wr (by omega) (by omega),Qj,wr (by omega) (by omega),Jta,Bh (by omega),show (i:Int)+(N:Int) - 1=((i+N - 1:Nat):Int) by omega]
   exact (Int.natCast_emod _ _).symm
  have hj:(i+N - 1) % N<N:=Nat.mod_lt _ hp
  have ep:itr (nx r) ((i+N - 1) % N) c=itr (nx r) (N - 1+i) c:=by
   by_cases h0:i=0
   ·subst h0;rw [Bd (by omega)];congr 1;omega
   ·rw [show i+N - 1=i - 1+N by omega,Nat.add_mod_right,Bd (by omega),show N - 1+i=i - 1+N by omega,hN.per]
  have ec:itr (nx r) i c=itr (nx r) (N - 1+i+1) c:=by rw [show N - 1+i+1=i+N by omega,hN.per]
  have g0:=Jmh (r:=r) (c:=c) hj
  have g1:=Jmh (r:=r) (c:=c) hi
  rw [ep] at g0
  rw [ec] at g1
  have hs0:=Jmf hr h (N - 1+i) _ rfl
  have hs1:=Jmf hr h (N - 1+i+1) _ rfl
  have d0:=Jtp (itr (nx r) (N - 1+i) c)
  have d1:=Jtp (itr (nx r) (N - 1+i+1) c)
  have hinj:=dirH_inj (Kq h (N - 1+i+1)).hd (Kq h (N - 1+i)).hd
  have hf:(enc (itr (nx r) (N - 1+i+1) c)).1=(itr (nx r) (N - 1+i+1) c).1:=rfl
  have hT:turnAt r c (N - 1+i)=if (itr (nx r) (N - 1+i+1) c).2=(itr (nx r) (N - 1+i) c).2 then none else some (itr (nx r) (N - 1+i+1) c).1:=rfl
  rw [←hf] at hT
  have hsl:=Jn1 r c (N - 1) i
  unfold J9 at hs0 hs1
  rw [Ja7,hT]
  generalize enc (itr (nx r) (N - 1+i) c)=u at *
  generalize enc (itr (nx r) (N - 1+i+1) c)=v at *
  generalize (itr (nx r) (N - 1+i+1) c).2=y at *
  generalize (itr (nx r) (N - 1+i) c).2=x at *
  have es:∀a b:Int,-2000000000≤a - b∧a - b≤2000000000→@W.ar wv .sub .i64 a b=a - b:=fun a b _=>by rw [Qj,wr (by omega) (by omega)]
  unfold t_additiveref22_polygon_L0
  dsimp only
  rw [Kj (by omega),gd_t (by rw [zw];simp;omega),e4,ge_s (fg g0),ge_s (fg g1),ge_s (fg g1),es u.2.1 u.1.1 (by omega),es v.2.1 v.1.1 (by omega),d0.1,d1.1]
  by_cases hx:(dirH x).1=(dirH y).1
  ·rw [br_f (by rw [zw];simp [hx]),ge_s (fg g1),ge_s (fg g1),es u.2.2 u.1.2 (by omega),es v.2.2 v.1.2 (by omega),d0.2,d1.2]
   by_cases hy:(dirH x).2=(dirH y).2
   ·rw [br_f (by rw [zw];simp [hy]),e3,if_pos (hinj.1 ⟨hx.symm,hy.symm⟩)]
    simp
   ·rw [br_t (by rw [zw];simpa using hy),ge_s (fg g1),w_ln,w_pl,Jat (by omega) (by omega),e3,w_ap,if_neg fun e=>hy (hinj.2 e).2.symm]
    rfl
  ·rw [br_t (by rw [zw];simpa using hx),ge_s (fg g1),w_ln,w_pl,Jat (by omega) (by omega),e3,w_ap,if_neg fun e=>hx (hinj.2 e).1.symm]
   rfl
 ·unfold t_additiveref22_polygon_L0
  dsimp only
  rw [Jy (by omega)]
theorem Jrp {T A B:List Cell} {p:Cell} (hT:T=A++p::B) (hlt:∀x∈A++B,yx p x) (hl:T.length≤1000000) :
  K3 (@t_additiveref22_polygon_L1 wv) bigN ⟨0,⟨0,⟨T,()⟩⟩⟩=some ⟨(A.length:Int),⟨T,()⟩⟩:=by
 have hp:T[A.length]?=some p:=by rw [hT,Aw (Bg _),Br];rfl
 have hlen:T.length=A.length+B.length+1:=by rw [hT,Ae,Ak];omega
 have hoth:∀j x,T[j]?=some x→j≠A.length→yx p x:=fun j x hj hne=>by
  refine hlt x ?_
  rw [hT] at hj
  by_cases h:j<A.length
  ·rw [List.getElem?_append_left h] at hj
   exact As.2 (.inl (Ad hj))
  ·rw [Aw (by omega),List.getElem?_cons,if_neg (by omega)] at hj
   exact As.2 (.inr (Ad hj))
 obtain ⟨e,he,rfl⟩:=Qh (b:=@t_additiveref22_polygon_L1 wv)
  (fun i st=>∃f:Nat,st=(⟨(f:Int),⟨(i:Int),⟨T,()⟩⟩⟩:HP Int (HP Int (HP (List Cell) Unit)))∧f<T.length∧(A.length<i→f=A.length))
  (fun e=>e=(⟨(A.length:Int),⟨T,()⟩⟩:HP Int (HP (List Cell) Unit))) T.length (by omega) (s0:=⟨0,⟨0,⟨T,()⟩⟩⟩)
  ⟨0,rfl,by omega,fun h=>by omega⟩
  (fun i st hi=>by
   rintro ⟨f,rfl,hf,hI⟩
   have e3:@W.ar wv .add .i64 (i:Int) 1=((i+1:Nat):Int):=by rw [Jx,wr (by omega) (by omega)];omega
   have hx:=Ab hi
   have hg:=Ab hf
   generalize T[i]=x at hx
   generalize T[f]=y at hg
   have hb:@t_additiveref22_polygon_L1 wv ⟨(f:Int),⟨(i:Int),⟨T,()⟩⟩⟩=if yx x y then some (.go ⟨(i:Int),⟨((i+1:Nat):Int),⟨T,()⟩⟩⟩) else some (.go ⟨(f:Int),⟨((i+1:Nat):Int),⟨T,()⟩⟩⟩):=by
    unfold t_additiveref22_polygon_L1
    dsimp only
    rw [w_ln,Kj (by omega),Jcg (by omega),ge_s (fg hx),Jcg (by omega),ge_s (fg hg),Jnr,e3]
    by_cases h:yx x y
    ·rw [br_t (decide_eq_true h),if_pos h]
    ·rw [br_f (decide_eq_false h),if_neg h]
   rw [hb]
   by_cases h:yx x y
   ·rw [if_pos h]
    refine ⟨_,rfl,i,rfl,hi,fun h2=>?_⟩
    by_cases h3:i=A.length
    ·exact h3
    ·have hfA:=hI (by omega)
     subst hfA
     rw [hp] at hg;injection hg with hg;subst hg
     exact (Jjs h (hoth i x hx h3)).elim
   ·rw [if_neg h]
    refine ⟨_,rfl,f,rfl,hf,fun h2=>?_⟩
    by_cases h3:i=A.length
    ·by_cases h4:f=A.length
     ·exact h4
     ·subst h3
      rw [hp] at hx;injection hx with hx;subst hx
      exact (h (hoth f y hg h4)).elim
    ·exact hI (by omega))
  (by
   rintro st ⟨f,rfl,hf,hI⟩
   have:=hI (by omega)
   subst this
   refine ⟨_,?_,rfl⟩
   unfold t_additiveref22_polygon_L1
   dsimp only
   rw [w_ln,Jy (by omega)])
 exact he
theorem Jrg {r:Reg} (hr:RegOK r) {c:Ck} (h:Crk r c.1 c.2) {N:Nat} (hN:Rnd (nx r) c N) (hle:N≤1000000) {j:Nat} (hj:j<N) (hs:Least r (itr (nx r) j c)) :
  @t_additiveref22_polygon wv (ringL r c N)=some (pol r (itr (nx r) j c)):=by
 obtain ⟨A,B,h1,h2,h3⟩:=Js1 h hN hj hs
 have hlen:(seg r c (N - 1) N).length≤1000000:=Nat.le_trans (Jn1 r c (N - 1) N) hle
 have hA:(seg r c (N - 1) N).length=A.length+B.length+1:=by rw [h1,Ae,Ak];omega
 have e0:(ringL r c N).length=N:=by unfold ringL;rw [Aa,Au]
 have hpe:perN r (itr (nx r) j c)=N:=Jms hs.1 (hN.from (ring r) (Kw.2 h) j)
 unfold t_additiveref22_polygon
 rw [w_ln,e0]
 refine (lo_s (Jrx hr h hN hle)).trans ?_
 dsimp only
 refine (lo_s (Jrp h1 h3 hlen)).trans ?_
 have c1:@W.ct wv Cell (seg r c (N - 1) N) 0 (A.length:Int)=A:=by rw [w_ct,h1];simp
 have c2:@W.ct wv Cell (seg r c (N - 1) N) (A.length:Int) (@W.mi wv (@W.ln wv Cell (seg r c (N - 1) N)) (A.length:Int))=(itr (nx r) j c).1::B:=by
  rw [w_ct,w_mi,w_ln,h1,Aq,List.drop_left,Bc (by simp only [Ae,Ak];omega)]
 dsimp only
 rw [c1,c2]
 simp only [w_ln,w_mi,w_pl,hA,Ak]
 rw [le_t (by omega),le_t (by omega),le_t (by omega),le_t (by omega),le_t (by omega),Jat (by omega) (by omega),le_t (by omega),le_t (by omega),le_t (by omega),le_t (by omega),le_t (by omega),Jat (by omega) (by omega),w_ap,←h2]
 unfold pol
 rw [hpe]
end Go.Proofs.Ytmfagdfkpjgeiaa
namespace Go.Proofs.Ytmfagdfkpjgeiaa
open Go Go.Vv Go.Dn Go.Dn.W
set_option linter.unusedVariables false
set_option linter.unusedSimpArgs false
set_option linter.unusedSectionVars false
set_option maxRecDepth 100000
structure Marks (r:Reg) (done:List Bool) (D:Ck→Prop):Prop where
 len:done.length=(cks r).length
 at_:∀(j:Nat) (c:Ck),(cks r)[j]?=some c→(done[j]?=some true↔D c)
theorem Marks.get {r:Reg} {done:List Bool} {D:Ck→Prop} (h:Marks r done D) {j:Nat} {c:Ck} (hj:(cks r)[j]?=some c):∃b,done[j]?=some b∧(b=true↔D c):=by
 have hlt:=(Ac.1 hj).1
 have hb:=Ab (l:=done) (i:=j) (by rw [h.len];exact hlt)
 refine ⟨done[j]'(by rw [h.len];exact hlt),hb,?_⟩
 rw [←h.at_ j c hj,hb]
 simp
theorem Marks.set {r:Reg} (hr:RegOK r) {done:List Bool} {D:Ck→Prop} (h:Marks r done D) {j:Nat} {c:Ck} (hj:(cks r)[j]?=some c):Marks r (done.set j true) fun d=>D d∨d=c:=by
 refine ⟨by rw [List.length_set,h.len],fun i d hi=>?_⟩
 have hlt:=(Ac.1 hi).1
 rw [List.getElem?_set]
 by_cases e:j=i
 ·subst e
  rw [if_pos rfl,if_pos (by rw [h.len];exact hlt)]
  rw [hj] at hi;injection hi with hi
  exact ⟨fun _=>.inr hi.symm,fun _=>rfl⟩
 ·rw [if_neg e,h.at_ i d hi]
  refine ⟨.inl,fun q=>q.elim id fun q=>?_⟩
  subst q
  exact (e (Jvz (Ju7 hr) hj hi)).elim
abbrev St26:=HP (List (Cell×Cell)) (HP (List (List Cell)) (HP Int (HP Int (HP (List Bool) (HP (List (Cell×Cell)) Unit)))))
abbrev Ou26:=HP (List (Cell×Cell)) (HP (List (List Cell)) (HP Int (HP (List Bool) (HP (List (Cell×Cell)) Unit))))
noncomputable abbrev st26 (r:Reg) (out:List (List Cell)) (i at_:Int) (done:List Bool) (loop:List (Cell×Cell)):St26:=⟨(cks r).map enc,⟨out,⟨i,⟨at_,⟨done,⟨loop,()⟩⟩⟩⟩⟩⟩
noncomputable abbrev ou26 (r:Reg) (out:List (List Cell)) (i:Int) (done:List Bool) (loop:List (Cell×Cell)):Ou26:=⟨(cks r).map enc,⟨out,⟨i,⟨done,⟨loop,()⟩⟩⟩⟩⟩
theorem Jv5 {r:Reg} {out:List (List Cell)} {i:Int} {j:Nat} {done:List Bool} {loop:List (Cell×Cell)} (hj:done[j]?=some true) :
  @t_additiveref22_Trace_L1 wv (st26 r out i j done loop)=some (.out (ou26 r out i done loop)):=by
 have hlt:=(Ac.1 hj).1
 unfold t_additiveref22_Trace_L1
 dsimp only
 rw [w_ln,Jcg (by omega),ge_s (fg hj),br_f (by rfl)]
theorem T1_go {r:Reg} (hr:RegOK r) (hn:(cks r).length≤1000000) {out:List (List Cell)} {i:Int} {j:Nat} {done:List Bool} {loop:List (Cell×Cell)} (hlo:loop.length≤1000000) (hj:done[j]?=some false) {c:Ck} (hc:(cks r)[j]?=some c) :
  ∃k:Nat,(cks r)[k]?=some (nx r c)∧@t_additiveref22_Trace_L1 wv (st26 r out i j done loop)=some (.go (st26 r out i k (done.set j true) (loop++[enc c]))):=by
 have hlt:=(Ac.1 hj).1
 obtain ⟨k,h1,h2⟩:=k_after hr hn hc
 refine ⟨k,h1,?_⟩
 have hje:((cks r).map enc)[j]?=some (enc c):=by rw [Af,hc];rfl
 unfold t_additiveref22_Trace_L1
 dsimp only
 rw [w_ln,Jcg (by omega),ge_s (fg hj),br_t (by rfl),Jcg (by omega),ge_s (fg hj),ge_s (fg hje),w_ln,w_pl,fit32 (by omega) (by omega),h2,w_st,w_ap,Aq]
theorem T1_ok {r:Reg} (hr:RegOK r) (hn:(cks r).length≤1000000) {D:Ck→Prop} (hD:Closed r D) {done:List Bool} (hM:Marks r done D) {j:Nat} {c:Ck} (hc:(cks r)[j]?=some c) (hcD:¬D c) (out:List (List Cell)) (i:Int) :
  ∃done',K3 (@t_additiveref22_Trace_L1 wv) bigN (st26 r out i j done [])=some (ou26 r out i done' (ringL r c (perN r c)))∧Marks r done' fun d=>D d∨∃k,d=itr (nx r) k c:=by
 have hcm:=Ad hc
 have hcc:=Kw.1 hcm
 have hN:=Xz hcc
 have hle:=Jch hcc
 generalize perN r c=N at *
 have hout:∀k,¬D (itr (nx r) k c):=fun k hk=>by
  obtain ⟨m,hm⟩:=hN.to c k
  exact hcD (hm▸hD.itr hk m)
 have hst0:ringL r c 0=[]:=rfl
 obtain ⟨e,he,done',rfl,h⟩:=Qh (b:=@t_additiveref22_Trace_L1 wv)
  (fun k st=>∃(a:Nat) (dn:List Bool),st=st26 r out i a dn (ringL r c k)∧(cks r)[a]?=some (itr (nx r) k c)∧Marks r dn fun d=>D d∨∃m,m<k∧d=itr (nx r) m c)
  (fun e=>∃dn,e=ou26 r out i dn (ringL r c N)∧Marks r dn fun d=>D d∨∃k,d=itr (nx r) k c)
  N (by omega) (s0:=st26 r out i j done [])
  ⟨j,done,rfl,hc,hM.len,fun j c hj=>(hM.at_ j c hj).trans ⟨.inl,fun h=>h.elim id fun ⟨m,hm,_⟩=>by omega⟩⟩
  (fun k st hk=>by
   rintro ⟨a,dn,rfl,ha,hm⟩
   obtain ⟨b,hb,hbD⟩:=hm.get ha
   have hbf:b=false:=by
    cases b with
    | false=>rfl
    | true =>
     rcases hbD.1 rfl with q|⟨m,q1,q2⟩
     ·exact (hout k q).elim
     ·have:=(ring r).dist hcm hN (i:=m) (j:=k) (by omega) hk q2.symm
      omega
   subst hbf
   obtain ⟨k',h1,h2⟩:=T1_go hr hn (out:=out) (i:=i) (loop:=ringL r c k) (by unfold ringL;rw [Aa,Au];omega) hb ha
   refine ⟨_,h2,k',dn.set a true,?_,h1,(hm.set hr ha).len,fun j d hj=>((hm.set hr ha).at_ j d hj).trans ?_⟩
   ·unfold ringL
    rw [List.range_succ,Aj]
    rfl
   ·constructor
    ·rintro ((q|⟨m,q1,q2⟩)|q)
     ·exact .inl q
     ·exact .inr ⟨m,by omega,q2⟩
     ·exact .inr ⟨k,by omega,q⟩
    ·rintro (q|⟨m,q1,q2⟩)
     ·exact .inl (.inl q)
     ·by_cases e:m=k
      ·subst e;exact .inr q2
      ·exact .inl (.inr ⟨m,by omega,q2⟩))
  (by
   rintro st ⟨a,dn,rfl,ha,hm⟩
   have hD:D (itr (nx r) N c)∨∃m,m<N∧itr (nx r) N c=itr (nx r) m c:=.inr ⟨0,hN.pos,hN.back⟩
   refine ⟨_,Jv5 ((hm.at_ a _ ha).2 hD),dn,rfl,hm.len,fun j d hj=>(hm.at_ j d hj).trans ⟨fun q=>q.imp id fun ⟨m,_,h⟩=>⟨m,h⟩,fun q=>q.imp id fun ⟨m,h⟩=>?_⟩⟩
   obtain ⟨m',h1,h2⟩:=hN.modN m
   exact ⟨m',h1,h.trans h2⟩)
 exact ⟨done',he,h⟩
theorem Closed.add {r:Reg} {D:Ck→Prop} (h:Closed r D) {c:Ck} (hc:Crk r c.1 c.2):Closed r fun d=>D d∨∃k,d=Go.Proofs.Ytmfagdfkpjgeiaa.itr (nx r) k c:=by
 refine ⟨fun d hd=>hd.elim (h.1 d) fun ⟨k,e⟩=>by rw [e];exact Kq hc k,fun d hd=>hd.imp (h.2 d) fun ⟨k,e⟩=>⟨k+1,by rw [e];rfl⟩⟩
abbrev St27:=HP (List (Cell×Cell)) (HP (List (List Cell)) (HP Int (HP (List Bool) Unit)))
noncomputable abbrev st27 (r:Reg) (out:List (List Cell)) (i:Int) (done:List Bool):St27:=⟨(cks r).map enc,⟨out,⟨i,⟨done,()⟩⟩⟩⟩
theorem T0_ok {r:Reg} (hr:RegOK r) (hn:(cks r).length≤1000000):K3 (@t_additiveref22_Trace_L0 wv) bigN (st27 r [] 0 (Ap (cks r).length false))=some ⟨(starts r).map (pol r),()⟩:=by
 obtain ⟨e,he,ls,hst,rfl⟩:=Qh (b:=@t_additiveref22_Trace_L0 wv)
  (fun i st=>∃(D:Ck→Prop) (done:List Bool) (ls:List Ck),st=st27 r (ls.map (pol r)) i done∧Closed r D∧Marks r done D∧(∀j c,j<i→(cks r)[j]?=some c→D c) ∧
   (ls.Pairwise fun a b=>yx a.1 b.1)∧∀s,s∈ls↔Least r s∧D s)
  (fun e=>∃ls,Starts r ls∧e=(⟨ls.map (pol r),()⟩:HP (List (List Cell)) Unit))
  (cks r).length (by omega) (s0:=st27 r [] 0 (Ap (cks r).length false))
  ⟨fun _=>False,_,[],rfl,⟨fun c h=>h.elim,fun c h=>h⟩,⟨Bm,fun j c hj=>by
   have:=(Ac.1 hj).1
   rw [Bk,if_pos this];simp⟩,fun j c h=>by omega,.nil,fun s=>by simp⟩
  (fun i st hi=>by
   rintro ⟨D,done,ls,rfl,hD,hM,hlt,hpw,hls⟩
   have e3:@W.ar wv .add .i64 (i:Int) 1=((i+1:Nat):Int):=by rw [Jx,wr (by omega) (by omega)];omega
   have hx:=Ab hi
   generalize (cks r)[i]=c at hx
   have hcc:=Kw.1 (Ad hx)
   obtain ⟨b,hb,hbD⟩:=hM.get hx
   have hlsn:ls.length≤1000000:=by
    have hnd:ls.Nodup:=hpw.imp fun {a b} (h:yx a.1 b.1) (e:a=b)=>Yi a.1 (by subst e;exact h)
    have:=Xj hnd fun s hs=>((hls s).1 hs).1.mem
    omega
   cases b with
   | true =>
    refine ⟨st27 r (ls.map (pol r)) ((i+1:Nat):Int) done,?_,D,done,ls,rfl,hD,hM,fun j d hj hd=>?_,hpw,hls⟩
    ·unfold t_additiveref22_Trace_L0
     dsimp only
     rw [w_ln,Aa,Kj (by omega)]
     refine (lo_s (show K3 (@t_additiveref22_Trace_L1 wv) bigN (st26 r (ls.map (pol r)) i i done [])=some (ou26 r (ls.map (pol r)) i done []) from X0 (n:=18446744073709551615) (Jv5 hb))).trans ?_
     dsimp only
     rw [br_f (by rfl),e3]
    ·by_cases e:j=i
     ·subst e;rw [hx] at hd;injection hd with hd;subst hd;exact hbD.1 rfl
     ·exact hlt j d (by omega) hd
   | false =>
    have hcD:¬D c:=fun h=>by have:=hbD.2 h;cases this
    obtain ⟨done',h1,h2⟩:=T1_ok hr hn hD hM hx hcD (ls.map (pol r)) i
    have hN:=Xz hcc
    have hle:=Jch hcc
    obtain ⟨j0,hl0⟩:=Jvh hcc
    obtain ⟨j,hj,ej⟩:=hN.modN j0
    rw [ej] at hl0
    have hpoly:=Jrg hr hcc hN (by omega) hj hl0
    have hsD:¬D (itr (nx r) j c):=fun h=>by
     obtain ⟨m,hm⟩:=hN.to c j
     exact hcD (hm▸hD.itr h m)
    obtain ⟨ls',g1,g2,g3⟩:=Jvb (r:=r) hlsn hpw (s:=itr (nx r) j c) fun a ha e=>by
     have:=((hls a).1 ha)
     exact hsD ((hl0.uniq this.1 e)▸this.2)
    refine ⟨st27 r (ls'.map (pol r)) ((i+1:Nat):Int) done',?_,_,done',ls',rfl,hD.add hcc,h2,fun j' d hj' hd=>?_,g2,fun s=>?_⟩
    ·unfold t_additiveref22_Trace_L0
     dsimp only
     rw [w_ln,Aa,Kj (by omega)]
     refine (lo_s h1).trans ?_
     dsimp only
     have hlen:(ringL r c (perN r c)).length=perN r c:=by unfold ringL;rw [Aa,Au]
     have hp:=hN.pos
     rw [w_ln,hlen,br_t (by rw [Jau];exact decide_eq_true (by omega))]
     refine (ca_s (c:=c_additiveref22_polygon) hpoly).trans ((ca_s (c:=c_additiveref22_insert) g1).trans ?_)
     rw [e3]
    ·by_cases e:j'=i
     ·subst e;rw [hx] at hd;injection hd with hd;subst hd;exact .inr ⟨0,rfl⟩
     ·exact .inl (hlt j' d (by omega) hd)
    ·rw [g3,hls]
     constructor
     ·rintro (⟨q1,q2⟩|rfl)
      ·exact ⟨q1,.inl q2⟩
      ·exact ⟨hl0,.inr ⟨j,rfl⟩⟩
     ·rintro ⟨q1,q2|⟨k,q2⟩⟩
      ·exact .inl ⟨q1,q2⟩
      ·right
       obtain ⟨m,hm⟩:=hN.to c j
       refine hl0.same q1 (k:=k+m) ?_
       rw [Q1,hm];exact q2)
  (by
   rintro st ⟨D,done,ls,rfl,hD,hM,hlt,hpw,hls⟩
   refine ⟨_,?_,ls,⟨hpw,fun c=>(hls c).trans ⟨And.left,fun h=>⟨h,?_⟩⟩⟩,rfl⟩
   ·unfold t_additiveref22_Trace_L0
    dsimp only
    rw [w_ln,Aa,Jy (by omega)]
   ·obtain ⟨j,hj⟩:=Ag h.mem
    exact hlt j c (Ac.1 hj).1 hj)
 rw [Jbj hst]
 exact he
open Classical in
theorem Jj5 (r:Reg) (hl:LimR r) (hc:RegOK r→(J7 r).length≤250000):@t_additiveref22_Trace wv r=some (if RegOK r then (starts r).map (pol r) else []):=by
 unfold t_additiveref22_Trace
 rw [Zl hl]
 by_cases hr:RegOK r
 case neg=>rw [br_t (by simp [w_nt,hr]),if_neg hr]
 have hc:=hc hr
 have hn:(cks r).length≤1000000:=by have:=Jfa r;omega
 rw [br_f (by simp [w_nt,hr]),if_pos hr]
 refine (Jlq hl hr (by omega) _).trans ?_
 have hlen:((cks r).map enc).length=(cks r).length:=Aa _
 rw [le_t (by rw [w_ln];omega),w_ln,fitB (by omega) (by omega) (by decide),w_rp,hlen,Aq]
 exact (lo_s (T0_ok hr hn)).trans rfl
open Classical in
theorem Jnd {α:Type} {r:Reg} (hl:LimR r) (hc:RegOK r→(J7 r).length≤250000) (k:List (List (Int×Int))→Option α):@W.call wv α c_additiveref22_Trace r k=k (if RegOK r then (starts r).map (pol r) else []):=ca_s (c:=c_additiveref22_Trace) (Jj5 r hl hc)
end Go.Proofs.Ytmfagdfkpjgeiaa
namespace Go.Proofs.Ytmfagdfkpjgeiaa
open Go Go.Vv Go.Dn Go.Dn.W
set_option linter.unusedVariables false
set_option linter.unusedSimpArgs false
set_option linter.unusedSectionVars false
set_option maxRecDepth 100000
def hd4 (h:Int):Prop:=h=0∨h=1∨h=2∨h=3
theorem Jtj {α:Type} {a b:Int} {x y:Option α} (h:a > b):@W.br wv α (@W.cm wv .gtr a b) x y=x:=br_t (by rw [Jau];exact decide_eq_true h)
theorem Jeh {α:Type} {a b:Int} {x y:Option α} (h:¬a > b):@W.br wv α (@W.cm wv .gtr a b) x y=y:=br_f (by rw [Jau];exact decide_eq_false h)
theorem sign_ok (a:Int):@t_ringwalk_sign wv a=some (if a > 0 then 1 else if a<0 then -1 else 0):=by
 unfold t_ringwalk_sign
 by_cases h:a > 0
 ·rw [Jtj h,if_pos h]
 ·rw [Jeh h,if_neg h]
  by_cases h2:a<0
  ·rw [Kj h2,if_pos h2]
  ·rw [Jy h2,if_neg h2]
theorem k_sign {α:Type} (a:Int) (k:Int→Option α):@W.call wv α c_ringwalk_sign (a:Int) k=k (if a > 0 then 1 else if a<0 then -1 else 0):=ca_s (c:=c_ringwalk_sign) (sign_ok a)
theorem Jco (p:Cell) {h:Int} (hh:hd4 h) (n:Nat):(h=0∧(fwd p h n).1=p.1+n∧(fwd p h n).2=p.2)∨(h=1∧(fwd p h n).1=p.1∧(fwd p h n).2=p.2+n)∨(h=2∧(fwd p h n).1=p.1 - n∧(fwd p h n).2=p.2)∨(h=3∧(fwd p h n).1=p.1∧(fwd p h n).2=p.2 - n):=by
 unfold fwd dirH
 rcases hh with rfl|rfl|rfl|rfl<;>simp<;>omega
theorem Jcv {p:Cell} {h:Int} (hh:hd4 h) {n:Nat} (hn:0<n) (h1:J9 p) (h2:J9 (fwd p h n)):@t_ringwalk_direction wv (p,fwd p h n)=some (dirH h):=by
 have hf:=Jco p hh n
 generalize fwd p h n=q at *
 unfold J9 at h1 h2
 have e1:@W.ar wv .sub .i64 q.1 p.1=q.1 - p.1:=by rw [Qj,wr (by omega) (by omega)]
 have e2:@W.ar wv .sub .i64 q.2 p.2=q.2 - p.2:=by rw [Qj,wr (by omega) (by omega)]
 unfold t_ringwalk_direction
 dsimp only
 rw [e1,e2,k_sign,k_sign]
 refine congrArg some ?_
 rcases hf with ⟨rfl,f1,f2⟩|⟨rfl,f1,f2⟩|⟨rfl,f1,f2⟩|⟨rfl,f1,f2⟩
 ·rw [if_pos (by omega),if_neg (by omega),if_neg (by omega)];rfl
 ·rw [if_neg (by omega),if_neg (by omega),if_pos (by omega)];rfl
 ·rw [if_neg (by omega),if_pos (by omega),if_neg (by omega),if_neg (by omega)];rfl
 ·rw [if_neg (by omega),if_neg (by omega),if_neg (by omega),if_pos (by omega)];rfl
theorem way_ok {p:Cell} {h:Int} (hh:hd4 h) {n:Nat} (hn:0<n):@t_additiveref24_way wv (p,fwd p h n)=some (dirH h):=by
 have hf:=Jco p hh n
 generalize fwd p h n=q at *
 unfold t_additiveref24_way
 dsimp only
 rcases hf with ⟨rfl,f1,f2⟩|⟨rfl,f1,f2⟩|⟨rfl,f1,f2⟩|⟨rfl,f1,f2⟩
 ·rw [Jtj (by omega)];rfl
 ·rw [Jeh (by omega),Jy (by omega),Jtj (by omega)];rfl
 ·rw [Jeh (by omega),Kj (by omega)];rfl
 ·rw [Jeh (by omega),Jy (by omega),Jeh (by omega)];rfl
theorem Jp4 {p:Cell} {h:Int} (hh:hd4 h) (hp:J9 p):@t_ringwalk_left wv (p,dirH h)=some (J4 p h):=by
 unfold J9 at hp
 have e1:@W.ar wv .sub .i64 p.1 1=p.1 - 1:=by rw [Qj,wr (by omega) (by omega)]
 have e2:@W.ar wv .sub .i64 p.2 1=p.2 - 1:=by rw [Qj,wr (by omega) (by omega)]
 unfold t_ringwalk_left
 dsimp only
 rw [e1,e2]
 rcases hh with rfl|rfl|rfl|rfl
 ·rw [br_t (by rfl)];rfl
 ·rw [br_f (by rfl),br_t (by rfl)];rfl
 ·rw [br_f (by rfl),br_f (by rfl),br_t (by rfl)];rfl
 ·rw [br_f (by rfl),br_f (by rfl),br_f (by rfl)];rfl
theorem rleft_ok {p:Cell} {h:Int} (hh:hd4 h) (hp:J9 p):@t_additiveref24_left wv (p,dirH h)=some (J4 p h):=by
 unfold J9 at hp
 have e1:@W.ar wv .sub .i64 p.1 1=p.1 - 1:=by rw [Qj,wr (by omega) (by omega)]
 have e2:@W.ar wv .sub .i64 p.2 1=p.2 - 1:=by rw [Qj,wr (by omega) (by omega)]
 unfold t_additiveref24_left
 dsimp only
 rw [e1,e2]
 rcases hh with rfl|rfl|rfl|rfl
 ·rw [br_t (by rfl)];rfl
 ·rw [br_f (by rfl),br_t (by rfl)];rfl
 ·rw [br_f (by rfl),br_f (by rfl),br_t (by rfl)];rfl
 ·rw [br_f (by rfl),br_f (by rfl),br_f (by rfl)];rfl
theorem Jo5 {h h':Int} (hh:hd4 h) (hh':hd4 h'):@W.cm wv .lss (@W.ar wv .sub .i64 (@W.ar wv .mul .i64 (dirH h).1 (dirH h').2) (@W.ar wv .mul .i64 (dirH h).2 (dirH h').1)) 0=decide (rgt h h'):=by
 rcases hh with rfl|rfl|rfl|rfl<;>rcases hh' with rfl|rfl|rfl|rfl<;>rfl
noncomputable def addK {β:Type} (o:List Cell) (c:Cell) (K:List Cell→Option β):Option β :=
 @W.br wv β (@W.cm wv .gtr (@W.ln wv Cell o) 0) (@W.gd wv β (@W.ib wv (@W.ar wv .sub .i64 (@W.ln wv Cell o) 1) (@W.ln wv Cell o)) (@W.ge wv β Cell o (@W.ar wv .sub .i64 (@W.ln wv Cell o) 1) fun v =>
  @W.br wv β (@W.an wv (@W.cm wv .eql v.1 c.1) (@W.cm wv .eql v.2 c.2)) (K o) (@W.gd wv β (@W.ft wv 16 (@W.pl wv (@W.ln wv Cell o) 1)) (K (@W.ap wv Cell o (c::[]))))))
 (@W.gd wv β (@W.ft wv 16 (@W.pl wv (@W.ln wv Cell o) 1)) (K (@W.ap wv Cell o (c::[]))))
theorem Jmz (a b:Cell):@W.an wv (@W.cm wv .eql a.1 b.1) (@W.cm wv .eql a.2 b.2)=decide (a=b):=by
 rw [w_an,Q4,Q4,Bool.eq_iff_iff,Bj,beq_iff_eq,beq_iff_eq,decide_eq_true_eq,Prod.ext_iff]
theorem Jjm {o:List Cell} (h:0<o.length) (hl:o.length≤1000000000):∃z,o.getLast?=some z∧fget o (@W.ar wv .sub .i64 (@W.ln wv Cell o) 1)=some z:=by
 have e:@W.ar wv .sub .i64 (@W.ln wv Cell o) 1=((o.length - 1:Nat):Int):=by rw [w_ln,Qj,wr (by omega) (by omega)];omega
 have hg:o[o.length - 1]?=some o[o.length - 1]:=Ab (by omega)
 exact ⟨_,by rw [List.getLast?_eq_getElem?,hg],by rw [e];exact fg hg⟩
theorem Jwb {β:Type} {o:List Cell} (hl:o.length≤1000000000) (c:Cell) (K:List Cell→Option β):addK o c K=K (ddS o c):=by
 unfold addK ddS
 by_cases h:0<o.length
 ·obtain ⟨z,h1,h2⟩:=Jjm h hl
  rw [br_t (by rw [Jau,w_ln];exact decide_eq_true (by omega)),Jcg (by rw [w_ln,Qj,wr (by omega) (by omega)];omega),ge_s h2,Jmz,h1]
  by_cases e:z=c
  ·rw [br_t (decide_eq_true e),if_pos (by rw [e])]
  ·rw [br_f (decide_eq_false e),if_neg (by simpa using e),w_ln,w_pl,Jat (by omega) (by omega),w_ap]
 ·have ho:o=[]:=Be (by omega)
  subst ho
  rw [br_f (by rfl),w_ln,w_pl,Jat (by simp) (by simp),w_ap]
  rfl
noncomputable def trimK (o:List Cell):Option (List Cell) :=
 @W.br wv (List Cell) (@W.cm wv .gtr (@W.ln wv Cell o) 1) (@W.gd wv (List Cell) (@W.ib wv 0 (@W.ln wv Cell o)) (@W.ge wv (List Cell) Cell o 0 fun v =>
  @W.gd wv (List Cell) (@W.ib wv (@W.ar wv .sub .i64 (@W.ln wv Cell o) 1) (@W.ln wv Cell o)) (@W.ge wv (List Cell) Cell o (@W.ar wv .sub .i64 (@W.ln wv Cell o) 1) fun w =>
  @W.br wv (List Cell) (@W.an wv (@W.cm wv .eql v.1 w.1) (@W.cm wv .eql v.2 w.2)) (@W.gd wv (List Cell) (@W.le wv 0 (@W.ar wv .sub .i64 (@W.ln wv Cell o) 1)) (@W.gd wv (List Cell) (@W.le wv (@W.ar wv .sub .i64 (@W.ln wv Cell o) 1) (@W.ln wv Cell o))
   (@W.gd wv (List Cell) (@W.le wv 0 0) (@W.gd wv (List Cell) (@W.le wv 0 (@W.ar wv .sub .i64 (@W.ln wv Cell o) 1)) (@W.gd wv (List Cell) (@W.le wv (@W.pl wv 0 (@W.ar wv .sub .i64 (@W.ln wv Cell o) 1)) (@W.ln wv Cell o))
   (some (@W.ct wv Cell o 0 (@W.ar wv .sub .i64 (@W.ln wv Cell o) 1)))))))) (some o)))) (some o)
theorem Jp7 {o:List Cell} (hl:o.length≤1000000000):trimK o=some (trim o):=by
 unfold trimK trim
 by_cases h:1<o.length
 ·obtain ⟨z,h1,h2⟩:=Jjm (o:=o) (by omega) hl
  have e:@W.ar wv .sub .i64 (@W.ln wv Cell o) 1=((o.length - 1:Nat):Int):=by rw [w_ln,Qj,wr (by omega) (by omega)];omega
  have h0:o[0]?=some o[0]:=Ab (by omega)
  rw [br_t (by rw [Jau,w_ln];exact decide_eq_true (by omega)),Jcg (by rw [w_ln];omega),ge_s (fg0 h0),Jcg (by rw [e,w_ln];omega),ge_s h2,Jmz,h1,List.head?_eq_getElem?,h0]
  by_cases q:o[0]=z
  ·rw [br_t (decide_eq_true q),if_pos ⟨h,by rw [q]⟩,e,le_t (by omega),le_t (by rw [w_ln];omega),le_t (by omega),le_t (by omega),le_t (by rw [w_pl,w_ln];omega),w_ct,List.dropLast_eq_take]
   simp
  ·rw [br_f (decide_eq_false q),if_neg fun hx=>q (by have:=hx.2;injection this)]
 ·rw [br_f (by rw [Jau,w_ln];exact decide_eq_false (by omega)),if_neg fun hx=>h hx.1]
end Go.Proofs.Ytmfagdfkpjgeiaa
namespace Go.Proofs.Ytmfagdfkpjgeiaa
open Go Go.Vv Go.Dn Go.Dn.W
set_option linter.unusedVariables false
set_option linter.unusedSimpArgs false
set_option linter.unusedSectionVars false
set_option maxRecDepth 100000
def Qm (P:Cell) (h:Int) (k:Nat):List Cell:=(Av k).map fun j=>J4 (fwd P h j) h
theorem Za (P:Cell) (h:Int) (k:Nat):Qm P h (k+1)=Qm P h k++[J4 (fwd P h k) h]:=by unfold Qm;rw [List.range_succ,Aj];rfl
theorem j7 (P:Cell) (h:Int) (k:Nat):(Qm P h k).length=k:=by unfold Qm;rw [Aa,Au]
theorem Ye {P:Cell} {h:Int} (hh:hd4 h) {k L:Nat} (hk:k≤L) (h1:J9 P) (h2:J9 (fwd P h L)):J9 (fwd P h k):=by
 have f1:=Jco P hh k
 have f2:=Jco P hh L
 have:hd4 h:=hh
 generalize fwd P h k=u at *
 generalize fwd P h L=v at *
 unfold J9 at *
 omega
theorem fwd_ne {P:Cell} {h:Int} (hh:hd4 h) {k L:Nat} (hk:k<L):fwd P h k≠fwd P h L:=by
 have f1:=Jco P hh k
 have f2:=Jco P hh L
 intro e
 rw [e] at f1
 generalize fwd P h L=v at *
 omega
theorem Jt5 {P:Cell} {h:Int} (hh:hd4 h) {k L:Nat} (hk:k<L) (h1:J9 P) (h2:J9 (fwd P h L)):@W.ar wv .add .i64 (fwd P h k).1 (dirH h).1=(fwd P h (k+1)).1∧@W.ar wv .add .i64 (fwd P h k).2 (dirH h).2=(fwd P h (k+1)).2:=by
 have e:fwd P h (k+1)=addC (fwd P h k) (dirH h):=by rw [Jja,Ja5]
 have h3:=Ye hh (k:=k+1) (L:=L) (by omega) h1 h2
 rw [e] at h3 ⊢
 unfold J9 addC at h3
 unfold addC
 dsimp only at h3 ⊢
 rw [Jx,Jx,wr (by omega) (by omega),wr (by omega) (by omega)]
 exact ⟨rfl,rfl⟩
section
variable {r:Reg} {s:Ck}
theorem Jfu {N i:Nat} (h:i<(tps r s N).length):ptK r s (tpN r s N (i+1))=fwd (ptK r s (tpN r s N i)) (hdK r s (tpN r s N i)) (tpN r s N (i+1) - tpN r s N i):=by
 have hlt:=Je3 r s h
 have:=edge r s h (tpN r s N (i+1) - tpN r s N i) (by omega)
 rwa [show tpN r s N i+(tpN r s N (i+1) - tpN r s N i)=tpN r s N (i+1) by omega] at this
theorem Jkf {N i:Nat} (h:i<(tps r s N).length):∀k,tpN r s N i+k<tpN r s N (i+1)→raw r s (tpN r s N i+k)=raw r s (tpN r s N i)++Qm (ptK r s (tpN r s N i)) (hdK r s (tpN r s N i)) k
 | 0,_=>by simp [Qm]
 | k+1,hk=>by
  rw [←Nat.add_assoc,Jbd,Jkf h k (by omega),Za,Ar]
  congr 2
  have e1:=Jjl r s h k (by omega)
  have e2:=Jjl r s h (k+1) (by omega)
  rw [←Nat.add_assoc] at e2
  unfold rawK
  rw [e1,e2,edge r s h k (by omega),if_neg]
  unfold rgt
  omega
noncomputable def cornC (r:Reg) (s:Ck) (N i:Nat):List Cell:=if rgt (hdK r s (tpN r s N i)) (hdK r s (tpN r s N (i+1))) then [addC (J4 (fwd (ptK r s (tpN r s N i)) (hdK r s (tpN r s N i)) (tpN r s N (i+1) - tpN r s N i - 1)) (hdK r s (tpN r s N i))) (dirH (hdK r s (tpN r s N i)))] else []
theorem Jp3 {N i:Nat} (h:i<(tps r s N).length) :
  raw r s (tpN r s N (i+1))=raw r s (tpN r s N i)++Qm (ptK r s (tpN r s N i)) (hdK r s (tpN r s N i)) (tpN r s N (i+1) - tpN r s N i)++cornC r s N i:=by
 have hlt:=Je3 r s h
 obtain ⟨k,hk⟩:∃k,tpN r s N (i+1)=tpN r s N i+k+1:=⟨tpN r s N (i+1) - tpN r s N i - 1,by omega⟩
 have e1:=Jjl r s h k (by omega)
 have e2:=edge r s h k (by omega)
 have e3:=Jkf h k (by omega)
 unfold cornC
 rw [hk,show tpN r s N i+k+1 - tpN r s N i=k+1 by omega,Jbd,e3,Za,Ar,Ar,Ar,Bf]
 congr 2
 unfold rawK
 rw [e1,e2]
 rfl
end
abbrev Sr1:=HP (List Cell) (HP Int (HP (List Cell) (HP Int (HP Int (HP Int (HP Int (HP Int (HP Int (HP Int (HP Int (HP Int (HP Int Unit))))))))))))
abbrev Or1:=HP (List Cell) (HP Int (HP (List Cell) (HP Int (HP Int (HP Int (HP Int (HP Int (HP Int Unit))))))))
def Jmk (c0 P:Cell) (h:Int) (k:Nat):Cell:=if k=0 then c0 else J4 (fwd P h (k - 1)) h
theorem rloop_L1 (pts:List Cell) (i:Int) (o:List Cell) {P:Cell} {h:Int} (hh:hd4 h) {L:Nat} (hL:L≤1000000) (h1:J9 P) (h2:J9 (fwd P h L)) (e c0:Cell) (ho:o.length≤100000000) :
  K3 (@t_additiveref24_loop_L1 wv) bigN (⟨pts,⟨i,⟨o,⟨P.1,⟨P.2,⟨(fwd P h L).1,⟨(fwd P h L).2,⟨(dirH h).1,⟨(dirH h).2,⟨e.1,⟨e.2,⟨c0.1,⟨c0.2,()⟩⟩⟩⟩⟩⟩⟩⟩⟩⟩⟩⟩⟩:Sr1) =
   some (⟨pts,⟨i,⟨o++Qm P h L,⟨(dirH h).1,⟨(dirH h).2,⟨e.1,⟨e.2,⟨(Jmk c0 P h L).1,⟨(Jmk c0 P h L).2,()⟩⟩⟩⟩⟩⟩⟩⟩⟩:Or1):=by
 have key:=Ka (b:=@t_additiveref24_loop_L1 wv) (e:=(⟨pts,⟨i,⟨o++Qm P h L,⟨(dirH h).1,⟨(dirH h).2,⟨e.1,⟨e.2,⟨(Jmk c0 P h L).1,⟨(Jmk c0 P h L).2,()⟩⟩⟩⟩⟩⟩⟩⟩⟩:Or1))
  (fun k=>(⟨pts,⟨i,⟨o++Qm P h k,⟨(fwd P h k).1,⟨(fwd P h k).2,⟨(fwd P h L).1,⟨(fwd P h L).2,⟨(dirH h).1,⟨(dirH h).2,⟨e.1,⟨e.2,⟨(Jmk c0 P h k).1,⟨(Jmk c0 P h k).2,()⟩⟩⟩⟩⟩⟩⟩⟩⟩⟩⟩⟩⟩:Sr1)) L (by omega) (fun k hk=>by
   have ha:=Jt5 hh hk h1 h2
   unfold t_additiveref24_loop_L1
   dsimp only
   rw [br_t (by rw [Jmz,w_nt,decide_eq_false (fwd_ne hh hk)];rfl)]
   refine (ca_s (c:=c_additiveref24_left) (rleft_ok hh (Ye hh (by omega) h1 h2))).trans ?_
   rw [w_ln,w_pl,Jat (by rw [Ae,j7];omega) (by omega),ha.1,ha.2,w_ap,Za,Ar]
   rfl) (by
   unfold t_additiveref24_loop_L1
   dsimp only
   rw [br_f (by rw [Jmz,w_nt,decide_eq_true rfl];rfl)])
 have e0:Qm P h 0=[]:=rfl
 simp only [e0,Jh3,Az] at key
 exact key
theorem Ji0 {r:Reg} {s:Ck} {N:Nat} (hN:Rnd (nx r) s N) {i:Nat} (h:i<(tps r s N).length):(poly r s N)[i]?=some (ptK r s (tpN r s N i)):=by
 rw [Jij r s hN.pos,Af,Jci r s h];rfl
theorem Ja1 {r:Reg} {s:Ck} {N:Nat} (hN:Rnd (nx r) s N) {i:Nat} (h:i<(tps r s N).length):(poly r s N)[(i+1) % (tps r s N).length]?=some (ptK r s (tpN r s N (i+1))):=by
 by_cases h1:i+1<(tps r s N).length
 ·rw [Bd h1];exact Ji0 hN h1
 ·have e:i+1=(tps r s N).length:=by omega
  rw [e,Nat.mod_self,Ji0 hN (by omega),Jbm r s hN.pos,Jca r s (Bg _)]
  have:ptK r s N=s.1:=congrArg Prod.fst hN.back
  rw [this];rfl
theorem Jj3 {r:Reg} {s:Ck} {N:Nat} (hN:Rnd (nx r) s N) {i:Nat} (h:i<(tps r s N).length):∃L,0<L∧L≤N∧(poly r s N)[(i+2) % (tps r s N).length]?=some (fwd (ptK r s (tpN r s N (i+1))) (hdK r s (tpN r s N (i+1))) L):=by
 by_cases h1:i+1<(tps r s N).length
 ·have hlt:tpN r s N (i+1)<tpN r s N (i+2):=Je3 r s h1
  have hle:=Jk1 r s (N:=N) (i:=i+2)
  refine ⟨tpN r s N (i+2) - tpN r s N (i+1),by omega,by omega,?_⟩
  rw [Ja1 hN h1]
  exact congrArg some (Jfu h1)
 ·have e:i+1=(tps r s N).length:=by omega
  have hp:=hN.pos
  have h0:0<(tps r s N).length:=by omega
  have hlt:tpN r s N 0<tpN r s N 1:=Je3 r s h0
  have hle:=Jk1 r s (N:=N) (i:=1)
  refine ⟨tpN r s N 1 - tpN r s N 0,by omega,by omega,?_⟩
  have em:(i+2) % (tps r s N).length=(0+1) % (tps r s N).length:=by rw [show i+2=0+1+(tps r s N).length by omega,Nat.add_mod_right]
  rw [em,Ja1 hN h0,Jca r s (i:=i+1) (by omega)]
  have e1:ptK r s N=ptK r s (tpN r s N 0):=by rw [Jbm r s hp];exact congrArg Prod.fst hN.back
  have e2:hdK r s N=hdK r s (tpN r s N 0):=by rw [Jbm r s hp];exact congrArg Prod.snd hN.back
  rw [e1,e2]
  exact congrArg some (Jfu h0)
theorem Jp9 {r:Reg} {s:Ck} {N:Nat} (hN:Rnd (nx r) s N):(poly r s N).length=(tps r s N).length:=by rw [Jij r s hN.pos,Aa]
theorem Jfc {a:Int} {b n:Nat} (e:a=(b:Int)):@W.ar wv .rem .i64 a (n:Int)=((b % n:Nat):Int):=by
 rw [Jta,e,Bh (by omega)]
 exact (Int.natCast_emod _ _).symm
theorem rloop_ok {r:Reg} (hr:RegOK r) {s:Ck} (hs:Crk r s.1 s.2) {N:Nat} (hN:Rnd (nx r) s N) (hle:N≤1000000):@t_additiveref24_loop wv (poly r s N)=some (raw r s N):=by
 have hp:=hN.pos
 have hn:=Jvj r s N
 have hlen:=Jp9 hN
 have hloop:=Ka (b:=@t_additiveref24_loop_L0 wv) (e:=(⟨raw r s N,()⟩:HP (List Cell) Unit)) (fun i=>(⟨poly r s N,⟨(i:Int),⟨raw r s (tpN r s N i),()⟩⟩⟩:HP (List Cell) (HP Int (HP (List Cell) Unit)))) (tps r s N).length (by omega) (fun i hi=>by
  have hlt:=Je3 r s hi
  have hTle:=Jk1 r s (N:=N) (i:=i+1)
  have g0:=Ji0 hN hi
  have g1:=Ja1 hN hi
  obtain ⟨L2,hL2,hL2',g2⟩:=Jj3 hN hi
  have hh:hd4 (hdK r s (tpN r s N i)):=(Kq hs _).hd
  have hh':hd4 (hdK r s (tpN r s N (i+1))):=(Kq hs _).hd
  have s0:=Qf hr (Kq hs (tpN r s N i))
  have s1:=Qf hr (Kq hs (tpN r s N (i+1)))
  rw [show (itr (nx r) (tpN r s N i) s).1=ptK r s (tpN r s N i) from rfl] at s0
  rw [show (itr (nx r) (tpN r s N (i+1)) s).1=ptK r s (tpN r s N (i+1)) from rfl] at s1
  have hwE:=way_ok (p:=ptK r s (tpN r s N (i+1))) hh' hL2
  have hE:=Jfu hi
  have hraw:=Jp3 hi
  have hrl:=Jae r s (tpN r s N i)
  have hrl':=Jae r s (tpN r s N (i+1))
  unfold cornC at hraw
  generalize hh0:hdK r s (tpN r s N i)=h at *
  generalize hdK r s (tpN r s N (i+1))=h' at *
  generalize ptK r s (tpN r s N i)=P at *
  generalize ptK r s (tpN r s N (i+1))=Q at *
  generalize fwd Q h' L2=R at *
  obtain ⟨L,hL⟩:∃L,tpN r s N (i+1) - tpN r s N i=L+1:=⟨tpN r s N (i+1) - tpN r s N i - 1,by omega⟩
  rw [hL] at hE hraw
  subst hE
  have hwD:=way_ok (p:=P) hh (n:=L+1) (by omega)
  have e0:@W.ar wv .add .i64 (i:Int) 1=((i+1:Nat):Int):=by rw [Jx,wr (by omega) (by omega)];omega
  have e1:@W.ar wv .rem .i64 ((i+1:Nat):Int) ((tps r s N).length:Int)=(((i+1) % (tps r s N).length:Nat):Int):=Jfc rfl
  have e2:@W.ar wv .rem .i64 (@W.ar wv .add .i64 (i:Int) 2) ((tps r s N).length:Int)=(((i+2) % (tps r s N).length:Nat):Int):=Jfc (by rw [Jx,wr (by omega) (by omega)];omega)
  have hne:@W.cm wv .neq ((tps r s N).length:Int) 0=true:=by rw [zw];exact bne_iff_ne.2 (by omega)
  unfold t_additiveref24_loop_L0
  dsimp only
  rw [w_ln,hlen,Kj (by omega),ge_s (fg g0),gd_t hne,e0,e1,ge_s (fg g1),gd_t hne,e2,ge_s (fg g2)]
  refine (ca_s (c:=c_additiveref24_way) hwD).trans ((ca_s (c:=c_additiveref24_way) hwE).trans ((lo_s (rloop_L1 _ _ _ hh (by omega) s0 s1 (dirH h') (0,0) (by omega))).trans ?_))
  dsimp only
  rw [Jo5 hh hh',e0]
  have hc:Jmk (0,0) P h (L+1)=J4 (fwd P h L) h:=rfl
  rw [hc]
  have hcs:J9 (J4 (fwd P h L) h)∧J9 (addC (J4 (fwd P h L) h) (dirH h))∨True:=.inr trivial
  by_cases hr':rgt h h'
  ·have hb:-2000000000≤(J4 (fwd P h L) h).1∧(J4 (fwd P h L) h).1≤2000000000∧-2000000000≤(J4 (fwd P h L) h).2∧(J4 (fwd P h L) h).2≤2000000000:=by
    have:=Ye hh (k:=L) (L:=L+1) (by omega) s0 s1
    unfold J9 at this
    unfold J4
    rcases hh with rfl|rfl|rfl|rfl<;>simp<;>omega
   have hd:-1≤(dirH h).1∧(dirH h).1≤1∧-1≤(dirH h).2∧(dirH h).2≤1:=by
    rcases hh with rfl|rfl|rfl|rfl<;>simp [dirH]
   rw [br_t (decide_eq_true hr'),w_ln,w_pl,Jat (by rw [Ae,j7];omega) (by omega),w_ap,hraw,if_pos hr',Jx,Jx,wr (by omega) (by omega),wr (by omega) (by omega),Bf]
   rfl
  ·rw [br_f (decide_eq_false hr'),hraw,if_neg hr',Az]) (by
  unfold t_additiveref24_loop_L0
  dsimp only
  rw [w_ln,hlen,Jy (by omega),Jca r s (Bg _)])
 have e0:raw r s (tpN r s N 0)=[]:=by rw [Jbm r s hp];rfl
 rw [e0] at hloop
 exact (lo_s hloop).trans rfl
theorem once_ok (l:List Cell) (hl:l.length≤100000000):@t_additiveref24_once wv l=some (zt l):=by
 have hloop:=Ka (b:=@t_additiveref24_once_L0 wv) (e:=(⟨dd l,()⟩:HP (List Cell) Unit)) (fun i=>(⟨l,⟨(i:Int),⟨dd (l.take i),()⟩⟩⟩:HP (List Cell) (HP Int (HP (List Cell) Unit)))) l.length (by omega) (fun i hi=>by
  have hx:=Ab hi
  generalize l[i]=c at hx
  have e0:@W.ar wv .add .i64 (i:Int) 1=((i+1:Nat):Int):=by rw [Jx,wr (by omega) (by omega)];omega
  have hdl:=Jl3 (l.take i)
  rw [Ah] at hdl
  rw [Qt hx,Jck]
  generalize dd (l.take i)=o at *
  unfold t_additiveref24_once_L0
  dsimp only
  rw [w_ln,Kj (by omega),e0]
  unfold ddS
  by_cases h:0<o.length
  ·obtain ⟨z,h1,h2⟩:=Jjm h (by omega)
   rw [br_f (by rw [Q4,w_ln,beq_eq_false_iff_ne];omega),Jcg (by rw [w_ln,Qj,wr (by omega) (by omega)];omega),ge_s h2,ge_s (fg hx),Jmz,h1]
   by_cases e:z=c
   ·rw [br_f (by rw [w_nt,decide_eq_true e];rfl),if_pos (by rw [e])]
   ·rw [br_t (by rw [w_nt,decide_eq_false e];rfl),if_neg (by simpa using e),ge_s (fg hx),w_ln,w_pl,Jat (by omega) (by omega),w_ap]
  ·have ho:o=[]:=Be (by omega)
   subst ho
   rw [br_t (by rfl),ge_s (fg hx),w_ln,w_pl,Jat (by simp) (by simp),w_ap]
   rfl) (by
  unfold t_additiveref24_once_L0
  dsimp only
  rw [w_ln,Jy (by omega),Ao])
 unfold t_additiveref24_once
 refine (lo_s hloop).trans ?_
 exact (show _=trimK (dd l) from rfl).trans (Jp7 (by have:=Jl3 l;omega))
end Go.Proofs.Ytmfagdfkpjgeiaa
namespace Go.Proofs.Ytmfagdfkpjgeiaa
open Go Go.Vv Go.Dn Go.Dn.W
set_option linter.unusedVariables false
set_option linter.unusedSimpArgs false
set_option linter.unusedSectionVars false
set_option maxRecDepth 100000
abbrev Sp1:=HP (List Cell) (HP Int (HP (List Cell) (HP Int (HP Int (HP Int (HP Int Unit))))))
theorem Jl8 (m:List Cell):∀o:List Cell,(m.foldl ddS o).length≤o.length+m.length:=by
 induction m with
 | nil=>intro o;exact Bg _
 | cons c m ih =>
  intro o
  rw [List.foldl_cons,Ak]
  refine Nat.le_trans (ih _) ?_
  unfold ddS
  split
  ·omega
  ·rw [Ae,List.length_singleton];omega
theorem ploop_L1 (pts:List Cell) (i j:Nat) (o:List Cell) {P:Cell} {h:Int} (hh:hd4 h) {L:Nat} (hL:L≤1000000) (h1:J9 P) (h2:J9 (fwd P h L)) (ho:o.length≤100000000) (hi:i≤1000000000) (hp:pts.length≤1000000000) (hp0:0<pts.length)
  (hq:pts[(i+1) % pts.length]?=some (fwd P h L)) :
  K3 (@t_ringwalk_walk_L1 wv) bigN (⟨pts,⟨(i:Int),⟨o,⟨P.1,⟨P.2,⟨(dirH h).1,⟨(dirH h).2,()⟩⟩⟩⟩⟩⟩⟩:Sp1) =
   some (⟨pts,⟨(i:Int),⟨(Qm P h L).foldl ddS o,⟨(fwd P h L).1,⟨(fwd P h L).2,⟨(dirH h).1,⟨(dirH h).2,()⟩⟩⟩⟩⟩⟩⟩:Sp1):=by
 have e0:@W.ar wv .rem .i64 (@W.ar wv .add .i64 (i:Int) 1) (pts.length:Int)=(((i+1) % pts.length:Nat):Int):=Jfc (by rw [Jx,wr (by omega) (by omega)];omega)
 have hne:@W.cm wv .neq (pts.length:Int) 0=true:=by rw [zw];exact bne_iff_ne.2 (by omega)
 have key:=Ka (b:=@t_ringwalk_walk_L1 wv) (e:=(⟨pts,⟨(i:Int),⟨(Qm P h L).foldl ddS o,⟨(fwd P h L).1,⟨(fwd P h L).2,⟨(dirH h).1,⟨(dirH h).2,()⟩⟩⟩⟩⟩⟩⟩:Sp1))
  (fun k=>(⟨pts,⟨(i:Int),⟨(Qm P h k).foldl ddS o,⟨(fwd P h k).1,⟨(fwd P h k).2,⟨(dirH h).1,⟨(dirH h).2,()⟩⟩⟩⟩⟩⟩⟩:Sp1)) L (by omega) (fun k hk=>by
   have ha:=Jt5 hh hk h1 h2
   have hlen:=Jl8 (Qm P h k) o
   rw [j7] at hlen
   unfold t_ringwalk_walk_L1
   dsimp only
   rw [w_ln,gd_t hne,e0,ge_s (fg hq),br_t (by rw [Jmz,w_nt,decide_eq_false (fwd_ne hh hk)];rfl)]
   refine (ca_s (c:=c_ringwalk_left) (Jp4 hh (Ye hh (by omega) h1 h2))).trans ?_
   rw [ha.1,ha.2,Za,List.foldl_append]
   generalize (Qm P h k).foldl ddS o=o1 at *
   generalize J4 (fwd P h k) h=c
   generalize fwd P h (k+1)=v
   obtain ⟨c1,c2⟩:=c
   have hk:=Jwb (β:=Nx Sp1 Sp1) (o:=o1) (by omega) (c1,c2) (fun o'=>some (.go (⟨pts,⟨(i:Int),⟨o',⟨v.1,⟨v.2,⟨(dirH h).1,⟨(dirH h).2,()⟩⟩⟩⟩⟩⟩⟩:Sp1)))
   unfold addK at hk
   exact hk) (by
   unfold t_ringwalk_walk_L1
   dsimp only
   rw [w_ln,gd_t hne,e0,ge_s (fg hq),br_f (by rw [Jmz,w_nt,decide_eq_true rfl];rfl)])
 have ec:Qm P h 0=[]:=rfl
 simp only [ec,Jh3,List.foldl_nil] at key
 exact key
abbrev Sp0:=HP (List Cell) (HP Int (HP Int (HP Int (HP Int (HP Int (HP (List Cell) Unit))))))
theorem pwalk_ok {r:Reg} (hr:RegOK r) {s:Ck} (hl:Least r s) {N:Nat} (hN:Rnd (nx r) s N) (hle:N≤1000000):@t_ringwalk_walk wv (poly r s N)=some (zt (raw r s N)):=by
 have hs:=hl.1
 have hp:=hN.pos
 have hn:=Jvj r s N
 have h2n:=tps_two hl hN
 have hlen:=Jp9 hN
 have step:∀i,i<(tps r s N).length→@t_ringwalk_walk_L0 wv (⟨poly r s N,⟨(i:Int),⟨(ptK r s (tpN r s N i)).1,⟨(ptK r s (tpN r s N i)).2,⟨(dirH (hdK r s (tpN r s N i))).1,⟨(dirH (hdK r s (tpN r s N i))).2,⟨dd (raw r s (tpN r s N i)),()⟩⟩⟩⟩⟩⟩⟩:Sp0) =
   if i+1=(tps r s N).length then some (.out (⟨dd (raw r s (tpN r s N (i+1))),()⟩:HP (List Cell) Unit)) else
    some (.go (⟨poly r s N,⟨((i+1:Nat):Int),⟨(ptK r s (tpN r s N (i+1))).1,⟨(ptK r s (tpN r s N (i+1))).2,⟨(dirH (hdK r s (tpN r s N (i+1)))).1,⟨(dirH (hdK r s (tpN r s N (i+1)))).2,⟨dd (raw r s (tpN r s N (i+1))),()⟩⟩⟩⟩⟩⟩⟩:Sp0)):=fun i hi=>by
  have hlt:=Je3 r s hi
  have hTle:=Jk1 r s (N:=N) (i:=i+1)
  have g1:=Ja1 hN hi
  obtain ⟨L2,hL2,hL2',g2⟩:=Jj3 hN hi
  have hh:hd4 (hdK r s (tpN r s N i)):=(Kq hs _).hd
  have hh':hd4 (hdK r s (tpN r s N (i+1))):=(Kq hs _).hd
  have s0:=Qf hr (Kq hs (tpN r s N i))
  have s1:=Qf hr (Kq hs (tpN r s N (i+1)))
  rw [show (itr (nx r) (tpN r s N i) s).1=ptK r s (tpN r s N i) from rfl] at s0
  rw [show (itr (nx r) (tpN r s N (i+1)) s).1=ptK r s (tpN r s N (i+1)) from rfl] at s1
  have hE:=Jfu hi
  have hraw:=Jp3 hi
  have hrl:=Jae r s (tpN r s N i)
  have hdl:=Jl3 (raw r s (tpN r s N i))
  have s2:J9 (fwd (ptK r s (tpN r s N (i+1))) (hdK r s (tpN r s N (i+1))) L2):=by
   have hm:=Ad g2
   rw [Jij r s hp] at hm
   obtain ⟨k,_,hk⟩:=Ai.1 hm
   rw [←hk]
   exact Qf hr (Kq hs k)
  unfold cornC at hraw
  generalize hdK r s (tpN r s N i)=h at *
  generalize hdK r s (tpN r s N (i+1))=h' at *
  generalize ptK r s (tpN r s N i)=P at *
  generalize ptK r s (tpN r s N (i+1))=Q at *
  have hwE:=Jcv (p:=Q) hh' hL2 s1 s2
  generalize fwd Q h' L2=R at *
  obtain ⟨L,hL⟩:∃L,tpN r s N (i+1) - tpN r s N i=L+1:=⟨tpN r s N (i+1) - tpN r s N i - 1,by omega⟩
  rw [hL] at hE hraw
  subst hE
  have e0:@W.ar wv .add .i64 (i:Int) 1=((i+1:Nat):Int):=by rw [Jx,wr (by omega) (by omega)];omega
  have e1:@W.ar wv .rem .i64 ((i+1:Nat):Int) ((tps r s N).length:Int)=(((i+1) % (tps r s N).length:Nat):Int):=Jfc rfl
  have e2:@W.ar wv .rem .i64 (@W.ar wv .add .i64 ((i+1:Nat):Int) 1) ((tps r s N).length:Int)=(((i+2) % (tps r s N).length:Nat):Int):=Jfc (by rw [Jx,wr (by omega) (by omega)];omega)
  have hne:@W.cm wv .neq ((tps r s N).length:Int) 0=true:=by rw [zw];exact bne_iff_ne.2 (by omega)
  have hfl:=Jl8 (Qm P h (L+1)) (dd (raw r s (tpN r s N i)))
  rw [j7] at hfl
  unfold t_ringwalk_walk_L0
  dsimp only
  refine (lo_s (ploop_L1 _ i ((i+1) % (tps r s N).length) _ hh (by omega) s0 s1 (by omega) (by omega) (by omega) (by omega) (by rw [hlen];exact g1))).trans ?_
  dsimp only
  rw [w_ln,hlen,gd_t hne,e0,e1,ge_s (fg g1),gd_t hne,e2,ge_s (fg g2)]
  refine (ca_s (c:=c_ringwalk_direction) hwE).trans ?_
  rw [Jo5 hh hh']
  have hsub:@W.ar wv .sub .i64 (fwd P h (L+1)).1 (dirH h).1=(fwd P h L).1∧@W.ar wv .sub .i64 (fwd P h (L+1)).2 (dirH h).2=(fwd P h L).2:=by
   have e:fwd P h (L+1)=addC (fwd P h L) (dirH h):=by rw [Jja,Ja5]
   have h3:=Ye hh (k:=L) (L:=L+1) (by omega) s0 s1
   unfold J9 at h3
   rw [e,Qj,Qj]
   unfold addC
   dsimp only
   rw [wr (by omega) (by omega),wr (by omega) (by omega)]
   omega
  let K:List Cell→Option (Nx Sp0 (HP (List Cell) Unit)):=fun o=>@W.br wv _ (@W.cm wv .eql ((i+1:Nat):Int) ((tps r s N).length:Int)) (some (.out ⟨o,()⟩)) (some (.go ⟨poly r s N,⟨((i+1:Nat):Int),⟨(fwd P h (L+1)).1,⟨(fwd P h (L+1)).2,⟨(dirH h').1,⟨(dirH h').2,⟨o,()⟩⟩⟩⟩⟩⟩⟩))
  have hK:∀o:List Cell,K o=if i+1=(tps r s N).length then some (.out (⟨o,()⟩:HP (List Cell) Unit)) else some (.go (⟨poly r s N,⟨((i+1:Nat):Int),⟨(fwd P h (L+1)).1,⟨(fwd P h (L+1)).2,⟨(dirH h').1,⟨(dirH h').2,⟨o,()⟩⟩⟩⟩⟩⟩⟩:Sp0)):=fun o=>by
   show @W.br wv _ _ _ _=_
   by_cases e:i+1=(tps r s N).length
   ·rw [br_t (by rw [Q4];exact beq_iff_eq.2 (by omega)),if_pos e]
   ·rw [br_f (by rw [Q4];exact beq_eq_false_iff_ne.2 (by omega)),if_neg e]
  by_cases hr':rgt h h'
  ·have hb:-2000000000≤(J4 (fwd P h L) h).1∧(J4 (fwd P h L) h).1≤2000000000∧-2000000000≤(J4 (fwd P h L) h).2∧(J4 (fwd P h L) h).2≤2000000000:=by
    have:=Ye hh (k:=L) (L:=L+1) (by omega) s0 s1
    unfold J9 at this
    unfold J4
    rcases hh with rfl|rfl|rfl|rfl<;>simp<;>omega
   have hd:-1≤(dirH h).1∧(dirH h).1≤1∧-1≤(dirH h).2∧(dirH h).2≤1:=by
    rcases hh with rfl|rfl|rfl|rfl<;>simp [dirH]
   rw [br_t (decide_eq_true hr'),hsub.1,hsub.2]
   refine (ca_s (c:=c_ringwalk_left) (Jp4 hh (Ye hh (k:=L) (L:=L+1) (by omega) s0 s1))).trans ?_
   have a1:@W.ar wv .add .i64 (J4 (fwd P h L) h).1 (dirH h).1=(addC (J4 (fwd P h L) h) (dirH h)).1:=by rw [Jx,wr (by omega) (by omega)];rfl
   have a2:@W.ar wv .add .i64 (J4 (fwd P h L) h).2 (dirH h).2=(addC (J4 (fwd P h L) h) (dirH h)).2:=by rw [Jx,wr (by omega) (by omega)];rfl
   rw [a1,a2,hraw,if_pos hr',Jck,dd_add,Bf]
   generalize (Qm P h (L+1)).foldl ddS (dd (raw r s (tpN r s N i)))=o1 at *
   generalize addC (J4 (fwd P h L) h) (dirH h)=c
   exact (show _=addK o1 c K from rfl).trans ((Jwb (by omega) _ _).trans (hK _))
  ·rw [br_f (decide_eq_false hr'),hraw,if_neg hr',Az,dd_add]
   generalize (Qm P h (L+1)).foldl ddS (dd (raw r s (tpN r s N i)))=o1 at *
   exact hK o1
 have hend:tpN r s N ((tps r s N).length - 1+1)=N:=Jca r s (by omega)
 have hloop:=Ka (b:=@t_ringwalk_walk_L0 wv) (e:=(⟨dd (raw r s N),()⟩:HP (List Cell) Unit)) (fun i=>(⟨poly r s N,⟨(i:Int),⟨(ptK r s (tpN r s N i)).1,⟨(ptK r s (tpN r s N i)).2,⟨(dirH (hdK r s (tpN r s N i))).1,⟨(dirH (hdK r s (tpN r s N i))).2,⟨dd (raw r s (tpN r s N i)),()⟩⟩⟩⟩⟩⟩⟩:Sp0)) ((tps r s N).length - 1) (by omega) (fun i hi=>by
  rw [step i (by omega),if_neg (by omega)]) (by
  rw [step _ (by omega),if_pos (by omega),hend])
 have g0:=Ji0 hN (i:=0) (by omega)
 have g1:=Ja1 hN (i:=0) (by omega)
 rw [Bd (by omega)] at g1
 have hE:=Jfu (r:=r) (s:=s) (N:=N) (i:=0) (by omega)
 have hlt:=Je3 r s (N:=N) (i:=0) (by omega)
 have s0:=Qf hr (Kq hs (tpN r s N 0))
 have s1:=Qf hr (Kq hs (tpN r s N (0+1)))
 rw [show (itr (nx r) (tpN r s N 0) s).1=ptK r s (tpN r s N 0) from rfl] at s0
 rw [show (itr (nx r) (tpN r s N (0+1)) s).1=ptK r s (tpN r s N (0+1)) from rfl] at s1
 rw [hE] at g1 s1
 have hwE:=Jcv (p:=ptK r s (tpN r s N 0)) (Kq hs (tpN r s N 0)).hd (n:=tpN r s N (0+1) - tpN r s N 0) (by omega) s0 s1
 unfold t_ringwalk_walk
 rw [ge_s (fg0 g0),ge_s (fg0 g0),ge_s (i:=1) (fg (i:=1) g1)]
 refine (ca_s (c:=c_ringwalk_direction) hwE).trans ?_
 have e0:raw r s (tpN r s N 0)=[]:=by rw [Jbm r s hp];rfl
 rw [e0] at hloop
 refine (lo_s hloop).trans ?_
 exact (show _=trimK (dd (raw r s N)) from rfl).trans (Jp7 (by have:=Jl3 (raw r s N);have:=Jae r s N;omega))
noncomputable def walkOf (r:Reg) (s:Ck):Jcb:=(1,true,zt (raw r s (perN r s)))
theorem Jjb {r:Reg} (hc:(J7 r).length≤8000) {s:Ck} (hs:Crk r s.1 s.2):(zt (raw r s (perN r s))).length≤65536:=by
 have h1:=once_len (raw r s (perN r s))
 have h2:=Jae r s (perN r s)
 have h3:=Jch hs
 have h4:=Jfa r
 omega
theorem Jb6 {r:Reg} (h:Starts r (starts r)):(starts r).length≤(cks r).length:=by
 have hnd:(starts r).Nodup:=h.pw.imp fun {a b} (h:yx a.1 b.1) (e:a=b)=>Yi a.1 (by subst e;exact h)
 exact Xj hnd fun s hs=>((h.mem s).1 hs).mem
open Classical in
theorem Jun (r:Reg) (hl:LimR r) (hc:RegOK r→(J7 r).length≤8000):@t_ringwalk_Walk wv r=some (if RegOK r then (starts r).map (walkOf r) else []):=by
 have hck:RegOK r→(cks r).length≤1000000:=fun h=>by have:=hc h;have:=Jfa r;omega
 unfold t_ringwalk_Walk
 rw [k_Trace hl hck]
 by_cases hr:RegOK r
 case neg =>
  rw [if_neg hr,if_neg hr]
  exact (lo_s (show K3 (@t_ringwalk_Walk_L0 wv) bigN ⟨[],⟨0,⟨0,⟨[],()⟩⟩⟩⟩=some ⟨[],()⟩ from X0 (n:=18446744073709551615) rfl)).trans rfl
 rw [if_pos hr,if_pos hr]
 have hst:=(Jdh r hl hck).2 hr
 have hck:=hck hr
 have hc:=hc hr
 have hsl:=Jb6 hst
 have hlen:((starts r).map (pol r)).length=(starts r).length:=Aa _
 have hloop:=Ka (b:=@t_ringwalk_Walk_L0 wv) (e:=(⟨(starts r).map (walkOf r),()⟩:HP (List Jcb) Unit)) (fun i=>(⟨(starts r).map (pol r),⟨((starts r).length:Int),⟨(i:Int),⟨((starts r).take i).map (walkOf r),()⟩⟩⟩⟩:HP (List (List Cell)) (HP Int (HP Int (HP (List Jcb) Unit))))) (starts r).length (by omega) (fun i hi=>by
  have hx:=Ab hi
  generalize (starts r)[i]=s at hx
  have hs:Least r s:=(hst.mem s).1 (Ad hx)
  have hg:((starts r).map (pol r))[i]?=some (pol r s):=by rw [Af,hx];rfl
  have hpe:=Jch hs.1
  have hw:=pwalk_ok hr hs (Xz hs.1) (by omega)
  have hwl:=Jjb hc hs.1
  unfold t_ringwalk_Walk_L0
  dsimp only
  rw [Kj (by omega),ge_s (fg hg)]
  refine (ca_s (c:=c_ringwalk_walk) hw).trans ?_
  rw [br_t (by rw [Jf4,w_ln];exact decide_eq_true (by omega)),w_ln,w_pl,Aa,Ah,fit40 (by omega) (by omega),Jx,wr (by omega) (by omega),w_ap,Zr hx]
  rfl) (by
  unfold t_ringwalk_Walk_L0
  dsimp only
  rw [Jy (by omega),Ao])
 rw [w_ln,hlen]
 exact (lo_s hloop).trans rfl
open Classical in
theorem Jof (r:Reg) (hl:LimR r) (hc:RegOK r→(J7 r).length≤8000):@t_additiveref24_Walk wv r=some (if RegOK r then (starts r).map (walkOf r) else []):=by
 have hck:RegOK r→(cks r).length≤1000000:=fun h=>by have:=hc h;have:=Jfa r;omega
 unfold t_additiveref24_Walk
 rw [Jnd hl (fun h=>by have:=hc h;omega)]
 by_cases hr:RegOK r
 case neg =>
  rw [if_neg hr,if_neg hr]
  exact (lo_s (show K3 (@t_additiveref24_Walk_L0 wv) bigN ⟨[],⟨0,⟨[],()⟩⟩⟩=some ⟨[],()⟩ from X0 (n:=18446744073709551615) rfl)).trans rfl
 rw [if_pos hr,if_pos hr]
 have hst:=(Jdh r hl hck).2 hr
 have hck:=hck hr
 have hc:=hc hr
 have hsl:=Jb6 hst
 have hlen:((starts r).map (pol r)).length=(starts r).length:=Aa _
 have hloop:=Ka (b:=@t_additiveref24_Walk_L0 wv) (e:=(⟨(starts r).map (walkOf r),()⟩:HP (List Jcb) Unit)) (fun i=>(⟨(starts r).map (pol r),⟨(i:Int),⟨((starts r).take i).map (walkOf r),()⟩⟩⟩:HP (List (List Cell)) (HP Int (HP (List Jcb) Unit)))) (starts r).length (by omega) (fun i hi=>by
  have hx:=Ab hi
  generalize (starts r)[i]=s at hx
  have hs:Least r s:=(hst.mem s).1 (Ad hx)
  have hg:((starts r).map (pol r))[i]?=some (pol r s):=by rw [Af,hx];rfl
  have hpe:=Jch hs.1
  have hw:=rloop_ok hr hs.1 (Xz hs.1) (by omega)
  have hrl:=Jae r s (perN r s)
  have ho:=once_ok (raw r s (perN r s)) (by omega)
  have hwl:=Jjb hc hs.1
  unfold t_additiveref24_Walk_L0
  dsimp only
  rw [w_ln,hlen,Kj (by omega),ge_s (fg hg)]
  refine (ca_s (c:=c_additiveref24_loop) hw).trans ((ca_s (c:=c_additiveref24_once) ho).trans ?_)
  rw [br_t (by rw [Jf4,w_ln];exact decide_eq_true (by omega)),w_ln,w_pl,Aa,Ah,fit40 (by omega) (by omega),Jx,wr (by omega) (by omega),w_ap,Zr hx]
  rfl) (by
  unfold t_additiveref24_Walk_L0
  dsimp only
  rw [w_ln,hlen,Jy (by omega),Ao])
 exact (lo_s hloop).trans rfl
open Classical in
theorem k_Walk {α:Type} {r:Reg} (hl:LimR r) (hc:RegOK r→(J7 r).length≤8000) (k:List (Int×(Bool×List (Int×Int)))→Option α):@W.call wv α c_ringwalk_Walk r k=k (if RegOK r then (starts r).map (walkOf r) else []):=ca_s (c:=c_ringwalk_Walk) (Jun r hl hc)
end Go.Proofs.Ytmfagdfkpjgeiaa
namespace Go.Proofs.Ytmfagdfkpjgeiaa
open Go Go.Vv Go.Dn Go.Dn.W
set_option linter.unusedVariables false
set_option linter.unusedSimpArgs false
set_option linter.unusedSectionVars false
set_option maxRecDepth 100000
theorem Jut {n:Nat} {l:List Nat} (h:l.Nodup) (hb:∀x∈l,x<n):l.length≤n:=by
 have:=Xj (m:=Av n) h fun x hx=>List.mem_range.2 (hb x hx)
 rwa [Au] at this
theorem Jup {r:Reg} (h:RegOK r):(J7 r).length≤67108864:=by
 have h1:((J7 r).map fun c:Cell=>((c.2+4096) * 8192+(c.1+4096)).toNat).Nodup:=by
  refine Bb.2 ((List.Pairwise.and_mem.1 h.cells_pw).imp fun {a b} ⟨ha,hb,hab⟩ e=>?_)
  have ba:=h.bd (Qx.1 ha)
  have bb:=h.bd (Qx.1 hb)
  unfold yx at hab
  omega
 have:=Jut (n:=67108864) h1 fun x hx=>by
  obtain ⟨c,hc,rfl⟩:=Ai.1 hx
  have:=h.bd (Qx.1 hc)
  omega
 rwa [Aa] at this
open Classical in
theorem Jks (r:Reg) (hl:LimR r):@t_additiveref18_Count wv r=some (if RegOK r then ((J7 r).length:Int) else 0):=by
 unfold t_additiveref18_Count
 rw [Zl hl]
 by_cases h:RegOK r
 case neg=>rw [br_t (by simp [w_nt,h]),if_neg h]
 rw [br_f (by simp [w_nt,h]),if_pos h]
 have hL:=hl.1
 have hc:=Jup h
 have hloop:=Ka (b:=@t_additiveref18_Count_L0 wv) (e:=(⟨((J7 r).length:Int),()⟩:HP Int Unit)) (fun i=>(⟨(((r.take i).flatMap rowC).length:Int),⟨(i:Int),⟨r,()⟩⟩⟩:HP Int (HP Int (HP Reg Unit)))) r.length (by omega) (fun i hi=>by
  have hw:=Ab hi
  generalize r[i]=w at hw
  have hLw:=hl.2 w (Ad hw)
  have hin:=Ka (b:=@t_additiveref18_Count_L1 wv) (e:=(⟨(((r.take i).flatMap rowC).length+(rowC w).length:Nat),⟨(i:Int),⟨r,()⟩⟩⟩:HP Int (HP Int (HP Reg Unit)))) (fun k=>(⟨((((r.take i).flatMap rowC).length+((w.2.take k).flatMap (Y6 w.1)).length:Nat):Int),⟨(i:Int),⟨(k:Int),⟨r,()⟩⟩⟩⟩:HP Int (HP Int (HP Int (HP Reg Unit))))) w.2.length (by omega) (fun k hk=>by
   have hu:=Ab hk
   generalize w.2[k]=u at hu
   have hb:=(h.rs w (Ad hw)).bd u (Ad hu)
   have hle:=Jo7 hw hu
   rw [jg] at hle
   unfold t_additiveref18_Count_L1
   dsimp only
   simp only [ge_s (fg hw),ge_s (fg hu)]
   rw [w_ln,Kj (by omega),Qj,wr (n:=u.2 - u.1) (by omega) (by omega),Jx,Jx,wr (by omega) (by omega),wr (n:=(k:Int)+1) (by omega) (by omega),Jlv hu,Ae,jg,
    show ((((r.take i).flatMap rowC).length+((w.2.take k).flatMap (Y6 w.1)).length:Nat):Int)+(u.2 - u.1)=((((r.take i).flatMap rowC).length+(((w.2.take k).flatMap (Y6 w.1)).length+(u.2 - u.1).toNat):Nat):Int) by omega]
   rfl) (by
   unfold t_additiveref18_Count_L1
   dsimp only
   simp only [ge_s (fg hw)]
   rw [w_ln,Jy (by omega),Ao]
   rfl)
  simp only [List.take_zero,List.flatMap_nil,List.length_nil,Nat.add_zero] at hin
  unfold t_additiveref18_Count_L0
  dsimp only
  rw [w_ln,Kj (by omega)]
  refine (lo_s hin).trans ?_
  dsimp only
  rw [Jx,wr (by omega) (by omega),jp hw,Ae]
  rfl) (by
  unfold t_additiveref18_Count_L0
  dsimp only
  rw [w_ln,Jy (by omega),Ao]
  rfl)
 exact (lo_s hloop).trans rfl
open Classical in
theorem Jm8 {α:Type} {r:Reg} (hl:LimR r) (k:Int→Option α):@W.call wv α c_additiveref18_Count r k=k (if RegOK r then ((J7 r).length:Int) else 0):=ca_s (c:=c_additiveref18_Count) (Jks r hl)
theorem Small_ok (r:Reg):∃b,@t_additivelaw18_Small wv r=some b∧(b=true→LimR r∧(RegOK r→(J7 r).length≤600)):=by
 classical
 unfold t_additivelaw18_Small
 rw [w_ln]
 by_cases h:(r.length:Int) > 40
 ·exact ⟨false,Jtj h,fun h=>by cases h⟩
 rw [Jeh h]
 obtain ⟨e,he,hq⟩:=Jo1 (b:=@t_additivelaw18_Small_L0 wv) r (by omega) (fun i=>(⟨(i:Int),⟨r,()⟩⟩:HP Int (HP Reg Unit))) (fun w=>w.2.length > 40) (fun i w=>.inl ()) (.inr ⟨r,()⟩) (fun i w hi hw=>by
  have e3:@W.ar wv .add .i64 (i:Int) 1=((i+1:Nat):Int):=by rw [Jx,wr (by omega) (by omega)];omega
  unfold t_additivelaw18_Small_L0
  dsimp only
  rw [w_ln,Kj (by omega),ge_s (fg hw),w_ln,e3]
  exact ⟨fun h=>Jtj (by omega),fun h=>Jeh (by omega)⟩) (by
  unfold t_additivelaw18_Small_L0
  dsimp only
  rw [w_ln,Jy (by omega)])
 rcases hq with ⟨rfl,hn⟩|⟨i,w,hw,hp,rfl⟩
 ·have hl:LimR r:=⟨by omega,fun w hw=>by have:=hn w hw;omega⟩
  refine ⟨decide ((if RegOK r then ((J7 r).length:Int) else 0)≤600),(lo_s he).trans ?_,fun hb=>⟨hl,fun hr=>?_⟩⟩
  ·dsimp only
   rw [Jm8 hl,Jf4]
  ·rw [if_pos hr] at hb
   have:=of_decide_eq_true hb
   omega
 ·exact ⟨false,(lo_s he).trans rfl,fun h=>by cases h⟩
def boxA:Reg:=[(0,[(0,2)]),(1,[(0,2)])]
def walkA:List Jcb:=[(1,true,[(0,0),(1,0),(1,1),(0,1)])]
theorem limA:LimR boxA:=by
 refine ⟨by decide,fun w hw=>?_⟩
 simp only [boxA,Bo,List.not_mem_nil,or_false] at hw
 rcases hw with rfl|rfl<;>simp
theorem Jqz:@t_additivelaw24_awake wv ()=some true:=by
 have hc:RegOK boxA→(J7 boxA).length≤8000:=fun _=>by decide
 have hW:@t_ringwalk_Walk wv boxA=some walkA:=(Jun boxA limA hc).trans ((Jof boxA limA hc).symm.trans (by kernel_rfl))
 have hB:@t_additivelaw24_box wv (0,(0,(2,2)))=some boxA:=by kernel_rfl
 unfold t_additivelaw24_awake
 refine (ca_s (c:=c_additivelaw24_box) hB).trans ((ca_s (c:=c_ringwalk_Walk) hW).trans ?_)
 kernel_rfl
theorem Jiv {α:Type} (k:Bool→Option α):@W.call wv α c_additivelaw24_awake (():Unit) k=k true:=ca_s (c:=c_additivelaw24_awake) Jqz
end Go.Proofs.Ytmfagdfkpjgeiaa
namespace Go.Proofs.Ytmfagdfkpjgeiaa
open Go Go.Vv Go.Dn Go.Dn.W
set_option linter.unusedVariables false
set_option linter.unusedSimpArgs false
set_option maxRecDepth 100000
def grid (c:Cell):Prop:=-4096≤c.1∧c.1<4096∧-4096≤c.2∧c.2<4096
instance (c:Cell):Decidable (grid c):=by unfold grid;exact inferInstance
def nb (a b:Cell):Prop:=(a.1 - b.1) * (a.1 - b.1)+(a.2 - b.2) * (a.2 - b.2)=1
instance (a b:Cell):Decidable (nb a b):=by unfold nb;exact inferInstance
def goodC (l:List Cell) (i:Nat):Prop:=∀c,l[i]?=some c→grid c∧∀p,0<i→l[i - 1]?=some p→nb p c
def VT (t:Jcb):Prop:=(1≤t.1∧t.1≤7)∧(1≤t.2.2.length∧t.2.2.length≤65536)∧(∀i,i<t.2.2.length→goodC t.2.2 i)∧(t.2.1=true→t.2.2.length=1∨∀a b,t.2.2[t.2.2.length - 1]?=some a→t.2.2[0]?=some b→nb a b)
end Go.Proofs.Ytmfagdfkpjgeiaa
namespace Go.Proofs.Ytmfagdfkpjgeiaa
open Go Go.Vv Go.Dn Go.Dn.W
set_option linter.unusedVariables false
set_option linter.unusedSimpArgs false
set_option linter.unusedSectionVars false
set_option maxRecDepth 100000
end Go.Proofs.Ytmfagdfkpjgeiaa
namespace Go.Proofs.Ytmfagdfkpjgeiaa
open Go Go.Vv Go.Dn Go.Dn.W
set_option linter.unusedVariables false
set_option linter.unusedSimpArgs false
set_option linter.unusedSectionVars false
set_option maxRecDepth 100000
def boxR (x y:Int) (n m:Nat):Reg:=(Av m).map fun i:Nat=>(y+(i:Int),[(x,x+(n:Int))])
section
variable {x y:Int} {n m:Nat}
def bck (x y:Int) (n m k:Nat):Ck :=
 if k<n then ((x+k,y),0) else if k<n+m then ((x+n,y+(k - n:Nat)),1) else if k<2 * n+m then ((x+n - (k - n - m:Nat),y+m),2) else ((x,y+m - (k - 2 * n - m:Nat)),3)
def bwalk (x y:Int) (n m:Nat):List Cell:=(Av n).map (fun k:Nat=>(x+(k:Int),y))++(Av m).map (fun k:Nat=>(x+n - 1,y+(k:Int)))++(Av n).map (fun k:Nat=>(x+n - 1 - (k:Int),y+m - 1))++(Av m).map fun k:Nat=>(x,y+m - 1 - (k:Int))
end
end Go.Proofs.Ytmfagdfkpjgeiaa
namespace Go.Proofs.Ytmfagdfkpjgeiaa
open Go Go.Vv Go.Dn Go.Dn.W
set_option linter.unusedVariables false
theorem i64_bd {v:Int} (h:(Lit.int .i64 v).wf=true):-9223372036854775808≤v∧v≤9223372036854775807:=by
 have h:(decide (Go.IntKind.min .i64≤v)&&decide (v≤Go.IntKind.max .i64))=true:=h
 rw [Bj,decide_eq_true_eq,decide_eq_true_eq] at h
 exact h
end Go.Proofs.Ytmfagdfkpjgeiaa
namespace Go.Proofs.Ytmfagdfkpjgeiaa
open Go Go.Vv Go.Dn Go.Dn.W
set_option linter.unusedVariables false
set_option linter.unusedSimpArgs false
set_option linter.unusedSectionVars false
set_option maxRecDepth 100000
def shC (dx dy:Int) (c:Cell):Cell:=(c.1+dx,c.2+dy)
def shK (dx dy:Int) (c:Ck):Ck:=(shC dx dy c.1,c.2)
def shU (dx:Int) (u:Run):Run:=(u.1+dx,u.2+dx)
def shR (dx dy:Int) (r:Reg):Reg:=r.map fun w=>(w.1+dy,w.2.map (shU dx))
theorem Jvy {dx dy:Int} {a b:Cell} (h:shC dx dy a=shC dx dy b):a=b:=by
 unfold shC at h
 rw [Prod.ext_iff] at h ⊢
 dsimp only at h
 omega
theorem shC_back (dx dy:Int) (c:Cell):shC dx dy (c.1 - dx,c.2 - dy)=c:=by unfold shC;refine Prod.ext ?_ ?_<;>dsimp only<;>omega
theorem Jqj (dx dy:Int) (c:Ck):shK dx dy ((c.1.1 - dx,c.1.2 - dy),c.2)=c:=by unfold shK;rw [shC_back]
section
variable {r:Reg} {dx dy:Int}
theorem sh_in (c:Cell):Kz (shR dx dy r) (shC dx dy c)↔Kz r c:=by
 unfold Kz Jk shR shC
 constructor
 ·rintro ⟨w,hw,h1,u,hu,h2,h3⟩
  obtain ⟨v,hv,rfl⟩:=Ai.1 hw
  obtain ⟨z,hz,rfl⟩:=Ai.1 hu
  unfold shU at h2 h3
  dsimp only at h1 h2 h3
  exact ⟨v,hv,by omega,z,hz,by omega,by omega⟩
 ·rintro ⟨w,hw,h1,u,hu,h2,h3⟩
  exact ⟨_,Ai.2 ⟨w,hw,rfl⟩,by dsimp only;omega,shU dx u,Ai.2 ⟨u,hu,rfl⟩,by unfold shU;dsimp only;omega,by unfold shU;dsimp only;omega⟩
theorem sh_in' (a b:Int):Kz (shR dx dy r) (a+dx,b+dy)↔Kz r (a,b):=sh_in (a,b)
theorem Jsf (p:Cell) (x:Int):Crk (shR dx dy r) (shC dx dy p) x↔Crk r p x:=by
 obtain ⟨a,b⟩:=p
 unfold Crk shC
 dsimp only
 have e1:b+dy - 1=b - 1+dy:=by omega
 have e2:a+dx - 1=a - 1+dx:=by omega
 rw [e1,e2]
 simp only [sh_in']
theorem Jsm (x:Int) (p:Cell):Kh x (shC dx dy p)=shC dx dy (Kh x p):=by
 unfold Kh shC
 (repeat' split)<;>(refine Prod.ext ?_ ?_<;>dsimp only<;>omega)
theorem sh_nxt (p:Cell) (x:Int):nxtH (shR dx dy r) (shC dx dy p) x=nxtH r p x:=by
 have h1:∀y,Crk (shR dx dy r) (Kh x (shC dx dy p)) y=Crk r (Kh x p) y:=fun y=>by rw [Jsm];exact propext (Jsf _ _)
 unfold nxtH
 dsimp only
 rw [h1,h1]
theorem sh_nx (c:Ck):nx (shR dx dy r) (shK dx dy c)=shK dx dy (nx r c):=by
 unfold nx shK
 dsimp only
 rw [Jsm,sh_nxt]
theorem Jhe (c:Ck):∀k,itr (nx (shR dx dy r)) k (shK dx dy c)=shK dx dy (itr (nx r) k c)
 | 0=>rfl
 | k+1=>by
  show nx (shR dx dy r) (itr (nx (shR dx dy r)) k (shK dx dy c))=_
  rw [Jhe c k,sh_nx];rfl
theorem sh_yx (a b:Cell):yx (shC dx dy a) (shC dx dy b)↔yx a b:=by unfold yx shC;dsimp only;omega
theorem Jo6 (c:Ck):Least (shR dx dy r) (shK dx dy c)↔Least r c:=by
 unfold Least
 refine and_congr (Jsf c.1 c.2) (forall_congr' fun k=>not_congr ?_)
 rw [Jhe]
 exact sh_yx _ _
theorem shK_inj {a b:Ck} (h:shK dx dy a=shK dx dy b):a=b:=by
 unfold shK at h
 rw [Prod.ext_iff] at h ⊢
 exact ⟨Jvy h.1,h.2⟩
theorem sh_rnd {c:Ck} {N:Nat} (h:Rnd (nx r) c N):Rnd (nx (shR dx dy r)) (shK dx dy c) N :=
 ⟨h.pos,by rw [Jhe,h.back],fun i h0 h1 e=>h.ne i h0 h1 (shK_inj (by rw [←Jhe];exact e))⟩
theorem Jvm (h:Starts r (starts r)):starts (shR dx dy r)=(starts r).map (shK dx dy):=by
 refine Jbj ⟨Bb.2 (h.pw.imp fun {a b} q=>(sh_yx a.1 b.1).2 q),fun c=>?_⟩
 rw [Ai]
 constructor
 ·rintro ⟨a,ha,rfl⟩
  exact (Jo6 a).2 ((h.mem a).1 ha)
 ·intro hc
  refine ⟨((c.1.1 - dx,c.1.2 - dy),c.2),(h.mem _).2 ?_,Jqj dx dy c⟩
  rw [←Jo6 (dx:=dx) (dy:=dy),Jqj]
  exact hc
theorem Ju9 (p:Cell) (x:Int):J4 (shC dx dy p) x=shC dx dy (J4 p x):=by
 unfold J4 shC
 (repeat' split)<;>(refine Prod.ext ?_ ?_<;>dsimp only<;>omega)
theorem sh_rawK (s:Ck) (k:Nat):rawK (shR dx dy r) (shK dx dy s) k=(rawK r s k).map (shC dx dy):=by
 have e1:ptK (shR dx dy r) (shK dx dy s) k=shC dx dy (ptK r s k):=by unfold ptK;rw [Jhe];rfl
 have e2:∀k,hdK (shR dx dy r) (shK dx dy s) k=hdK r s k:=fun k=>by unfold hdK;rw [Jhe];rfl
 unfold rawK
 rw [e1,e2,e2,Ju9]
 split
 ·rw [Bp,Bp]
  refine congrArg _ (congrArg (·::[]) ?_)
  unfold addC shC
  refine Prod.ext ?_ ?_<;>dsimp only<;>omega
 ·rfl
theorem sh_raw (s:Ck):∀n,raw (shR dx dy r) (shK dx dy s) n=(raw r s n).map (shC dx dy)
 | 0=>rfl
 | n+1=>by rw [Jbd,Jbd,Aj,sh_raw s n,sh_rawK]
end
theorem ddS_map {f:Cell→Cell} (hf:∀a b,f a=f b→a=b) (o:List Cell) (c:Cell):ddS (o.map f) (f c)=(ddS o c).map f:=by
 unfold ddS
 rw [List.getLast?_map]
 cases h:o.getLast? with
 | none=>simp
 | some z =>
  by_cases e:z=c
  ·rw [if_pos (by rw [e];rfl),if_pos (by rw [e])]
  ·rw [if_neg (fun q=>e (hf _ _ (by simpa using q))),if_neg (fun q=>e (by simpa using q)),Aj];rfl
theorem dd_map {f:Cell→Cell} (hf:∀a b,f a=f b→a=b) (l:List Cell):dd (l.map f)=(dd l).map f:=by
 refine Jh0 (P:=fun l=>dd (l.map f)=(dd l).map f) rfl (fun l c ih=>?_) l
 rw [Aj,Bp,List.map_nil,Jck,Jck,ih,ddS_map hf]
theorem trim_map {f:Cell→Cell} (hf:∀a b,f a=f b→a=b) (l:List Cell):trim (l.map f)=(trim l).map f:=by
 unfold trim
 rw [Aa,List.head?_map,List.getLast?_map]
 have:(l.head?.map f=l.getLast?.map f)↔l.head?=l.getLast?:=by
  cases h1:l.head?<;>cases h2:l.getLast?<;>simp
  rename_i a b
  exact ⟨fun h=>hf _ _ h,fun h=>by rw [h]⟩
 by_cases h:1<l.length∧l.head?=l.getLast?
 ·rw [if_pos h,if_pos ⟨h.1,this.2 h.2⟩,List.map_dropLast]
 ·rw [if_neg h,if_neg fun q=>h ⟨q.1,this.1 q.2⟩]
theorem once_map {f:Cell→Cell} (hf:∀a b,f a=f b→a=b) (l:List Cell):zt (l.map f)=(zt l).map f:=by unfold zt;rw [dd_map hf,trim_map hf]
theorem sh_walk {r:Reg} {dx dy:Int} {s:Ck} (hs:Crk r s.1 s.2):walkOf (shR dx dy r) (shK dx dy s)=(1,true,(zt (raw r s (perN r s))).map (shC dx dy)):=by
 unfold walkOf
 have hN:=Xz hs
 rw [Jms ((Jsf s.1 s.2).2 hs) (sh_rnd hN),sh_raw,once_map fun a b=>Jvy]
theorem Jhs {l:List Run} {d:Int} (h:RunsOK (-4096) 4096 l) (hl:l.length≤1000000000) (hne:l≠[]) (hd:-8192≤d∧d≤8192):@t_runs_Shift wv (l,d)=some (l.map (shU d),0):=by
 have hp:=Ax.2 hne
 have hv:RunsOK (-1048576) 1048576 l:=⟨fun x hx=>by have:=h.bd x hx;omega,h.pw⟩
 have g0:l[0]?=some l[0]:=Ab hp
 have g1:l[l.length - 1]?=some l[l.length - 1]:=Ab (by omega)
 generalize l[0]=a at g0
 generalize l[l.length - 1]=b at g1
 have ha:=h.bd a (Ad g0)
 have hb:=h.bd b (Ad g1)
 have hloop:=Ka (b:=@t_runs_Shift_L0 wv) (e:=(⟨l.map (shU d),()⟩:HP (List Run) Unit)) (fun i=>(⟨d,⟨l,⟨(l.length:Int),⟨(i:Int),⟨(l.take i).map (shU d)++Ap (l.length - i) (0,0),()⟩⟩⟩⟩⟩:HP Int (HP (List Run) (HP Int (HP Int (HP (List Run) Unit)))))) l.length (by omega) (fun i hi=>by
  have hx:=Ab hi
  generalize l[i]=u at hx
  have hu:=h.bd u (Ad hx)
  have hlen:((l.take i).map (shU d)++Ap (l.length - i) ((0,0):Run)).length=l.length:=by rw [Ae,Aa,Ah,Bm];omega
  have hz:((l.take i).map (shU d)++Ap (l.length - i) ((0,0):Run))[i]?=some (0,0):=by
   rw [Aw (by rw [Aa,Ah];omega),Bk,if_pos (by rw [Aa,Ah];omega)]
  unfold t_runs_Shift_L0
  dsimp only
  rw [Kj (by omega),ge_s (fg hx),Jcg (by rw [w_ln,hlen];omega),ge_s (fg hz),Jx,Jx,Jx,wr (n:=(i:Int)+1) (by omega) (by omega),wr (n:=u.1+d) (by omega) (by omega),wr (n:=u.2+d) (by omega) (by omega),w_st,Aq]
  have e:((l.take i).map (shU d)++Ap (l.length - i) ((0,0):Run)).set i (u.1+d,u.2+d)=(l.take (i+1)).map (shU d)++Ap (l.length - (i+1)) (0,0):=by
   have hli:((l.take i).map (shU d)).length=i:=by rw [Aa,Ah];omega
   rw [List.set_append,if_neg (by rw [hli];omega),hli,Br,show l.length - i=(l.length - (i+1))+1 by omega,List.replicate_succ,List.set_cons_zero,Zr hx,Ar]
   rfl
  rw [e]
  rfl) (by
  unfold t_runs_Shift_L0
  dsimp only
  rw [Jy (by omega),Ao,Br,List.replicate_zero,Az])
 unfold t_runs_Shift
 dsimp only
 rw [Ys hl,br_f (by simp [w_nt,hv]),br_f (by rw [Q4,w_ln,beq_eq_false_iff_ne];omega),Jy (by omega),br_f (by rw [Jau];exact decide_eq_false (by omega)),ge_s (fg0 g0),Jx,wr (n:=a.1+d) (by omega) (by omega),Jy (by omega),
  ge_s (fgz (l.length - 1) (by rw [w_ln,Qj,wr (by omega) (by omega)];omega) g1),Jx,wr (n:=b.2+d) (by omega) (by omega),br_f (by rw [Jau];exact decide_eq_false (by omega)),gd_t (by rw [w_le,w_ln];exact decide_eq_true (by omega)),w_ln,Jat (by omega) (by omega),w_rp,Aq]
 have e0:(l.take 0).map (shU d)++Ap (l.length - 0) ((0,0):Run)=Ap l.length (0,0):=by simp
 rw [e0] at hloop
 exact (lo_s hloop).trans rfl
theorem Box_ok {r:Reg} (hl:LimR r) (h:RegOK r) (hne:r≠[]):∃lo hi:Cell,@t_region_Box wv r=some (lo,hi,true)∧(∀c,Kz r c→lo.1≤c.1∧c.1≤hi.1∧lo.2≤c.2∧c.2≤hi.2)∧(∀w∈r,lo.2≤w.1∧w.1≤hi.2∧∀u∈w.2,lo.1≤u.1∧u.2≤hi.1+1)∧(-4096≤lo.1∧lo.1≤hi.1∧hi.1<4096)∧-4096≤lo.2∧lo.2≤hi.2∧hi.2<4096:=by
 have hL:=hl.1
 have hp:=Ax.2 hne
 have g0:r[0]?=some r[0]:=Ab hp
 have g1:r[r.length - 1]?=some r[r.length - 1]:=Ab (by omega)
 generalize r[0]=a at g0
 generalize r[r.length - 1]=b at g1
 obtain ⟨e,he,lx,hx,rfl,hI⟩:=Qh (b:=@t_region_Box_L0 wv)
  (fun i s=>∃lx hx:Int,s=(⟨r,⟨(r.length:Int),⟨(i:Int),⟨0,⟨0,⟨0,⟨0,⟨lx,⟨a.1,⟨hx,⟨b.1,()⟩⟩⟩⟩⟩⟩⟩⟩⟩⟩⟩:HP Reg (HP Int (HP Int (HP Int (HP Int (HP Int (HP Int (HP Int (HP Int (HP Int (HP Int Unit))))))))))) ∧
   (∀j w,j<i→r[j]?=some w→∀u∈w.2,lx≤u.1∧u.2≤hx+1)∧(-4096≤lx∧hx<4096)∧(0<i→lx≤hx)∧lx≤4096∧-4096≤hx)
  (fun e=>∃lx hx:Int,e=(⟨0,⟨0,⟨0,⟨0,⟨lx,⟨a.1,⟨hx,⟨b.1,()⟩⟩⟩⟩⟩⟩⟩⟩:HP Int (HP Int (HP Int (HP Int (HP Int (HP Int (HP Int (HP Int Unit))))))))∧(∀w∈r,∀u∈w.2,lx≤u.1∧u.2≤hx+1)∧-4096≤lx∧lx≤hx∧hx<4096)
  r.length (by omega) (s0:=⟨r,⟨(r.length:Int),⟨0,⟨0,⟨0,⟨0,⟨0,⟨4096,⟨a.1,⟨-4096,⟨b.1,()⟩⟩⟩⟩⟩⟩⟩⟩⟩⟩⟩)
  ⟨4096,-4096,rfl,fun j w h=>by omega,by omega,fun h=>by omega,by omega,by omega⟩
  (fun i s hi=>by
   rintro ⟨lx,hx,rfl,h1,h2,h3,h4,h5⟩
   have hw:=Ab hi
   generalize r[i]=w at hw
   have hwm:=Ad hw
   have hwn:=h.ne w hwm
   have hrs:=h.rs w hwm
   have hwl:=hl.2 w hwm
   have hwp:=Ax.2 hwn
   have q0:w.2[0]?=some w.2[0]:=Ab hwp
   have q1:w.2[w.2.length - 1]?=some w.2[w.2.length - 1]:=Ab (by omega)
   generalize w.2[0]=u0 at q0
   generalize w.2[w.2.length - 1]=u1 at q1
   have b0:=hrs.bd u0 (Ad q0)
   have b1:=hrs.bd u1 (Ad q1)
   have hall:∀u∈w.2,u0.1≤u.1∧u.2≤u1.2:=fun u hu=>by
    have bu:=hrs.bd u hu
    obtain ⟨j,hj⟩:=Ag hu
    obtain ⟨p,e⟩:=Ac.1 hj
    obtain ⟨p0,e0⟩:=Ac.1 q0
    obtain ⟨p1,e1⟩:=Ac.1 q1
    have pw:=Am.1 hrs.pw
    constructor
    ·by_cases hj0:j=0
     ·subst hj0;rw [e0] at e;subst e;omega
     ·have:=pw 0 j p0 p (by omega);rw [e0,e] at this;omega
    ·by_cases hj1:j=w.2.length - 1
     ·subst hj1;rw [e1] at e;subst e;omega
     ·have:=pw j (w.2.length - 1) p p1 (by omega);rw [e1,e] at this;omega
   have h01:=hall u1 (Ad q1)
   have em:@W.mn wv lx u0.1=min lx u0.1:=by rw [w_mn];split<;>omega
   have ex:@W.mx wv hx (u1.2 - 1)=max hx (u1.2 - 1):=by rw [w_mx];split<;>omega
   refine ⟨_,?_,min lx u0.1,max hx (u1.2 - 1),rfl,fun j v hj hv=>?_,by omega,fun _=>by omega,by omega,by omega⟩
   ·unfold t_region_Box_L0
    dsimp only
    rw [Kj (by omega),ge_s (fg hw),ge_s (fg0 q0),ge_s (fgz (w.2.length - 1) (by rw [w_ln,Qj,wr (by omega) (by omega)];omega) q1),Qj,wr (n:=u1.2 - 1) (by omega) (by omega),em,ex,Jx,wr (by omega) (by omega)]
    rfl
   ·intro u hu
    by_cases e:j=i
    ·subst e;rw [hw] at hv;injection hv with hv;subst hv
     have:=hall u hu;omega
    ·have:=h1 j v (by omega) hv u hu;omega)
  (by
   rintro s ⟨lx,hx,rfl,h1,h2,h3,h4,h5⟩
   refine ⟨_,?_,lx,hx,rfl,fun w hw u hu=>?_,by omega,h3 hp,by omega⟩
   ·unfold t_region_Box_L0
    dsimp only
    rw [Jy (by omega)]
   ·obtain ⟨j,hj⟩:=Ag hw
    exact h1 j w (Ac.1 hj).1 hj u hu)
 have hya:=h.y a (Ad g0)
 have hyb:=h.y b (Ad g1)
 have hrow:∀w∈r,a.1≤w.1∧w.1≤b.1:=fun w hw=>by
  obtain ⟨j,hj⟩:=Ag hw
  have hjl:=(Ac.1 hj).1
  exact ⟨Jcy h g0 hj (by omega),Jcy h hj g1 (by omega)⟩
 have hab:=hrow a (Ad g0)
 refine ⟨(lx,a.1),(hx,b.1),?_,?_,?_,by dsimp only;omega,by dsimp only;omega⟩
 ·unfold t_region_Box
  rw [K7 hl,br_f (by simp [w_nt,h]),br_f (by rw [Q4,w_ln,beq_eq_false_iff_ne];omega),ge_s (fg0 g0),ge_s (fgz (r.length - 1) (by rw [w_ln,Qj,wr (by omega) (by omega)];omega) g1),w_ln]
  exact (lo_s he).trans rfl
 ·rintro c ⟨w,hw,h1,u,hu,h2,h3⟩
  have:=hrow w hw
  have:=hI.1 w hw u hu
  dsimp only;omega
 ·intro w hw
  have:=hrow w hw
  exact ⟨this.1,this.2,fun u hu=>hI.1 w hw u hu⟩
theorem Box_no {r:Reg} (hl:LimR r) (h:¬RegOK r∨r=[]):@t_region_Box wv r=some ((0,0),(0,0),false):=by
 unfold t_region_Box
 rw [K7 hl]
 by_cases hr:RegOK r
 ·rw [br_f (by simp [w_nt,hr])]
  rcases h with h|rfl
  ·exact (h hr).elim
  ·rw [br_t (by rfl)]
 ·rw [br_t (by simp [w_nt,hr])]
theorem near_ok (d:Int):@t_region_near wv d=some (decide (-8192≤d∧d≤8192)):=by
 unfold t_region_near
 by_cases h:-8192≤d
 ·rw [br_t (by rw [Jjy];exact decide_eq_true h),Jf4];simp [h]
 ·rw [br_f (by rw [Jjy];exact decide_eq_false h)];simp [h]
theorem k_near {α:Type} (d:Int) (k:Bool→Option α):@W.call wv α c_region_near (d:Int) k=k (decide (-8192≤d∧d≤8192)):=ca_s (c:=c_region_near) (near_ok d)
theorem Shift_ok (r:Reg) (hl:LimR r) (dx dy:Int) (hdx:-9223372036854775808≤dx∧dx≤9223372036854775807) (hdy:-9223372036854775808≤dy∧dy≤9223372036854775807) :
  ∃s e,@t_region_Shift wv (r,(dx,dy))=some (s,e)∧(e=0→s≠[]→RegOK r∧r≠[]∧s=shR dx dy r∧RegOK s∧(-8192≤dx∧dx≤8192)∧(-8192≤dy∧dy≤8192)):=by
 unfold t_region_Shift
 dsimp only
 by_cases hr:RegOK r
 case neg =>
  refine ⟨[],1,(ca_s (c:=c_region_Box) (Box_no hl (.inl hr))).trans ?_,fun h=>by cases h⟩
  rw [K7 hl,br_t (by simp [w_nt,hr])]
 by_cases hne:r=[]
 ·refine ⟨[],0,(ca_s (c:=c_region_Box) (Box_no hl (.inr hne))).trans ?_,fun _ h=>(h rfl).elim⟩
  rw [K7 hl,br_f (by simp [w_nt,hr]),br_t (by rfl)]
 obtain ⟨lo,hi,hB,hin,hrow,hbx,hby⟩:=Box_ok hl hr hne
 have hkB:∀ {α:Type} (k:(Int×Int)×((Int×Int)×Bool)→Option α),@W.call wv α c_region_Box r k=k (lo,hi,true):=fun k=>ca_s (c:=c_region_Box) hB
 rw [hkB,K7 hl,br_f (by simp [w_nt,hr]),br_f (by rfl),k_near]
 by_cases n1:-8192≤dx∧dx≤8192
 case neg=>exact ⟨[],8,by rw [br_t (by rw [w_nt,decide_eq_false n1];rfl)],fun h=>by cases h⟩
 rw [br_f (by rw [w_nt,decide_eq_true n1];rfl),k_near]
 by_cases n2:-8192≤dy∧dy≤8192
 case neg=>exact ⟨[],8,by rw [br_t (by rw [w_nt,decide_eq_false n2];rfl)],fun h=>by cases h⟩
 rw [br_f (by rw [w_nt,decide_eq_true n2];rfl)]
 dsimp only
 have a1:@W.ar wv .add .i64 lo.1 dx=lo.1+dx:=by rw [Jx,wr (by omega) (by omega)]
 have a2:@W.ar wv .add .i64 hi.1 dx=hi.1+dx:=by rw [Jx,wr (by omega) (by omega)]
 have a3:@W.ar wv .add .i64 lo.2 dy=lo.2+dy:=by rw [Jx,wr (by omega) (by omega)]
 have a4:@W.ar wv .add .i64 hi.2 dy=hi.2+dy:=by rw [Jx,wr (by omega) (by omega)]
 rw [a1,a2,a3,a4,Qq]
 by_cases m1:-4096≤lo.1+dx∧lo.1+dx<4096
 case neg=>exact ⟨[],8,by rw [br_t (by rw [w_nt,decide_eq_false m1];rfl)],fun h=>by cases h⟩
 rw [br_f (by rw [w_nt,decide_eq_true m1];rfl),Qq]
 by_cases m2:-4096≤hi.1+dx∧hi.1+dx<4096
 case neg=>exact ⟨[],8,by rw [br_t (by rw [w_nt,decide_eq_false m2];rfl)],fun h=>by cases h⟩
 rw [br_f (by rw [w_nt,decide_eq_true m2];rfl),Qq]
 by_cases m3:-4096≤lo.2+dy∧lo.2+dy<4096
 case neg=>exact ⟨[],8,by rw [br_t (by rw [w_nt,decide_eq_false m3];rfl)],fun h=>by cases h⟩
 rw [br_f (by rw [w_nt,decide_eq_true m3];rfl),Qq]
 by_cases m4:-4096≤hi.2+dy∧hi.2+dy<4096
 case neg=>exact ⟨[],8,by rw [br_t (by rw [w_nt,decide_eq_false m4];rfl)],fun h=>by cases h⟩
 rw [br_f (by rw [w_nt,decide_eq_true m4];rfl)]
 have hL:=hl.1
 have hloop:=Ka (b:=@t_region_Shift_L0 wv) (e:=(⟨shR dx dy r,()⟩:HP Reg Unit)) (fun i=>(⟨dx,⟨dy,⟨r,⟨(r.length:Int),⟨(i:Int),⟨shR dx dy (r.take i),()⟩⟩⟩⟩⟩⟩:HP Int (HP Int (HP Reg (HP Int (HP Int (HP Reg Unit))))))) r.length (by omega) (fun i hi'=>by
  have hw:=Ab hi'
  generalize r[i]=w at hw
  have hwm:=Ad hw
  have hy:=hr.y w hwm
  unfold t_region_Shift_L0
  dsimp only
  rw [Kj (by omega),ge_s (fg hw)]
  refine (ca_s (c:=c_runs_Shift) (Jhs (hr.rs w hwm) (hl.2 w hwm) (hr.ne w hwm) n1)).trans ?_
  dsimp only
  have hlen:(shR dx dy (r.take i)).length=i:=by unfold shR;rw [Aa,Ah];omega
  rw [w_ln,w_pl,hlen,fit32 (by omega) (by omega),Jx,Jx,wr (n:=(i:Int)+1) (by omega) (by omega),wr (n:=w.1+dy) (by omega) (by omega),w_ap]
  unfold shR
  rw [Zr hw]
  rfl) (by
  unfold t_region_Shift_L0
  dsimp only
  rw [Jy (by omega),Ao])
 refine ⟨shR dx dy r,0,?_,fun _ _=>⟨hr,hne,rfl,⟨fun w hw=>?_,?_,fun w hw=>?_,fun w hw=>?_⟩,n1,n2⟩⟩
 ·rw [w_ln]
  exact (lo_s hloop).trans rfl
 ·obtain ⟨v,hv,rfl⟩:=Ai.1 hw
  have:=hrow v hv
  dsimp only;omega
 ·exact Bb.2 (hr.pw.imp fun h=>by dsimp only;omega)
 ·obtain ⟨v,hv,rfl⟩:=Ai.1 hw
  have:=hr.ne v hv
  simpa using this
 ·obtain ⟨v,hv,rfl⟩:=Ai.1 hw
  have h1:=(hrow v hv).2.2
  have h2:=hr.rs v hv
  refine ⟨fun u hu=>?_,Bb.2 (h2.pw.imp fun h=>by unfold shU;dsimp only;omega)⟩
  obtain ⟨x,hx,rfl⟩:=Ai.1 hu
  have:=h1 x hx
  have:=h2.bd x hx
  unfold shU;dsimp only;omega
theorem Jqy (r:Reg) (dx dy:Int) (hdx:-9223372036854775808≤dx∧dx≤9223372036854775807) (hdy:-9223372036854775808≤dy∧dy≤9223372036854775807):@t_additivelaw24_RingwalkMoves wv (r,(dx,dy))=some true:=by
 classical
 obtain ⟨b,hb,hp⟩:=Small_ok r
 unfold t_additivelaw24_RingwalkMoves
 dsimp only
 refine (ca_s (c:=c_additivelaw18_Small) hb).trans ?_
 cases b with
 | false=>rw [br_t (by rfl),Jiv]
 | true =>
  obtain ⟨hl,hc⟩:=hp rfl
  obtain ⟨s,e,hS,hSp⟩:=Shift_ok r hl dx dy hdx hdy
  rw [br_f (by rfl)]
  refine (ca_s (c:=c_region_Shift) hS).trans ?_
  dsimp only
  by_cases he:e=0
  case neg=>rw [br_t (by rw [zw];simpa using he),Jiv]
  rw [br_f (by rw [zw];simp [he])]
  by_cases hs:s=[]
  ·rw [br_t (by rw [Q4,w_ln,hs];rfl),Jiv]
  rw [br_f (by rw [Q4,w_ln,beq_eq_false_iff_ne];have:=Ax.2 hs;omega)]
  obtain ⟨hr,hne,rfl,hrs,n1,n2⟩:=hSp he hs
  have hc:=hc hr
  have hls:LimR (shR dx dy r):=⟨by unfold shR;rw [Aa];exact hl.1,fun w hw=>by
   obtain ⟨v,hv,rfl⟩:=Ai.1 hw
   dsimp only;rw [Aa];exact hl.2 v hv⟩
  have hcs:(J7 (shR dx dy r)).length≤600:=by
   have e:∀w:Row,(rowC (w.1+dy,w.2.map (shU dx))).length=(rowC w).length:=fun w=>by
    unfold rowC
    rw [List.flatMap_map,Ay,Ay]
    refine congrArg List.sum (Bq fun u _=>?_)
    rw [jg,jg]
    unfold shU;dsimp only;omega
   have:(J7 (shR dx dy r)).length=(J7 r).length:=by
    unfold J7 shR
    rw [List.flatMap_map,Ay,Ay]
    exact congrArg List.sum (Bq fun w _=>e w)
   omega
  have hck:(cks r).length≤1000000:=by have:=Jfa r;omega
  have hst:=(Jdh r hl (fun _=>hck)).2 hr
  have hsl:=Jb6 hst
  rw [k_Walk hl (fun h=>by omega),k_Walk hls (fun h=>by omega),if_pos hr,if_pos hrs,Jvm hst]
  have hlen1:((starts r).map (walkOf r)).length=(starts r).length:=Aa _
  have hlen2:(((starts r).map (shK dx dy)).map (walkOf (shR dx dy r))).length=(starts r).length:=by rw [Aa,Aa]
  rw [w_ln,w_ln,hlen1,hlen2,br_f (by rw [zw];simp)]
  have hloop:=Ka (b:=@t_additivelaw24_RingwalkMoves_L0 wv) (e:=.inr ()) (fun i=>(⟨dx,⟨dy,⟨(starts r).map (walkOf r),⟨((starts r).map (shK dx dy)).map (walkOf (shR dx dy r)),⟨(i:Int),()⟩⟩⟩⟩⟩:HP Int (HP Int (HP (List Jcb) (HP (List Jcb) (HP Int Unit)))))) (starts r).length (by omega) (fun i hi=>by
   have hx:=Ab hi
   generalize (starts r)[i]=t at hx
   have ht:Crk r t.1 t.2:=((hst.mem t).1 (Ad hx)).1
   have g1:((starts r).map (walkOf r))[i]?=some (walkOf r t):=by rw [Af,hx];rfl
   have g2:(((starts r).map (shK dx dy)).map (walkOf (shR dx dy r)))[i]?=some (1,true,(zt (raw r t (perN r t))).map (shC dx dy)):=by rw [Af,Af,hx];exact congrArg some (sh_walk ht)
   have hwl:=Jjb (r:=r) (by omega) ht
   have hin:∀c∈zt (raw r t (perN r t)),Kz r c:=fun c h=>raw_in ht ((once_mem c).1 h)
   have hw1:walkOf r t=(1,true,zt (raw r t (perN r t))):=rfl
   rw [hw1] at g1
   generalize zt (raw r t (perN r t))=L at *
   have hin2:=Ka (b:=@t_additivelaw24_RingwalkMoves_L1 wv) (e:=.inr (⟨dx,⟨dy,⟨(starts r).map (walkOf r),⟨((starts r).map (shK dx dy)).map (walkOf (shR dx dy r)),⟨(i:Int),()⟩⟩⟩⟩⟩:HP Int (HP Int (HP (List Jcb) (HP (List Jcb) (HP Int Unit)))))) (fun k=>(⟨dx,⟨dy,⟨(starts r).map (walkOf r),⟨((starts r).map (shK dx dy)).map (walkOf (shR dx dy r)),⟨(i:Int),⟨(k:Int),()⟩⟩⟩⟩⟩⟩:HP Int (HP Int (HP (List Jcb) (HP (List Jcb) (HP Int (HP Int Unit))))))) L.length (by omega) (fun k hk=>by
    have hy:=Ab hk
    generalize L[k]=c at hy
    have hb:=hr.bd (hin c (Ad hy))
    have hy2:(L.map (shC dx dy))[k]?=some (shC dx dy c):=by rw [Af,hy];rfl
    unfold t_additivelaw24_RingwalkMoves_L1
    dsimp only
    rw [ge_s (fg g1),w_ln]
    dsimp only
    rw [Kj (by omega),ge_s (fg g2),ge_s (fg hy2),ge_s (fg g1),ge_s (fg hy),ge_s (fg g1),ge_s (fg hy),Jx,Jx,Jx,wr (n:=c.1+dx) (by omega) (by omega),wr (n:=c.2+dy) (by omega) (by omega),wr (n:=(k:Int)+1) (by omega) (by omega),br_f (by rw [w_an,Q4,Q4,w_nt];unfold shC;simp)]
    rfl) (by
    unfold t_additivelaw24_RingwalkMoves_L1
    dsimp only
    rw [ge_s (fg g1),w_ln]
    dsimp only
    rw [Jy (by omega)])
   unfold t_additivelaw24_RingwalkMoves_L0
   dsimp only
   rw [w_ln,hlen1,Kj (by omega),ge_s (fg g1),ge_s (fg g2),br_f (by rw [zw,w_ln,w_ln];dsimp only;rw [Aa];simp)]
   refine (lo_s hin2).trans ?_
   dsimp only
   rw [Jx,wr (by omega) (by omega)]
   rfl) (by
   unfold t_additivelaw24_RingwalkMoves_L0
   dsimp only
   rw [w_ln,hlen1,Jy (by omega)])
  refine (lo_s hloop).trans ?_
  dsimp only
  rw [Jiv]
end Go.Proofs.Ytmfagdfkpjgeiaa
