/- Choosing the next crack. Conditions: at most 10^9 headings at a corner and corners so far. -/
import Derived.Test.YtmfagdfkpjgeiaaXD
import Derived.Test.YtmfagdfkpjgeiaaFC
open List renaming length_map → Aa, getElem?_eq_some_iff → Ab, getElem?_eq_getElem → Ac, length_append → Ad, range → Ae, mem_of_getElem? → Af, length_range → Ag, getElem?_map → Ah, map_append → Ai, mem_singleton → Aj, length_cons → Ak, getElem?_of_mem → Am, append_assoc → Ao, mem_range → Ap, mem_map → Ar, mem_append → As, pairwise_iff_getElem → Au, length_take → Av, append_nil → Aw, range_succ_eq_map → Ax, map_congr_left → Az, pairwise_singleton → Ba, take_of_length_le → Bb, take_length → Bc, getLast?_concat → Bf, range_succ → Bg, eq_nil_of_length_eq_zero → Bh, foldl_cons → Bj, getElem?_append_right → Bm, map_cons → Bn, head?_eq_getElem? → Bp, pairwise_append → Br, getLast?_append → Bs, mem_cons → Bt, getElem?_range → Bu
open Int renaming tmod_eq_emod_of_nonneg → Aq, toNat_natCast → Ay
open Nat renaming mod_eq_of_lt → Bd, add_sub_cancel → Bk, le_refl → Bl
open Prod.mk renaming injEq → Be
open Bool renaming and_eq_true → Bo, and_eq_false_iff → Bq
namespace Go.Proofs.Ytmfagdfkpjgeiaa
open Go Go.Vv Go.Dn Go.Dn.W
set_option linter.unusedVariables false
set_option linter.unusedSimpArgs false
set_option maxRecDepth 100000
def Jqw (l:List Int) (a b c:Int):Int:=if a∈l then a else if b∈l then b else if c∈l then c else b
def addP (po:List Cell) (q:Cell) (h h':Int):List Cell:=if h'≠h then po++[q] else po
theorem Zz {α:Type} {m:Cr} {p:Cell} {x:Int} (hl:(atC m p).length≤1000000000) (k:Bool→Option α):@W.call wv α c_slices_Containsboundary_heading_boundary_heading_ ((@W.mg wv (.p I I) (.ls I) m p [],x):List Int×Int) k=k (decide (x∈atC m p)):=by
 rw [Jtf];exact Jrj hl k
section
variable (a:Reg) (h hl hr s5 s6:Int) (m:Cr) (s8 s9 x y:Int) (s12:List Cell) (s13:List (List Cell)) (po:List Cell)
abbrev st8 (h hl hr s5 s6:Int) (m:Cr) (s8 s9 x y:Int) (s12:List Cell) (s13:List (List Cell)) (po:List Cell) (i:Nat):HP Int (HP Int (HP Int (HP Int (HP Int (HP Int (HP Int (HP Cr (HP Int (HP Int (HP Int (HP Int (HP (List Cell) (HP (List (List Cell)) (HP (List Cell) Unit)))))))))))))) :=
 ⟨h,⟨hl,⟨h,⟨hr,⟨(i:Int),⟨s5,⟨s6,⟨m,⟨s8,⟨s9,⟨x,⟨y,⟨s12,⟨s13,⟨po,()⟩⟩⟩⟩⟩⟩⟩⟩⟩⟩⟩⟩⟩⟩⟩
abbrev fin8 (h:Int) (s5 s6:Int) (m:Cr) (s8 s9 x y:Int) (s12:List Cell) (s13:List (List Cell)) (po:List Cell) (c:Int):HP Int (HP Int (HP Int (HP Cr (HP Int (HP Int (HP Int (HP Int (HP (List Cell) (HP (List (List Cell)) (HP (List Cell) Unit)))))))))) :=
 ⟨c,⟨s5,⟨s6,⟨m,⟨s8,⟨s9,⟨x,⟨y,⟨s12,⟨s13,⟨addP po (x,y) h c,()⟩⟩⟩⟩⟩⟩⟩⟩⟩⟩⟩
theorem Jm0 (hm:(atC m (x,y)).length≤1000000000) (hp:po.length≤1000000000) {i:Nat} {c:Int} (hi:i=0∧c=hl∨i=1∧c=h∨i=2∧c=hr) :
  @t_boundary_Trace_L8 wv a (st8 h hl hr s5 s6 m s8 s9 x y s12 s13 po i)=if c∈atC m (x,y) then some (.out (fin8 h s5 s6 m s8 s9 x y s12 s13 po c)) else some (.go (st8 h hl hr s5 s6 m s8 s9 x y s12 s13 po (i+1))):=by
 have e3:@W.ar wv .add .i64 (i:Int) 1=((i+1:Nat):Int):=by rw [J4,wr (by omega) (by omega)];omega
 have tail:∀(c:Int),(@W.br wv (Nx _ _) (decide (c∈atC m (x,y))) (@W.br wv _ (@W.cm wv .neq c h) (@W.gd wv _ (@W.ft wv 16 (@W.pl wv (@W.ln wv Cell po) 1)) (some (.out (⟨c,⟨s5,⟨s6,⟨m,⟨s8,⟨s9,⟨x,⟨y,⟨s12,⟨s13,⟨@W.ap wv Cell po ((x,y)::[]),()⟩⟩⟩⟩⟩⟩⟩⟩⟩⟩⟩:HP Int (HP Int (HP Int (HP Cr (HP Int (HP Int (HP Int (HP Int (HP (List Cell) (HP (List (List Cell)) (HP (List Cell) Unit))))))))))))))
   (some (.out ⟨c,⟨s5,⟨s6,⟨m,⟨s8,⟨s9,⟨x,⟨y,⟨s12,⟨s13,⟨po,()⟩⟩⟩⟩⟩⟩⟩⟩⟩⟩⟩))) (some (.go (st8 h hl hr s5 s6 m s8 s9 x y s12 s13 po (i+1)))))=if c∈atC m (x,y) then some (.out (fin8 h s5 s6 m s8 s9 x y s12 s13 po c)) else some (.go (st8 h hl hr s5 s6 m s8 s9 x y s12 s13 po (i+1))):=by
  intro c
  by_cases hc:c∈atC m (x,y)
  ·rw [br_t (decide_eq_true hc),if_pos hc]
   by_cases e:c=h
   ·rw [br_f (by rw [Jcu];simp [e]),fin8,addP,if_neg (by simp [e])]
   ·rw [br_t (by rw [Jcu];simpa using e),w_ln,w_pl,Jaq (by omega) (by omega),w_ap,fin8,addP,if_pos e]
  ·rw [br_f (decide_eq_false hc),if_neg hc]
 unfold t_boundary_Trace_L8
 dsimp only
 rw [e3]
 rcases hi with ⟨rfl,rfl⟩|⟨rfl,rfl⟩|⟨rfl,rfl⟩
 ·rw [Ks (by decide),br_t (by rfl)];exact (Zz hm _).trans (tail _)
 ·rw [Ks (by decide),br_f (by rfl),br_t (by rfl)];exact (Zz hm _).trans (tail _)
 ·rw [Ks (by decide),br_f (by rfl),br_f (by rfl),br_t (by rfl)];exact (Zz hm _).trans (tail _)
theorem L8_end:@t_boundary_Trace_L8 wv a (st8 h hl hr s5 s6 m s8 s9 x y s12 s13 po 3)=some (.out (fin8 h s5 s6 m s8 s9 x y s12 s13 po h)):=by
 unfold t_boundary_Trace_L8
 dsimp only
 rw [Jz (by decide),fin8,addP,if_neg (by simp)]
theorem L9_L8:@t_boundary_Trace_L9 wv=@t_boundary_Trace_L8 wv:=rfl
theorem L8_ok (hm:(atC m (x,y)).length≤1000000000) (hp:po.length≤1000000000) :
  Kz (@t_boundary_Trace_L8 wv a) bigN (st8 h hl hr s5 s6 m s8 s9 x y s12 s13 po 0)=some (fin8 h s5 s6 m s8 s9 x y s12 s13 po (Jqw (atC m (x,y)) hl h hr)):=by
 have b0:=Jm0 a h hl hr s5 s6 m s8 s9 x y s12 s13 po hm hp (.inl ⟨rfl,rfl⟩)
 have b1:=Jm0 a h hl hr s5 s6 m s8 s9 x y s12 s13 po hm hp (.inr (.inl ⟨rfl,rfl⟩))
 have b2:=Jm0 a h hl hr s5 s6 m s8 s9 x y s12 s13 po hm hp (.inr (.inr ⟨rfl,rfl⟩))
 have b3:=L8_end a h hl hr s5 s6 m s8 s9 x y s12 s13 po
 unfold Jqw
 by_cases h0:hl∈atC m (x,y)
 ·rw [if_pos h0] at b0 ⊢
  exact Kv (st8 h hl hr s5 s6 m s8 s9 x y s12 s13 po) 0 (by decide) (fun i hi=>by omega) b0
 rw [if_neg h0] at b0 ⊢
 by_cases h1:h∈atC m (x,y)
 ·rw [if_pos h1] at b1 ⊢
  exact Kv (st8 h hl hr s5 s6 m s8 s9 x y s12 s13 po) 1 (by decide) (fun i hi=>by rw [show i=0 by omega];exact b0) b1
 rw [if_neg h1] at b1 ⊢
 by_cases h2:hr∈atC m (x,y)
 ·rw [if_pos h2] at b2 ⊢
  exact Kv (st8 h hl hr s5 s6 m s8 s9 x y s12 s13 po) 2 (by decide) (fun i hi=>by
   rcases (show i=0∨i=1 by omega) with rfl|rfl
   ·exact b0
   ·exact b1) b2
 rw [if_neg h2] at b2 ⊢
 exact Kv (st8 h hl hr s5 s6 m s8 s9 x y s12 s13 po) 3 (by decide) (fun i hi=>by
  rcases (show i=0∨i=1∨i=2 by omega) with rfl|rfl|rfl
  ·exact b0
  ·exact b1
  ·exact b2) b3
end
end Go.Proofs.Ytmfagdfkpjgeiaa
namespace Go.Proofs.Ytmfagdfkpjgeiaa
open Go Go.Vv Go.Dn Go.Dn.W
set_option linter.unusedVariables false
set_option linter.unusedSimpArgs false
set_option linter.unusedSectionVars false
set_option maxRecDepth 100000
abbrev St7:=HP Int (HP Int (HP Int (HP Cr (HP Int (HP Int (HP Int (HP Int (HP (List Cell) (HP (List (List Cell)) (HP (List Cell) Unit))))))))))
abbrev Ou7:=HP Int (HP Int (HP Cr (HP (List Cell) (HP (List (List Cell)) (HP (List Cell) Unit)))))
abbrev st7 (h n i:Int) (m:Cr) (x0 y0 x y:Int) (cs:List Cell) (out:List (List Cell)) (po:List Cell):St7:=⟨h,⟨n,⟨i,⟨m,⟨x0,⟨y0,⟨x,⟨y,⟨cs,⟨out,⟨po,()⟩⟩⟩⟩⟩⟩⟩⟩⟩⟩⟩
abbrev ou7 (n i:Int) (m:Cr) (cs:List Cell) (out:List (List Cell)) (po:List Cell):Ou7:=⟨n,⟨i,⟨m,⟨cs,⟨out,⟨po,()⟩⟩⟩⟩⟩⟩
noncomputable def nx7 (h n i:Int) (m:Cr) (x0 y0:Int) (q:Cell) (cs:List Cell) (out:List (List Cell)) (po:List Cell):Nx St7 Ou7 :=
 if q=(x0,y0) then .out (ou7 n i m cs out po) else
  .go (st7 (Jqw (atC m q) ((h+1) % 4) h ((h+3) % 4)) n i m x0 y0 q.1 q.2 cs out (addP po q h (Jqw (atC m q) ((h+1) % 4) h ((h+3) % 4))))
theorem Ju1 (a:Reg) (h n i:Int) (m:Cr) (x0 y0 x y:Int) (cs:List Cell) (out:List (List Cell)) (po:List Cell) (hh:0≤h∧h≤3) (hs:J7 (x,y)) (hm:(atC m (Ke h (x,y))).length≤1000000000) (hp:po.length≤1000000000) :
  (@W.call wv (Nx St7 Ou7) c_boundary_heading_from ((h,(x,y)):Int×(Int×Int)) fun (v:Int×Int) =>
   @W.br wv (Nx St7 Ou7) (@W.an wv (@W.cm wv .eql v.1 x0) (@W.cm wv .eql v.2 y0)) (some (.out (ou7 n i m cs out po)))
   (@W.call wv (Nx St7 Ou7) c_boundary_heading_left (h:Int) fun (v20:Int)=>@W.call wv (Nx St7 Ou7) c_boundary_heading_right (h:Int) fun (v21:Int) =>
    @W.loop wv _ _ (Nx St7 Ou7) (@t_boundary_Trace_L8 wv a) ⟨h,⟨v20,⟨h,⟨v21,⟨0,⟨n,⟨i,⟨m,⟨x0,⟨y0,⟨v.1,⟨v.2,⟨cs,⟨out,⟨po,()⟩⟩⟩⟩⟩⟩⟩⟩⟩⟩⟩⟩⟩⟩⟩ fun v25 =>
     some (.go ⟨v25.hd,⟨v25.tl.hd,⟨v25.tl.tl.hd,⟨v25.tl.tl.tl.hd,⟨v25.tl.tl.tl.tl.hd,⟨v25.tl.tl.tl.tl.tl.hd,⟨v25.tl.tl.tl.tl.tl.tl.hd,⟨v25.tl.tl.tl.tl.tl.tl.tl.hd,⟨v25.tl.tl.tl.tl.tl.tl.tl.tl.hd,⟨v25.tl.tl.tl.tl.tl.tl.tl.tl.tl.hd,⟨v25.tl.tl.tl.tl.tl.tl.tl.tl.tl.tl.hd,()⟩⟩⟩⟩⟩⟩⟩⟩⟩⟩⟩))) =
   some (nx7 h n i m x0 y0 (Ke h (x,y)) cs out po):=by
 rw [k_from hs]
 generalize Ke h (x,y)=q at *
 obtain ⟨qx,qy⟩:=q
 unfold nx7
 by_cases e:(qx,qy)=(x0,y0)
 ·rw [if_pos e,br_t (by rw [w_an,Qj,Qj];injection e with e1 e2;simp [e1,e2])]
 ·rw [if_neg e,br_f (by
   rw [w_an,Qj,Qj,Bq,beq_eq_false_iff_ne,beq_eq_false_iff_ne]
   by_cases e1:qx=x0
   ·exact .inr fun e2=>e (by dsimp only at e2;rw [e1,e2])
   ·exact .inl e1),k_left hh.1 hh.2,k_right hh.1 hh.2]
  refine (lo_s (L8_ok a h ((h+1) % 4) ((h+3) % 4) n i m x0 y0 qx qy cs out po hm hp)).trans ?_
  rfl
theorem Jp6 {m:Cr} {T:Cell→Int→Prop} (h:MapOK m T) (hT:∀p x,T p x→x=0∨x=1∨x=2∨x=3) (p:Cell):(atC m p).length≤4 :=
 Ye (m:=[0,1,2,3]) (h.one p) fun x hx=>by rcases hT p x ((h.mem p x).1 hx) with rfl|rfl|rfl|rfl<;>simp
theorem L7_step (a:Reg) (h n i:Int) (m:Cr) (x0 y0 x y:Int) (cs:List Cell) (out:List (List Cell)) (po:List Cell) {T:Cell→Int→Prop} (hM:MapOK m T) (hT:∀p x,T p x→x=0∨x=1∨x=2∨x=3) (hx:T (x,y) h)
  (hs:J7 (x,y)) (hp:po.length≤1000000000) :
  ∃m',MapOK m' (fun q z=>T q z∧¬(q=(x,y)∧z=h))∧@t_boundary_Trace_L7 wv a (st7 h n i m x0 y0 x y cs out po)=some (nx7 h n i m' x0 y0 (Ke h (x,y)) cs out po):=by
 have hh:0≤h∧h≤3:=by have:=hT _ _ hx;omega
 have h4:=Jp6 hM hT (x,y)
 obtain ⟨e,he,hq⟩:=Jve (l:=atC m (x,y)) h (by omega)
 have hin:h∈atC m (x,y):=(hM.mem _ _).2 hx
 rcases hq with ⟨_,hn⟩|⟨j,hj,rfl⟩
 ·exact (hn hin).elim
 have hjl:=(Ab.1 hj).1
 have em:@W.mg wv (.p I I) (.ls I) m (x,y) []=atC m (x,y):=Jtf m (x,y)
 have ed:@W.md wv (.p I I) (.ls I) m (x,y)=delC m (x,y):=md_del m (x,y)
 by_cases h1:(atC m (x,y)).length=1
 ·have hl:atC m (x,y)=[h]:=by
   obtain ⟨z,hz⟩:=List.length_eq_one_iff.1 h1
   rw [hz] at hin ⊢
   rw [Aj.1 hin]
  have hM':=hM.del hl
  refine ⟨_,hM',?_⟩
  have h5:=Jp6 hM' (fun p x h=>hT p x h.1) (Ke h (x,y))
  unfold t_boundary_Trace_L7
  dsimp only
  rw [em,he,Jz (by omega),br_t (by show (((atC m (x,y)).length:Int)==1)=true;rw [h1];rfl),ed]
  exact Ju1 a h n i (delC m (x,y)) x0 y0 x y cs out po hh hs (by omega) hp
 ·have hM':=hM.cut hj h1
  refine ⟨_,hM',?_⟩
  have h5:=Jp6 hM' (fun p x h=>hT p x h.1) (Ke h (x,y))
  unfold t_boundary_Trace_L7
  dsimp only
  have e3:@W.ar wv .add .i64 (j:Int) 1=((j+1:Nat):Int):=by rw [J4,wr (by omega) (by omega)];omega
  have ec:(atC m (x,y)).take (j:Int).toNat++((atC m (x,y)).drop ((j+1:Nat):Int).toNat).take (((atC m (x,y)).length:Int) - ((j+1:Nat):Int)).toNat=(atC m (x,y)).take j++(atC m (x,y)).drop (j+1):=by
   congr 1
   rw [Ay,Bb (by rw [List.length_drop];omega)]
  have es:@W.ms wv (.p I I) (.ls I) m (x,y) (@W.ap wv I.T (@W.ct wv I.T (atC m (x,y)) 0 (j:Int)) (@W.ct wv I.T (atC m (x,y)) (@W.ar wv .add .i64 (j:Int) 1) (@W.mi wv (@W.ln wv I.T (atC m (x,y))) (@W.ar wv .add .i64 (j:Int) 1))))=putC m (x,y) ((atC m (x,y)).take j++(atC m (x,y)).drop (j+1)):=by
   rw [e3,←ec]
   exact ms_put m (x,y) _
  rw [em,he,Jz (by omega),br_f (by show (((atC m (x,y)).length:Int)==1)=false;rw [beq_eq_false_iff_ne];omega),es]
  refine (fitB (n:=((atC m (x,y)).length:Int)) (by omega) (by omega) (by decide)).trans ?_
  refine (gd_t (show ((decide (0≤(j:Int)∧(j:Int)<(atC m (x,y)).length))&&((decide ((j:Int)+1≤@W.ar wv .add .i64 (j:Int) 1))&&(decide (@W.ar wv .add .i64 (j:Int) 1≤((atC m (x,y)).length:Int)))))=true by
   rw [e3];simp only [Bo,decide_eq_true_eq];omega)).trans ?_
  rw [L9_L8]
  exact Ju1 a h n i _ x0 y0 x y cs out po hh hs (by omega) hp
theorem pick_nxt {m:Cr} {T:Cell→Int→Prop} (hM:MapOK m T) {r:Reg} (hT:∀p x,T p x→Crk r p x) {p:Cell} {x:Int} (hn:T (Ke x p) (nxtH r p x)) :
  Jqw (atC m (Ke x p)) ((x+1) % 4) x ((x+3) % 4)=nxtH r p x:=by
 unfold Jqw
 have hmem:∀y,y∈atC m (Ke x p)→Crk r (Ke x p) y:=fun y hy=>hT _ _ ((hM.mem _ _).1 hy)
 have hin:=(hM.mem _ _).2 hn
 unfold nxtH at hin ⊢
 dsimp only at hin ⊢
 by_cases h1:Crk r (Ke x p) ((x+1) % 4)
 ·rw [if_pos h1] at hin ⊢
  rw [if_pos hin]
 ·rw [if_neg h1] at hin ⊢
  rw [if_neg fun h=>h1 (hmem _ h)]
  by_cases h2:Crk r (Ke x p) x
  ·rw [if_pos h2] at hin ⊢
   rw [if_pos hin]
  ·rw [if_neg h2] at hin ⊢
   rw [if_neg fun h=>h2 (hmem _ h),if_pos hin]
theorem Qe {r:Reg} (hr:RegOK r) {p:Cell} {x:Int} (h:Crk r p x):J7 p:=by
 have:=hr.bd (cell_in h)
 unfold J0 at this
 unfold J7
 rcases h.hd with rfl|rfl|rfl|rfl<;>simp at this<;>omega
theorem Jnx (r:Reg) (s:Ck) (a n:Nat):(seg r s a n).length≤n:=by
 have:=List.length_filterMap_le (fun i=>turnAt r s (a+i)) (Ae n)
 rw [Ag] at this
 exact this
theorem L7_ok (a r:Reg) (hr:RegOK r) (hcks:(cks r).length≤1000000) {S:Ck→Prop} (hS:Closed r S) {m:Cr} (hM:MapOK m fun p x=>S (p,x)) {s:Ck} (hs:S s) (hl:Least r s) (n i:Int) (cs:List Cell) (out:List (List Cell)) :
  ∃m',Kz (@t_boundary_Trace_L7 wv a) bigN (st7 s.2 n i m s.1.1 s.1.2 s.1.1 s.1.2 cs out [s.1])=some (ou7 n i m' cs out (pol r s))∧MapOK m' (fun p x=>S (p,x)∧¬ ∃k,(p,x)=itr (nx r) k s):=by
 have hN:=Yk hl.1
 have hle:=Jbq hl.1
 have hp:=hN.pos
 unfold pol
 generalize perN r s=N at *
 obtain ⟨M,rfl⟩:∃M,N=M+1:=⟨N - 1,by omega⟩
 have hmem:=hl.mem
 have step:∀k,k<M+1→∀m,MapOK m (fun p x=>S (p,x)∧¬ ∃j,j<k∧(p,x)=itr (nx r) j s) →
   ∃m',MapOK m' (fun p x=>S (p,x)∧¬ ∃j,j<k+1∧(p,x)=itr (nx r) j s) ∧
    @t_boundary_Trace_L7 wv a (st7 (hdK r s k) n i m s.1.1 s.1.2 (ptK r s k).1 (ptK r s k).2 cs out (s.1::seg r s 0 k))=some (nx7 (hdK r s k) n i m' s.1.1 s.1.2 (ptK r s (k+1)) cs out (s.1::seg r s 0 k)):=by
  intro k hk m hm
  have hSk:S (ptK r s k,hdK r s k):=hS.itr hs k
  obtain ⟨m',h1,h2⟩:=L7_step a (hdK r s k) n i m s.1.1 s.1.2 (ptK r s k).1 (ptK r s k).2 cs out (s.1::seg r s 0 k) hm (fun p x h=>(hS.1 _ h.1).hd) ⟨hSk,fun ⟨j,hj,e⟩=>by
    have:=(ring r).dist hmem hN (i:=j) (j:=k) (by omega) hk e.symm
    omega⟩ (Qe hr (hS.1 _ hSk)) (by have:=Jnx r s 0 k;rw [Ak];omega)
  refine ⟨m',h1.congr fun p x=>?_,h2⟩
  constructor
  ·rintro ⟨⟨g1,g2⟩,g3⟩
   refine ⟨g1,fun ⟨j,hj,e⟩=>?_⟩
   by_cases hjk:j=k
   ·subst hjk
    exact g3 ⟨congrArg Prod.fst e,congrArg Prod.snd e⟩
   ·exact g2 ⟨j,by omega,e⟩
  ·rintro ⟨g1,g2⟩
   refine ⟨⟨g1,fun ⟨j,hj,e⟩=>g2 ⟨j,by omega,e⟩⟩,fun ⟨e1,e2⟩=>g2 ⟨k,by omega,?_⟩⟩
   rw [e1,e2];rfl
 obtain ⟨e,he,m',rfl,h⟩:=Qn (b:=@t_boundary_Trace_L7 wv a)
  (fun k st=>∃m,st=st7 (hdK r s k) n i m s.1.1 s.1.2 (ptK r s k).1 (ptK r s k).2 cs out (s.1::seg r s 0 k)∧MapOK m (fun p x=>S (p,x)∧¬ ∃j,j<k∧(p,x)=itr (nx r) j s))
  (fun e=>∃m,e=ou7 n i m cs out (poly r s (M+1))∧MapOK m (fun p x=>S (p,x)∧¬ ∃k,(p,x)=itr (nx r) k s))
  M (by omega) (s0:=st7 s.2 n i m s.1.1 s.1.2 s.1.1 s.1.2 cs out [s.1])
  ⟨m,rfl,hM.congr fun p x=>⟨fun h=>⟨h,fun ⟨j,hj,_⟩=>by omega⟩,And.left⟩⟩
  (fun k st hk=>by
   rintro ⟨m1,rfl,h1⟩
   obtain ⟨m2,h2,h3⟩:=step k (by omega) m1 h1
   have hne:ptK r s (k+1)≠s.1:=hl.ne hN (k:=k+1) (by omega) (by omega)
   have hnx:(fun p x=>S (p,x)∧¬ ∃j,j<k+1∧(p,x)=itr (nx r) j s) (Ke (hdK r s k) (ptK r s k)) (nxtH r (ptK r s k) (hdK r s k)):=⟨hS.itr hs (k+1),fun ⟨j,hj,e⟩=>by
    have:=(ring r).dist hmem hN (i:=j) (j:=k+1) (by omega) (by omega) e.symm
    omega⟩
   have hpk:=pick_nxt h2 (r:=r) (fun p x h=>hS.1 _ h.1) hnx
   refine ⟨_,h3.trans ?_,m2,rfl,h2⟩
   unfold nx7
   rw [if_neg hne,Jjg,hpk]
   have e1:nxtH r (ptK r s k) (hdK r s k)=hdK r s (k+1):=rfl
   rw [e1,←Jjg]
   congr 3
   rw [Jbd,Nat.zero_add]
   unfold addP
   by_cases e:hdK r s (k+1)=hdK r s k
   ·have:turnAt r s k=none:=if_pos e
    rw [if_neg (by simpa using e),this];simp
   ·have:turnAt r s k=some (ptK r s (k+1)):=if_neg e
    rw [if_pos e,this];rfl)
  (by
   rintro st ⟨m1,rfl,h1⟩
   obtain ⟨m2,h2,h3⟩:=step M (by omega) m1 h1
   have hb:ptK r s (M+1)=s.1:=congrArg Prod.fst hN.back
   refine ⟨_,h3.trans ?_,m2,rfl,h2.congr fun p x=>⟨fun ⟨g1,g2⟩=>⟨g1,fun ⟨k,e⟩=>?_⟩,fun ⟨g1,g2⟩=>⟨g1,fun ⟨j,_,e⟩=>g2 ⟨j,e⟩⟩⟩⟩
   ·unfold nx7
    rw [hb,if_pos rfl]
    rfl
   ·obtain ⟨j,hj,e'⟩:=hN.modN k
    exact g2 ⟨j,hj,e.trans e'⟩)
 exact ⟨m',he,h⟩
end Go.Proofs.Ytmfagdfkpjgeiaa
namespace Go.Proofs.Ytmfagdfkpjgeiaa
open Go Go.Vv Go.Dn Go.Dn.W
set_option linter.unusedVariables false
set_option linter.unusedSimpArgs false
set_option linter.unusedSectionVars false
set_option maxRecDepth 100000
theorem Least.same {r:Reg} {s t:Ck} (h:Least r s) (h':Least r t) {k:Nat} (e:t=itr (nx r) k s):t=s:=by
 obtain ⟨j,hj⟩:=(Yk h.1).to s k
 rw [←e] at hj
 have h1:=h.2 k
 have h2:=h'.2 j
 rw [←e] at h1
 rw [hj] at h2
 rcases Jo0 s.1 t.1 with q|q|q
 ·exact (h2 q).elim
 ·exact h.uniq h' q.symm
 ·exact (h1 q).elim
abbrev st6 (n:Int) (i:Nat) (m:Cr) (cs:List Cell) (out:List (List Cell)):HP Int (HP Int (HP Cr (HP (List Cell) (HP (List (List Cell)) Unit)))):=⟨n,⟨(i:Int),⟨m,⟨cs,⟨out,()⟩⟩⟩⟩⟩
structure Inv6 (r:Reg) (cs:List Cell) (i:Nat) (m:Cr) (out:List (List Cell)):Prop where
 ex:∃(S:Ck→Prop) (ls:List Ck),Closed r S∧MapOK m (fun p x=>S (p,x))∧(∀c,S c→∃j,i≤j∧cs[j]?=some c.1)∧out=ls.map (pol r) ∧
  ls.Pairwise (fun a b=>yx a.1 b.1)∧(∀s∈ls,Least r s∧∃j,j<i∧cs[j]?=some s.1)∧∀s,Least r s→s∈ls∨S s
theorem cs_lt {cs:List Cell} (h:cs.Pairwise yx) {i j:Nat} {a b:Cell} (ha:cs[i]?=some a) (hb:cs[j]?=some b) (hij:i<j):yx a b:=by
 obtain ⟨p1,e1⟩:=Ab.1 ha
 obtain ⟨p2,e2⟩:=Ab.1 hb
 rw [←e1,←e2]
 exact Au.1 h i j p1 p2 hij
theorem L6_step (a r:Reg) (hr:RegOK r) (hcks:(cks r).length≤1000000) {cs:List Cell} (hcs:cs.Pairwise yx) (hlen:cs.length≤1000000000) {i:Nat} (hi:i<cs.length) {m:Cr} {out:List (List Cell)} (h:Inv6 r cs i m out) :
  ∃m' out',@t_boundary_Trace_L6 wv a (st6 cs.length i m cs out)=some (.go (st6 cs.length (i+1) m' cs out'))∧Inv6 r cs (i+1) m' out':=by
 obtain ⟨S,ls,hS,hM,hc,rfl,hpw,hls,hall⟩:=h.ex
 have hp:cs[i]?=some cs[i]:=Ac hi
 generalize cs[i]=p at hp
 have h4:=Jp6 hM (fun p x h=>(hS.1 _ h).hd) p
 have e3:@W.ar wv .add .i64 (i:Int) 1=((i+1:Nat):Int):=by rw [J4,wr (by omega) (by omega)];omega
 have em:@W.mg wv (.p I I) (.ls I) m (p.1,p.2) []=atC m p:=Jtf m p
 cases hat:atC m p with
 | nil =>
  refine ⟨m,_,?_,⟨S,ls,hS,hM,fun c hSc=>?_,rfl,hpw,fun s hs=>⟨(hls s hs).1,?_⟩,hall⟩⟩
  ·unfold t_boundary_Trace_L6
   dsimp only
   rw [Ks (by omega),Jcy (by rw [w_ln];omega),ge_s (fg hp)]
   rw [em,hat,br_f (by rfl),e3]
  ·obtain ⟨j,hj,e⟩:=hc c hSc
   refine ⟨j,?_,e⟩
   by_cases hji:j=i
   ·subst hji
    rw [hp] at e
    injection e with e
    have:=(hM.mem c.1 c.2).2 hSc
    rw [←e,hat] at this
    cases this
   ·omega
  ·obtain ⟨j,hj,e⟩:=(hls s hs).2
   exact ⟨j,by omega,e⟩
 | cons x l =>
  have hSp:S (p,x):=(hM.mem p x).1 (by rw [hat];exact List.mem_cons_self ..)
  have hge:∀c,S c→¬yx c.1 p:=fun c hSc hlt=>by
   obtain ⟨j,hj,e⟩:=hc c hSc
   rcases Nat.lt_or_eq_of_le hj with q|q
   ·exact Jic (cs_lt hcs hp e q) hlt
   ·subst q;rw [hp] at e;injection e with e;rw [e] at hlt;exact X0 _ hlt
  have hl:Least r (p,x):=⟨hS.1 _ hSp,fun k=>hge _ (hS.itr hSp k)⟩
  have hlsn:ls.length≤1000000:=by
   have hnd:ls.Nodup:=hpw.imp fun {a b} (h:yx a.1 b.1) (e:a=b)=>X0 a.1 (by subst e;exact h)
   have:(ls.length:Nat)≤(cks r).length:=Ye hnd fun s hs=>(hls s hs).1.mem
   omega
  obtain ⟨m',hw,hM'⟩:=L7_ok a r hr hcks hS hM hSp hl (cs.length:Int) (i:Int) cs (ls.map (pol r))
  refine ⟨m',_,?_,⟨_,ls++[(p,x)],hS.sub hl.1,hM',fun c hSc=>?_,rfl,?_,fun s hs=>?_,fun t ht=>?_⟩⟩
  ·unfold t_boundary_Trace_L6
   dsimp only
   rw [Ks (by omega),Jcy (by rw [w_ln];omega),ge_s (fg hp)]
   rw [em,hat,br_t (by show decide (((x::l).length:Int) > 0)=true;rw [Ak];exact decide_eq_true (by omega))]
   refine (ge_s (x:=x) rfl).trans ((lo_s hw).trans ?_)
   dsimp only
   rw [w_ln,w_pl,Aa,fitB (by omega) (by omega) (by decide),e3,w_ap,Ai]
   rfl
  ·obtain ⟨j,hj,e⟩:=hc c hSc.1
   refine ⟨j,?_,e⟩
   by_cases hji:j=i
   ·subst hji
    rw [hp] at e
    injection e with e
    refine (hSc.2 ⟨0,?_⟩).elim
    exact hl.only (hS.1 _ hSc.1) e.symm (hge _ (hS.2 _ hSc.1))
   ·omega
  ·refine Br.2 ⟨hpw,Ba _ _,fun a ha b hb=>?_⟩
   rw [Aj] at hb
   subst hb
   obtain ⟨j,hj,e⟩:=(hls a ha).2
   exact cs_lt hcs e hp hj
  ·rcases As.1 hs with hs|hs
   ·obtain ⟨j,hj,e⟩:=(hls s hs).2
    exact ⟨(hls s hs).1,j,by omega,e⟩
   ·rw [Aj] at hs
    subst hs
    exact ⟨hl,i,by omega,hp⟩
  ·rcases hall t ht with q|q
   ·exact .inl (As.2 (.inl q))
   ·by_cases hk:∃k,t=itr (nx r) k (p,x)
    ·obtain ⟨k,e⟩:=hk
     exact .inl (As.2 (.inr (Aj.2 (hl.same ht e))))
    ·exact .inr ⟨q,hk⟩
open Classical in
noncomputable def starts (r:Reg):List Ck:=if h:∃l,Starts r l then h.choose else []
theorem Jat {r:Reg} {l:List Ck} (h:Starts r l):starts r=l:=by
 have hx:∃l,Starts r l:=⟨l,h⟩
 unfold starts
 rw [dif_pos hx]
 exact hx.choose_spec.uniq h
theorem L6_ok (a r:Reg) (hr:RegOK r) (hcks:(cks r).length≤1000000) {cs:List Cell} (hcs:cs.Pairwise yx) (hlen:cs.length≤1000000000) {m:Cr} (hM:MapOK m fun p x=>Crk r p x) (hmem:∀p,p∈cs↔∃x,Crk r p x) :
  Starts r (starts r)∧Kz (@t_boundary_Trace_L6 wv a) bigN (st6 cs.length 0 m cs [])=some ⟨(starts r).map (pol r),()⟩:=by
 obtain ⟨e,he,hQ⟩:=Qn (b:=@t_boundary_Trace_L6 wv a)
  (fun i s=>∃m out,s=st6 cs.length i m cs out∧Inv6 r cs i m out)
  (fun e=>∃ls,Starts r ls∧e=⟨ls.map (pol r),()⟩) cs.length (by omega) (s0:=st6 cs.length 0 m cs [])
  ⟨m,[],rfl,⟨fun c=>Crk r c.1 c.2,[],⟨fun c h=>h,fun c h=>Jmw h⟩,hM,fun c h=>by
   obtain ⟨j,hj⟩:=Am ((hmem c.1).2 ⟨_,h⟩)
   exact ⟨j,Nat.zero_le _,hj⟩,rfl,.nil,fun s hs=>(List.not_mem_nil hs).elim,fun s hs=>.inr hs.1⟩⟩
  (fun i s hi=>by
   rintro ⟨m,out,rfl,h⟩
   obtain ⟨m',out',h1,h2⟩:=L6_step a r hr hcks hcs hlen hi h
   exact ⟨_,h1,m',out',rfl,h2⟩)
  (by
   rintro s ⟨m,out,rfl,h⟩
   obtain ⟨S,ls,hS,hM,hc,rfl,hpw,hls,hall⟩:=h.ex
   refine ⟨_,?_,ls,⟨hpw,fun c=>⟨fun h=>(hls c h).1,fun h=>(hall c h).elim id fun q=>?_⟩⟩,rfl⟩
   ·unfold t_boundary_Trace_L6
    dsimp only
    rw [Jz (by omega)]
   ·obtain ⟨j,hj,e⟩:=hc c q
    have:=(Ab.1 e).1
    omega)
 obtain ⟨ls,h1,rfl⟩:=hQ
 rw [Jat h1]
 exact ⟨h1,he⟩
theorem Jpp {l:List Cell} (hnd:l.Nodup) (h:l.Pairwise fun a b=>Go.Proofs.ltOf cmpB b a=false) (hok:∀x∈l,okB x=true):l.Pairwise yx:=by
 refine (List.Pairwise.and hnd h).imp_of_mem fun {a b} ha hb ⟨hne,hlt⟩=>?_
 have h1:¬cmpB b a<0:=by simpa [Go.Proofs.ltOf] using hlt
 rw [jo (hok b hb) (hok a ha)] at h1
 rcases Jo0 a b with q|q|q
 ·exact q
 ·exact (hne q).elim
 ·exact (h1 q).elim
theorem Jcn (p:List Cell) (hlen:p.length≤1000000) (hok:∀x∈p,okB x=true):∃q:List Cell,sortAny (t:=.p I I) cmpB okB eqB zB p=some q∧q.Perm p∧q.Pairwise fun a b=>Go.Proofs.ltOf cmpB b a=false :=
 Jlz (t:=.p I I) swoB (eq:=eqB) (d0:=zB) (l:=p) (show p.length<_ by omega) hok
open Classical in
theorem Jia (r:Reg) (hl:LimR r) (hcks:RegOK r→(cks r).length≤1000000):@t_boundary_Trace wv r=some (if RegOK r then (starts r).map (pol r) else [])∧(RegOK r→Starts r (starts r)):=by
 unfold t_boundary_Trace
 rw [Jfq hl]
 by_cases hr:RegOK r
 case neg=>exact ⟨by rw [br_t (by simp [w_nt,hr]),if_neg hr],fun h=>(hr h).elim⟩
 rw [br_f (by simp [w_nt,hr]),if_pos hr]
 have hcks:=hcks hr
 obtain ⟨m,he,hM0⟩:=Jqy r r hr hl.1
 have hM:MapOK m fun p x=>Crk r p x:=hM0.congr fun p x=>crk_iff hr p x
 have hkey:∀p,p∈m.map (·.1)↔∃x,Crk r p x:=fun p=>hM.key p
 have hlen:m.length≤1000000:=by
  have:(m.map (·.1)).length≤((cks r).map (·.1)).length:=Ye hM.nd fun p hp=>by
   obtain ⟨x,hx⟩:=(hkey p).1 hp
   exact Ar.2 ⟨(p,x),Kr.2 hx,rfl⟩
  rw [Aa,Aa] at this
  omega
 have hokB:∀p,p∈m.map (·.1)→okB p=true:=fun p hp=>by
  obtain ⟨x,hx⟩:=(hkey p).1 hp
  have:=Qe hr hx
  unfold J7 at this
  unfold okB
  exact decide_eq_true (by omega)
 have hst:∃l,Starts r l:=by
  obtain ⟨q,h1,h2,h3⟩:=Jcn (m.map (·.1)) (by rw [Aa];omega) hokB
  exact ⟨_,(L6_ok r r hr hcks (cs:=q) (Jpp (h2.nodup_iff.2 hM.nd) h3 fun x hx=>hokB x (h2.mem_iff.1 hx)) (by rw [h2.length_eq,Aa];omega) hM fun p=>(h2.mem_iff).trans (hkey p)).1⟩
 refine ⟨?_,fun _=>by obtain ⟨l,h⟩:=hst;rw [Jat h];exact h⟩
 rw [w_ln]
 refine (lo_s he).trans ?_
 dsimp only
 rw [w_ln,Jaq (by omega) (by omega)]
 refine Jui fun p0 hp=>?_
 obtain ⟨p,rfl⟩:∃p:List Cell,p=p0:=⟨p0,rfl⟩
 have hp:List.Perm (α:=Cell) p (m.map (·.1)):=hp
 obtain ⟨q,h1,h2,h3⟩:=Jcn p (by rw [hp.length_eq,Aa];omega) fun x hx=>hokB x (hp.mem_iff.1 hx)
 have h2':q.Perm (m.map (·.1)):=h2.trans hp
 have hL6:=(L6_ok r r hr hcks (cs:=q) (Jpp (h2'.nodup_iff.2 hM.nd) h3 fun x hx=>hokB x (h2'.mem_iff.1 hx)) (by rw [h2'.length_eq,Aa];omega) hM fun p=>(h2'.mem_iff).trans (hkey p)).2
 refine (ca_s (c:=c_s26_27) h1).trans ?_
 rw [w_ln]
 exact (lo_s hL6).trans rfl
open Classical in
theorem k_Trace {α:Type} {r:Reg} (hl:LimR r) (hcks:RegOK r→(cks r).length≤1000000) (k:List (List (Int×Int))→Option α):@W.call wv α c_boundary_Trace r k=k (if RegOK r then (starts r).map (pol r) else []):=ca_s (c:=c_boundary_Trace) (Jia r hl hcks).1
end Go.Proofs.Ytmfagdfkpjgeiaa
namespace Go.Proofs.Ytmfagdfkpjgeiaa
open Go Go.Vv Go.Dn Go.Dn.W
set_option linter.unusedVariables false
set_option linter.unusedSimpArgs false
set_option linter.unusedSectionVars false
set_option maxRecDepth 100000
def enc (c:Ck):Cell×Cell:=(c.1,Ke c.2 c.1)
abbrev St22:=HP (List (Int×Int)) (HP Int (HP Reg (HP (List (Cell×Cell)) Unit)))
abbrev Ou22:=HP (List (Cell×Cell)) Unit
noncomputable def side (r:Reg) (c:Cell) (e:Cell×Cell) (K:List (Cell×Cell)→Option (Nx St22 Ou22)) (o:List (Cell×Cell)):Option (Nx St22 Ou22) :=
 @W.call wv (Nx St22 Ou22) c_additiveref18_Contains ((r,c):Reg×(Int×Int)) fun v =>
  @W.br wv (Nx St22 Ou22) (@W.nt wv v) (@W.gd wv (Nx St22 Ou22) (@W.ft wv 32 (@W.pl wv (@W.ln wv (Cell×Cell) o) 1)) (K (@W.ap wv (Cell×Cell) o (e::[])))) (K o)
open Classical in
theorem Jjl (r:Reg) (hl:LimR r) (hr:RegOK r) (c:Cell) (e:Cell×Cell) (K:List (Cell×Cell)→Option (Nx St22 Ou22)) (o:List (Cell×Cell)) (ho:o.length≤1000000000) :
  side r c e K o=K (o++if Qc r c then [] else [e]):=by
 unfold side
 refine (Jfx hl _).trans ?_
 by_cases h:Qc r c
 ·rw [br_f (by simp [w_nt,hr,h]),if_pos h,Aw]
 ·rw [br_t (by simp [w_nt,hr,h]),w_ln,w_pl,fit32 (by omega) (by omega),w_ap,if_neg h]
theorem Jnu (r:Reg) (hl:LimR r) (hr:RegOK r) {cells:List Cell} {i:Nat} {x y:Int} (hc:cells[i]?=some (x,y)) (hb:J7 (x,y)) (hn:cells.length≤1000000000) {out:List (Cell×Cell)} (ho:out.length≤1000000000 - 10) :
  @t_additiveref22_cracks_L0 wv ⟨cells,⟨(i:Int),⟨r,⟨out,()⟩⟩⟩⟩=some (.go ⟨cells,⟨((i+1:Nat):Int),⟨r,⟨out++(cellCk r (x,y)).map enc,()⟩⟩⟩⟩):=by
 classical
 obtain ⟨⟨b1,b2⟩,b3,b4⟩:=hb
 dsimp only at b1 b2 b3 b4
 have hlt:=(Ab.1 hc).1
 have e0:@W.ar wv .add .i64 (i:Int) 1=((i+1:Nat):Int):=by rw [J4,wr (by omega) (by omega)];omega
 have e1:@W.ar wv .add .i64 x 1=x+1:=by rw [J4,wr (by omega) (by omega)]
 have e2:@W.ar wv .add .i64 y 1=y+1:=by rw [J4,wr (by omega) (by omega)]
 have e3:@W.ar wv .sub .i64 x 1=x - 1:=by rw [Qs,wr (by omega) (by omega)]
 have e4:@W.ar wv .sub .i64 y 1=y - 1:=by rw [Qs,wr (by omega) (by omega)]
 unfold t_additiveref22_cracks_L0
 dsimp only
 rw [w_ln,Ks (by omega),ge_s (fg hc),ge_s (fg hc)]
 dsimp only
 rw [e0,e1,e2,e3,e4]
 refine (show _=side r (x,y - 1) ((x,y),(x+1,y)) (side r (x+1,y) ((x+1,y),(x+1,y+1)) (side r (x,y+1) ((x+1,y+1),(x,y+1)) (side r (x - 1,y) ((x,y+1),(x,y))
  fun o=>some (.go ⟨cells,⟨((i+1:Nat):Int),⟨r,⟨o,()⟩⟩⟩⟩)))) out from rfl).trans ?_
 have h1:∀(p:Prop) [Decidable p] (e:Cell×Cell),(if p then [] else [e]).length≤1:=fun p _ e=>by split<;>simp
 have g1:=h1 (Qc r (x,y - 1)) ((x,y),(x+1,y))
 have g2:=h1 (Qc r (x+1,y)) ((x+1,y),(x+1,y+1))
 have g3:=h1 (Qc r (x,y+1)) ((x+1,y+1),(x,y+1))
 rw [Jjl r hl hr _ _ _ _ (by omega),Jjl r hl hr _ _ _ _ (by rw [Ad];omega),Jjl r hl hr _ _ _ _ (by rw [Ad,Ad];omega),Jjl r hl hr _ _ _ _ (by rw [Ad,Ad,Ad];omega)]
 have hm:∀(p:Prop) [Decidable p] (c:Ck),(if p then [] else [c]).map enc=if p then [] else [enc c]:=fun p _ c=>by split<;>simp
 have d0:enc ((x,y),0)=((x,y),(x+1,y)):=rfl
 have d1:enc ((x+1,y),1)=((x+1,y),(x+1,y+1)):=rfl
 have d2:enc ((x+1,y+1),2)=((x+1,y+1),(x,y+1)):=by show ((x+1,y+1),(x+1 - 1,y+1))=_;rw [Int.add_sub_cancel]
 have d3:enc ((x,y+1),3)=((x,y+1),(x,y)):=by show ((x,y+1),(x,y+1 - 1))=_;rw [Int.add_sub_cancel]
 unfold cellCk
 rw [Ai,Ai,Ai,hm,hm,hm,hm,d0,d1,d2,d3]
 simp only [Ao]
open Classical in
theorem Jik (r:Reg) (hl:LimR r) (hr:RegOK r) (hc:(Ky r).length≤1000000):@t_additiveref22_cracks wv r=some ((cks r).map enc):=by
 unfold t_additiveref22_cracks
 rw [Jne hl (fun _=>by omega),if_pos hr]
 have hloop:=Kv (b:=@t_additiveref22_cracks_L0 wv) (e:=⟨(cks r).map enc,()⟩) (fun i=>⟨Ky r,⟨(i:Int),⟨r,⟨(((Ky r).take i).flatMap (cellCk r)).map enc,()⟩⟩⟩⟩) (Ky r).length (by omega) (fun i hi=>by
  have hx:=Ac hi
  generalize (Ky r)[i]=v at hx
  obtain ⟨x,y⟩:=v
  have hb:=hr.bd (Yx.1 (Af hx))
  rw [Jnu r hl hr hx (by unfold J7;omega) (by omega) (by
   rw [Aa]
   have:=Jdo (f:=cellCk r) (l:=(Ky r).take i) (n:=4) fun c _=>Jf1 r c
   rw [Av] at this
   omega),Ja9 hx,Ai]) (by
  unfold t_additiveref22_cracks_L0
  dsimp only
  rw [w_ln,Jz (by omega),Bc]
  rfl)
 exact (lo_s hloop).trans rfl
open Classical in
theorem Jl2 {α:Type} {r:Reg} (hl:LimR r) (hr:RegOK r) (hc:(Ky r).length≤1000000) (k:List ((Int×Int)×(Int×Int))→Option α):@W.call wv α c_additiveref22_cracks r k=k ((cks r).map enc):=ca_s (c:=c_additiveref22_cracks) (Jik r hl hr hc)
theorem Jk3 {a b c d:Cell} (h1:-4≤b.1 - a.1∧b.1 - a.1≤4) (h2:-4≤d.2 - c.2∧d.2 - c.2≤4) (h3:-4≤b.2 - a.2∧b.2 - a.2≤4) (h4:-4≤d.1 - c.1∧d.1 - c.1≤4) :
  @t_additiveref22_left wv ((a,b),(c,d))=some (decide ((b.1 - a.1) * (d.2 - c.2) - (b.2 - a.2) * (d.1 - c.1) > 0)):=by
 have es:∀a b:Int,-4≤a - b∧a - b≤4→@W.ar wv .sub .i64 a b=a - b:=fun a b _=>by rw [Qs,wr (by omega) (by omega)]
 unfold t_additiveref22_left
 dsimp only
 rw [es b.1 a.1 h1,es d.2 c.2 h2,es b.2 a.2 h3,es d.1 c.1 h4]
 generalize b.1 - a.1=p at *
 generalize d.2 - c.2=q at *
 generalize b.2 - a.2=u at *
 generalize d.1 - c.1=v at *
 have m:∀x y:Int,-4≤x∧x≤4→-4≤y∧y≤4→x * y≤16∧-16≤x * y:=by
  intro x y hx hy
  rcases (show x=-4∨x=-3∨x=-2∨x=-1∨x=0∨x=1∨x=2∨x=3∨x=4 by omega) with rfl|rfl|rfl|rfl|rfl|rfl|rfl|rfl|rfl<;>omega
 have m1:=m p q h1 h2
 have m2:=m u v h3 h4
 rw [Jb6,Jst,Jst,Qs,wr (n:=p * q) (by omega) (by omega),wr (n:=u * v) (by omega) (by omega),wr (by omega) (by omega)]
theorem Jnz {p q:Cell} {x y:Int} (hx:x=0∨x=1∨x=2∨x=3) (hy:y=0∨y=1∨y=2∨y=3):@t_additiveref22_left wv (enc (p,x),enc (q,y))=some (decide (y=(x+1) % 4)):=by
 obtain ⟨p1,p2⟩:=p
 obtain ⟨q1,q2⟩:=q
 unfold enc Ke
 rcases hx with rfl|rfl|rfl|rfl<;>rcases hy with rfl|rfl|rfl|rfl <;>
 ·simp only [Int.reduceEq,if_true,if_false,↓reduceIte]
  rw [Jk3 (by dsimp only;omega) (by dsimp only;omega) (by dsimp only;omega) (by dsimp only;omega)]
  refine congrArg some (decide_eq_decide.2 ?_)
  have z1:∀a:Int,a+1 - a=1:=fun a=>by omega
  have z2:∀a:Int,a - 1 - a=-1:=fun a=>by omega
  simp only [z1,z2,Int.sub_self]
  decide
theorem Jl8 (a b:Cell):@t_additiveref22_lower wv (a,b)=some (decide (a.2<b.2∨(a.2=b.2∧a.1<b.1))):=by
 unfold t_additiveref22_lower
 dsimp only
 by_cases h:a.2=b.2
 ·rw [br_f (by rw [Jcu];simp [h]),Jl5];simp [h]
 ·rw [br_t (by rw [Jcu];simpa using h),Jl5];simp [h]
instance (a b:Cell):Decidable (yx a b):=inferInstanceAs (Decidable (_∨_))
theorem Jmf {α:Type} (a b:Cell) (k:Bool→Option α):@W.call wv α c_additiveref22_lower (((a.1,a.2),(b.1,b.2)):(Int×Int)×(Int×Int)) k=k (decide (yx a b)):=ca_s (c:=c_additiveref22_lower) (Jl8 a b)
end Go.Proofs.Ytmfagdfkpjgeiaa
namespace Go.Proofs.Ytmfagdfkpjgeiaa
open Go Go.Vv Go.Dn Go.Dn.W
set_option linter.unusedVariables false
set_option linter.unusedSimpArgs false
set_option linter.unusedSectionVars false
set_option maxRecDepth 100000
theorem Jeq {r:Reg} {c:Cell} {k:Ck} (h:k∈cellCk r c):J0 k.1 k.2=c:=by
 rcases Xw.1 h with ⟨_,rfl⟩|⟨_,rfl⟩|⟨_,rfl⟩|⟨_,rfl⟩<;>simp [J0]
theorem Jlm (r:Reg) (c:Cell):(cellCk r c).Nodup:=by
 classical
 unfold cellCk
 split<;>split<;>split<;>split<;>simp
theorem Jvg {r:Reg} (h:RegOK r):(cks r).Nodup:=by
 refine List.pairwise_flatMap.2 ⟨fun c _=>Jlm r c,h.cells_pw.imp fun {a b} hab x hx y hy e=>?_⟩
 rw [e] at hx
 have:=(Jeq hx).symm.trans (Jeq hy)
 subst this
 exact X0 _ hab
theorem Jtl {α:Type} {l:List α} (h:l.Nodup) {i j:Nat} {x:α} (hi:l[i]?=some x) (hj:l[j]?=some x):i=j:=by
 obtain ⟨p1,e1⟩:=Ab.1 hi
 obtain ⟨p2,e2⟩:=Ab.1 hj
 rcases Nat.lt_trichotomy i j with q|q|q
 ·exact (Au.1 h i j p1 p2 q (by rw [e1,e2])).elim
 ·exact q
 ·exact (Au.1 h j i p2 p1 q (by rw [e1,e2])).elim
theorem no_back {r:Reg} {p:Cell} {x:Int} (h:Crk r p x):¬Crk r (Ke x p) ((x+2) % 4):=by
 obtain ⟨p1,p2⟩:=p
 rcases h with ⟨rfl,h3,h4⟩|⟨rfl,h3,h4⟩|⟨rfl,h3,h4⟩|⟨rfl,h3,h4⟩<;>simp [Ke,Crk] at *<;>grind
theorem rule {r:Reg} {c:Ck} (hc:Crk r c.1 c.2) {y:Int} (hy:Crk r (Ke c.2 c.1) y) (hl:y=(c.2+1) % 4∨¬Crk r (Ke c.2 c.1) ((c.2+1) % 4)):(Ke c.2 c.1,y)=nx r c:=by
 unfold nx
 refine Prod.ext rfl ?_
 show y=nxtH r c.1 c.2
 unfold nxtH
 dsimp only
 by_cases h1:Crk r (Ke c.2 c.1) ((c.2+1) % 4)
 ·rw [if_pos h1]
  exact hl.elim id fun h=>(h h1).elim
 ·rw [if_neg h1]
  have hne:y≠(c.2+1) % 4:=fun e=>h1 (e▸hy)
  have hb:=no_back hc
  have hne2:y≠(c.2+2) % 4:=fun e=>hb (e▸hy)
  have hd:=hy.hd
  have hx:=hc.hd
  by_cases h2:Crk r (Ke c.2 c.1) c.2
  ·rw [if_pos h2]
   apply Classical.byContradiction
   intro hne3
   have:=h2.opp hy (fun e=>hne3 e.symm)
   omega
  ·rw [if_neg h2]
   have hne3:y≠c.2:=fun e=>h2 (e▸hy)
   omega
abbrev St23:=HP (List (Cell×Cell)) (HP Int (HP Int (HP Int Unit)))
theorem after_ok {r:Reg} (hr:RegOK r) (hn:(cks r).length≤1000000) {j:Nat} {c:Ck} (hj:(cks r)[j]?=some c) :
  ∃k:Nat,(cks r)[k]?=some (nx r c)∧@t_additiveref22_after wv ((cks r).map enc,(j:Int))=some (k:Int):=by
 have hc:Crk r c.1 c.2:=Kr.1 (Af hj)
 have hje:((cks r).map enc)[j]?=some (enc c):=by rw [Ah,hj];rfl
 have hget:∀ {i:Nat} {d:Ck},(cks r)[i]?=some d→((cks r).map enc)[i]?=some (enc d):=fun {i d} h=>by rw [Ah,h];rfl
 let q:=Ke c.2 c.1
 obtain ⟨e,he,k,hk,rfl⟩:=Qn (b:=@t_additiveref22_after_L0 wv)
  (fun i s=>∃nxt:Int,s=(⟨(cks r).map enc,⟨(j:Int),⟨nxt,⟨(i:Int),()⟩⟩⟩⟩:St23) ∧
   ((nxt=-1∧∀i' d,i'<i→(cks r)[i']?=some d→d.1≠q) ∨
    ∃(k:Nat) (y:Int),nxt=k∧(cks r)[k]?=some (q,y)∧(y=(c.2+1) % 4∨∀i' d,i'<i→(cks r)[i']?=some d→d≠(q,(c.2+1) % 4))))
  (fun e=>∃k:Nat,(cks r)[k]?=some (nx r c)∧e=(⟨(k:Int),()⟩:HP Int Unit))
  (cks r).length (by omega) (s0:=⟨(cks r).map enc,⟨(j:Int),⟨-1,⟨0,()⟩⟩⟩⟩)
  ⟨-1,rfl,.inl ⟨rfl,fun i' d h=>by omega⟩⟩
  (fun i s hi=>by
   rintro ⟨nxt,rfl,hI⟩
   have hx:=Ac hi
   generalize (cks r)[i]=d at hx
   have hd:Crk r d.1 d.2:=Kr.1 (Af hx)
   have e3:@W.ar wv .add .i64 (i:Int) 1=((i+1:Nat):Int):=by rw [J4,wr (by omega) (by omega)];omega
   have hde:=hget hx
   by_cases hq:d.1=q
   ·have htest:@W.an wv (@W.cm wv .eql (enc d).1.1 (enc c).2.1) (@W.cm wv .eql (enc d).1.2 (enc c).2.2)=true:=by
     show ((d.1.1==q.1)&&(d.1.2==q.2))=true
     rw [hq];simp
    obtain ⟨dp,dy⟩:=d
    obtain rfl:dp=q:=hq
    have step:∀y:Int,(y=(c.2+1) % 4∨∀i' d',i'<i+1→(cks r)[i']?=some d'→d'≠(q,(c.2+1) % 4))↔(y=(c.2+1) % 4∨(dy≠(c.2+1) % 4∧∀i' d',i'<i→(cks r)[i']?=some d'→d'≠(q,(c.2+1) % 4))):=fun y=>by
     refine or_congr Iff.rfl ⟨fun h=>⟨fun e=>h i _ (by omega) hx (by rw [e]),fun i' d' hi'=>h i' d' (by omega)⟩,fun ⟨h1,h2⟩ i' d' hi' hd'=>?_⟩
     by_cases e:i'=i
     ·subst e;rw [hx] at hd';injection hd' with hd';rw [←hd'];exact fun e=>h1 (congrArg Prod.snd e)
     ·exact h2 i' d' (by omega) hd'
    rcases hI with ⟨rfl,hno⟩|⟨k,y,rfl,hk,hy⟩
    ·refine ⟨⟨(cks r).map enc,⟨(j:Int),⟨(i:Int),⟨((i+1:Nat):Int),()⟩⟩⟩⟩,?_,(i:Int),rfl,.inr ⟨i,dy,rfl,hx,(step dy).2 ?_⟩⟩
     ·unfold t_additiveref22_after_L0
      dsimp only
      rw [w_ln,Aa,Ks (by omega),ge_s (fg hde),ge_s (fg hje),br_t htest,Ks (by omega),e3]
     ·by_cases e:dy=(c.2+1) % 4
      ·exact .inl e
      ·exact .inr ⟨e,fun i' d' h1 h2 e'=>hno i' d' h1 h2 (by rw [e'])⟩
    ·have hleft:@t_additiveref22_left wv (enc c,enc (q,dy))=some (decide (dy=(c.2+1) % 4)):=Jnz (p:=c.1) (x:=c.2) hc.hd hd.hd
     by_cases e:dy=(c.2+1) % 4
     ·refine ⟨⟨(cks r).map enc,⟨(j:Int),⟨(i:Int),⟨((i+1:Nat):Int),()⟩⟩⟩⟩,?_,(i:Int),rfl,.inr ⟨i,dy,rfl,hx,(step dy).2 (.inl e)⟩⟩
      unfold t_additiveref22_after_L0
      dsimp only
      rw [w_ln,Aa,Ks (by omega),ge_s (fg hde),ge_s (fg hje),br_t htest,Jz (by omega),ge_s (fg hje),ge_s (fg hde)]
      refine (ca_s (c:=c_additiveref22_left) hleft).trans ?_
      rw [br_t (decide_eq_true e),e3]
     ·refine ⟨⟨(cks r).map enc,⟨(j:Int),⟨(k:Int),⟨((i+1:Nat):Int),()⟩⟩⟩⟩,?_,(k:Int),rfl,.inr ⟨k,y,rfl,hk,(step y).2 (hy.imp id fun h=>⟨e,h⟩)⟩⟩
      unfold t_additiveref22_after_L0
      dsimp only
      rw [w_ln,Aa,Ks (by omega),ge_s (fg hde),ge_s (fg hje),br_t htest,Jz (by omega),ge_s (fg hje),ge_s (fg hde)]
      refine (ca_s (c:=c_additiveref22_left) hleft).trans ?_
      rw [br_f (decide_eq_false e),e3]
   ·have htest:@W.an wv (@W.cm wv .eql (enc d).1.1 (enc c).2.1) (@W.cm wv .eql (enc d).1.2 (enc c).2.2)=false:=by
     show ((d.1.1==q.1)&&(d.1.2==q.2))=false
     rw [Bq,beq_eq_false_iff_ne,beq_eq_false_iff_ne]
     by_cases h1:d.1.1=q.1
     ·exact .inr fun h2=>hq (Prod.ext h1 h2)
     ·exact .inl h1
    refine ⟨⟨(cks r).map enc,⟨(j:Int),⟨nxt,⟨((i+1:Nat):Int),()⟩⟩⟩⟩,?_,nxt,rfl,?_⟩
    ·unfold t_additiveref22_after_L0
     dsimp only
     rw [w_ln,Aa,Ks (by omega),ge_s (fg hde),ge_s (fg hje),br_f htest,e3]
    ·rcases hI with ⟨rfl,hno⟩|⟨k,y,rfl,hk,hy⟩
     ·refine .inl ⟨rfl,fun i' d' h1 h2=>?_⟩
      by_cases e:i'=i
      ·subst e;rw [hx] at h2;injection h2 with h2;rw [←h2];exact hq
      ·exact hno i' d' (by omega) h2
     ·refine .inr ⟨k,y,rfl,hk,hy.imp id fun h i' d' h1 h2=>?_⟩
      by_cases e:i'=i
      ·subst e;rw [hx] at h2;injection h2 with h2;rw [←h2];exact fun e=>hq (congrArg Prod.fst e)
      ·exact h i' d' (by omega) h2)
  (by
   rintro s ⟨nxt,rfl,hI⟩
   have hall:∀d:Ck,Crk r d.1 d.2→∃i,i<(cks r).length∧(cks r)[i]?=some d:=fun d hd=>by
    obtain ⟨i,hi⟩:=Am (Kr.2 hd)
    exact ⟨i,(Ab.1 hi).1,hi⟩
   rcases hI with ⟨rfl,hno⟩|⟨k,y,rfl,hk,hy⟩
   ·obtain ⟨i,h1,h2⟩:=hall (nx r c) (Jmw hc)
    exact (hno i _ h1 h2 rfl).elim
   ·refine ⟨⟨(k:Int),()⟩,?_,k,?_,rfl⟩
    ·unfold t_additiveref22_after_L0
     dsimp only
     rw [w_ln,Aa,Jz (by omega)]
    ·rw [←rule hc (y:=y) (Kr.1 (Af hk)) (hy.imp id fun h hx=>?_)]
     ·exact hk
     ·obtain ⟨i,h1,h2⟩:=hall (q,(c.2+1) % 4) hx
      exact h i _ h1 h2 rfl)
 exact ⟨k,hk,(lo_s he).trans rfl⟩
theorem k_after {r:Reg} (hr:RegOK r) (hn:(cks r).length≤1000000) {j:Nat} {c:Ck} (hj:(cks r)[j]?=some c) :
  ∃k:Nat,(cks r)[k]?=some (nx r c)∧∀ {α:Type} (K:Int→Option α),@W.call wv α c_additiveref22_after (((cks r).map enc,(j:Int)):List ((Int×Int)×(Int×Int))×Int) K=K (k:Int):=by
 obtain ⟨k,h1,h2⟩:=after_ok hr hn hj
 exact ⟨k,h1,fun K=>ca_s (c:=c_additiveref22_after) h2⟩
end Go.Proofs.Ytmfagdfkpjgeiaa
namespace Go.Proofs.Ytmfagdfkpjgeiaa
open Go Go.Vv Go.Dn Go.Dn.W
set_option linter.unusedVariables false
set_option linter.unusedSimpArgs false
set_option linter.unusedSectionVars false
set_option maxRecDepth 100000
theorem Jc3 (r:Reg) (c:Ck):(pol r c)[0]?=some c.1:=rfl
theorem le_t {α:Type} {a b:Int} {x:Option α} (h:a≤b):@W.gd wv α (@W.le wv a b) x=x:=gd_t (by rw [w_le];exact decide_eq_true h)
abbrev St24:=HP (List (List Cell)) (HP Int (HP (List Cell) Unit))
theorem Juo {r:Reg} {ls:List Ck} (hl:ls.length≤1000000) (hp:ls.Pairwise fun a b=>yx a.1 b.1) {s:Ck} (hs:∀a∈ls,a.1≠s.1) :
  ∃ls':List Ck,@t_additiveref22_insert wv (ls.map (pol r),pol r s)=some (ls'.map (pol r))∧(ls'.Pairwise fun a b=>yx a.1 b.1)∧∀x,x∈ls'↔x∈ls∨x=s:=by
 obtain ⟨e,he,k,hk,rfl,h1,h2⟩:=Jjo (b:=@t_additiveref22_insert_L0 wv)
  (fun st=>∃i:Nat,i≤ls.length∧st=(⟨ls.map (pol r),⟨(i:Int),⟨pol r s,()⟩⟩⟩:St24)∧∀j a,j<i→ls[j]?=some a→yx a.1 s.1)
  (fun e=>∃k:Nat,k≤ls.length∧e=(⟨ls.map (pol r),⟨(k:Int),⟨pol r s,()⟩⟩⟩:St24)∧(∀j a,j<k→ls[j]?=some a→yx a.1 s.1)∧∀j a,k≤j→ls[j]?=some a→yx s.1 a.1)
  (fun st=>ls.length - st.tl.hd.toNat)
  (fun st=>by
   rintro ⟨i,hi,rfl,hI⟩
   by_cases hlt:i<ls.length
   ·have hx:=Ac hlt
    generalize ls[i]=a at hx
    have hm:(ls.map (pol r))[i]?=some (pol r a):=by rw [Ah,hx];rfl
    have e3:@W.ar wv .add .i64 (i:Int) 1=((i+1:Nat):Int):=by rw [J4,wr (by omega) (by omega)];omega
    by_cases hy:yx a.1 s.1
    ·refine .inl ⟨⟨ls.map (pol r),⟨((i+1:Nat):Int),⟨pol r s,()⟩⟩⟩,?_,⟨i+1,by omega,rfl,fun j b hj hb=>?_⟩,?_⟩
     ·unfold t_additiveref22_insert_L0
      dsimp only
      rw [w_ln,Aa,Ks (by omega),ge_s (fg hm),ge_s (fg0 (Jc3 r a)),ge_s (fg0 (Jc3 r s)),Jmf,br_t (decide_eq_true hy),e3]
     ·by_cases e:j=i
      ·subst e;rw [hx] at hb;injection hb with hb;rw [←hb];exact hy
      ·exact hI j b (by omega) hb
     ·dsimp only;omega
    ·refine .inr ⟨_,?_,i,hi,rfl,hI,fun j b hj hb=>?_⟩
     ·unfold t_additiveref22_insert_L0
      dsimp only
      rw [w_ln,Aa,Ks (by omega),ge_s (fg hm),ge_s (fg0 (Jc3 r a)),ge_s (fg0 (Jc3 r s)),Jmf,br_f (decide_eq_false hy)]
     ·have hsa:yx s.1 a.1:=by
       rcases Jo0 a.1 s.1 with q|q|q
       ·exact (hy q).elim
       ·exact (hs a (Af hx) q).elim
       ·exact q
      rcases Nat.lt_or_eq_of_le hj with q|q
      ·obtain ⟨p1,e1⟩:=Ab.1 hx
       obtain ⟨p2,e2⟩:=Ab.1 hb
       have:=Au.1 hp i j p1 p2 q
       rw [e1,e2] at this
       exact Ji3 hsa this
      ·subst q;rw [hx] at hb;injection hb with hb;rw [←hb];exact hsa
   ·have:i=ls.length:=by omega
    subst this
    refine .inr ⟨_,?_,ls.length,Bl _,rfl,hI,fun j b hj hb=>by have:=(Ab.1 hb).1;omega⟩
    unfold t_additiveref22_insert_L0
    dsimp only
    rw [w_ln,Aa,Jz (by omega)]) (s0:=⟨ls.map (pol r),⟨0,⟨pol r s,()⟩⟩⟩)
  ⟨0,Nat.zero_le _,rfl,fun j a h=>by omega⟩ (by dsimp only;omega)
 refine ⟨ls.take k++s::ls.drop k,?_,?_,fun x=>?_⟩
 ·refine (lo_s he).trans ?_
  have c1:@W.ct wv (List Cell) (ls.map (pol r)) 0 (k:Int)=(ls.take k).map (pol r):=by rw [w_ct];simp
  have c2:@W.ct wv (List Cell) (ls.map (pol r)) (k:Int) (@W.mi wv (@W.ln wv (List Cell) (ls.map (pol r))) (k:Int))=(ls.drop k).map (pol r):=by
   rw [w_ct,w_mi,w_ln,Bb (by simp),Ay,List.map_drop]
  dsimp only
  rw [c1,c2,le_t (by omega),le_t (by rw [w_ln,Aa];omega)]
  simp only [w_ln,w_pl,w_ap,Ad,Aa,Av,List.length_drop,Ak,List.length_nil]
  rw [fitB (by omega) (by omega) (by decide),fitB (by omega) (by omega) (by decide),le_t (by omega),le_t (by omega),fitB (by omega) (by omega) (by decide)]
  simp
 ·refine Br.2 ⟨hp.sublist (List.take_sublist _ _),List.pairwise_cons.2 ⟨fun a ha=>?_,hp.sublist (List.drop_sublist _ _)⟩,fun a ha b hb=>?_⟩
  ·obtain ⟨j,hj⟩:=Am ha
   rw [List.getElem?_drop] at hj
   exact h2 _ a (by omega) hj
  ·obtain ⟨j,hj⟩:=Am ha
   have hjk:=(Ab.1 hj).1
   rw [Av] at hjk
   rw [List.getElem?_take_of_lt (by omega)] at hj
   have hya:=h1 j a (by omega) hj
   rcases Bt.1 hb with rfl|hb
   ·exact hya
   ·obtain ⟨i,hi⟩:=Am hb
    rw [List.getElem?_drop] at hi
    exact Ji3 hya (h2 _ b (by omega) hi)
 ·have hm:x∈ls↔x∈ls.take k∨x∈ls.drop k:=by rw [←As,List.take_append_drop]
  rw [hm,As,Bt]
  exact ⟨fun h=>h.elim (fun h=>.inl (.inl h)) fun h=>h.elim .inr fun h=>.inl (.inr h),fun h=>h.elim (fun h=>h.elim .inl fun h=>.inr (.inr h)) fun h=>.inr (.inl h)⟩
noncomputable def ringL (r:Reg) (c:Ck) (n:Nat):List (Cell×Cell):=(Ae n).map fun k=>enc (itr (nx r) k c)
theorem Jjn {r:Reg} {c:Ck} {n k:Nat} (h:k<n):(ringL r c n)[k]?=some (enc (itr (nx r) k c)):=by
 unfold ringL
 rw [Ah,Bu h]
 rfl
theorem Jv2 (c:Ck):(enc c).2.1 - (enc c).1.1=(dirH c.2).1∧(enc c).2.2 - (enc c).1.2=(dirH c.2).2:=by
 unfold enc
 rw [Jbg]
 unfold addC
 dsimp only
 omega
theorem dirH_inj {x y:Int} (hx:x=0∨x=1∨x=2∨x=3) (hy:y=0∨y=1∨y=2∨y=3):((dirH x).1=(dirH y).1∧(dirH x).2=(dirH y).2)↔x=y:=by
 rcases hx with rfl|rfl|rfl|rfl<;>rcases hy with rfl|rfl|rfl|rfl<;>simp [dirH]
abbrev St25:=HP (List (Cell×Cell)) (HP Int (HP Int (HP (List Cell) Unit)))
theorem Jkc {r:Reg} (hr:RegOK r) {c:Ck} (h:Crk r c.1 c.2):∀k,∀d:Cell×Cell,d=enc (itr (nx r) k c)→J7 d.1∧J7 d.2:=by
 rintro k d rfl
 exact ⟨Qe hr (Km h k),Qe hr (Km h (k+1))⟩
theorem Jqt {r:Reg} (hr:RegOK r) {c:Ck} (h:Crk r c.1 c.2) {N:Nat} (hN:Rnd (nx r) c N) (hle:N≤1000000) :
  Kz (@t_additiveref22_polygon_L0 wv) bigN ⟨ringL r c N,⟨(N:Int),⟨0,⟨[],()⟩⟩⟩⟩=some ⟨seg r c (N - 1) N,()⟩:=by
 have hp:=hN.pos
 have hseg:seg r c (N - 1) 0=[]:=rfl
 refine (hseg▸Kv (b:=@t_additiveref22_polygon_L0 wv) (fun i=>(⟨ringL r c N,⟨(N:Int),⟨(i:Int),⟨seg r c (N - 1) i,()⟩⟩⟩⟩:St25)) N (by omega) (fun i hi=>?_) ?_)
 ·have e3:@W.ar wv .add .i64 (i:Int) 1=((i+1:Nat):Int):=by rw [J4,wr (by omega) (by omega)];omega
  have e4:@W.ar wv .rem .i64 (@W.ar wv .sub .i64 (@W.ar wv .add .i64 (i:Int) (N:Int)) 1) (N:Int)=(((i+N - 1) % N:Nat):Int):=by
   rw [J4,wr (by omega) (by omega),Qs,wr (by omega) (by omega),Jub,Aq (by omega),show (i:Int)+(N:Int) - 1=((i+N - 1:Nat):Int) by omega]
   exact (Int.natCast_emod _ _).symm
  have hj:(i+N - 1) % N<N:=Nat.mod_lt _ hp
  have ep:itr (nx r) ((i+N - 1) % N) c=itr (nx r) (N - 1+i) c:=by
   by_cases h0:i=0
   ·subst h0;rw [Bd (by omega)];congr 1;omega
   ·rw [show i+N - 1=i - 1+N by omega,Nat.add_mod_right,Bd (by omega),show N - 1+i=i - 1+N by omega,hN.per]
  have ec:itr (nx r) i c=itr (nx r) (N - 1+i+1) c:=by rw [show N - 1+i+1=i+N by omega,hN.per]
  have g0:=Jjn (r:=r) (c:=c) hj
  have g1:=Jjn (r:=r) (c:=c) hi
  rw [ep] at g0
  rw [ec] at g1
  have hs0:=Jkc hr h (N - 1+i) _ rfl
  have hs1:=Jkc hr h (N - 1+i+1) _ rfl
  have d0:=Jv2 (itr (nx r) (N - 1+i) c)
  have d1:=Jv2 (itr (nx r) (N - 1+i+1) c)
  have hinj:=dirH_inj (Km h (N - 1+i+1)).hd (Km h (N - 1+i)).hd
  have hf:(enc (itr (nx r) (N - 1+i+1) c)).1=(itr (nx r) (N - 1+i+1) c).1:=rfl
  have hT:turnAt r c (N - 1+i)=if (itr (nx r) (N - 1+i+1) c).2=(itr (nx r) (N - 1+i) c).2 then none else some (itr (nx r) (N - 1+i+1) c).1:=rfl
  rw [←hf] at hT
  have hsl:=Jnx r c (N - 1) i
  unfold J7 at hs0 hs1
  rw [Jbd,hT]
  generalize enc (itr (nx r) (N - 1+i) c)=u at *
  generalize enc (itr (nx r) (N - 1+i+1) c)=v at *
  generalize (itr (nx r) (N - 1+i+1) c).2=y at *
  generalize (itr (nx r) (N - 1+i) c).2=x at *
  have es:∀a b:Int,-2000000000≤a - b∧a - b≤2000000000→@W.ar wv .sub .i64 a b=a - b:=fun a b _=>by rw [Qs,wr (by omega) (by omega)]
  unfold t_additiveref22_polygon_L0
  dsimp only
  rw [Ks (by omega),gd_t (by rw [Jcu];simp;omega),e4,ge_s (fg g0),ge_s (fg g1),ge_s (fg g1),es u.2.1 u.1.1 (by omega),es v.2.1 v.1.1 (by omega),d0.1,d1.1]
  by_cases hx:(dirH x).1=(dirH y).1
  ·rw [br_f (by rw [Jcu];simp [hx]),ge_s (fg g1),ge_s (fg g1),es u.2.2 u.1.2 (by omega),es v.2.2 v.1.2 (by omega),d0.2,d1.2]
   by_cases hy:(dirH x).2=(dirH y).2
   ·rw [br_f (by rw [Jcu];simp [hy]),e3,if_pos (hinj.1 ⟨hx.symm,hy.symm⟩)]
    simp
   ·rw [br_t (by rw [Jcu];simpa using hy),ge_s (fg g1),w_ln,w_pl,Jaq (by omega) (by omega),e3,w_ap,if_neg fun e=>hy (hinj.2 e).2.symm]
    rfl
  ·rw [br_t (by rw [Jcu];simpa using hx),ge_s (fg g1),w_ln,w_pl,Jaq (by omega) (by omega),e3,w_ap,if_neg fun e=>hx (hinj.2 e).1.symm]
   rfl
 ·unfold t_additiveref22_polygon_L0
  dsimp only
  rw [Jz (by omega)]
theorem Jqv {T A B:List Cell} {p:Cell} (hT:T=A++p::B) (hlt:∀x∈A++B,yx p x) (hl:T.length≤1000000) :
  Kz (@t_additiveref22_polygon_L1 wv) bigN ⟨0,⟨0,⟨T,()⟩⟩⟩=some ⟨(A.length:Int),⟨T,()⟩⟩:=by
 have hp:T[A.length]?=some p:=by rw [hT,Bm (Bl _),Nat.sub_self];rfl
 have hlen:T.length=A.length+B.length+1:=by rw [hT,Ad,Ak];omega
 have hoth:∀j x,T[j]?=some x→j≠A.length→yx p x:=fun j x hj hne=>by
  refine hlt x ?_
  rw [hT] at hj
  by_cases h:j<A.length
  ·rw [List.getElem?_append_left h] at hj
   exact As.2 (.inl (Af hj))
  ·rw [Bm (by omega),List.getElem?_cons,if_neg (by omega)] at hj
   exact As.2 (.inr (Af hj))
 obtain ⟨e,he,rfl⟩:=Qn (b:=@t_additiveref22_polygon_L1 wv)
  (fun i st=>∃f:Nat,st=(⟨(f:Int),⟨(i:Int),⟨T,()⟩⟩⟩:HP Int (HP Int (HP (List Cell) Unit)))∧f<T.length∧(A.length<i→f=A.length))
  (fun e=>e=(⟨(A.length:Int),⟨T,()⟩⟩:HP Int (HP (List Cell) Unit))) T.length (by omega) (s0:=⟨0,⟨0,⟨T,()⟩⟩⟩)
  ⟨0,rfl,by omega,fun h=>by omega⟩
  (fun i st hi=>by
   rintro ⟨f,rfl,hf,hI⟩
   have e3:@W.ar wv .add .i64 (i:Int) 1=((i+1:Nat):Int):=by rw [J4,wr (by omega) (by omega)];omega
   have hx:=Ac hi
   have hg:=Ac hf
   generalize T[i]=x at hx
   generalize T[f]=y at hg
   have hb:@t_additiveref22_polygon_L1 wv ⟨(f:Int),⟨(i:Int),⟨T,()⟩⟩⟩=if yx x y then some (.go ⟨(i:Int),⟨((i+1:Nat):Int),⟨T,()⟩⟩⟩) else some (.go ⟨(f:Int),⟨((i+1:Nat):Int),⟨T,()⟩⟩⟩):=by
    unfold t_additiveref22_polygon_L1
    dsimp only
    rw [w_ln,Ks (by omega),Jcy (by omega),ge_s (fg hx),Jcy (by omega),ge_s (fg hg),Jmf,e3]
    by_cases h:yx x y
    ·rw [br_t (decide_eq_true h),if_pos h]
    ·rw [br_f (decide_eq_false h),if_neg h]
   rw [hb]
   by_cases h:yx x y
   ·rw [if_pos h]
    refine ⟨_,rfl,i,rfl,hi,fun h2=>?_⟩
    by_cases h3:i=A.length
    ·exact h3
    ·have hfA:=hI (by omega)
     subst hfA
     rw [hp] at hg;injection hg with hg;subst hg
     exact (Jic h (hoth i x hx h3)).elim
   ·rw [if_neg h]
    refine ⟨_,rfl,f,rfl,hf,fun h2=>?_⟩
    by_cases h3:i=A.length
    ·by_cases h4:f=A.length
     ·exact h4
     ·subst h3
      rw [hp] at hx;injection hx with hx;subst hx
      exact (h (hoth f y hg h4)).elim
    ·exact hI (by omega))
  (by
   rintro st ⟨f,rfl,hf,hI⟩
   have:=hI (by omega)
   subst this
   refine ⟨_,?_,rfl⟩
   unfold t_additiveref22_polygon_L1
   dsimp only
   rw [w_ln,Jz (by omega)])
 exact he
theorem Jrl {r:Reg} (hr:RegOK r) {c:Ck} (h:Crk r c.1 c.2) {N:Nat} (hN:Rnd (nx r) c N) (hle:N≤1000000) {j:Nat} (hj:j<N) (hs:Least r (itr (nx r) j c)) :
  @t_additiveref22_polygon wv (ringL r c N)=some (pol r (itr (nx r) j c)):=by
 obtain ⟨A,B,h1,h2,h3⟩:=Js7 h hN hj hs
 have hlen:(seg r c (N - 1) N).length≤1000000:=Nat.le_trans (Jnx r c (N - 1) N) hle
 have hA:(seg r c (N - 1) N).length=A.length+B.length+1:=by rw [h1,Ad,Ak];omega
 have e0:(ringL r c N).length=N:=by unfold ringL;rw [Aa,Ag]
 have hpe:perN r (itr (nx r) j c)=N:=Jnh hs.1 (hN.from (ring r) (Kr.2 h) j)
 unfold t_additiveref22_polygon
 rw [w_ln,e0]
 refine (lo_s (Jqt hr h hN hle)).trans ?_
 dsimp only
 refine (lo_s (Jqv h1 h3 hlen)).trans ?_
 have c1:@W.ct wv Cell (seg r c (N - 1) N) 0 (A.length:Int)=A:=by rw [w_ct,h1];simp
 have c2:@W.ct wv Cell (seg r c (N - 1) N) (A.length:Int) (@W.mi wv (@W.ln wv Cell (seg r c (N - 1) N)) (A.length:Int))=(itr (nx r) j c).1::B:=by
  rw [w_ct,w_mi,w_ln,h1,Ay,List.drop_left,Bb (by simp only [Ad,Ak];omega)]
 dsimp only
 rw [c1,c2]
 simp only [w_ln,w_mi,w_pl,hA,Ak]
 rw [le_t (by omega),le_t (by omega),le_t (by omega),le_t (by omega),le_t (by omega),Jaq (by omega) (by omega),le_t (by omega),le_t (by omega),le_t (by omega),le_t (by omega),le_t (by omega),Jaq (by omega) (by omega),w_ap,←h2]
 unfold pol
 rw [hpe]
end Go.Proofs.Ytmfagdfkpjgeiaa
namespace Go.Proofs.Ytmfagdfkpjgeiaa
open Go Go.Vv Go.Dn Go.Dn.W
set_option linter.unusedVariables false
set_option linter.unusedSimpArgs false
set_option linter.unusedSectionVars false
set_option maxRecDepth 100000
structure Marks (r:Reg) (done:List Bool) (D:Ck→Prop):Prop where
 len:done.length=(cks r).length
 at_:∀(j:Nat) (c:Ck),(cks r)[j]?=some c→(done[j]?=some true↔D c)
theorem Marks.get {r:Reg} {done:List Bool} {D:Ck→Prop} (h:Marks r done D) {j:Nat} {c:Ck} (hj:(cks r)[j]?=some c):∃b,done[j]?=some b∧(b=true↔D c):=by
 have hlt:=(Ab.1 hj).1
 have hb:=Ac (l:=done) (i:=j) (by rw [h.len];exact hlt)
 refine ⟨done[j]'(by rw [h.len];exact hlt),hb,?_⟩
 rw [←h.at_ j c hj,hb]
 simp
theorem Marks.set {r:Reg} (hr:RegOK r) {done:List Bool} {D:Ck→Prop} (h:Marks r done D) {j:Nat} {c:Ck} (hj:(cks r)[j]?=some c):Marks r (done.set j true) fun d=>D d∨d=c:=by
 refine ⟨by rw [List.length_set,h.len],fun i d hi=>?_⟩
 have hlt:=(Ab.1 hi).1
 rw [List.getElem?_set]
 by_cases e:j=i
 ·subst e
  rw [if_pos rfl,if_pos (by rw [h.len];exact hlt)]
  rw [hj] at hi;injection hi with hi
  exact ⟨fun _=>.inr hi.symm,fun _=>rfl⟩
 ·rw [if_neg e,h.at_ i d hi]
  refine ⟨.inl,fun q=>q.elim id fun q=>?_⟩
  subst q
  exact (e (Jtl (Jvg hr) hj hi)).elim
abbrev St26:=HP (List (Cell×Cell)) (HP (List (List Cell)) (HP Int (HP Int (HP (List Bool) (HP (List (Cell×Cell)) Unit)))))
abbrev Ou26:=HP (List (Cell×Cell)) (HP (List (List Cell)) (HP Int (HP (List Bool) (HP (List (Cell×Cell)) Unit))))
noncomputable abbrev st26 (r:Reg) (out:List (List Cell)) (i at_:Int) (done:List Bool) (loop:List (Cell×Cell)):St26:=⟨(cks r).map enc,⟨out,⟨i,⟨at_,⟨done,⟨loop,()⟩⟩⟩⟩⟩⟩
noncomputable abbrev ou26 (r:Reg) (out:List (List Cell)) (i:Int) (done:List Bool) (loop:List (Cell×Cell)):Ou26:=⟨(cks r).map enc,⟨out,⟨i,⟨done,⟨loop,()⟩⟩⟩⟩⟩
theorem Jvy {r:Reg} {out:List (List Cell)} {i:Int} {j:Nat} {done:List Bool} {loop:List (Cell×Cell)} (hj:done[j]?=some true) :
  @t_additiveref22_Trace_L1 wv (st26 r out i j done loop)=some (.out (ou26 r out i done loop)):=by
 have hlt:=(Ab.1 hj).1
 unfold t_additiveref22_Trace_L1
 dsimp only
 rw [w_ln,Jcy (by omega),ge_s (fg hj),br_f (by rfl)]
theorem T1_go {r:Reg} (hr:RegOK r) (hn:(cks r).length≤1000000) {out:List (List Cell)} {i:Int} {j:Nat} {done:List Bool} {loop:List (Cell×Cell)} (hlo:loop.length≤1000000) (hj:done[j]?=some false) {c:Ck} (hc:(cks r)[j]?=some c) :
  ∃k:Nat,(cks r)[k]?=some (nx r c)∧@t_additiveref22_Trace_L1 wv (st26 r out i j done loop)=some (.go (st26 r out i k (done.set j true) (loop++[enc c]))):=by
 have hlt:=(Ab.1 hj).1
 obtain ⟨k,h1,h2⟩:=k_after hr hn hc
 refine ⟨k,h1,?_⟩
 have hje:((cks r).map enc)[j]?=some (enc c):=by rw [Ah,hc];rfl
 unfold t_additiveref22_Trace_L1
 dsimp only
 rw [w_ln,Jcy (by omega),ge_s (fg hj),br_t (by rfl),Jcy (by omega),ge_s (fg hj),ge_s (fg hje),w_ln,w_pl,fit32 (by omega) (by omega),h2,w_st,w_ap,Ay]
theorem T1_ok {r:Reg} (hr:RegOK r) (hn:(cks r).length≤1000000) {D:Ck→Prop} (hD:Closed r D) {done:List Bool} (hM:Marks r done D) {j:Nat} {c:Ck} (hc:(cks r)[j]?=some c) (hcD:¬D c) (out:List (List Cell)) (i:Int) :
  ∃done',Kz (@t_additiveref22_Trace_L1 wv) bigN (st26 r out i j done [])=some (ou26 r out i done' (ringL r c (perN r c)))∧Marks r done' fun d=>D d∨∃k,d=itr (nx r) k c:=by
 have hcm:=Af hc
 have hcc:=Kr.1 hcm
 have hN:=Yk hcc
 have hle:=Jbq hcc
 generalize perN r c=N at *
 have hout:∀k,¬D (itr (nx r) k c):=fun k hk=>by
  obtain ⟨m,hm⟩:=hN.to c k
  exact hcD (hm▸hD.itr hk m)
 have hst0:ringL r c 0=[]:=rfl
 obtain ⟨e,he,done',rfl,h⟩:=Qn (b:=@t_additiveref22_Trace_L1 wv)
  (fun k st=>∃(a:Nat) (dn:List Bool),st=st26 r out i a dn (ringL r c k)∧(cks r)[a]?=some (itr (nx r) k c)∧Marks r dn fun d=>D d∨∃m,m<k∧d=itr (nx r) m c)
  (fun e=>∃dn,e=ou26 r out i dn (ringL r c N)∧Marks r dn fun d=>D d∨∃k,d=itr (nx r) k c)
  N (by omega) (s0:=st26 r out i j done [])
  ⟨j,done,rfl,hc,hM.len,fun j c hj=>(hM.at_ j c hj).trans ⟨.inl,fun h=>h.elim id fun ⟨m,hm,_⟩=>by omega⟩⟩
  (fun k st hk=>by
   rintro ⟨a,dn,rfl,ha,hm⟩
   obtain ⟨b,hb,hbD⟩:=hm.get ha
   have hbf:b=false:=by
    cases b with
    | false=>rfl
    | true =>
     rcases hbD.1 rfl with q|⟨m,q1,q2⟩
     ·exact (hout k q).elim
     ·have:=(ring r).dist hcm hN (i:=m) (j:=k) (by omega) hk q2.symm
      omega
   subst hbf
   obtain ⟨k',h1,h2⟩:=T1_go hr hn (out:=out) (i:=i) (loop:=ringL r c k) (by unfold ringL;rw [Aa,Ag];omega) hb ha
   refine ⟨_,h2,k',dn.set a true,?_,h1,(hm.set hr ha).len,fun j d hj=>((hm.set hr ha).at_ j d hj).trans ?_⟩
   ·unfold ringL
    rw [Bg,Ai]
    rfl
   ·constructor
    ·rintro ((q|⟨m,q1,q2⟩)|q)
     ·exact .inl q
     ·exact .inr ⟨m,by omega,q2⟩
     ·exact .inr ⟨k,by omega,q⟩
    ·rintro (q|⟨m,q1,q2⟩)
     ·exact .inl (.inl q)
     ·by_cases e:m=k
      ·subst e;exact .inr q2
      ·exact .inl (.inr ⟨m,by omega,q2⟩))
  (by
   rintro st ⟨a,dn,rfl,ha,hm⟩
   have hD:D (itr (nx r) N c)∨∃m,m<N∧itr (nx r) N c=itr (nx r) m c:=.inr ⟨0,hN.pos,hN.back⟩
   refine ⟨_,Jvy ((hm.at_ a _ ha).2 hD),dn,rfl,hm.len,fun j d hj=>(hm.at_ j d hj).trans ⟨fun q=>q.imp id fun ⟨m,_,h⟩=>⟨m,h⟩,fun q=>q.imp id fun ⟨m,h⟩=>?_⟩⟩
   obtain ⟨m',h1,h2⟩:=hN.modN m
   exact ⟨m',h1,h.trans h2⟩)
 exact ⟨done',he,h⟩
theorem Closed.add {r:Reg} {D:Ck→Prop} (h:Closed r D) {c:Ck} (hc:Crk r c.1 c.2):Closed r fun d=>D d∨∃k,d=Go.Proofs.Ytmfagdfkpjgeiaa.itr (nx r) k c:=by
 refine ⟨fun d hd=>hd.elim (h.1 d) fun ⟨k,e⟩=>by rw [e];exact Km hc k,fun d hd=>hd.imp (h.2 d) fun ⟨k,e⟩=>⟨k+1,by rw [e];rfl⟩⟩
abbrev St27:=HP (List (Cell×Cell)) (HP (List (List Cell)) (HP Int (HP (List Bool) Unit)))
noncomputable abbrev st27 (r:Reg) (out:List (List Cell)) (i:Int) (done:List Bool):St27:=⟨(cks r).map enc,⟨out,⟨i,⟨done,()⟩⟩⟩⟩
theorem T0_ok {r:Reg} (hr:RegOK r) (hn:(cks r).length≤1000000):Kz (@t_additiveref22_Trace_L0 wv) bigN (st27 r [] 0 (List.replicate (cks r).length false))=some ⟨(starts r).map (pol r),()⟩:=by
 obtain ⟨e,he,ls,hst,rfl⟩:=Qn (b:=@t_additiveref22_Trace_L0 wv)
  (fun i st=>∃(D:Ck→Prop) (done:List Bool) (ls:List Ck),st=st27 r (ls.map (pol r)) i done∧Closed r D∧Marks r done D∧(∀j c,j<i→(cks r)[j]?=some c→D c) ∧
   (ls.Pairwise fun a b=>yx a.1 b.1)∧∀s,s∈ls↔Least r s∧D s)
  (fun e=>∃ls,Starts r ls∧e=(⟨ls.map (pol r),()⟩:HP (List (List Cell)) Unit))
  (cks r).length (by omega) (s0:=st27 r [] 0 (List.replicate (cks r).length false))
  ⟨fun _=>False,_,[],rfl,⟨fun c h=>h.elim,fun c h=>h⟩,⟨List.length_replicate,fun j c hj=>by
   have:=(Ab.1 hj).1
   rw [List.getElem?_replicate,if_pos this];simp⟩,fun j c h=>by omega,.nil,fun s=>by simp⟩
  (fun i st hi=>by
   rintro ⟨D,done,ls,rfl,hD,hM,hlt,hpw,hls⟩
   have e3:@W.ar wv .add .i64 (i:Int) 1=((i+1:Nat):Int):=by rw [J4,wr (by omega) (by omega)];omega
   have hx:=Ac hi
   generalize (cks r)[i]=c at hx
   have hcc:=Kr.1 (Af hx)
   obtain ⟨b,hb,hbD⟩:=hM.get hx
   have hlsn:ls.length≤1000000:=by
    have hnd:ls.Nodup:=hpw.imp fun {a b} (h:yx a.1 b.1) (e:a=b)=>X0 a.1 (by subst e;exact h)
    have:=Ye hnd fun s hs=>((hls s).1 hs).1.mem
    omega
   cases b with
   | true =>
    refine ⟨st27 r (ls.map (pol r)) ((i+1:Nat):Int) done,?_,D,done,ls,rfl,hD,hM,fun j d hj hd=>?_,hpw,hls⟩
    ·unfold t_additiveref22_Trace_L0
     dsimp only
     rw [w_ln,Aa,Ks (by omega)]
     refine (lo_s (show Kz (@t_additiveref22_Trace_L1 wv) bigN (st26 r (ls.map (pol r)) i i done [])=some (ou26 r (ls.map (pol r)) i done []) from Xt (n:=18446744073709551615) (Jvy hb))).trans ?_
     dsimp only
     rw [br_f (by rfl),e3]
    ·by_cases e:j=i
     ·subst e;rw [hx] at hd;injection hd with hd;subst hd;exact hbD.1 rfl
     ·exact hlt j d (by omega) hd
   | false =>
    have hcD:¬D c:=fun h=>by have:=hbD.2 h;cases this
    obtain ⟨done',h1,h2⟩:=T1_ok hr hn hD hM hx hcD (ls.map (pol r)) i
    have hN:=Yk hcc
    have hle:=Jbq hcc
    obtain ⟨j0,hl0⟩:=Juu hcc
    obtain ⟨j,hj,ej⟩:=hN.modN j0
    rw [ej] at hl0
    have hpoly:=Jrl hr hcc hN (by omega) hj hl0
    have hsD:¬D (itr (nx r) j c):=fun h=>by
     obtain ⟨m,hm⟩:=hN.to c j
     exact hcD (hm▸hD.itr h m)
    obtain ⟨ls',g1,g2,g3⟩:=Juo (r:=r) hlsn hpw (s:=itr (nx r) j c) fun a ha e=>by
     have:=((hls a).1 ha)
     exact hsD ((hl0.uniq this.1 e)▸this.2)
    refine ⟨st27 r (ls'.map (pol r)) ((i+1:Nat):Int) done',?_,_,done',ls',rfl,hD.add hcc,h2,fun j' d hj' hd=>?_,g2,fun s=>?_⟩
    ·unfold t_additiveref22_Trace_L0
     dsimp only
     rw [w_ln,Aa,Ks (by omega)]
     refine (lo_s h1).trans ?_
     dsimp only
     have hlen:(ringL r c (perN r c)).length=perN r c:=by unfold ringL;rw [Aa,Ag]
     have hp:=hN.pos
     rw [w_ln,hlen,br_t (by rw [Jb6];exact decide_eq_true (by omega))]
     refine (ca_s (c:=c_additiveref22_polygon) hpoly).trans ((ca_s (c:=c_additiveref22_insert) g1).trans ?_)
     rw [e3]
    ·by_cases e:j'=i
     ·subst e;rw [hx] at hd;injection hd with hd;subst hd;exact .inr ⟨0,rfl⟩
     ·exact .inl (hlt j' d (by omega) hd)
    ·rw [g3,hls]
     constructor
     ·rintro (⟨q1,q2⟩|rfl)
      ·exact ⟨q1,.inl q2⟩
      ·exact ⟨hl0,.inr ⟨j,rfl⟩⟩
     ·rintro ⟨q1,q2|⟨k,q2⟩⟩
      ·exact .inl ⟨q1,q2⟩
      ·right
       obtain ⟨m,hm⟩:=hN.to c j
       refine hl0.same q1 (k:=k+m) ?_
       rw [Qx,hm];exact q2)
  (by
   rintro st ⟨D,done,ls,rfl,hD,hM,hlt,hpw,hls⟩
   refine ⟨_,?_,ls,⟨hpw,fun c=>(hls c).trans ⟨And.left,fun h=>⟨h,?_⟩⟩⟩,rfl⟩
   ·unfold t_additiveref22_Trace_L0
    dsimp only
    rw [w_ln,Aa,Jz (by omega)]
   ·obtain ⟨j,hj⟩:=Am h.mem
    exact hlt j c (Ab.1 hj).1 hj)
 rw [Jat hst]
 exact he
open Classical in
theorem Jj3 (r:Reg) (hl:LimR r) (hc:RegOK r→(Ky r).length≤250000):@t_additiveref22_Trace wv r=some (if RegOK r then (starts r).map (pol r) else []):=by
 unfold t_additiveref22_Trace
 rw [zp hl]
 by_cases hr:RegOK r
 case neg=>rw [br_t (by simp [w_nt,hr]),if_neg hr]
 have hc:=hc hr
 have hn:(cks r).length≤1000000:=by have:=Jh5 r;omega
 rw [br_f (by simp [w_nt,hr]),if_pos hr]
 refine (Jl2 hl hr (by omega) _).trans ?_
 have hlen:((cks r).map enc).length=(cks r).length:=Aa _
 rw [le_t (by rw [w_ln];omega),w_ln,fitB (by omega) (by omega) (by decide),w_rp,hlen,Ay]
 exact (lo_s (T0_ok hr hn)).trans rfl
open Classical in
theorem Jna {α:Type} {r:Reg} (hl:LimR r) (hc:RegOK r→(Ky r).length≤250000) (k:List (List (Int×Int))→Option α):@W.call wv α c_additiveref22_Trace r k=k (if RegOK r then (starts r).map (pol r) else []):=ca_s (c:=c_additiveref22_Trace) (Jj3 r hl hc)
end Go.Proofs.Ytmfagdfkpjgeiaa
namespace Go.Proofs.Ytmfagdfkpjgeiaa
open Go Go.Vv Go.Dn Go.Dn.W
set_option linter.unusedVariables false
set_option linter.unusedSimpArgs false
set_option linter.unusedSectionVars false
set_option maxRecDepth 100000
def hd4 (h:Int):Prop:=h=0∨h=1∨h=2∨h=3
theorem Js2 {α:Type} {a b:Int} {x y:Option α} (h:a > b):@W.br wv α (@W.cm wv .gtr a b) x y=x:=br_t (by rw [Jb6];exact decide_eq_true h)
theorem Je9 {α:Type} {a b:Int} {x y:Option α} (h:¬a > b):@W.br wv α (@W.cm wv .gtr a b) x y=y:=br_f (by rw [Jb6];exact decide_eq_false h)
theorem sign_ok (a:Int):@t_ringwalk_sign wv a=some (if a > 0 then 1 else if a<0 then -1 else 0):=by
 unfold t_ringwalk_sign
 by_cases h:a > 0
 ·rw [Js2 h,if_pos h]
 ·rw [Je9 h,if_neg h]
  by_cases h2:a<0
  ·rw [Ks h2,if_pos h2]
  ·rw [Jz h2,if_neg h2]
theorem k_sign {α:Type} (a:Int) (k:Int→Option α):@W.call wv α c_ringwalk_sign (a:Int) k=k (if a > 0 then 1 else if a<0 then -1 else 0):=ca_s (c:=c_ringwalk_sign) (sign_ok a)
theorem Jbw (p:Cell) {h:Int} (hh:hd4 h) (n:Nat):(h=0∧(fwd p h n).1=p.1+n∧(fwd p h n).2=p.2)∨(h=1∧(fwd p h n).1=p.1∧(fwd p h n).2=p.2+n)∨(h=2∧(fwd p h n).1=p.1 - n∧(fwd p h n).2=p.2)∨(h=3∧(fwd p h n).1=p.1∧(fwd p h n).2=p.2 - n):=by
 unfold fwd dirH
 rcases hh with rfl|rfl|rfl|rfl<;>simp<;>omega
theorem Jck {p:Cell} {h:Int} (hh:hd4 h) {n:Nat} (hn:0<n) (h1:J7 p) (h2:J7 (fwd p h n)):@t_ringwalk_direction wv (p,fwd p h n)=some (dirH h):=by
 have hf:=Jbw p hh n
 generalize fwd p h n=q at *
 unfold J7 at h1 h2
 have e1:@W.ar wv .sub .i64 q.1 p.1=q.1 - p.1:=by rw [Qs,wr (by omega) (by omega)]
 have e2:@W.ar wv .sub .i64 q.2 p.2=q.2 - p.2:=by rw [Qs,wr (by omega) (by omega)]
 unfold t_ringwalk_direction
 dsimp only
 rw [e1,e2,k_sign,k_sign]
 refine congrArg some ?_
 rcases hf with ⟨rfl,f1,f2⟩|⟨rfl,f1,f2⟩|⟨rfl,f1,f2⟩|⟨rfl,f1,f2⟩
 ·rw [if_pos (by omega),if_neg (by omega),if_neg (by omega)];rfl
 ·rw [if_neg (by omega),if_neg (by omega),if_pos (by omega)];rfl
 ·rw [if_neg (by omega),if_pos (by omega),if_neg (by omega),if_neg (by omega)];rfl
 ·rw [if_neg (by omega),if_neg (by omega),if_neg (by omega),if_pos (by omega)];rfl
theorem way_ok {p:Cell} {h:Int} (hh:hd4 h) {n:Nat} (hn:0<n):@t_additiveref24_way wv (p,fwd p h n)=some (dirH h):=by
 have hf:=Jbw p hh n
 generalize fwd p h n=q at *
 unfold t_additiveref24_way
 dsimp only
 rcases hf with ⟨rfl,f1,f2⟩|⟨rfl,f1,f2⟩|⟨rfl,f1,f2⟩|⟨rfl,f1,f2⟩
 ·rw [Js2 (by omega)];rfl
 ·rw [Je9 (by omega),Jz (by omega),Js2 (by omega)];rfl
 ·rw [Je9 (by omega),Ks (by omega)];rfl
 ·rw [Je9 (by omega),Jz (by omega),Je9 (by omega)];rfl
theorem Jn7 {p:Cell} {h:Int} (hh:hd4 h) (hp:J7 p):@t_ringwalk_left wv (p,dirH h)=some (J0 p h):=by
 unfold J7 at hp
 have e1:@W.ar wv .sub .i64 p.1 1=p.1 - 1:=by rw [Qs,wr (by omega) (by omega)]
 have e2:@W.ar wv .sub .i64 p.2 1=p.2 - 1:=by rw [Qs,wr (by omega) (by omega)]
 unfold t_ringwalk_left
 dsimp only
 rw [e1,e2]
 rcases hh with rfl|rfl|rfl|rfl
 ·rw [br_t (by rfl)];rfl
 ·rw [br_f (by rfl),br_t (by rfl)];rfl
 ·rw [br_f (by rfl),br_f (by rfl),br_t (by rfl)];rfl
 ·rw [br_f (by rfl),br_f (by rfl),br_f (by rfl)];rfl
theorem rleft_ok {p:Cell} {h:Int} (hh:hd4 h) (hp:J7 p):@t_additiveref24_left wv (p,dirH h)=some (J0 p h):=by
 unfold J7 at hp
 have e1:@W.ar wv .sub .i64 p.1 1=p.1 - 1:=by rw [Qs,wr (by omega) (by omega)]
 have e2:@W.ar wv .sub .i64 p.2 1=p.2 - 1:=by rw [Qs,wr (by omega) (by omega)]
 unfold t_additiveref24_left
 dsimp only
 rw [e1,e2]
 rcases hh with rfl|rfl|rfl|rfl
 ·rw [br_t (by rfl)];rfl
 ·rw [br_f (by rfl),br_t (by rfl)];rfl
 ·rw [br_f (by rfl),br_f (by rfl),br_t (by rfl)];rfl
 ·rw [br_f (by rfl),br_f (by rfl),br_f (by rfl)];rfl
theorem Jp0 {h h':Int} (hh:hd4 h) (hh':hd4 h'):@W.cm wv .lss (@W.ar wv .sub .i64 (@W.ar wv .mul .i64 (dirH h).1 (dirH h').2) (@W.ar wv .mul .i64 (dirH h).2 (dirH h').1)) 0=decide (rgt h h'):=by
 rcases hh with rfl|rfl|rfl|rfl<;>rcases hh' with rfl|rfl|rfl|rfl<;>rfl
noncomputable def addK {β:Type} (o:List Cell) (c:Cell) (K:List Cell→Option β):Option β :=
 @W.br wv β (@W.cm wv .gtr (@W.ln wv Cell o) 0) (@W.gd wv β (@W.ib wv (@W.ar wv .sub .i64 (@W.ln wv Cell o) 1) (@W.ln wv Cell o)) (@W.ge wv β Cell o (@W.ar wv .sub .i64 (@W.ln wv Cell o) 1) fun v =>
  @W.br wv β (@W.an wv (@W.cm wv .eql v.1 c.1) (@W.cm wv .eql v.2 c.2)) (K o) (@W.gd wv β (@W.ft wv 16 (@W.pl wv (@W.ln wv Cell o) 1)) (K (@W.ap wv Cell o (c::[]))))))
 (@W.gd wv β (@W.ft wv 16 (@W.pl wv (@W.ln wv Cell o) 1)) (K (@W.ap wv Cell o (c::[]))))
theorem Jmd (a b:Cell):@W.an wv (@W.cm wv .eql a.1 b.1) (@W.cm wv .eql a.2 b.2)=decide (a=b):=by
 rw [w_an,Qj,Qj,Bool.eq_iff_iff,Bo,beq_iff_eq,beq_iff_eq,decide_eq_true_eq,Prod.ext_iff]
theorem Jjf {o:List Cell} (h:0<o.length) (hl:o.length≤1000000000):∃z,o.getLast?=some z∧fget o (@W.ar wv .sub .i64 (@W.ln wv Cell o) 1)=some z:=by
 have e:@W.ar wv .sub .i64 (@W.ln wv Cell o) 1=((o.length - 1:Nat):Int):=by rw [w_ln,Qs,wr (by omega) (by omega)];omega
 have hg:o[o.length - 1]?=some o[o.length - 1]:=Ac (by omega)
 exact ⟨_,by rw [List.getLast?_eq_getElem?,hg],by rw [e];exact fg hg⟩
theorem Juc {β:Type} {o:List Cell} (hl:o.length≤1000000000) (c:Cell) (K:List Cell→Option β):addK o c K=K (ddS o c):=by
 unfold addK ddS
 by_cases h:0<o.length
 ·obtain ⟨z,h1,h2⟩:=Jjf h hl
  rw [br_t (by rw [Jb6,w_ln];exact decide_eq_true (by omega)),Jcy (by rw [w_ln,Qs,wr (by omega) (by omega)];omega),ge_s h2,Jmd,h1]
  by_cases e:z=c
  ·rw [br_t (decide_eq_true e),if_pos (by rw [e])]
  ·rw [br_f (decide_eq_false e),if_neg (by simpa using e),w_ln,w_pl,Jaq (by omega) (by omega),w_ap]
 ·have ho:o=[]:=Bh (by omega)
  subst ho
  rw [br_f (by rfl),w_ln,w_pl,Jaq (by simp) (by simp),w_ap]
  rfl
noncomputable def trimK (o:List Cell):Option (List Cell) :=
 @W.br wv (List Cell) (@W.cm wv .gtr (@W.ln wv Cell o) 1) (@W.gd wv (List Cell) (@W.ib wv 0 (@W.ln wv Cell o)) (@W.ge wv (List Cell) Cell o 0 fun v =>
  @W.gd wv (List Cell) (@W.ib wv (@W.ar wv .sub .i64 (@W.ln wv Cell o) 1) (@W.ln wv Cell o)) (@W.ge wv (List Cell) Cell o (@W.ar wv .sub .i64 (@W.ln wv Cell o) 1) fun w =>
  @W.br wv (List Cell) (@W.an wv (@W.cm wv .eql v.1 w.1) (@W.cm wv .eql v.2 w.2)) (@W.gd wv (List Cell) (@W.le wv 0 (@W.ar wv .sub .i64 (@W.ln wv Cell o) 1)) (@W.gd wv (List Cell) (@W.le wv (@W.ar wv .sub .i64 (@W.ln wv Cell o) 1) (@W.ln wv Cell o))
   (@W.gd wv (List Cell) (@W.le wv 0 0) (@W.gd wv (List Cell) (@W.le wv 0 (@W.ar wv .sub .i64 (@W.ln wv Cell o) 1)) (@W.gd wv (List Cell) (@W.le wv (@W.pl wv 0 (@W.ar wv .sub .i64 (@W.ln wv Cell o) 1)) (@W.ln wv Cell o))
   (some (@W.ct wv Cell o 0 (@W.ar wv .sub .i64 (@W.ln wv Cell o) 1)))))))) (some o)))) (some o)
theorem Jpc {o:List Cell} (hl:o.length≤1000000000):trimK o=some (trim o):=by
 unfold trimK trim
 by_cases h:1<o.length
 ·obtain ⟨z,h1,h2⟩:=Jjf (o:=o) (by omega) hl
  have e:@W.ar wv .sub .i64 (@W.ln wv Cell o) 1=((o.length - 1:Nat):Int):=by rw [w_ln,Qs,wr (by omega) (by omega)];omega
  have h0:o[0]?=some o[0]:=Ac (by omega)
  rw [br_t (by rw [Jb6,w_ln];exact decide_eq_true (by omega)),Jcy (by rw [w_ln];omega),ge_s (fg0 h0),Jcy (by rw [e,w_ln];omega),ge_s h2,Jmd,h1,Bp,h0]
  by_cases q:o[0]=z
  ·rw [br_t (decide_eq_true q),if_pos ⟨h,by rw [q]⟩,e,le_t (by omega),le_t (by rw [w_ln];omega),le_t (by omega),le_t (by omega),le_t (by rw [w_pl,w_ln];omega),w_ct,List.dropLast_eq_take]
   simp
  ·rw [br_f (decide_eq_false q),if_neg fun hx=>q (by have:=hx.2;injection this)]
 ·rw [br_f (by rw [Jb6,w_ln];exact decide_eq_false (by omega)),if_neg fun hx=>h hx.1]
end Go.Proofs.Ytmfagdfkpjgeiaa
namespace Go.Proofs.Ytmfagdfkpjgeiaa
open Go Go.Vv Go.Dn Go.Dn.W
set_option linter.unusedVariables false
set_option linter.unusedSimpArgs false
set_option linter.unusedSectionVars false
set_option maxRecDepth 100000
def Qk (P:Cell) (h:Int) (k:Nat):List Cell:=(Ae k).map fun j=>J0 (fwd P h j) h
theorem Zj (P:Cell) (h:Int) (k:Nat):Qk P h (k+1)=Qk P h k++[J0 (fwd P h k) h]:=by unfold Qk;rw [Bg,Ai];rfl
theorem j9 (P:Cell) (h:Int) (k:Nat):(Qk P h k).length=k:=by unfold Qk;rw [Aa,Ag]
theorem X7 {P:Cell} {h:Int} (hh:hd4 h) {k L:Nat} (hk:k≤L) (h1:J7 P) (h2:J7 (fwd P h L)):J7 (fwd P h k):=by
 have f1:=Jbw P hh k
 have f2:=Jbw P hh L
 have:hd4 h:=hh
 generalize fwd P h k=u at *
 generalize fwd P h L=v at *
 unfold J7 at *
 omega
theorem fwd_ne {P:Cell} {h:Int} (hh:hd4 h) {k L:Nat} (hk:k<L):fwd P h k≠fwd P h L:=by
 have f1:=Jbw P hh k
 have f2:=Jbw P hh L
 intro e
 rw [e] at f1
 generalize fwd P h L=v at *
 omega
theorem Jvq {P:Cell} {h:Int} (hh:hd4 h) {k L:Nat} (hk:k<L) (h1:J7 P) (h2:J7 (fwd P h L)):@W.ar wv .add .i64 (fwd P h k).1 (dirH h).1=(fwd P h (k+1)).1∧@W.ar wv .add .i64 (fwd P h k).2 (dirH h).2=(fwd P h (k+1)).2:=by
 have e:fwd P h (k+1)=addC (fwd P h k) (dirH h):=by rw [Jht,Jbg]
 have h3:=X7 hh (k:=k+1) (L:=L) (by omega) h1 h2
 rw [e] at h3 ⊢
 unfold J7 addC at h3
 unfold addC
 dsimp only at h3 ⊢
 rw [J4,J4,wr (by omega) (by omega),wr (by omega) (by omega)]
 exact ⟨rfl,rfl⟩
section
variable {r:Reg} {s:Ck}
theorem Je2 {N i:Nat} (h:i<(tps r s N).length):ptK r s (tpN r s N (i+1))=fwd (ptK r s (tpN r s N i)) (hdK r s (tpN r s N i)) (tpN r s N (i+1) - tpN r s N i):=by
 have hlt:=Je5 r s h
 have:=edge r s h (tpN r s N (i+1) - tpN r s N i) (by omega)
 rwa [show tpN r s N i+(tpN r s N (i+1) - tpN r s N i)=tpN r s N (i+1) by omega] at this
theorem Jke {N i:Nat} (h:i<(tps r s N).length):∀k,tpN r s N i+k<tpN r s N (i+1)→raw r s (tpN r s N i+k)=raw r s (tpN r s N i)++Qk (ptK r s (tpN r s N i)) (hdK r s (tpN r s N i)) k
 | 0,_=>by simp [Qk]
 | k+1,hk=>by
  rw [←Nat.add_assoc,Jja,Jke h k (by omega),Zj,Ao]
  congr 2
  have e1:=Jje r s h k (by omega)
  have e2:=Jje r s h (k+1) (by omega)
  rw [←Nat.add_assoc] at e2
  unfold rawK
  rw [e1,e2,edge r s h k (by omega),if_neg]
  unfold rgt
  omega
noncomputable def cornC (r:Reg) (s:Ck) (N i:Nat):List Cell:=if rgt (hdK r s (tpN r s N i)) (hdK r s (tpN r s N (i+1))) then [addC (J0 (fwd (ptK r s (tpN r s N i)) (hdK r s (tpN r s N i)) (tpN r s N (i+1) - tpN r s N i - 1)) (hdK r s (tpN r s N i))) (dirH (hdK r s (tpN r s N i)))] else []
theorem Jpv {N i:Nat} (h:i<(tps r s N).length) :
  raw r s (tpN r s N (i+1))=raw r s (tpN r s N i)++Qk (ptK r s (tpN r s N i)) (hdK r s (tpN r s N i)) (tpN r s N (i+1) - tpN r s N i)++cornC r s N i:=by
 have hlt:=Je5 r s h
 obtain ⟨k,hk⟩:∃k,tpN r s N (i+1)=tpN r s N i+k+1:=⟨tpN r s N (i+1) - tpN r s N i - 1,by omega⟩
 have e1:=Jje r s h k (by omega)
 have e2:=edge r s h k (by omega)
 have e3:=Jke h k (by omega)
 unfold cornC
 rw [hk,show tpN r s N i+k+1 - tpN r s N i=k+1 by omega,Jja,e3,Zj,Ao,Ao,Ao,Bk]
 congr 2
 unfold rawK
 rw [e1,e2]
 rfl
end
abbrev Sr1:=HP (List Cell) (HP Int (HP (List Cell) (HP Int (HP Int (HP Int (HP Int (HP Int (HP Int (HP Int (HP Int (HP Int (HP Int Unit))))))))))))
abbrev Or1:=HP (List Cell) (HP Int (HP (List Cell) (HP Int (HP Int (HP Int (HP Int (HP Int (HP Int Unit))))))))
def Jnr (c0 P:Cell) (h:Int) (k:Nat):Cell:=if k=0 then c0 else J0 (fwd P h (k - 1)) h
theorem rloop_L1 (pts:List Cell) (i:Int) (o:List Cell) {P:Cell} {h:Int} (hh:hd4 h) {L:Nat} (hL:L≤1000000) (h1:J7 P) (h2:J7 (fwd P h L)) (e c0:Cell) (ho:o.length≤100000000) :
  Kz (@t_additiveref24_loop_L1 wv) bigN (⟨pts,⟨i,⟨o,⟨P.1,⟨P.2,⟨(fwd P h L).1,⟨(fwd P h L).2,⟨(dirH h).1,⟨(dirH h).2,⟨e.1,⟨e.2,⟨c0.1,⟨c0.2,()⟩⟩⟩⟩⟩⟩⟩⟩⟩⟩⟩⟩⟩:Sr1) =
   some (⟨pts,⟨i,⟨o++Qk P h L,⟨(dirH h).1,⟨(dirH h).2,⟨e.1,⟨e.2,⟨(Jnr c0 P h L).1,⟨(Jnr c0 P h L).2,()⟩⟩⟩⟩⟩⟩⟩⟩⟩:Or1):=by
 have key:=Kv (b:=@t_additiveref24_loop_L1 wv) (e:=(⟨pts,⟨i,⟨o++Qk P h L,⟨(dirH h).1,⟨(dirH h).2,⟨e.1,⟨e.2,⟨(Jnr c0 P h L).1,⟨(Jnr c0 P h L).2,()⟩⟩⟩⟩⟩⟩⟩⟩⟩:Or1))
  (fun k=>(⟨pts,⟨i,⟨o++Qk P h k,⟨(fwd P h k).1,⟨(fwd P h k).2,⟨(fwd P h L).1,⟨(fwd P h L).2,⟨(dirH h).1,⟨(dirH h).2,⟨e.1,⟨e.2,⟨(Jnr c0 P h k).1,⟨(Jnr c0 P h k).2,()⟩⟩⟩⟩⟩⟩⟩⟩⟩⟩⟩⟩⟩:Sr1)) L (by omega) (fun k hk=>by
   have ha:=Jvq hh hk h1 h2
   unfold t_additiveref24_loop_L1
   dsimp only
   rw [br_t (by rw [Jmd,w_nt,decide_eq_false (fwd_ne hh hk)];rfl)]
   refine (ca_s (c:=c_additiveref24_left) (rleft_ok hh (X7 hh (by omega) h1 h2))).trans ?_
   rw [w_ln,w_pl,Jaq (by rw [Ad,j9];omega) (by omega),ha.1,ha.2,w_ap,Zj,Ao]
   rfl) (by
   unfold t_additiveref24_loop_L1
   dsimp only
   rw [br_f (by rw [Jmd,w_nt,decide_eq_true rfl];rfl)])
 have e0:Qk P h 0=[]:=rfl
 simp only [e0,Jhk,Aw] at key
 exact key
theorem Jjd {r:Reg} {s:Ck} {N:Nat} (hN:Rnd (nx r) s N) {i:Nat} (h:i<(tps r s N).length):(poly r s N)[i]?=some (ptK r s (tpN r s N i)):=by
 rw [Jhv r s hN.pos,Ah,Jb4 r s h];rfl
theorem Ja8 {r:Reg} {s:Ck} {N:Nat} (hN:Rnd (nx r) s N) {i:Nat} (h:i<(tps r s N).length):(poly r s N)[(i+1) % (tps r s N).length]?=some (ptK r s (tpN r s N (i+1))):=by
 by_cases h1:i+1<(tps r s N).length
 ·rw [Bd h1];exact Jjd hN h1
 ·have e:i+1=(tps r s N).length:=by omega
  rw [e,Nat.mod_self,Jjd hN (by omega),Jau r s hN.pos,Jbs r s (Bl _)]
  have:ptK r s N=s.1:=congrArg Prod.fst hN.back
  rw [this];rfl
theorem Jly {r:Reg} {s:Ck} {N:Nat} (hN:Rnd (nx r) s N) {i:Nat} (h:i<(tps r s N).length):∃L,0<L∧L≤N∧(poly r s N)[(i+2) % (tps r s N).length]?=some (fwd (ptK r s (tpN r s N (i+1))) (hdK r s (tpN r s N (i+1))) L):=by
 by_cases h1:i+1<(tps r s N).length
 ·have hlt:tpN r s N (i+1)<tpN r s N (i+2):=Je5 r s h1
  have hle:=Jlw r s (N:=N) (i:=i+2)
  refine ⟨tpN r s N (i+2) - tpN r s N (i+1),by omega,by omega,?_⟩
  rw [Ja8 hN h1]
  exact congrArg some (Je2 h1)
 ·have e:i+1=(tps r s N).length:=by omega
  have hp:=hN.pos
  have h0:0<(tps r s N).length:=by omega
  have hlt:tpN r s N 0<tpN r s N 1:=Je5 r s h0
  have hle:=Jlw r s (N:=N) (i:=1)
  refine ⟨tpN r s N 1 - tpN r s N 0,by omega,by omega,?_⟩
  have em:(i+2) % (tps r s N).length=(0+1) % (tps r s N).length:=by rw [show i+2=0+1+(tps r s N).length by omega,Nat.add_mod_right]
  rw [em,Ja8 hN h0,Jbs r s (i:=i+1) (by omega)]
  have e1:ptK r s N=ptK r s (tpN r s N 0):=by rw [Jau r s hp];exact congrArg Prod.fst hN.back
  have e2:hdK r s N=hdK r s (tpN r s N 0):=by rw [Jau r s hp];exact congrArg Prod.snd hN.back
  rw [e1,e2]
  exact congrArg some (Je2 h0)
theorem Jpj {r:Reg} {s:Ck} {N:Nat} (hN:Rnd (nx r) s N):(poly r s N).length=(tps r s N).length:=by rw [Jhv r s hN.pos,Aa]
theorem Jdi {a:Int} {b n:Nat} (e:a=(b:Int)):@W.ar wv .rem .i64 a (n:Int)=((b % n:Nat):Int):=by
 rw [Jub,e,Aq (by omega)]
 exact (Int.natCast_emod _ _).symm
theorem rloop_ok {r:Reg} (hr:RegOK r) {s:Ck} (hs:Crk r s.1 s.2) {N:Nat} (hN:Rnd (nx r) s N) (hle:N≤1000000):@t_additiveref24_loop wv (poly r s N)=some (raw r s N):=by
 have hp:=hN.pos
 have hn:=Jtb r s N
 have hlen:=Jpj hN
 have hloop:=Kv (b:=@t_additiveref24_loop_L0 wv) (e:=(⟨raw r s N,()⟩:HP (List Cell) Unit)) (fun i=>(⟨poly r s N,⟨(i:Int),⟨raw r s (tpN r s N i),()⟩⟩⟩:HP (List Cell) (HP Int (HP (List Cell) Unit)))) (tps r s N).length (by omega) (fun i hi=>by
  have hlt:=Je5 r s hi
  have hTle:=Jlw r s (N:=N) (i:=i+1)
  have g0:=Jjd hN hi
  have g1:=Ja8 hN hi
  obtain ⟨L2,hL2,hL2',g2⟩:=Jly hN hi
  have hh:hd4 (hdK r s (tpN r s N i)):=(Km hs _).hd
  have hh':hd4 (hdK r s (tpN r s N (i+1))):=(Km hs _).hd
  have s0:=Qe hr (Km hs (tpN r s N i))
  have s1:=Qe hr (Km hs (tpN r s N (i+1)))
  rw [show (itr (nx r) (tpN r s N i) s).1=ptK r s (tpN r s N i) from rfl] at s0
  rw [show (itr (nx r) (tpN r s N (i+1)) s).1=ptK r s (tpN r s N (i+1)) from rfl] at s1
  have hwE:=way_ok (p:=ptK r s (tpN r s N (i+1))) hh' hL2
  have hE:=Je2 hi
  have hraw:=Jpv hi
  have hrl:=zq r s (tpN r s N i)
  have hrl':=zq r s (tpN r s N (i+1))
  unfold cornC at hraw
  generalize hh0:hdK r s (tpN r s N i)=h at *
  generalize hdK r s (tpN r s N (i+1))=h' at *
  generalize ptK r s (tpN r s N i)=P at *
  generalize ptK r s (tpN r s N (i+1))=Q at *
  generalize fwd Q h' L2=R at *
  obtain ⟨L,hL⟩:∃L,tpN r s N (i+1) - tpN r s N i=L+1:=⟨tpN r s N (i+1) - tpN r s N i - 1,by omega⟩
  rw [hL] at hE hraw
  subst hE
  have hwD:=way_ok (p:=P) hh (n:=L+1) (by omega)
  have e0:@W.ar wv .add .i64 (i:Int) 1=((i+1:Nat):Int):=by rw [J4,wr (by omega) (by omega)];omega
  have e1:@W.ar wv .rem .i64 ((i+1:Nat):Int) ((tps r s N).length:Int)=(((i+1) % (tps r s N).length:Nat):Int):=Jdi rfl
  have e2:@W.ar wv .rem .i64 (@W.ar wv .add .i64 (i:Int) 2) ((tps r s N).length:Int)=(((i+2) % (tps r s N).length:Nat):Int):=Jdi (by rw [J4,wr (by omega) (by omega)];omega)
  have hne:@W.cm wv .neq ((tps r s N).length:Int) 0=true:=by rw [Jcu];exact bne_iff_ne.2 (by omega)
  unfold t_additiveref24_loop_L0
  dsimp only
  rw [w_ln,hlen,Ks (by omega),ge_s (fg g0),gd_t hne,e0,e1,ge_s (fg g1),gd_t hne,e2,ge_s (fg g2)]
  refine (ca_s (c:=c_additiveref24_way) hwD).trans ((ca_s (c:=c_additiveref24_way) hwE).trans ((lo_s (rloop_L1 _ _ _ hh (by omega) s0 s1 (dirH h') (0,0) (by omega))).trans ?_))
  dsimp only
  rw [Jp0 hh hh',e0]
  have hc:Jnr (0,0) P h (L+1)=J0 (fwd P h L) h:=rfl
  rw [hc]
  have hcs:J7 (J0 (fwd P h L) h)∧J7 (addC (J0 (fwd P h L) h) (dirH h))∨True:=.inr trivial
  by_cases hr':rgt h h'
  ·have hb:-2000000000≤(J0 (fwd P h L) h).1∧(J0 (fwd P h L) h).1≤2000000000∧-2000000000≤(J0 (fwd P h L) h).2∧(J0 (fwd P h L) h).2≤2000000000:=by
    have:=X7 hh (k:=L) (L:=L+1) (by omega) s0 s1
    unfold J7 at this
    unfold J0
    rcases hh with rfl|rfl|rfl|rfl<;>simp<;>omega
   have hd:-1≤(dirH h).1∧(dirH h).1≤1∧-1≤(dirH h).2∧(dirH h).2≤1:=by
    rcases hh with rfl|rfl|rfl|rfl<;>simp [dirH]
   rw [br_t (decide_eq_true hr'),w_ln,w_pl,Jaq (by rw [Ad,j9];omega) (by omega),w_ap,hraw,if_pos hr',J4,J4,wr (by omega) (by omega),wr (by omega) (by omega),Bk]
   rfl
  ·rw [br_f (decide_eq_false hr'),hraw,if_neg hr',Aw]) (by
  unfold t_additiveref24_loop_L0
  dsimp only
  rw [w_ln,hlen,Jz (by omega),Jbs r s (Bl _)])
 have e0:raw r s (tpN r s N 0)=[]:=by rw [Jau r s hp];rfl
 rw [e0] at hloop
 exact (lo_s hloop).trans rfl
theorem once_ok (l:List Cell) (hl:l.length≤100000000):@t_additiveref24_once wv l=some (Jfy l):=by
 have hloop:=Kv (b:=@t_additiveref24_once_L0 wv) (e:=(⟨dd l,()⟩:HP (List Cell) Unit)) (fun i=>(⟨l,⟨(i:Int),⟨dd (l.take i),()⟩⟩⟩:HP (List Cell) (HP Int (HP (List Cell) Unit)))) l.length (by omega) (fun i hi=>by
  have hx:=Ac hi
  generalize l[i]=c at hx
  have e0:@W.ar wv .add .i64 (i:Int) 1=((i+1:Nat):Int):=by rw [J4,wr (by omega) (by omega)];omega
  have hdl:=Jlo (l.take i)
  rw [Av] at hdl
  rw [Qq hx,Jdr]
  generalize dd (l.take i)=o at *
  unfold t_additiveref24_once_L0
  dsimp only
  rw [w_ln,Ks (by omega),e0]
  unfold ddS
  by_cases h:0<o.length
  ·obtain ⟨z,h1,h2⟩:=Jjf h (by omega)
   rw [br_f (by rw [Qj,w_ln,beq_eq_false_iff_ne];omega),Jcy (by rw [w_ln,Qs,wr (by omega) (by omega)];omega),ge_s h2,ge_s (fg hx),Jmd,h1]
   by_cases e:z=c
   ·rw [br_f (by rw [w_nt,decide_eq_true e];rfl),if_pos (by rw [e])]
   ·rw [br_t (by rw [w_nt,decide_eq_false e];rfl),if_neg (by simpa using e),ge_s (fg hx),w_ln,w_pl,Jaq (by omega) (by omega),w_ap]
  ·have ho:o=[]:=Bh (by omega)
   subst ho
   rw [br_t (by rfl),ge_s (fg hx),w_ln,w_pl,Jaq (by simp) (by simp),w_ap]
   rfl) (by
  unfold t_additiveref24_once_L0
  dsimp only
  rw [w_ln,Jz (by omega),Bc])
 unfold t_additiveref24_once
 refine (lo_s hloop).trans ?_
 exact (show _=trimK (dd l) from rfl).trans (Jpc (by have:=Jlo l;omega))
end Go.Proofs.Ytmfagdfkpjgeiaa
namespace Go.Proofs.Ytmfagdfkpjgeiaa
open Go Go.Vv Go.Dn Go.Dn.W
set_option linter.unusedVariables false
set_option linter.unusedSimpArgs false
set_option linter.unusedSectionVars false
set_option maxRecDepth 100000
abbrev Sp1:=HP (List Cell) (HP Int (HP (List Cell) (HP Int (HP Int (HP Int (HP Int Unit))))))
theorem Jka (m:List Cell):∀o:List Cell,(m.foldl ddS o).length≤o.length+m.length:=by
 induction m with
 | nil=>intro o;exact Bl _
 | cons c m ih =>
  intro o
  rw [Bj,Ak]
  refine Nat.le_trans (ih _) ?_
  unfold ddS
  split
  ·omega
  ·rw [Ad,List.length_singleton];omega
theorem ploop_L1 (pts:List Cell) (i j:Nat) (o:List Cell) {P:Cell} {h:Int} (hh:hd4 h) {L:Nat} (hL:L≤1000000) (h1:J7 P) (h2:J7 (fwd P h L)) (ho:o.length≤100000000) (hi:i≤1000000000) (hp:pts.length≤1000000000) (hp0:0<pts.length)
  (hq:pts[(i+1) % pts.length]?=some (fwd P h L)) :
  Kz (@t_ringwalk_walk_L1 wv) bigN (⟨pts,⟨(i:Int),⟨o,⟨P.1,⟨P.2,⟨(dirH h).1,⟨(dirH h).2,()⟩⟩⟩⟩⟩⟩⟩:Sp1) =
   some (⟨pts,⟨(i:Int),⟨(Qk P h L).foldl ddS o,⟨(fwd P h L).1,⟨(fwd P h L).2,⟨(dirH h).1,⟨(dirH h).2,()⟩⟩⟩⟩⟩⟩⟩:Sp1):=by
 have e0:@W.ar wv .rem .i64 (@W.ar wv .add .i64 (i:Int) 1) (pts.length:Int)=(((i+1) % pts.length:Nat):Int):=Jdi (by rw [J4,wr (by omega) (by omega)];omega)
 have hne:@W.cm wv .neq (pts.length:Int) 0=true:=by rw [Jcu];exact bne_iff_ne.2 (by omega)
 have key:=Kv (b:=@t_ringwalk_walk_L1 wv) (e:=(⟨pts,⟨(i:Int),⟨(Qk P h L).foldl ddS o,⟨(fwd P h L).1,⟨(fwd P h L).2,⟨(dirH h).1,⟨(dirH h).2,()⟩⟩⟩⟩⟩⟩⟩:Sp1))
  (fun k=>(⟨pts,⟨(i:Int),⟨(Qk P h k).foldl ddS o,⟨(fwd P h k).1,⟨(fwd P h k).2,⟨(dirH h).1,⟨(dirH h).2,()⟩⟩⟩⟩⟩⟩⟩:Sp1)) L (by omega) (fun k hk=>by
   have ha:=Jvq hh hk h1 h2
   have hlen:=Jka (Qk P h k) o
   rw [j9] at hlen
   unfold t_ringwalk_walk_L1
   dsimp only
   rw [w_ln,gd_t hne,e0,ge_s (fg hq),br_t (by rw [Jmd,w_nt,decide_eq_false (fwd_ne hh hk)];rfl)]
   refine (ca_s (c:=c_ringwalk_left) (Jn7 hh (X7 hh (by omega) h1 h2))).trans ?_
   rw [ha.1,ha.2,Zj,List.foldl_append]
   generalize (Qk P h k).foldl ddS o=o1 at *
   generalize J0 (fwd P h k) h=c
   generalize fwd P h (k+1)=v
   obtain ⟨c1,c2⟩:=c
   have hk:=Juc (β:=Nx Sp1 Sp1) (o:=o1) (by omega) (c1,c2) (fun o'=>some (.go (⟨pts,⟨(i:Int),⟨o',⟨v.1,⟨v.2,⟨(dirH h).1,⟨(dirH h).2,()⟩⟩⟩⟩⟩⟩⟩:Sp1)))
   unfold addK at hk
   exact hk) (by
   unfold t_ringwalk_walk_L1
   dsimp only
   rw [w_ln,gd_t hne,e0,ge_s (fg hq),br_f (by rw [Jmd,w_nt,decide_eq_true rfl];rfl)])
 have ec:Qk P h 0=[]:=rfl
 simp only [ec,Jhk,List.foldl_nil] at key
 exact key
abbrev Sp0:=HP (List Cell) (HP Int (HP Int (HP Int (HP Int (HP Int (HP (List Cell) Unit))))))
theorem pwalk_ok {r:Reg} (hr:RegOK r) {s:Ck} (hl:Least r s) {N:Nat} (hN:Rnd (nx r) s N) (hle:N≤1000000):@t_ringwalk_walk wv (poly r s N)=some (Jfy (raw r s N)):=by
 have hs:=hl.1
 have hp:=hN.pos
 have hn:=Jtb r s N
 have h2n:=tps_two hl hN
 have hlen:=Jpj hN
 have step:∀i,i<(tps r s N).length→@t_ringwalk_walk_L0 wv (⟨poly r s N,⟨(i:Int),⟨(ptK r s (tpN r s N i)).1,⟨(ptK r s (tpN r s N i)).2,⟨(dirH (hdK r s (tpN r s N i))).1,⟨(dirH (hdK r s (tpN r s N i))).2,⟨dd (raw r s (tpN r s N i)),()⟩⟩⟩⟩⟩⟩⟩:Sp0) =
   if i+1=(tps r s N).length then some (.out (⟨dd (raw r s (tpN r s N (i+1))),()⟩:HP (List Cell) Unit)) else
    some (.go (⟨poly r s N,⟨((i+1:Nat):Int),⟨(ptK r s (tpN r s N (i+1))).1,⟨(ptK r s (tpN r s N (i+1))).2,⟨(dirH (hdK r s (tpN r s N (i+1)))).1,⟨(dirH (hdK r s (tpN r s N (i+1)))).2,⟨dd (raw r s (tpN r s N (i+1))),()⟩⟩⟩⟩⟩⟩⟩:Sp0)):=fun i hi=>by
  have hlt:=Je5 r s hi
  have hTle:=Jlw r s (N:=N) (i:=i+1)
  have g1:=Ja8 hN hi
  obtain ⟨L2,hL2,hL2',g2⟩:=Jly hN hi
  have hh:hd4 (hdK r s (tpN r s N i)):=(Km hs _).hd
  have hh':hd4 (hdK r s (tpN r s N (i+1))):=(Km hs _).hd
  have s0:=Qe hr (Km hs (tpN r s N i))
  have s1:=Qe hr (Km hs (tpN r s N (i+1)))
  rw [show (itr (nx r) (tpN r s N i) s).1=ptK r s (tpN r s N i) from rfl] at s0
  rw [show (itr (nx r) (tpN r s N (i+1)) s).1=ptK r s (tpN r s N (i+1)) from rfl] at s1
  have hE:=Je2 hi
  have hraw:=Jpv hi
  have hrl:=zq r s (tpN r s N i)
  have hdl:=Jlo (raw r s (tpN r s N i))
  have s2:J7 (fwd (ptK r s (tpN r s N (i+1))) (hdK r s (tpN r s N (i+1))) L2):=by
   have hm:=Af g2
   rw [Jhv r s hp] at hm
   obtain ⟨k,_,hk⟩:=Ar.1 hm
   rw [←hk]
   exact Qe hr (Km hs k)
  unfold cornC at hraw
  generalize hdK r s (tpN r s N i)=h at *
  generalize hdK r s (tpN r s N (i+1))=h' at *
  generalize ptK r s (tpN r s N i)=P at *
  generalize ptK r s (tpN r s N (i+1))=Q at *
  have hwE:=Jck (p:=Q) hh' hL2 s1 s2
  generalize fwd Q h' L2=R at *
  obtain ⟨L,hL⟩:∃L,tpN r s N (i+1) - tpN r s N i=L+1:=⟨tpN r s N (i+1) - tpN r s N i - 1,by omega⟩
  rw [hL] at hE hraw
  subst hE
  have e0:@W.ar wv .add .i64 (i:Int) 1=((i+1:Nat):Int):=by rw [J4,wr (by omega) (by omega)];omega
  have e1:@W.ar wv .rem .i64 ((i+1:Nat):Int) ((tps r s N).length:Int)=(((i+1) % (tps r s N).length:Nat):Int):=Jdi rfl
  have e2:@W.ar wv .rem .i64 (@W.ar wv .add .i64 ((i+1:Nat):Int) 1) ((tps r s N).length:Int)=(((i+2) % (tps r s N).length:Nat):Int):=Jdi (by rw [J4,wr (by omega) (by omega)];omega)
  have hne:@W.cm wv .neq ((tps r s N).length:Int) 0=true:=by rw [Jcu];exact bne_iff_ne.2 (by omega)
  have hfl:=Jka (Qk P h (L+1)) (dd (raw r s (tpN r s N i)))
  rw [j9] at hfl
  unfold t_ringwalk_walk_L0
  dsimp only
  refine (lo_s (ploop_L1 _ i ((i+1) % (tps r s N).length) _ hh (by omega) s0 s1 (by omega) (by omega) (by omega) (by omega) (by rw [hlen];exact g1))).trans ?_
  dsimp only
  rw [w_ln,hlen,gd_t hne,e0,e1,ge_s (fg g1),gd_t hne,e2,ge_s (fg g2)]
  refine (ca_s (c:=c_ringwalk_direction) hwE).trans ?_
  rw [Jp0 hh hh']
  have hsub:@W.ar wv .sub .i64 (fwd P h (L+1)).1 (dirH h).1=(fwd P h L).1∧@W.ar wv .sub .i64 (fwd P h (L+1)).2 (dirH h).2=(fwd P h L).2:=by
   have e:fwd P h (L+1)=addC (fwd P h L) (dirH h):=by rw [Jht,Jbg]
   have h3:=X7 hh (k:=L) (L:=L+1) (by omega) s0 s1
   unfold J7 at h3
   rw [e,Qs,Qs]
   unfold addC
   dsimp only
   rw [wr (by omega) (by omega),wr (by omega) (by omega)]
   omega
  let K:List Cell→Option (Nx Sp0 (HP (List Cell) Unit)):=fun o=>@W.br wv _ (@W.cm wv .eql ((i+1:Nat):Int) ((tps r s N).length:Int)) (some (.out ⟨o,()⟩)) (some (.go ⟨poly r s N,⟨((i+1:Nat):Int),⟨(fwd P h (L+1)).1,⟨(fwd P h (L+1)).2,⟨(dirH h').1,⟨(dirH h').2,⟨o,()⟩⟩⟩⟩⟩⟩⟩))
  have hK:∀o:List Cell,K o=if i+1=(tps r s N).length then some (.out (⟨o,()⟩:HP (List Cell) Unit)) else some (.go (⟨poly r s N,⟨((i+1:Nat):Int),⟨(fwd P h (L+1)).1,⟨(fwd P h (L+1)).2,⟨(dirH h').1,⟨(dirH h').2,⟨o,()⟩⟩⟩⟩⟩⟩⟩:Sp0)):=fun o=>by
   show @W.br wv _ _ _ _=_
   by_cases e:i+1=(tps r s N).length
   ·rw [br_t (by rw [Qj];exact beq_iff_eq.2 (by omega)),if_pos e]
   ·rw [br_f (by rw [Qj];exact beq_eq_false_iff_ne.2 (by omega)),if_neg e]
  by_cases hr':rgt h h'
  ·have hb:-2000000000≤(J0 (fwd P h L) h).1∧(J0 (fwd P h L) h).1≤2000000000∧-2000000000≤(J0 (fwd P h L) h).2∧(J0 (fwd P h L) h).2≤2000000000:=by
    have:=X7 hh (k:=L) (L:=L+1) (by omega) s0 s1
    unfold J7 at this
    unfold J0
    rcases hh with rfl|rfl|rfl|rfl<;>simp<;>omega
   have hd:-1≤(dirH h).1∧(dirH h).1≤1∧-1≤(dirH h).2∧(dirH h).2≤1:=by
    rcases hh with rfl|rfl|rfl|rfl<;>simp [dirH]
   rw [br_t (decide_eq_true hr'),hsub.1,hsub.2]
   refine (ca_s (c:=c_ringwalk_left) (Jn7 hh (X7 hh (k:=L) (L:=L+1) (by omega) s0 s1))).trans ?_
   have a1:@W.ar wv .add .i64 (J0 (fwd P h L) h).1 (dirH h).1=(addC (J0 (fwd P h L) h) (dirH h)).1:=by rw [J4,wr (by omega) (by omega)];rfl
   have a2:@W.ar wv .add .i64 (J0 (fwd P h L) h).2 (dirH h).2=(addC (J0 (fwd P h L) h) (dirH h)).2:=by rw [J4,wr (by omega) (by omega)];rfl
   rw [a1,a2,hraw,if_pos hr',Jdr,Jl6,Bk]
   generalize (Qk P h (L+1)).foldl ddS (dd (raw r s (tpN r s N i)))=o1 at *
   generalize addC (J0 (fwd P h L) h) (dirH h)=c
   exact (show _=addK o1 c K from rfl).trans ((Juc (by omega) _ _).trans (hK _))
  ·rw [br_f (decide_eq_false hr'),hraw,if_neg hr',Aw,Jl6]
   generalize (Qk P h (L+1)).foldl ddS (dd (raw r s (tpN r s N i)))=o1 at *
   exact hK o1
 have hend:tpN r s N ((tps r s N).length - 1+1)=N:=Jbs r s (by omega)
 have hloop:=Kv (b:=@t_ringwalk_walk_L0 wv) (e:=(⟨dd (raw r s N),()⟩:HP (List Cell) Unit)) (fun i=>(⟨poly r s N,⟨(i:Int),⟨(ptK r s (tpN r s N i)).1,⟨(ptK r s (tpN r s N i)).2,⟨(dirH (hdK r s (tpN r s N i))).1,⟨(dirH (hdK r s (tpN r s N i))).2,⟨dd (raw r s (tpN r s N i)),()⟩⟩⟩⟩⟩⟩⟩:Sp0)) ((tps r s N).length - 1) (by omega) (fun i hi=>by
  rw [step i (by omega),if_neg (by omega)]) (by
  rw [step _ (by omega),if_pos (by omega),hend])
 have g0:=Jjd hN (i:=0) (by omega)
 have g1:=Ja8 hN (i:=0) (by omega)
 rw [Bd (by omega)] at g1
 have hE:=Je2 (r:=r) (s:=s) (N:=N) (i:=0) (by omega)
 have hlt:=Je5 r s (N:=N) (i:=0) (by omega)
 have s0:=Qe hr (Km hs (tpN r s N 0))
 have s1:=Qe hr (Km hs (tpN r s N (0+1)))
 rw [show (itr (nx r) (tpN r s N 0) s).1=ptK r s (tpN r s N 0) from rfl] at s0
 rw [show (itr (nx r) (tpN r s N (0+1)) s).1=ptK r s (tpN r s N (0+1)) from rfl] at s1
 rw [hE] at g1 s1
 have hwE:=Jck (p:=ptK r s (tpN r s N 0)) (Km hs (tpN r s N 0)).hd (n:=tpN r s N (0+1) - tpN r s N 0) (by omega) s0 s1
 unfold t_ringwalk_walk
 rw [ge_s (fg0 g0),ge_s (fg0 g0),ge_s (i:=1) (fg (i:=1) g1)]
 refine (ca_s (c:=c_ringwalk_direction) hwE).trans ?_
 have e0:raw r s (tpN r s N 0)=[]:=by rw [Jau r s hp];rfl
 rw [e0] at hloop
 refine (lo_s hloop).trans ?_
 exact (show _=trimK (dd (raw r s N)) from rfl).trans (Jpc (by have:=Jlo (raw r s N);have:=zq r s N;omega))
noncomputable def walkOf (r:Reg) (s:Ck):Jkr:=(1,true,Jfy (raw r s (perN r s)))
theorem Jp1 {r:Reg} (hc:(Ky r).length≤8000) {s:Ck} (hs:Crk r s.1 s.2):(Jfy (raw r s (perN r s))).length≤65536:=by
 have h1:=once_len (raw r s (perN r s))
 have h2:=zq r s (perN r s)
 have h3:=Jbq hs
 have h4:=Jh5 r
 omega
theorem Jhd {r:Reg} (h:Starts r (starts r)):(starts r).length≤(cks r).length:=by
 have hnd:(starts r).Nodup:=h.pw.imp fun {a b} (h:yx a.1 b.1) (e:a=b)=>X0 a.1 (by subst e;exact h)
 exact Ye hnd fun s hs=>((h.mem s).1 hs).mem
open Classical in
theorem Jsv (r:Reg) (hl:LimR r) (hc:RegOK r→(Ky r).length≤8000):@t_ringwalk_Walk wv r=some (if RegOK r then (starts r).map (walkOf r) else []):=by
 have hck:RegOK r→(cks r).length≤1000000:=fun h=>by have:=hc h;have:=Jh5 r;omega
 unfold t_ringwalk_Walk
 rw [k_Trace hl hck]
 by_cases hr:RegOK r
 case neg =>
  rw [if_neg hr,if_neg hr]
  exact (lo_s (show Kz (@t_ringwalk_Walk_L0 wv) bigN ⟨[],⟨0,⟨0,⟨[],()⟩⟩⟩⟩=some ⟨[],()⟩ from Xt (n:=18446744073709551615) rfl)).trans rfl
 rw [if_pos hr,if_pos hr]
 have hst:=(Jia r hl hck).2 hr
 have hck:=hck hr
 have hc:=hc hr
 have hsl:=Jhd hst
 have hlen:((starts r).map (pol r)).length=(starts r).length:=Aa _
 have hloop:=Kv (b:=@t_ringwalk_Walk_L0 wv) (e:=(⟨(starts r).map (walkOf r),()⟩:HP (List Jkr) Unit)) (fun i=>(⟨(starts r).map (pol r),⟨((starts r).length:Int),⟨(i:Int),⟨((starts r).take i).map (walkOf r),()⟩⟩⟩⟩:HP (List (List Cell)) (HP Int (HP Int (HP (List Jkr) Unit))))) (starts r).length (by omega) (fun i hi=>by
  have hx:=Ac hi
  generalize (starts r)[i]=s at hx
  have hs:Least r s:=(hst.mem s).1 (Af hx)
  have hg:((starts r).map (pol r))[i]?=some (pol r s):=by rw [Ah,hx];rfl
  have hpe:=Jbq hs.1
  have hw:=pwalk_ok hr hs (Yk hs.1) (by omega)
  have hwl:=Jp1 hc hs.1
  unfold t_ringwalk_Walk_L0
  dsimp only
  rw [Ks (by omega),ge_s (fg hg)]
  refine (ca_s (c:=c_ringwalk_walk) hw).trans ?_
  rw [br_t (by rw [Jj8,w_ln];exact decide_eq_true (by omega)),w_ln,w_pl,Aa,Av,fit40 (by omega) (by omega),J4,wr (by omega) (by omega),w_ap,Jed hx]
  rfl) (by
  unfold t_ringwalk_Walk_L0
  dsimp only
  rw [Jz (by omega),Bc])
 rw [w_ln,hlen]
 exact (lo_s hloop).trans rfl
open Classical in
theorem Jmy (r:Reg) (hl:LimR r) (hc:RegOK r→(Ky r).length≤8000):@t_additiveref24_Walk wv r=some (if RegOK r then (starts r).map (walkOf r) else []):=by
 have hck:RegOK r→(cks r).length≤1000000:=fun h=>by have:=hc h;have:=Jh5 r;omega
 unfold t_additiveref24_Walk
 rw [Jna hl (fun h=>by have:=hc h;omega)]
 by_cases hr:RegOK r
 case neg =>
  rw [if_neg hr,if_neg hr]
  exact (lo_s (show Kz (@t_additiveref24_Walk_L0 wv) bigN ⟨[],⟨0,⟨[],()⟩⟩⟩=some ⟨[],()⟩ from Xt (n:=18446744073709551615) rfl)).trans rfl
 rw [if_pos hr,if_pos hr]
 have hst:=(Jia r hl hck).2 hr
 have hck:=hck hr
 have hc:=hc hr
 have hsl:=Jhd hst
 have hlen:((starts r).map (pol r)).length=(starts r).length:=Aa _
 have hloop:=Kv (b:=@t_additiveref24_Walk_L0 wv) (e:=(⟨(starts r).map (walkOf r),()⟩:HP (List Jkr) Unit)) (fun i=>(⟨(starts r).map (pol r),⟨(i:Int),⟨((starts r).take i).map (walkOf r),()⟩⟩⟩:HP (List (List Cell)) (HP Int (HP (List Jkr) Unit)))) (starts r).length (by omega) (fun i hi=>by
  have hx:=Ac hi
  generalize (starts r)[i]=s at hx
  have hs:Least r s:=(hst.mem s).1 (Af hx)
  have hg:((starts r).map (pol r))[i]?=some (pol r s):=by rw [Ah,hx];rfl
  have hpe:=Jbq hs.1
  have hw:=rloop_ok hr hs.1 (Yk hs.1) (by omega)
  have hrl:=zq r s (perN r s)
  have ho:=once_ok (raw r s (perN r s)) (by omega)
  have hwl:=Jp1 hc hs.1
  unfold t_additiveref24_Walk_L0
  dsimp only
  rw [w_ln,hlen,Ks (by omega),ge_s (fg hg)]
  refine (ca_s (c:=c_additiveref24_loop) hw).trans ((ca_s (c:=c_additiveref24_once) ho).trans ?_)
  rw [br_t (by rw [Jj8,w_ln];exact decide_eq_true (by omega)),w_ln,w_pl,Aa,Av,fit40 (by omega) (by omega),J4,wr (by omega) (by omega),w_ap,Jed hx]
  rfl) (by
  unfold t_additiveref24_Walk_L0
  dsimp only
  rw [w_ln,hlen,Jz (by omega),Bc])
 exact (lo_s hloop).trans rfl
end Go.Proofs.Ytmfagdfkpjgeiaa
namespace Go.Proofs.Ytmfagdfkpjgeiaa
open Go Go.Vv Go.Dn Go.Dn.W
set_option linter.unusedVariables false
set_option linter.unusedSimpArgs false
set_option linter.unusedSectionVars false
set_option maxRecDepth 100000
def boxA:Reg:=[(0,[(0,2)]),(1,[(0,2)])]
def walkA:List Jkr:=[(1,true,[(0,0),(1,0),(1,1),(0,1)])]
theorem limA:LimR boxA:=by
 refine ⟨by decide,fun w hw=>?_⟩
 simp only [boxA,Bt,List.not_mem_nil,or_false] at hw
 rcases hw with rfl|rfl<;>simp
theorem Jro:@t_additivelaw24_awake wv ()=some true:=by
 have hc:RegOK boxA→(Ky boxA).length≤8000:=fun _=>by decide
 have hW:@t_ringwalk_Walk wv boxA=some walkA:=(Jsv boxA limA hc).trans ((Jmy boxA limA hc).symm.trans (by kernel_rfl))
 have hB:@t_additivelaw24_box wv (0,(0,(2,2)))=some boxA:=by kernel_rfl
 unfold t_additivelaw24_awake
 refine (ca_s (c:=c_additivelaw24_box) hB).trans ((ca_s (c:=c_ringwalk_Walk) hW).trans ?_)
 kernel_rfl
theorem Jaf {α:Type} (k:Bool→Option α):@W.call wv α c_additivelaw24_awake (():Unit) k=k true:=ca_s (c:=c_additivelaw24_awake) Jro
end Go.Proofs.Ytmfagdfkpjgeiaa
namespace Go.Proofs.Ytmfagdfkpjgeiaa
open Go Go.Vv Go.Dn Go.Dn.W
set_option linter.unusedVariables false
set_option linter.unusedSimpArgs false
set_option maxRecDepth 100000
def grid (c:Cell):Prop:=-4096≤c.1∧c.1<4096∧-4096≤c.2∧c.2<4096
instance (c:Cell):Decidable (grid c):=by unfold grid;exact inferInstance
def nb (a b:Cell):Prop:=(a.1 - b.1) * (a.1 - b.1)+(a.2 - b.2) * (a.2 - b.2)=1
instance (a b:Cell):Decidable (nb a b):=by unfold nb;exact inferInstance
def goodC (l:List Cell) (i:Nat):Prop:=∀c,l[i]?=some c→grid c∧∀p,0<i→l[i - 1]?=some p→nb p c
def VT (t:Jkr):Prop:=(1≤t.1∧t.1≤7)∧(1≤t.2.2.length∧t.2.2.length≤65536)∧(∀i,i<t.2.2.length→goodC t.2.2 i)∧(t.2.1=true→t.2.2.length=1∨∀a b,t.2.2[t.2.2.length - 1]?=some a→t.2.2[0]?=some b→nb a b)
end Go.Proofs.Ytmfagdfkpjgeiaa
namespace Go.Proofs.Ytmfagdfkpjgeiaa
open Go Go.Vv Go.Dn Go.Dn.W
set_option linter.unusedVariables false
set_option linter.unusedSimpArgs false
set_option linter.unusedSectionVars false
set_option maxRecDepth 100000
end Go.Proofs.Ytmfagdfkpjgeiaa
namespace Go.Proofs.Ytmfagdfkpjgeiaa
open Go Go.Vv Go.Dn Go.Dn.W
set_option linter.unusedVariables false
set_option linter.unusedSimpArgs false
set_option linter.unusedSectionVars false
set_option maxRecDepth 100000
def boxR (x y:Int) (n m:Nat):Reg:=(Ae m).map fun i:Nat=>(y+(i:Int),[(x,x+(n:Int))])
theorem box_ok (x y:Int) (n m:Nat) (hx:-100000≤x∧x≤100000) (hy:-100000≤y∧y≤100000) (hn:n≤100000) (hm:m≤100000):@t_additivelaw24_box wv (x,(y,((n:Int),(m:Int))))=some (boxR x y n m):=by
 have hloop:=Kv (b:=@t_additivelaw24_box_L0 wv) (e:=(⟨boxR x y n m,()⟩:HP Reg Unit)) (fun i=>(⟨x,⟨y,⟨(n:Int),⟨(m:Int),⟨(i:Int),⟨boxR x y n i,()⟩⟩⟩⟩⟩⟩:HP Int (HP Int (HP Int (HP Int (HP Int (HP Reg Unit))))))) m (by omega) (fun i hi=>by
  have hlen:(boxR x y n i).length=i:=by unfold boxR;rw [Aa,Ag]
  unfold t_additivelaw24_box_L0
  dsimp only
  rw [Ks (by omega),w_ln,hlen,w_pl,fit32 (by omega) (by omega),J4,J4,J4,wr (n:=(i:Int)+1) (by omega) (by omega),wr (n:=y+(i:Int)) (by omega) (by omega),wr (n:=x+(n:Int)) (by omega) (by omega),w_ap]
  have e:boxR x y n (i+1)=boxR x y n i++[(y+(i:Int),[(x,x+(n:Int))])]:=by unfold boxR;rw [Bg,Ai];rfl
  rw [e]
  rfl) (by
  unfold t_additivelaw24_box_L0
  dsimp only
  rw [Jz (by omega)])
 unfold t_additivelaw24_box
 exact (lo_s hloop).trans rfl
section
variable {x y:Int} {n m:Nat}
theorem Jgl {c:Cell}:Qc (boxR x y n m) c↔(x≤c.1∧c.1<x+n)∧(y≤c.2∧c.2<y+m):=by
 unfold Qc boxR
 constructor
 ·rintro ⟨w,hw,h1,u,hu,h2,h3⟩
  obtain ⟨i,hi,rfl⟩:=Ar.1 hw
  rw [Ap] at hi
  dsimp only at hu h1
  rw [Aj] at hu
  subst hu
  exact ⟨⟨h2,h3⟩,by omega,by omega⟩
 ·rintro ⟨⟨h1,h2⟩,h3,h4⟩
  refine ⟨_,Ar.2 ⟨(c.2 - y).toNat,Ap.2 (by omega),rfl⟩,by dsimp only;omega,(x,x+(n:Int)),Aj.2 rfl,h1,h2⟩
theorem box_reg (hn:0<n) (hx:-4096≤x∧x+n≤4096) (hy:-4096≤y∧y+m≤4096):RegOK (boxR x y n m):=by
 refine ⟨fun w hw=>?_,?_,fun w hw=>?_,fun w hw=>?_⟩
 ·obtain ⟨i,hi,rfl⟩:=Ar.1 hw
  rw [Ap] at hi
  dsimp only;omega
 ·exact List.pairwise_map.2 (List.pairwise_lt_range.imp fun h=>by dsimp only;omega)
 ·obtain ⟨i,hi,rfl⟩:=Ar.1 hw
  exact fun h=>by cases h
 ·obtain ⟨i,hi,rfl⟩:=Ar.1 hw
  exact ⟨fun u hu=>by rw [Aj] at hu;subst hu;dsimp only;omega,Ba _ _⟩
theorem box_lim (hm:m≤1000000):LimR (boxR x y n m):=by
 refine ⟨by unfold boxR;rw [Aa,Ag];omega,fun w hw=>?_⟩
 obtain ⟨i,hi,rfl⟩:=Ar.1 hw
 simp
theorem Jvf:(Ky (boxR x y n m)).length≤m * n:=by
 have h:∀w∈boxR x y n m,(rowC w).length≤n:=fun w hw=>by
  obtain ⟨i,hi,rfl⟩:=Ar.1 hw
  unfold rowC
  rw [List.flatMap_cons,List.flatMap_nil,Aw,Jl3]
  dsimp only;omega
 have:=Jdo (f:=rowC) (l:=boxR x y n m) (n:=n) h
 have hl:(boxR x y n m).length=m:=by unfold boxR;rw [Aa,Ag]
 rw [hl] at this
 exact this
def bck (x y:Int) (n m k:Nat):Ck :=
 if k<n then ((x+k,y),0) else if k<n+m then ((x+n,y+(k - n:Nat)),1) else if k<2 * n+m then ((x+n - (k - n - m:Nat),y+m),2) else ((x,y+m - (k - 2 * n - m:Nat)),3)
theorem jf (hn:0<n) (hm:0<m) {k:Nat} (hk:k<2 * n+2 * m):Crk (boxR x y n m) (bck x y n m k).1 (bck x y n m k).2:=by
 unfold bck
 split
 ·refine .inl ⟨rfl,?_⟩;simp only [Jgl];omega
 split
 ·refine .inr (.inl ⟨rfl,?_⟩);simp only [Jgl];omega
 split
 ·refine .inr (.inr (.inl ⟨rfl,?_⟩));simp only [Jgl];omega
 ·refine .inr (.inr (.inr ⟨rfl,?_⟩));simp only [Jgl];omega
theorem Jun (hn:0<n) (hm:0<m) {c:Ck} (h:Crk (boxR x y n m) c.1 c.2):∃k,k<2 * n+2 * m∧c=bck x y n m k:=by
 obtain ⟨⟨a,b⟩,t⟩:=c
 simp only [Crk,Jgl] at h
 rcases h with ⟨rfl,h1,h2⟩|⟨rfl,h1,h2⟩|⟨rfl,h1,h2⟩|⟨rfl,h1,h2⟩
 ·refine ⟨(a - x).toNat,by omega,?_⟩
  unfold bck
  rw [if_pos (by omega)]
  refine Prod.ext (Prod.ext ?_ ?_) rfl<;>dsimp only<;>omega
 ·refine ⟨n+(b - y).toNat,by omega,?_⟩
  unfold bck
  rw [if_neg (by omega),if_pos (by omega)]
  refine Prod.ext (Prod.ext ?_ ?_) rfl<;>dsimp only<;>omega
 ·refine ⟨n+m+(x+n - a).toNat,by omega,?_⟩
  unfold bck
  rw [if_neg (by omega),if_neg (by omega),if_pos (by omega)]
  refine Prod.ext (Prod.ext ?_ ?_) rfl<;>dsimp only<;>omega
 ·refine ⟨2 * n+m+(y+m - b).toNat,by omega,?_⟩
  unfold bck
  rw [if_neg (by omega),if_neg (by omega),if_neg (by omega)]
  refine Prod.ext (Prod.ext ?_ ?_) rfl<;>dsimp only<;>omega
theorem bck_next (hn:0<n) (hm:0<m) {k:Nat} (hk:k+1<2 * n+2 * m):nx (boxR x y n m) (bck x y n m k)=bck x y n m (k+1):=by
 have hc:=jf (x:=x) (y:=y) hn hm (k:=k) (by omega)
 have hc':=jf (x:=x) (y:=y) hn hm hk
 have e1:Ke (bck x y n m k).2 (bck x y n m k).1=(bck x y n m (k+1)).1:=by
  unfold bck Ke
  (repeat' split)<;>first|(refine Prod.ext ?_ ?_<;>dsimp only at *<;>omega)|(dsimp only at *;omega)
 have h:=rule hc (y:=(bck x y n m (k+1)).2) (by rw [e1];exact hc') (by
  rw [e1]
  by_cases q:(bck x y n m (k+1)).2=((bck x y n m k).2+1) % 4
  ·exact .inl q
  ·refine .inr fun h=>?_
   revert q h
   unfold bck
   (repeat' split)<;>intro q h<;>first
    | (dsimp only at q;omega)
    | (simp [Crk,Jgl] at h;omega))
 rw [←h,e1]
theorem bck_last (hn:0<n) (hm:0<m):nx (boxR x y n m) (bck x y n m (2 * n+2 * m - 1))=bck x y n m 0:=by
 have hc:=jf (x:=x) (y:=y) hn hm (k:=2 * n+2 * m - 1) (by omega)
 have hc':=jf (x:=x) (y:=y) hn hm (k:=0) (by omega)
 have e0:bck x y n m (2 * n+2 * m - 1)=((x,y+1),3):=by
  unfold bck
  rw [if_neg (by omega),if_neg (by omega),if_neg (by omega)]
  refine Prod.ext (Prod.ext ?_ ?_) rfl<;>dsimp only<;>omega
 have e2:bck x y n m 0=((x,y),0):=by
  unfold bck
  rw [if_pos hn]
  refine Prod.ext (Prod.ext ?_ ?_) rfl<;>dsimp only<;>omega
 rw [e0] at hc ⊢
 rw [e2] at hc' ⊢
 have e1:Ke 3 (x,y+1)=(x,y):=by simp [Ke]
 have:=rule (c:=((x,y+1),3)) hc (y:=0) (by dsimp only;rw [e1];exact hc') (.inl rfl)
 dsimp only at this
 rw [e1] at this
 exact this.symm
theorem Jcc (hn:0<n) (hm:0<m):∀k,k<2 * n+2 * m→itr (nx (boxR x y n m)) k (bck x y n m 0)=bck x y n m k
 | 0,_=>rfl
 | k+1,hk=>by
  rw [show itr (nx (boxR x y n m)) (k+1) (bck x y n m 0)=nx (boxR x y n m) (itr (nx (boxR x y n m)) k (bck x y n m 0)) from rfl,Jcc hn hm k (by omega),bck_next hn hm hk]
theorem bck_inj {j k:Nat} (hj:j<2 * n+2 * m) (hk:k<2 * n+2 * m) (h:bck x y n m j=bck x y n m k):j=k:=by
 unfold bck at h
 revert h
 (repeat' split)<;>intro h<;>simp only [Be] at h<;>omega
theorem Jse (hn:0<n) (hm:0<m):Rnd (nx (boxR x y n m)) (bck x y n m 0) (2 * n+2 * m):=by
 refine ⟨by omega,?_,fun i h0 hi e=>?_⟩
 ·rw [show 2 * n+2 * m=2 * n+2 * m - 1+1 by omega]
  show nx (boxR x y n m) (itr (nx (boxR x y n m)) (2 * n+2 * m - 1) (bck x y n m 0))=_
  rw [Jcc hn hm _ (by omega),bck_last hn hm]
 ·rw [Jcc hn hm i hi] at e
  have:=bck_inj hi (by omega) e
  omega
theorem Jo4 (hn:0<n):bck x y n m 0=((x,y),0):=by
 unfold bck
 rw [if_pos hn]
 refine Prod.ext (Prod.ext ?_ ?_) rfl<;>dsimp only<;>omega
theorem Jlr (hn:0<n) (hm:0<m):Least (boxR x y n m) (bck x y n m 0):=by
 refine ⟨jf hn hm (by omega),fun k=>?_⟩
 have hc:=Km (jf (x:=x) (y:=y) hn hm (k:=0) (by omega)) k
 obtain ⟨j,hj,e⟩:=Jun hn hm hc
 rw [e,Jo4 hn]
 unfold bck yx
 (repeat' split)<;>dsimp only<;>omega
theorem Jqg (hn:0<n) (hm:0<m):starts (boxR x y n m)=[bck x y n m 0]:=by
 refine Jat ⟨Ba _ _,fun c=>?_⟩
 rw [Aj]
 refine ⟨fun e=>by rw [e];exact Jlr hn hm,fun h=>?_⟩
 obtain ⟨k,hk,e⟩:=Jun hn hm h.1
 exact (Jlr hn hm).same h (k:=k) (by rw [Jcc hn hm k hk];exact e)
def Jfg (x y:Int) (n m:Nat):List Cell:=(Ae n).map (fun k:Nat=>(x+(k:Int),y))++(Ae m).map (fun k:Nat=>(x+n - 1,y+(k:Int)))++(Ae n).map (fun k:Nat=>(x+n - 1 - (k:Int),y+m - 1))++(Ae m).map fun k:Nat=>(x,y+m - 1 - (k:Int))
theorem Jac {α:Type} (f:Nat→α) (a b:Nat):(Ae (a+b)).map f=(Ae a).map f++(Ae b).map fun k=>f (a+k):=by
 rw [List.range_add,Ai,List.map_map];rfl
theorem flat_one {α β:Type} {l:List α} {g:α→List β} {f:α→β} (h:∀k∈l,g k=[f k]):l.flatMap g=l.map f:=by
 induction l with
 | nil=>rfl
 | cons a l ih=>rw [List.flatMap_cons,Bn,h a (List.mem_cons_self ..),ih fun k hk=>h k (List.mem_cons_of_mem _ hk)];rfl
theorem box_raw (hn:0<n) (hm:0<m):raw (boxR x y n m) (bck x y n m 0) (2 * n+2 * m)=Jfg x y n m:=by
 have hK:∀k,k<2 * n+2 * m→rawK (boxR x y n m) (bck x y n m 0) k=[J0 (bck x y n m k).1 (bck x y n m k).2]:=fun k hk=>by
  have e1:itr (nx (boxR x y n m)) k (bck x y n m 0)=bck x y n m k:=Jcc hn hm k hk
  have e2:(itr (nx (boxR x y n m)) (k+1) (bck x y n m 0)).2=(bck x y n m k).2∨(itr (nx (boxR x y n m)) (k+1) (bck x y n m 0)).2=((bck x y n m k).2+1) % 4:=by
   by_cases q:k+1<2 * n+2 * m
   ·rw [Jcc hn hm (k+1) q]
    unfold bck
    (repeat' split)<;>first|exact .inl rfl|exact .inr rfl|(exfalso;omega)
   ·have:k+1=2 * n+2 * m:=by omega
    rw [this,(Jse hn hm).back,Jo4 hn]
    right
    unfold bck
    rw [if_neg (by omega),if_neg (by omega),if_neg (by omega)]
    rfl
  have hd:=(jf (x:=x) (y:=y) hn hm hk).hd
  unfold rawK ptK hdK
  rw [e1]
  rw [if_neg]
  unfold rgt
  rcases e2 with e|e<;>rw [e]<;>omega
 unfold raw
 have e:(Ae (2 * n+2 * m)).flatMap (rawK (boxR x y n m) (bck x y n m 0))=(Ae (2 * n+2 * m)).map fun k=>J0 (bck x y n m k).1 (bck x y n m k).2:=by
  exact flat_one fun k hk=>hK k (Ap.1 hk)
 rw [e,show 2 * n+2 * m=n+m+n+m by omega,Jac,Jac,Jac]
 unfold Jfg
 congr 1
 ·congr 1
  ·congr 1
   ·refine Az fun k hk=>?_
    rw [Ap] at hk
    unfold bck
    rw [if_pos (by omega)]
    rfl
   ·refine Az fun k hk=>?_
    rw [Ap] at hk
    unfold bck
    rw [if_neg (by omega),if_pos (by omega)]
    refine Prod.ext ?_ ?_<;>simp [J0]
  ·refine Az fun k hk=>?_
   rw [Ap] at hk
   unfold bck
   rw [if_neg (by omega),if_neg (by omega),if_pos (by omega)]
   refine Prod.ext ?_ ?_<;>simp [J0]<;>omega
 ·refine Az fun k hk=>?_
  rw [Ap] at hk
  unfold bck
  rw [if_neg (by omega),if_neg (by omega),if_neg (by omega)]
  refine Prod.ext ?_ ?_<;>simp [J0]<;>omega
theorem Jd8:∀ {l o:List Cell} {z:Cell},Adj (·≠·) (z::l)→(z::l).foldl ddS o=if o.getLast?=some z then o++l else o++z::l
 | [],o,z,_=>by
  simp only [Bj,List.foldl_nil,ddS,Aw]
 | y::l,o,z,h=>by
  have hne:z≠y:=h 0 z y rfl rfl
  have ht:Adj (·≠·) (y::l):=fun i a b ha hb=>h (i+1) a b ha hb
  rw [Bj,Jd8 ht]
  unfold ddS
  split
  ·rename_i e
   rw [if_neg (by rw [e];simpa using hne)]
  ·rw [Bf,if_neg (by simpa using hne)]
   simp
theorem Jf2 {f:Nat→Cell} (h:∀k,f k≠f (k+1)) (n:Nat):Adj (·≠·) ((Ae n).map f):=fun i a b ha hb=>by
 rw [Ah] at ha hb
 have h1:=(Ab.1 (show ((Ae n).map f)[i+1]?=some b by rw [Ah];exact hb)).1
 rw [Aa,Ag] at h1
 rw [Bu (by omega)] at ha hb
 simp only [Option.map_some,Option.some.injEq] at ha hb
 subst ha;subst hb
 exact h i
theorem Jio {f:Nat→Cell} (h:∀k,f k≠f (k+1)) {n:Nat} (hn:0<n) {o:List Cell} (ho:o.getLast?=some (f 0)):((Ae n).map f).foldl ddS o=o++(Ae (n - 1)).map (fun k=>f (k+1)):=by
 obtain ⟨k,rfl⟩:∃k,n=k+1:=⟨n - 1,by omega⟩
 have hA:=Jf2 h (k+1)
 rw [Ax,Bn,List.map_map] at hA ⊢
 rw [Jd8 hA,if_pos ho]
 rfl
theorem zg {f:Nat→Cell} {n:Nat} (hn:0<n) {o:List Cell}:(o++(Ae n).map f).getLast?=some (f (n - 1)):=by
 obtain ⟨k,rfl⟩:∃k,n=k+1:=⟨n - 1,by omega⟩
 rw [Bg,Ai,←Ao,Bn,List.map_nil,Bf]
 rfl
theorem Jjt (m:List Cell):∀o:List Cell,(m.foldl ddS o).getLast?=(o++m).getLast?:=by
 induction m with
 | nil=>intro o;simp
 | cons c m ih =>
  intro o
  rw [Bj,ih]
  have:o++c::m=(o++[c])++m:=by simp
  rw [this]
  unfold ddS
  split
  ·rename_i h
   rw [Bs,Bs,Bf,h]
  ·rfl
theorem box_walk (hn:0<n) (hm:0<m):(Jfy (Jfg x y n m)).length=max 1 (2 * (n+m) - 4):=by
 have hd:(dd (Jfg x y n m)).length=2 * (n+m) - 3∧(dd (Jfg x y n m)).getLast?=some (x,y)∧(dd (Jfg x y n m)).head?=some (x,y):=by
  refine ⟨?_,?_,?_⟩
  ·unfold Jfg
   rw [Jl6,Jl6,Jl6]
   have hB:dd ((Ae n).map fun k:Nat=>((x+(k:Int),y):Cell))=(Ae n).map fun k:Nat=>((x+(k:Int),y):Cell):=by
    obtain ⟨k,rfl⟩:∃k,n=k+1:=⟨n - 1,by omega⟩
    have hA:=Jf2 (f:=fun k:Nat=>((x+(k:Int),y):Cell)) (fun k e=>by simp only [Be] at e;omega) (k+1)
    rw [Ax,Bn] at hA ⊢
    unfold dd
    rw [Jd8 hA,if_neg (by simp),List.nil_append]
   rw [hB]
   have l0:∀o:List Cell,o=(Ae n).map (fun k:Nat=>((x+(k:Int),y):Cell))→o.getLast?=some ((fun k:Nat=>((x+n - 1,y+(k:Int)):Cell)) 0):=by
    rintro o rfl
    have:=zg (f:=fun k:Nat=>((x+(k:Int),y):Cell)) hn (o:=[])
    rw [List.nil_append] at this
    rw [this]
    refine congrArg some (Prod.ext ?_ ?_)<;>dsimp only<;>omega
   have e1:=Jio (f:=fun k:Nat=>((x+n - 1,y+(k:Int)):Cell)) (fun k e=>by simp only [Be] at e;omega) hm (l0 _ rfl)
   have l1:(((Ae m).map fun k:Nat=>((x+n - 1,y+(k:Int)):Cell)).foldl ddS ((Ae n).map fun k:Nat=>((x+(k:Int),y):Cell))).getLast?=some ((fun k:Nat=>((x+n - 1 - (k:Int),y+m - 1):Cell)) 0):=by
    rw [Jjt,zg hm]
    refine congrArg some (Prod.ext ?_ ?_)<;>dsimp only<;>omega
   have e2:=Jio (f:=fun k:Nat=>((x+n - 1 - (k:Int),y+m - 1):Cell)) (fun k e=>by simp only [Be] at e;omega) hn l1
   have l2:(((Ae n).map fun k:Nat=>((x+n - 1 - (k:Int),y+m - 1):Cell)).foldl ddS (((Ae m).map fun k:Nat=>((x+n - 1,y+(k:Int)):Cell)).foldl ddS ((Ae n).map fun k:Nat=>((x+(k:Int),y):Cell)))).getLast?=some ((fun k:Nat=>((x,y+m - 1 - (k:Int)):Cell)) 0):=by
    rw [Jjt,zg hn]
    refine congrArg some (Prod.ext ?_ ?_)<;>dsimp only<;>omega
   have e3:=Jio (f:=fun k:Nat=>((x,y+m - 1 - (k:Int)):Cell)) (fun k e=>by simp only [Be] at e;omega) hm l2
   rw [e3,e2,e1]
   simp only [Ad,Aa,Ag]
   omega
  ·rw [dd_last]
   unfold Jfg
   rw [zg hm]
   refine congrArg some (Prod.ext ?_ ?_)<;>dsimp only<;>omega
  ·rw [Jtd]
   unfold Jfg
   obtain ⟨k,rfl⟩:∃k,n=k+1:=⟨n - 1,by omega⟩
   rw [Ax]
   simp
 unfold Jfy trim
 obtain ⟨h1,h2,h3⟩:=hd
 rw [h2,h3]
 by_cases h:1<(dd (Jfg x y n m)).length
 ·rw [if_pos ⟨h,rfl⟩,List.length_dropLast,h1];omega
 ·rw [if_neg fun q=>h q.1,h1];omega
end
theorem box_Walk {x y:Int} {n m:Nat} (hn:0<n) (hm:0<m) (hn':n≤30) (hm':m≤30) (hx:-1000≤x∧x≤1000) (hy:-1000≤y∧y≤1000) :
  ∃l:List Cell,@t_ringwalk_Walk wv (boxR x y n m)=some [(1,true,l)]∧l.length=max 1 (2 * (n+m) - 4)∧l[0]?=some (x,y):=by
 classical
 have hr:RegOK (boxR x y n m):=box_reg hn (by omega) (by omega)
 have hcl:=Jvf (x:=x) (y:=y) (n:=n) (m:=m)
 have hmn:m * n≤30 * 30:=Nat.mul_le_mul hm' hn'
 refine ⟨_,?_,box_walk (x:=x) (y:=y) hn hm,?_⟩
 ·rw [Jsv _ (box_lim (by omega)) (fun _=>by omega),if_pos hr,Jqg hn hm]
  show some [walkOf _ _]=_
  unfold walkOf
  rw [Jnh (jf hn hm (by omega)) (Jse hn hm),box_raw hn hm]
 ·rw [←Bp,Jtu]
  unfold Jfg
  obtain ⟨k,rfl⟩:∃k,n=k+1:=⟨n - 1,by omega⟩
  rw [Ax]
  simp
theorem Jrh (b:Int×(Int×(Int×Int))) (h1:0≤b.2.2.1∧b.2.2.1≤255) (h2:0≤b.2.2.2∧b.2.2.2≤255):@t_additivelaw24_RingwalkBoxes wv b=some true:=by
 obtain ⟨x,y,w,h⟩:=b
 dsimp only at h1 h2
 obtain ⟨n,hn⟩:∃n:Nat,(n:Int)=1+w % 30:=⟨(1+w % 30).toNat,by omega⟩
 obtain ⟨m,hm⟩:∃m:Nat,(m:Int)=1+h % 30:=⟨(1+h % 30).toNat,by omega⟩
 have en:@W.ar wv .add .i64 1 (@W.cv wv .i64 (@W.ar wv .rem .u8 w 30))=(n:Int):=by
  have:@W.ar wv .rem .u8 w 30=w % 30:=Aq (by omega)
  rw [this]
  have:@W.cv wv .i64 (w % 30)=w % 30:=wr (by omega) (by omega)
  rw [this,J4,wr (by omega) (by omega),hn]
 have em:@W.ar wv .add .i64 1 (@W.cv wv .i64 (@W.ar wv .rem .u8 h 30))=(m:Int):=by
  have:@W.ar wv .rem .u8 h 30=h % 30:=Aq (by omega)
  rw [this]
  have:@W.cv wv .i64 (h % 30)=h % 30:=wr (by omega) (by omega)
  rw [this,J4,wr (by omega) (by omega),hm]
 unfold t_additivelaw24_RingwalkBoxes
 dsimp only
 rw [en,em,gd_t (by rfl),gd_t (by rfl)]
 by_cases a1:x < -1000
 ·rw [Ks a1,Jaf]
 rw [Jz a1]
 by_cases a2:x > 1000
 ·rw [Js2 a2,Jaf]
 rw [Je9 a2]
 by_cases a3:y < -1000
 ·rw [Ks a3,Jaf]
 rw [Jz a3]
 by_cases a4:y > 1000
 ·rw [Js2 a4,Jaf]
 rw [Je9 a4]
 have hB:=box_ok x y n m (by omega) (by omega) (by omega) (by omega)
 obtain ⟨l,hW,hl,h0⟩:=box_Walk (x:=x) (y:=y) (n:=n) (m:=m) (by omega) (by omega) (by omega) (by omega) (by omega) (by omega)
 have hpt:@W.an wv (@W.cm wv .eql x x) (@W.cm wv .eql y y)=true:=by rw [w_an,Qj,Qj];simp
 have hg0:([((1:Int),(true,l))]:List Jkr)[0]?=some (1,true,l):=rfl
 have hmx:@W.ar wv .mul .i64 2 (@W.ar wv .sub .i64 (@W.mx wv (n:Int) (m:Int)) 1)=2 * (max (n:Int) (m:Int) - 1):=by
  have:@W.mx wv (n:Int) (m:Int)=max (n:Int) (m:Int):=by rw [w_mx];split<;>omega
  rw [this,Qs,wr (by omega) (by omega),Jst,wr (by omega) (by omega)]
 by_cases b1:n=1
 ·rw [br_t (by rw [Qj];exact beq_iff_eq.2 (by omega))]
  refine (ca_s (c:=c_additivelaw24_box) hB).trans ((ca_s (c:=c_ringwalk_Walk) hW).trans ?_)
  rw [br_t (by rfl),ge_s (fg0 hg0),hmx,br_t (by rw [Qj,w_ln,w_mx,beq_iff_eq];show (l.length:Int)=_;split<;>omega),ge_s (fg0 hg0),ge_s (fg0 h0),br_t hpt,Jaf]
 rw [br_f (by rw [Qj];exact beq_eq_false_iff_ne.2 (by omega))]
 by_cases b2:m=1
 ·rw [br_t (by rw [Qj];exact beq_iff_eq.2 (by omega))]
  refine (ca_s (c:=c_additivelaw24_box) hB).trans ((ca_s (c:=c_ringwalk_Walk) hW).trans ?_)
  rw [br_t (by rfl),ge_s (fg0 hg0),hmx,br_t (by rw [Qj,w_ln,w_mx,beq_iff_eq];show (l.length:Int)=_;split<;>omega),ge_s (fg0 hg0),ge_s (fg0 h0),br_t hpt,Jaf]
 rw [br_f (by rw [Qj];exact beq_eq_false_iff_ne.2 (by omega))]
 refine (ca_s (c:=c_additivelaw24_box) hB).trans ((ca_s (c:=c_ringwalk_Walk) hW).trans ?_)
 rw [br_t (by rfl),ge_s (fg0 hg0),br_t (by rw [Qj,w_ln,J4,wr (by omega) (by omega),Jst,wr (by omega) (by omega),Qs,wr (by omega) (by omega),beq_iff_eq];show (l.length:Int)=_;omega),ge_s (fg0 hg0),ge_s (fg0 h0),br_t hpt,Jaf]
end Go.Proofs.Ytmfagdfkpjgeiaa
namespace Go.Proofs.Ytmfagdfkpjgeiaa
open Go Go.Vv Go.Dn Go.Dn.W
set_option linter.unusedVariables false
theorem u8_bd {v:Int} (h:(Lit.int .u8 v).wf=true):0≤v∧v≤255:=by
 have h:(decide (Go.IntKind.min .u8≤v)&&decide (v≤Go.IntKind.max .u8))=true:=h
 rw [Bo,decide_eq_true_eq,decide_eq_true_eq] at h
 exact h
end Go.Proofs.Ytmfagdfkpjgeiaa
