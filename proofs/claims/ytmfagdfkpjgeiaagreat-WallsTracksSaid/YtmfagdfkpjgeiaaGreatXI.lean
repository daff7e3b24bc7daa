/- walls.Walls: what it hands out. Conditions: a valid region of at most 2000 cells, or one that is not valid. -/
import Derived.Test.YtmfagdfkpjgeiaaGreatXG
import Derived.Test.YtmfagdfkpjgeiaaGreatXH
import Derived.Test.YtmfagdfkpjgeiaaGreatXF
import Derived.Test.YtmfagdfkpjgeiaaGreatXE
import Derived.Test.YtmfagdfkpjgeiaaGreatXD
import Derived.Test.YtmfagdfkpjgeiaaGreatFC
set_option linter.unusedVariables false
set_option linter.unusedSimpArgs false
set_option maxRecDepth 100000
open List renaming getElem?_eq_getElem → Aa, mem_singleton → Ab, mem_of_getElem? → Ac, mem_append → Ad, mem_cons_of_mem → Af, mem_cons_self → Ah, getElem?_take_of_lt → Ai
open Bool renaming not_eq_true' → Ae
open Nat renaming mul_le_mul_right → Ag, le_refl → Aj
namespace Go.Proofs.YtmfagdfkpjgeiaaGreat
open Go Go.Vv Go.Dn Go.Dn.W
theorem Rf{r:AY}(h:AL r):∃E,@lq wv (r,1)=some E/\AL E/\∀c,Qo E c↔deep r 1 c:=TH r h (Sw h) 1 ⟨by decide,by decide⟩
open Classical in
noncomputable def GA(r:AY):AY:=if h:AL r then (Rf h).choose else []
theorem YJ{r:AY}(h:AL r):@lq wv (r,1)=some (GA r)/\AL (GA r)/\∀c,Qo (GA r) c↔deep r 1 c:=by unfold GA;rw [dif_pos h];exact (Rf h).choose_spec
theorem J8v{r:AY}(h:AL r):(K8 (GA r)).length<=(K8 r).length:=by
 obtain ⟨-,l,g⟩:=YJ h;refine Tm ((l.IG).imp λ{a b} d e=>?_) λc f=>?_
 ·subst e;exact vL d d
 ·rw [TD,g] at f;rw [TD];have:=f 0 0 (by decide) (by decide) (by decide) (by decide);simpa using this
noncomputable def ET(r:AY):Nat->AY
 | 0=>r
 | n+1=>GA (ET r n)
theorem kW{r:AY}(h:AL r):∀n,AL (ET r n)/\(K8 (ET r n)).length<=(K8 r).length
 | 0=>⟨h,Aj _⟩
 | n+1=>by obtain ⟨a,d⟩:=kW h n;exact ⟨(YJ a).2.1,Nat.le_trans (J8v a) d⟩
noncomputable def KR(r:AY):List Jt:=(X4 r).map (KS r)
theorem Jsi{r:AY}(h:AL r)(g:(K8 r).length<=2000):(KR r).length<=8000/\(∀t∈KR r,VT t/\t.1=1/\t.2.1=true):=by have f:=qR r;have a:=(vE r (Sw h) λ_=>by omega).2 h;have hl:=Jox a;refine ⟨by unfold KR;rw [List.length_map];omega,λt d=>?_⟩;obtain ⟨s,hs,rfl⟩:=List.mem_map.1 d;exact ⟨Tx h (by omega) ((a.mem s).1 hs).1,rfl,rfl⟩
theorem J1c{l:List Jt}(h:∀t∈l,VT t):DN l<=l.length * 65537:=by
 induction l with
 | nil=>exact Aj _
 | cons t l a=>
  have g:=a λx hx=>h x (Af _ hx);have f:=(h t (Ah ..)).2.1.2;have d:DN (t::l)=(t.2.2.length+1)+DN l:=by unfold DN;rw [List.map_cons,List.sum_cons]
  rw [List.length_cons,Nat.add_mul];omega
noncomputable def GJ(r:AY):Nat->List Jt
 | 0=>[]
 | n+1=>GJ r n++KR (ET r n)
theorem ah{r:AY}(h:AL r)(d:(K8 r).length<=2000):∀n,(GJ r n).length<=n * 8000/\∀t∈GJ r n,VT t/\t.1=1/\t.2.1=true
 | 0=>⟨Aj _,λt a=>by cases a⟩
 | n+1=>by
  obtain ⟨m,f⟩:=ah h d n;obtain ⟨l,v⟩:=kW h n;obtain ⟨o,g⟩:=Jsi l (by omega);refine ⟨?_,λt a=>?_⟩
  ·show (GJ r n++KR (ET r n)).length<=_;rw [List.length_append,Nat.add_mul];omega
  ·rcases Ad.1 (show t∈GJ r n++KR (ET r n) from a) with q|q
   ·exact f t q
   ·exact g t q
abbrev zR:=HP (List Jt) (HP Int (HP Int (HP AY Unit)))
open Classical in
theorem vK(r:AY)(n:Int)(hl:DF r)(d:AL r->(K8 r).length<=2000):@Y9 wv (r,n)=some (if AL r then (Ma (GJ r (min (max n 0) 64).toNat),ET r (min (max n 0) 64).toNat) else ([],[])):=by
 unfold Y9;dsimp only;rw [rX hl];by_cases h:AL r
 ·have d:=d h;rw [AU (by simp [BQ,h]),if_pos h];have m:AL ([]:AY):=⟨by simp,.nil,by simp,by simp⟩;obtain ⟨U,y,v,o⟩:=Js0 r [] h m hl (Sw m);have eU:U=r:=vB v h λc=>by rw [o];exact ⟨λq=>q.elim id λ⟨w,A,_⟩=>(List.not_mem_nil A).elim,.inl⟩
  subst eU;refine (BH (c:=mD) y).trans ?_;have eN:@W.mn wv (@W.mx wv n 0) 64=(((min (max n 0) 64).toNat:Nat):Int):=by rw [bM,mZ];split<;>split<;>omega
  rw [eN];have hN:(min (max n 0) 64).toNat<=64:=by omega
  generalize (min (max n 0) 64).toNat=N at hN ⊢;have key:=Ki (b:=@xW wv) (e:=(⟨GJ U N,ET U N,()⟩:HP (List Jt) (HP AY Unit))) (λi=>(⟨GJ U i,(N:Int),(i:Int),ET U i,()⟩:zR)) N (by omega) (λi hi=>by
   obtain ⟨f,J⟩:=kW h i;obtain ⟨H,G⟩:=Jsi f (by omega);obtain ⟨w1,g⟩:=ah h d i;have l:(GJ U i).length+(KR (ET U i)).length<=1000000:=by have:i * 8000<=64 * 8000:=Ag _ (by omega);omega
   unfold xW;dsimp only;rw [J5 (by omega),eD (Sw f) (λ_=>by omega),if_pos f];refine (BH (c:=xY) (a:=(GJ U i,KR (ET U i))) (r:=GJ U i++KR (ET U i)) (if_pos l)).trans ?_;refine (BH (c:=lY) (YJ f).1).trans ?_;rw [J3,wr (by omega) (by omega)];rfl) (by unfold xW;dsimp only;rw [Jr (by omega)])
  refine (BL key).trans ?_;obtain ⟨w1,g⟩:=ah h d N;have F:=J1c λt q=>(g t q).1;have E:N * 8000<=64 * 8000:=Ag _ (by omega);have B:(GJ U N).length * 65537<=512000 * 65537:=Ag _ (by omega);exact (BH (c:=lQ) (XL (GJ U N) (by omega) λt q=>by have:=(g t q).1.2.1.2;omega)).trans rfl
 ·rw [BA (by simp [BQ,h]),if_neg h]
theorem Ka6:@Jaz wv 4=some (CF 0 0 4 4):=by kernel_rfl
theorem J2u:GA (CF 0 0 4 4)=CF 1 1 2 2:=by
 have a:AL (CF 0 0 4 4):=qJ (by decide) (by decide) (by decide);have d:AL (CF 1 1 2 2):=qJ (by decide) (by decide) (by decide);refine vB (YJ a).2.1 d λc=>?_;rw [(YJ a).2.2,NV];constructor
 ·intro h;have g:=NV.1 (h (-1) (-1) (by decide) (by decide) (by decide) (by decide));have f:=NV.1 (h 1 1 (by decide) (by decide) (by decide) (by decide));dsimp only at g f;omega
 ·intro h dx dy r o m l;rw [NV];dsimp only;omega
theorem Rh:GA (CF 1 1 2 2)=[]:=by
 have a:AL (CF 1 1 2 2):=qJ (by decide) (by decide) (by decide);have f:AL ([]:AY):=⟨by simp,.nil,by simp,by simp⟩;refine vB (YJ a).2.1 f λc=>?_;rw [(YJ a).2.2];constructor
 ·intro h;have l:=NV.1 (h (-1) (-1) (by decide) (by decide) (by decide) (by decide));have g:=NV.1 (h 1 1 (by decide) (by decide) (by decide) (by decide));dsimp only at l g;omega
 ·rintro ⟨w,d,-⟩;exact (List.not_mem_nil d).elim
def JD:List Cell:=[(0,0),(1,0),(2,0),(3,0),(3,1),(3,2),(3,3),(2,3),(1,3),(0,3),(0,2),(0,1)]
def ZT:List Cell:=[(1,1),(2,1),(2,2),(1,2)]
theorem Ni:KR (CF 0 0 4 4)=[(1,true,JD)]:=by unfold KR;rw [Jon (by decide) (by decide)];show [KS _ _]=_;unfold KS;rw [qK (Tf (by decide) (by decide) (by decide)) (uV (by decide) (by decide)),J1u (by decide) (by decide)];exact congrArg (λl=>[((1:Int),true,l)]) (by decide)
theorem bK:KR (CF 1 1 2 2)=[(1,true,ZT)]:=by unfold KR;rw [Jon (by decide) (by decide)];show [KS _ _]=_;unfold KS;rw [qK (Tf (by decide) (by decide) (by decide)) (uV (by decide) (by decide)),J1u (by decide) (by decide)];exact congrArg (λl=>[((1:Int),true,l)]) (by decide)
theorem GH:AL (CF 0 0 4 4)/\(K8 (CF 0 0 4 4)).length<=2000:=⟨qJ (by decide) (by decide) (by decide),by have:=Jy2 (x:=0) (y:=0) (n:=4) (m:=4);omega⟩
theorem Nh:GJ (CF 0 0 4 4) 1=[(1,true,JD)]:=by show []++KR (CF 0 0 4 4)=_;rw [Ni];rfl
theorem Ng:GJ (CF 0 0 4 4) 2=[(1,true,JD),(1,true,ZT)]:=by show ([]++KR (CF 0 0 4 4))++KR (GA (CF 0 0 4 4))=_;rw [J2u,Ni,bK];rfl
theorem nM:Ma [(1,true,JD)]=[(1,true,JD)]:=by
 have a:VT (1,true,JD):=((ah GH.1 GH.2 1).2 _ (by rw [Nh];exact Ab.2 rfl)).1;show (Fw ([],[]) (1,true,JD)).1=_;unfold Fw;rw [if_pos a];have h:(BJ [] JD).1=true:=by decide
 dsimp only;rw [if_pos h];rfl
theorem nL:Ma [(1,true,JD),(1,true,ZT)]=[(1,true,JD),(1,true,ZT)]:=by
 have d:=(ah GH.1 GH.2 2).2;rw [Ng] at d;have f:=(d (1,true,JD) (Ah ..)).1;have a:=(d (1,true,ZT) (Af _ (Ab.2 rfl))).1;show (Fw (Fw ([],[]) (1,true,JD)) (1,true,ZT)).1=_;have g:Fw ([],[]) (1,true,JD)=([(1,true,JD)],(BJ [] JD).2.1):=by
  unfold Fw;rw [if_pos f];have h:(BJ [] JD).1=true:=by decide
  dsimp only;rw [if_pos h];rfl
 rw [g];unfold Fw;rw [if_pos a];have h:(BJ (BJ [] JD).2.1 ZT).1=true:=by decide
 dsimp only;rw [if_pos h];rfl
theorem Tw:@Y9 wv (CF 0 0 4 4,1)=some ([(1,true,JD)],CF 1 1 2 2):=by rw [vK _ _ (Sw GH.1) λ_=>GH.2,if_pos GH.1];show some (Ma (GJ (CF 0 0 4 4) 1),GA (CF 0 0 4 4))=_;rw [Nh,nM,J2u]
theorem Tv:@Y9 wv (CF 0 0 4 4,2)=some ([(1,true,JD),(1,true,ZT)],[]):=by rw [vK _ _ (Sw GH.1) λ_=>GH.2,if_pos GH.1];show some (Ma (GJ (CF 0 0 4 4) 2),GA (GA (CF 0 0 4 4)))=_;rw [Ng,nL,J2u,Rh]
theorem Tt:@Y9 wv (CF 0 0 4 4,0)=some ([],CF 0 0 4 4):=by rw [vK _ _ (Sw GH.1) λ_=>GH.2,if_pos GH.1];rfl
theorem Jy9:@zb wv ()=some true:=by
 have sq:=λ{α:Type} (k:AY->Option α)=>BH (c:=Kv) (k:=k) Ka6;unfold zb;refine (sq _).trans ((BH (c:=Qg) Tw).trans ((sq _).trans ((BH (c:=Qg) Tv).trans ((sq _).trans ((BH (c:=Qg) Tt).trans ?_)))))
 kernel_rfl
theorem Jsq{α:Type}(k:Bool->Option α):@W.call wv α K7 (():Unit) k=k true:=BH (c:=K7) Jy9
theorem Jrc{l:List Run}(h:∀i,i<4194304->JL (-1048576) 1048576 l i):l.length<=1000000000:=by
 apply Classical.byContradiction;intro hl;have f:(l.take 4194304).length=4194304:=by rw [List.length_take];omega
 have hr:AJ (-1048576) 1048576 (l.take 4194304):=(rJ _ _ _).1 λi hi x hx=>by rw [f] at hi;rw [Ai hi] at hx;obtain ⟨a,b,c,d⟩:=h i hi x hx;exact ⟨a,b,c,λp m g=>d p m (by rwa [Ai (by omega)] at g)⟩
 have:=ql (by decide) hr;rw [f] at this;omega
open Classical in
theorem Jtb(l:List Run)(y:l.length<=9223372036854775807):@xE wv l=some (decide (AJ (-1048576) 1048576 l)):=by
 by_cases hl:l.length<=1000000000
 ·exact Jnk l hl
 have g:=YL (b:=@Yg wv) (bad:=.inl ()) (fin:=.inr ()) (λi=>⟨l,l,(l.length:Int),(i:Int),()⟩) 4194304 (by omega) (JL (-1048576) 1048576 l) (λi hi _=>by
  have hi:i<l.length:=by omega
  have hx:=Aa hi;have w:@Yg wv ⟨l,l,(l.length:Int),(i:Int),()⟩=if JL (-1048576) 1048576 l i then some (.go ⟨l,l,(l.length:Int),((i+1:Nat):Int),()⟩) else some (.out (.inl ())):=by
   unfold Yg;dsimp only;rw [J5 (by omega),AP (fg hx)];simp only [EI,JH,z7,Fz,J3,BQ,Jsw,decide_eq_true_eq,Ae,decide_eq_false_iff_not];rw [wr (by omega) (by omega)];by_cases v:0<i
   ·have o:=Aa (l:=l) (i:=i - 1) (by omega);rw [AP (Im (i - 1) (by rw [Xo,wr (by omega) (by omega)];omega) o)];have r:JL (-1048576) 1048576 l i↔-1048576<=l[i].1/\l[i].1<l[i].2/\l[i].2<=1048576/\(l[i - 1]'(by omega)).2<l[i].1:=by
     constructor
     ·intro h;have:=h _ hx;exact ⟨this.1,this.2.1,this.2.2.1,this.2.2.2 _ v o⟩
     ·rintro ⟨a,b,c,d⟩ x f;rw [hx] at f;injection f with e;subst e;exact ⟨a,b,c,λp _ m=>by rw [o] at m;injection m with e;subst e;exact d⟩
    simp only [r]
    (repeat' split)<;>first|rfl|omega
   ·have r:JL (-1048576) 1048576 l i↔-1048576<=l[i].1/\l[i].1<l[i].2/\l[i].2<=1048576:=by
     constructor
     ·intro h;have:=h _ hx;exact ⟨this.1,this.2.1,this.2.2.1⟩
     ·rintro ⟨a,b,c⟩ x f;rw [hx] at f;injection f with e;subst e;exact ⟨a,b,c,λp h=>(v h).elim⟩
    simp only [r]
    (repeat' split)<;>first|rfl|omega
  rw [w];exact ⟨λh=>if_pos h,λh=>if_neg h⟩) (λh=>(hl (Jrc h)).elim)
 refine (BL g).trans ?_;rw [if_neg λq=>hl (Jrc q)];have:¬AJ (-1048576) 1048576 l:=λh=>hl (by have:=ql (by decide) h;omega);rw [decide_eq_false this]
open Classical in
theorem Jpu{α:Type}{l:List Run}(hl:l.length<=9223372036854775807)(k:Bool->Option α):@W.call wv α J0 l k=k (decide (AJ (-1048576) 1048576 l)):=BH (c:=J0) (Jtb l hl)
def KN(r:AY):Prop:=r.length<=1000000000/\∀w∈r,w.2.length<=9223372036854775807
open Classical in
theorem Jpo(r:AY)(hl:KN r):@mF wv r=some (decide (AL r)):=by
 have g:=YL (b:=@Qk wv) (bad:=.inl ()) (fin:=.inr ()) (λi=>⟨r,(r.length:Int),(i:Int),r,()⟩) r.length (by have:=hl.1;omega) (KT r) (λi hi _=>by
  have hx:=Aa hi;have hL:=hl.1;have M:@Qk wv ⟨r,(r.length:Int),(i:Int),r,()⟩=if KT r i then some (.go ⟨r,(r.length:Int),((i+1:Nat):Int),r,()⟩) else some (.out (.inl ())):=by
   generalize N:r[i]=w at hx;have y:=Ac hx;have hLw:=hl.2 w y;unfold Qk;dsimp only;rw [J5 (by omega),AP (fg hx)];have tail:letI:W:=wv;∀X:Option (Nx _ (Unit ⊕ Unit)),(br (cm .eql (ln w.2) 0) (some (.out (.inl ()))) (call J0 (w.2:(List (Int×Int))) λ(v3:Bool)=>br (nt v3) (some (.out (.inl ()))) (ge w.2 0 λv4=>call Xg (v4.1:Int) λ(v5:Bool)=>br (nt v5) (some (.out (.inl ())))
     (ge w.2 (ar .sub .i64 (ln w.2) 1) λH=>call Xg ((ar .sub .i64 H.2 1):Int) λ(G:Bool)=>br (nt G) (some (.out (.inl ()))) X))):Option (Nx (HP (List (Int×(List (Int×Int)))) (HP Int (HP Int (HP (List (Int×(List (Int×Int)))) Unit)))) (Unit ⊕ Unit)))=if w.2≠[]/\AJ (-4096) 4096 w.2 then X else some (.out (.inl ())):=by
    intro X;cases hr:w.2 with
    | nil=>rfl
    | cons u l=>
     rw [hr] at hLw;have B:(u::l)[0]?=some u:=rfl;have o:(u::l)[(u::l).length - 1]?=some ((u::l)[(u::l).length - 1]'(by simp)):=Aa _;generalize ((u::l)[(u::l).length - 1]'(by simp))=x1 at o;have E:(0:Int)<((u::l).length:Int):=by simp only [List.length_cons];omega
     rw [AU (by simp only [Qn,AO,beq_eq_false_iff_ne];omega),Jpu hLw];by_cases hV:AJ (-1048576) 1048576 (u::l)
     ·have K:=hV.bd x1 (Ac o);rw [AU (by simp [BQ,hV]),AP (NQ B),lV,AP (Im ((u::l).length - 1) (by rw [Xo,AO,wr (by omega) (by omega)];omega) o),lV,Xo,wr (by omega) (by omega)];have L:=vS B o;simp only [ne_eq,reduceCtorEq,not_false_iff,true_and,L,EI,BQ,Ae,decide_eq_false_iff_not,hV]
      (repeat' split)<;>first|rfl|omega
     ·rw [BA (by simp [BQ,hV]),if_neg];rintro ⟨-,h⟩;exact hV ((vS B o).1 h).1
   rw [tail];simp only [lV,EI,z7,Fz,BQ,J3,decide_eq_true_eq,Ae,decide_eq_false_iff_not];rw [wr (by omega) (by omega)];by_cases F:0<i
   ·have v:=Aa (l:=r) (i:=i - 1) (by omega);generalize r[i - 1]=p at v;rw [AP (Im (i - 1) (by rw [Xo,wr (by omega) (by omega)];omega) v)];have A:KT r i↔(-4096<=w.1/\w.1<4096)/\(w.2≠[]/\AJ (-4096) 4096 w.2)/\p.1<w.1:=by
     constructor
     ·intro h;have:=h _ hx;exact ⟨⟨this.1,this.2.1⟩,⟨this.2.2.1,this.2.2.2.1⟩,this.2.2.2.2 _ F v⟩
     ·rintro ⟨⟨a,b⟩,⟨c,d⟩,e⟩ x f;rw [hx] at f;injection f with q;subst q;exact ⟨a,b,c,d,λJ _ m=>by rw [v] at m;injection m with q;subst q;exact e⟩
    simp only [A];by_cases hT:w.2≠[]/\AJ (-4096) 4096 w.2
    ·simp only [hT,and_self,true_and,if_true,ne_eq,not_false_iff]
     (repeat' split)<;>first|rfl|omega
    ·simp only [hT,false_and,and_false,if_false]
     (repeat' split)<;>first|rfl|omega
   ·have A:KT r i↔(-4096<=w.1/\w.1<4096)/\(w.2≠[]/\AJ (-4096) 4096 w.2):=by
     constructor
     ·intro h;have:=h _ hx;exact ⟨⟨this.1,this.2.1⟩,this.2.2.1,this.2.2.2.1⟩
     ·rintro ⟨⟨a,b⟩,c,d⟩ x f;rw [hx] at f;injection f with q;subst q;exact ⟨a,b,c,d,λJ h=>(F h).elim⟩
    simp only [A];by_cases hT:w.2≠[]/\AJ (-4096) 4096 w.2
    ·simp only [hT,and_self,and_true,if_true,ne_eq,not_false_iff]
     (repeat' split)<;>first|rfl|omega
    ·simp only [hT,and_false,if_false]
     (repeat' split)<;>first|rfl|omega
  rw [M];exact ⟨λh=>if_pos h,λh=>if_neg h⟩) (λ_=>by unfold Qk;dsimp only;rw [Jr (by omega)])
 unfold mF;refine (BL g).trans ?_;by_cases h:AL r
 ·rw [if_pos ((aZ _).2 h),decide_eq_true h]
 ·rw [if_neg λq=>h ((aZ _).1 q),decide_eq_false h]
theorem Jt0{l:List Run}(h:∀i,i<4194304->JL (-4096) 4096 l i):l.length<=1000000000:=Jrc λi hi x hx=>by obtain ⟨a,b,c,d⟩:=h i hi x hx;exact ⟨by omega,b,by omega,d⟩
open Classical in
theorem RX(l:List Run)(A:l.length<=9223372036854775807):@Xk wv l=some (decide (l≠[]/\AJ (-4096) 4096 l)):=by
 by_cases hl:l.length<=1000000000
 ·exact J7q l hl
 have g:=YL (b:=@Kp wv) (bad:=.inl ()) (fin:=.inr ⟨l,()⟩) (λi=>⟨l,(i:Int),()⟩) 4194304 (by omega) (JL (-4096) 4096 l) (λi hi _=>by
  have hi:i<l.length:=by omega
  have hx:=Aa hi;have w:@Kp wv ⟨l,(i:Int),()⟩=if JL (-4096) 4096 l i then some (.go ⟨l,((i+1:Nat):Int),()⟩) else some (.out (.inl ())):=by
   generalize y:l[i]=u at hx;unfold Kp;dsimp only;simp only [AP (fg hx)];rw [AO,J5 (by omega)];simp only [EI,JH,z7,Fz,Li,J3,decide_eq_true_eq];rw [wr (by omega) (by omega)];by_cases v:0<i
   ·have o:=Aa (l:=l) (i:=i - 1) (by omega);generalize l[i - 1]=p at o;rw [AP (Im (i - 1) (by rw [Xo,wr (by omega) (by omega)];omega) o)];have r:JL (-4096) 4096 l i↔-4096<=u.1/\u.1<u.2/\u.2<=4096/\p.2<u.1:=by
     constructor
     ·intro h;have:=h _ hx;exact ⟨this.1,this.2.1,this.2.2.1,this.2.2.2 _ v o⟩
     ·rintro ⟨a,b,c,d⟩ x f;rw [hx] at f;injection f with e;subst e;exact ⟨a,b,c,λp _ m=>by rw [o] at m;injection m with e;subst e;exact d⟩
    simp only [r]
    (repeat' split)<;>first|rfl|omega
   ·have r:JL (-4096) 4096 l i↔-4096<=u.1/\u.1<u.2/\u.2<=4096:=by
     constructor
     ·intro h;have:=h _ hx;exact ⟨this.1,this.2.1,this.2.2.1⟩
     ·rintro ⟨a,b,c⟩ x f;rw [hx] at f;injection f with e;subst e;exact ⟨a,b,c,λp h=>(v h).elim⟩
    simp only [r]
    (repeat' split)<;>first|rfl|omega
  rw [w];exact ⟨λh=>if_pos h,λh=>if_neg h⟩) (λh=>(hl (Jt0 h)).elim)
 unfold Xk;refine (BL g).trans ?_;rw [if_neg λq=>hl (Jt0 q)];have:¬AJ (-4096) 4096 l:=λh=>hl (by have:=ql (by decide) h;omega);rw [decide_eq_false λq=>this q.2]
open Classical in
theorem J5v{α:Type}{l:List Run}(hl:l.length<=9223372036854775807)(k:Bool->Option α):@W.call wv α Ky l k=k (decide (l≠[]/\AJ (-4096) 4096 l)):=BH (c:=Ky) (RX l hl)
open Classical in
theorem xJ(r:AY)(hl:KN r):@Qa wv r=some (decide (AL r)):=by
 have g:=YL (b:=@J6 wv) (bad:=.inl ()) (fin:=.inr ()) (λi=>⟨(i:Int),r,()⟩) r.length (by have:=hl.1;omega) (KT r) (λi hi _=>by
  have hx:=Aa hi;have hL:=hl.1;have B:@J6 wv ⟨(i:Int),r,()⟩=if KT r i then some (.go ⟨((i+1:Nat):Int),r,()⟩) else some (.out (.inl ())):=by
   generalize E:r[i]=w at hx;have hLw:=hl.2 w (Ac hx);unfold J6;dsimp only;simp only [AP (fg hx)];rw [AO,J5 (by omega)];simp only [EI,JH,z7,Fz,Li,J3,BQ,J5v hLw,decide_eq_true_eq,Ae,decide_eq_false_iff_not];rw [wr (by omega) (by omega)];by_cases y:0<i
   ·have o:=Aa (l:=r) (i:=i - 1) (by omega);generalize r[i - 1]=p at o;rw [AP (Im (i - 1) (by rw [Xo,wr (by omega) (by omega)];omega) o)];have v:KT r i↔(-4096<=w.1/\w.1<4096)/\(w.2≠[]/\AJ (-4096) 4096 w.2)/\p.1<w.1:=by
     constructor
     ·intro h;have:=h _ hx;exact ⟨⟨this.1,this.2.1⟩,⟨this.2.2.1,this.2.2.2.1⟩,this.2.2.2.2 _ y o⟩
     ·rintro ⟨⟨a,b⟩,⟨c,d⟩,e⟩ x f;rw [hx] at f;injection f with q;subst q;exact ⟨a,b,c,d,λA _ m=>by rw [o] at m;injection m with q;subst q;exact e⟩
    simp only [v];by_cases hT:w.2≠[]/\AJ (-4096) 4096 w.2
    ·simp only [hT,and_self,true_and,if_true,ne_eq,not_false_iff,not_true_eq_false,if_false]
     (repeat' split)<;>first|rfl|omega
    ·simp only [hT,false_and,and_false,if_false,not_false_iff,if_true]
     (repeat' split)<;>first|rfl|omega
   ·have v:KT r i↔(-4096<=w.1/\w.1<4096)/\(w.2≠[]/\AJ (-4096) 4096 w.2):=by
     constructor
     ·intro h;have:=h _ hx;exact ⟨⟨this.1,this.2.1⟩,this.2.2.1,this.2.2.2.1⟩
     ·rintro ⟨⟨a,b⟩,c,d⟩ x f;rw [hx] at f;injection f with q;subst q;exact ⟨a,b,c,d,λA h=>(y h).elim⟩
    simp only [v];by_cases hT:w.2≠[]/\AJ (-4096) 4096 w.2
    ·simp only [hT,and_self,and_true,if_true,ne_eq,not_false_iff,not_true_eq_false,if_false]
     (repeat' split)<;>first|rfl|omega
    ·simp only [hT,and_false,if_false,not_false_iff,if_true]
     (repeat' split)<;>first|rfl|omega
  rw [B];exact ⟨λh=>if_pos h,λh=>if_neg h⟩) (λ_=>by unfold J6;dsimp only;rw [AO,Jr (by omega)])
 unfold Qa;refine (BL g).trans ?_;by_cases h:AL r
 ·rw [if_pos ((aZ _).2 h),decide_eq_true h]
 ·rw [if_neg λq=>h ((aZ _).1 q),decide_eq_false h]
open Classical in
theorem Kab(r:AY)(hl:KN r):@Q3 wv r=some (if AL r then ((K8 r).length:Int) else 0):=by
 by_cases h:AL r
 ·rw [Jyb r (Sw h)]
 ·unfold Q3;refine (BH (c:=Jd) (xJ r hl)).trans ?_;rw [decide_eq_false h,if_neg h];rfl
theorem RB(r:AY)(hr:∀w∈r,w.2.length<=9223372036854775807):∃b,@Jbn wv r=some b/\(b=false->KN r/\(AL r->(K8 r).length<=1000)):=by
 classical
 obtain ⟨e,a,c,rfl⟩:=Xr (b:=@Yw wv) (λi s=>∃c:Int,s=(⟨c,(i:Int),r,()⟩:HP Int (HP Int (HP AY Unit)))) (λe=>∃c:Int,e=(⟨c,r,()⟩:HP Int (HP AY Unit))) (min r.length 300) (by omega) (s0:=⟨0,0,r,()⟩) ⟨0,rfl⟩ (λi s hi=>by
  rintro ⟨c,rfl⟩;have hx:=Aa (l:=r) (i:=i) (by omega);generalize r[i]=w at hx;refine ⟨(⟨@W.ar wv .add .i64 c (@W.ln wv Run w.2),((i+1:Nat):Int),r,()⟩:HP Int (HP Int (HP AY Unit))),?_,_,rfl⟩;have m:@W.ar wv .add .i64 (i:Int) 1=((i+1:Nat):Int):=by rw [J3,wr (by omega) (by omega)];omega
  unfold Yw;dsimp only;rw [m,show @W.ln wv (Int×List (Int×Int)) r=(r.length:Int) from rfl,J5 (by omega),J5 (by omega),AP (fg hx)]) (by
  rintro s ⟨c,rfl⟩;refine ⟨_,?_,c,rfl⟩;unfold Yw;dsimp only;rw [show @W.ln wv (Int×List (Int×Int)) r=(r.length:Int) from rfl];by_cases q:r.length<=300
  ·rw [Jr (by omega)]
  ·rw [J5 (by omega),Jr (by omega)])
 by_cases d:(r.length:Int) > 200
 ·refine ⟨true,(BL a).trans ?_,λh=>by cases h⟩;dsimp only;rw [AO,pJ d]
 have hl:KN r:=⟨by omega,hr⟩;by_cases f:c > 400
 ·refine ⟨true,(BL a).trans ?_,λh=>by cases h⟩;dsimp only;rw [AO,aJ d,pJ f]
 refine ⟨decide ((if AL r then ((K8 r).length:Int) else 0) > 1000),(BL a).trans ?_,λh=>⟨hl,λg=>?_⟩⟩
 ·dsimp only;rw [AO,aJ d,aJ f];exact (BH (c:=K2) (Kab r hl)).trans rfl
 ·have:=of_decide_eq_false h;rw [if_pos g] at this;omega
open Classical in
theorem J1g{α:Type}{r:AY}(hl:KN r)(k:Bool->Option α):@W.call wv α J9 r k=k (decide (AL r)):=BH (c:=J9) (Jpo r hl)
open Classical in
theorem J7w(r:AY)(n:Int)(hl:KN r)(a:AL r->(K8 r).length<=2000):@Y9 wv (r,n)=some (if AL r then (Ma (GJ r (min (max n 0) 64).toNat),ET r (min (max n 0) 64).toNat) else ([],[])):=by
 by_cases h:AL r
 ·exact vK r n (Sw h) a
 ·unfold Y9;dsimp only;rw [J1g hl,BA (by simp [BQ,h]),if_neg h]
theorem Jpj(l:List Jt)(hl:l.length<=100000000000)(d:∀t∈l,t.2.2.length<=1000000000):@Zd wv (l,l)=some true:=by
 have a:=Ki (b:=@Xq wv) (e:=.inr ()) (λi=>⟨l,l,(l.length:Int),(i:Int),()⟩) l.length (by omega) (λi hi=>by
  have hx:=Aa hi;generalize l[i]=t at hx;unfold Xq;dsimp only;rw [J5 (by omega),AP (fg hx),AP (fg hx),eF (d t (Ac hx)),AU (by simp [BQ]),J3,wr (by omega) (by omega)];rfl) (by unfold Xq;dsimp only;rw [Jr (by omega)])
 unfold Zd;dsimp only;rw [AU (by simp [GZ,AO])];exact BL a
theorem Jy0{out:List Jt}{last:List Cell}{x:Jt}(h:x∈JO out last):x∈out\/x.2.2=last:=by
 unfold JO at h;rcases out.eq_nil_or_concat with rfl|⟨r,v,rfl⟩
 ·exact .inl h
 ·rw [List.concat_eq_append] at h ⊢;rw [ze] at h;rcases Ad.1 h with q|q
  ·exact .inl (Ad.2 (.inl q))
  ·rw [Ab] at q;exact .inr (by rw [q])
theorem UW(role:Int)(l:List (Cell×Bool)):∀t∈(Ca role l).1,t.2.2.length<=l.length:=by
 have key:∀m:List (Cell×Bool),∀t∈(Ca role m.reverse).1,t.2.2.length<=m.reverse.length:=by
  intro m
  induction m with
  | nil=>intro t a;cases a
  | cons p m d=>
   have hl:=(qj role m.reverse).2.2.2;rw [List.reverse_cons,rE,List.length_append];generalize Ca role m.reverse=s at d hl ⊢;obtain ⟨out,last,pv⟩:=s;obtain ⟨c,k⟩:=p;intro t a;have old:t∈out->t.2.2.length<=m.reverse.length+[(c,k)].length:=λq=>Nat.le_succ_of_le (d t q);cases k with
   | false=>exact old a
   | true=>
    cases pv with
    | true=>exact old a
    | false=>
     have a:t∈JO out last++[(role,(false,[]))]:=a;rcases Ad.1 a with q|q
     ·rcases Jy0 q with q|q
      ·exact old q
      ·rw [q];exact Nat.le_succ_of_le hl
     ·rw [Ab] at q;rw [q];exact Nat.zero_le _
 have:=key l.reverse;rwa [List.reverse_reverse] at this
theorem J5y(role:Int)(l:List (Cell×Bool)):∀t∈Te role l,t.2.2.length<=l.length:=λt a=>by
 rcases Jy0 (show t∈JO (Ca role l).1 (Ca role l).2.1 from a) with q|q
 ·exact UW role l t q
 ·rw [q];exact (qj role l).2.2.2
theorem O8{n:Nat}{l:List Jt}(h:∀t∈l,t.2.2.length<=n):∀t∈Ma l,t.2.2.length<=n:=by
 have key:∀(l:List Jt) (s:List Jt×Mb),(∀t∈l,t.2.2.length<=n)->(∀t∈s.1,t.2.2.length<=n)->∀t∈(l.foldl Fw s).1,t.2.2.length<=n:=by
  intro l
  induction l with
  | nil=>intro s _ h;exact h
  | cons a l m=>
   intro s g f;rw [List.foldl_cons];refine m _ (λt d=>g t (Af _ d)) λt d=>?_;have o:=g a (Ah ..);unfold Fw at d;split at d
   ·rcases Ad.1 d with q|q
    ·exact f t q
    ·split at q
     ·rw [Ab] at q;rw [q];exact o
     ·have:=J5y _ _ t q;rw [List.length_zip] at this;omega
   ·exact f t d
 exact key l ([],[]) h λt d=>by cases d
end Go.Proofs.YtmfagdfkpjgeiaaGreat
namespace Go.Proofs.YtmfagdfkpjgeiaaGreat
open Go Go.Vv Go.Dn
theorem fB{v:Int}(h:(Lit.int .i64 v).wf=true):-9223372036854775808<=v/\v<=9223372036854775807:=by have h:(decide (Go.IntKind.min .i64<=v)&&decide (v<=Go.IntKind.max .i64))=true:=h;rw [Bool.and_eq_true,decide_eq_true_eq,decide_eq_true_eq] at h;exact h
theorem bq{r:AY}(h:∀x:Row,List.Mem x r->(Dn.Ty.p I (.ls (.p I I))).wf x):∀w∈r,w.2.length<=9223372036854775807:=λw a=>(h w a).2.1
end Go.Proofs.YtmfagdfkpjgeiaaGreat
