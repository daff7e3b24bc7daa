/- walls.Walls: what it hands out. Conditions: a valid region of at most 2000 cells, or one that is not valid. -/
import Derived.Test.YtmfagdfkpjgeiaaGreatXG
import Derived.Test.YtmfagdfkpjgeiaaGreatXH
import Derived.Test.YtmfagdfkpjgeiaaGreatXF
import Derived.Test.YtmfagdfkpjgeiaaGreatXE
import Derived.Test.YtmfagdfkpjgeiaaGreatXD
import Derived.Test.YtmfagdfkpjgeiaaGreatFC
set_option linter.unusedVariables false
set_option linter.unusedSimpArgs false
set_option maxRecDepth 100000
open List renaming getElem?_eq_getElem → Aa, mem_singleton → Ac, mem_of_getElem? → Ad, mem_append → Ae, mem_cons_of_mem → Ag, mem_cons_self → Ah, getElem?_take_of_lt → Ai
open Nat renaming mul_le_mul_right → Ab, le_refl → Aj
open Bool renaming not_eq_true' → Af
namespace Go.Proofs.YtmfagdfkpjgeiaaGreat
open Go Go.Vv Go.Dn Go.Dn.W
theorem ero_ex{r:Reg}(h:RegOK r):∃E,@Zo wv (r,1)=some E/\RegOK E/\∀c,Qf E c↔deep r 1 c:=Erode_ok r h (Jct h) 1 ⟨by decide,by decide⟩
open Classical in
noncomputable def eroF(r:Reg):Reg:=if h:RegOK r then (ero_ex h).choose else []
theorem Jgj{r:Reg}(h:RegOK r):@Zo wv (r,1)=some (eroF r)/\RegOK (eroF r)/\∀c,Qf (eroF r) c↔deep r 1 c:=by unfold eroF;rw [dif_pos h];exact (ero_ex h).choose_spec
theorem J3k{r:Reg}(h:RegOK r):(X5 (eroF r)).length<=(X5 r).length:=by
 obtain ⟨-,l,g⟩:=Jgj h;refine zg ((l.cells_pw).imp λ{a b} d e=>?_) λc f=>?_
 ·subst e;exact Jq3 d d
 ·rw [Zz,g] at f;rw [Zz];have:=f 0 0 (by decide) (by decide) (by decide) (by decide);simpa using this
noncomputable def eroN(r:Reg):Nat->Reg
 | 0=>r
 | n+1=>eroF (eroN r n)
theorem Jqq{r:Reg}(h:RegOK r):∀n,RegOK (eroN r n)/\(X5 (eroN r n)).length<=(X5 r).length
 | 0=>⟨h,Aj _⟩
 | n+1=>by obtain ⟨a,d⟩:=Jqq h n;exact ⟨(Jgj a).2.1,Nat.le_trans (J3k a) d⟩
noncomputable def Jbc(r:Reg):List J0:=(Zg r).map (Jda r)
theorem Jr7{r:Reg}(h:RegOK r)(g:(X5 r).length<=2000):(Jbc r).length<=8000/\(∀t∈Jbc r,VT t/\t.1=1/\t.2.1=true):=by have f:=Ju2 r;have a:=(Jrt r (Jct h) λ_=>by omega).2 h;have hl:=Joc a;refine ⟨by unfold Jbc;rw [List.length_map];omega,λt d=>?_⟩;obtain ⟨s,hs,rfl⟩:=List.mem_map.1 d;exact ⟨walk_VT h (by omega) ((a.mem s).1 hs).1,rfl,rfl⟩
theorem J3t{l:List J0}(h:∀t∈l,VT t):totT l<=l.length * 65537:=by
 induction l with
 | nil=>exact Aj _
 | cons t l a=>
  have g:=a λx hx=>h x (Ag _ hx);have f:=(h t (Ah ..)).2.1.2;have d:totT (t::l)=(t.2.2.length+1)+totT l:=by unfold totT;rw [List.map_cons,List.sum_cons]
  rw [List.length_cons,Nat.add_mul];omega
noncomputable def ja(r:Reg):Nat->List J0
 | 0=>[]
 | n+1=>ja r n++Jbc (eroN r n)
theorem Jc1{r:Reg}(h:RegOK r)(d:(X5 r).length<=2000):∀n,(ja r n).length<=n * 8000/\∀t∈ja r n,VT t/\t.1=1/\t.2.1=true
 | 0=>⟨Aj _,λt a=>by cases a⟩
 | n+1=>by
  obtain ⟨m,f⟩:=Jc1 h d n;obtain ⟨l,v⟩:=Jqq h n;obtain ⟨o,g⟩:=Jr7 l (by omega);refine ⟨?_,λt a=>?_⟩
  ·show (ja r n++Jbc (eroN r n)).length<=_;rw [List.length_append,Nat.add_mul];omega
  ·rcases Ae.1 (show t∈ja r n++Jbc (eroN r n) from a) with q|q
   ·exact f t q
   ·exact g t q
abbrev Wa0S:=HP (List J0) (HP Int (HP Int (HP Reg Unit)))
open Classical in
theorem Jkj(r:Reg)(n:Int)(hl:LimR r)(d:RegOK r->(X5 r).length<=2000):@Q6 wv (r,n)=some (if RegOK r then (Jno (ja r (min (max n 0) 64).toNat),eroN r (min (max n 0) 64).toNat) else ([],[])):=by
 unfold Q6;dsimp only;rw [jf hl];by_cases h:RegOK r
 ·have d:=d h;rw [br_f (by simp [w_nt,h]),if_pos h];have m:RegOK ([]:Reg):=⟨by simp,.nil,by simp,by simp⟩;obtain ⟨U,y,v,o⟩:=Jmv r [] h m hl (Jct m);have eU:U=r:=Jrb v h λc=>by rw [o];exact ⟨λq=>q.elim id λ⟨w,A,_⟩=>(List.not_mem_nil A).elim,.inl⟩
  subst eU;refine (ca_s (c:=jd) y).trans ?_;have eN:@W.mn wv (@W.mx wv n 0) 64=(((min (max n 0) 64).toNat:Nat):Int):=by rw [w_mn,w_mx];split<;>split<;>omega
  rw [eN];have hN:(min (max n 0) 64).toNat<=64:=by omega
  generalize (min (max n 0) 64).toNat=N at hN ⊢;have key:=Ql (b:=@jp wv) (e:=(⟨ja U N,eroN U N,()⟩:HP (List J0) (HP Reg Unit))) (λi=>(⟨ja U i,(N:Int),(i:Int),eroN U i,()⟩:Wa0S)) N (by omega) (λi hi=>by
   obtain ⟨f,J⟩:=Jqq h i;obtain ⟨H,G⟩:=Jr7 f (by omega);obtain ⟨w1,g⟩:=Jc1 h d i;have l:(ja U i).length+(Jbc (eroN U i)).length<=1000000:=by have:i * 8000<=64 * 8000:=Ab _ (by omega);omega
   unfold jp;dsimp only;rw [Qw (by omega),k_Walk (Jct f) (λ_=>by omega),if_pos f];refine (ca_s (c:=je) (a:=(ja U i,Jbc (eroN U i))) (r:=ja U i++Jbc (eroN U i)) (if_pos l)).trans ?_;refine (ca_s (c:=j6) (Jgj f).1).trans ?_;rw [Ks,wr (by omega) (by omega)];rfl) (by unfold jp;dsimp only;rw [Kq (by omega)])
  refine (lo_s key).trans ?_;obtain ⟨w1,g⟩:=Jc1 h d N;have F:=J3t λt q=>(g t q).1;have E:N * 8000<=64 * 8000:=Ab _ (by omega);have B:(ja U N).length * 65537<=512000 * 65537:=Ab _ (by omega);exact (ca_s (c:=Ja5) (Once_ok (ja U N) (by omega) λt q=>by have:=(g t q).1.2.1.2;omega)).trans rfl
 ·rw [br_t (by simp [w_nt,h]),if_neg h]
theorem J02:@Y0 wv 4=some (boxR 0 0 4 4):=by kernel_rfl
theorem Jvr:eroF (boxR 0 0 4 4)=boxR 1 1 2 2:=by
 have a:RegOK (boxR 0 0 4 4):=Jl5 (by decide) (by decide) (by decide);have d:RegOK (boxR 1 1 2 2):=Jl5 (by decide) (by decide) (by decide);refine Jrb (Jgj a).2.1 d λc=>?_;rw [(Jgj a).2.2,Jeg];constructor
 ·intro h;have g:=Jeg.1 (h (-1) (-1) (by decide) (by decide) (by decide) (by decide));have f:=Jeg.1 (h 1 1 (by decide) (by decide) (by decide) (by decide));dsimp only at g f;omega
 ·intro h dx dy r o m l;rw [Jeg];dsimp only;omega
theorem ero_box2:eroF (boxR 1 1 2 2)=[]:=by
 have a:RegOK (boxR 1 1 2 2):=Jl5 (by decide) (by decide) (by decide);have f:RegOK ([]:Reg):=⟨by simp,.nil,by simp,by simp⟩;refine Jrb (Jgj a).2.1 f λc=>?_;rw [(Jgj a).2.2];constructor
 ·intro h;have l:=Jeg.1 (h (-1) (-1) (by decide) (by decide) (by decide) (by decide));have g:=Jeg.1 (h 1 1 (by decide) (by decide) (by decide) (by decide));dsimp only at l g;omega
 ·rintro ⟨w,d,-⟩;exact (List.not_mem_nil d).elim
def bw4:List Cell:=[(0,0),(1,0),(2,0),(3,0),(3,1),(3,2),(3,3),(2,3),(1,3),(0,3),(0,2),(0,1)]
def bw2:List Cell:=[(1,1),(2,1),(2,2),(1,2)]
theorem walks4:Jbc (boxR 0 0 4 4)=[(1,true,bw4)]:=by unfold Jbc;rw [Jin (by decide) (by decide)];show [Jda _ _]=_;unfold Jda;rw [Jqg (Jcw (by decide) (by decide) (by decide)) (Jrc (by decide) (by decide)),Jwb (by decide) (by decide)];exact congrArg (λl=>[((1:Int),true,l)]) (by decide)
theorem walks2:Jbc (boxR 1 1 2 2)=[(1,true,bw2)]:=by unfold Jbc;rw [Jin (by decide) (by decide)];show [Jda _ _]=_;unfold Jda;rw [Jqg (Jcw (by decide) (by decide) (by decide)) (Jrc (by decide) (by decide)),Jwb (by decide) (by decide)];exact congrArg (λl=>[((1:Int),true,l)]) (by decide)
theorem box4:RegOK (boxR 0 0 4 4)/\(X5 (boxR 0 0 4 4)).length<=2000:=⟨Jl5 (by decide) (by decide) (by decide),by have:=Jr5 (x:=0) (y:=0) (n:=4) (m:=4);omega⟩
theorem walls1:ja (boxR 0 0 4 4) 1=[(1,true,bw4)]:=by show []++Jbc (boxR 0 0 4 4)=_;rw [walks4];rfl
theorem walls2:ja (boxR 0 0 4 4) 2=[(1,true,bw4),(1,true,bw2)]:=by show ([]++Jbc (boxR 0 0 4 4))++Jbc (eroF (boxR 0 0 4 4))=_;rw [Jvr,walks4,walks2];rfl
theorem once1:Jno [(1,true,bw4)]=[(1,true,bw4)]:=by
 have a:VT (1,true,bw4):=((Jc1 box4.1 box4.2 1).2 _ (by rw [walls1];exact Ac.2 rfl)).1;show (stN ([],[]) (1,true,bw4)).1=_;unfold stN;rw [if_pos a];have h:(runO [] bw4).1=true:=by decide
 dsimp only;rw [if_pos h];rfl
theorem once2:Jno [(1,true,bw4),(1,true,bw2)]=[(1,true,bw4),(1,true,bw2)]:=by
 have d:=(Jc1 box4.1 box4.2 2).2;rw [walls2] at d;have f:=(d (1,true,bw4) (Ah ..)).1;have a:=(d (1,true,bw2) (Ag _ (Ac.2 rfl))).1;show (stN (stN ([],[]) (1,true,bw4)) (1,true,bw2)).1=_;have g:stN ([],[]) (1,true,bw4)=([(1,true,bw4)],(runO [] bw4).2.1):=by
  unfold stN;rw [if_pos f];have h:(runO [] bw4).1=true:=by decide
  dsimp only;rw [if_pos h];rfl
 rw [g];unfold stN;rw [if_pos a];have h:(runO (runO [] bw4).2.1 bw2).1=true:=by decide
 dsimp only;rw [if_pos h];rfl
theorem walls_a:@Q6 wv (boxR 0 0 4 4,1)=some ([(1,true,bw4)],boxR 1 1 2 2):=by rw [Jkj _ _ (Jct box4.1) λ_=>box4.2,if_pos box4.1];show some (Jno (ja (boxR 0 0 4 4) 1),eroF (boxR 0 0 4 4))=_;rw [walls1,once1,Jvr]
theorem walls_b:@Q6 wv (boxR 0 0 4 4,2)=some ([(1,true,bw4),(1,true,bw2)],[]):=by rw [Jkj _ _ (Jct box4.1) λ_=>box4.2,if_pos box4.1];show some (Jno (ja (boxR 0 0 4 4) 2),eroF (eroF (boxR 0 0 4 4)))=_;rw [walls2,once2,Jvr,ero_box2]
theorem walls_c:@Q6 wv (boxR 0 0 4 4,0)=some ([],boxR 0 0 4 4):=by rw [Jkj _ _ (Jct box4.1) λ_=>box4.2,if_pos box4.1];rfl
theorem Jul:@Xx wv ()=some true:=by
 have sq:=λ{α:Type} (k:Reg->Option α)=>ca_s (c:=Ke) (k:=k) J02;unfold Xx;refine (sq _).trans ((ca_s (c:=Ko) walls_a).trans ((sq _).trans ((ca_s (c:=Ko) walls_b).trans ((sq _).trans ((ca_s (c:=Ko) walls_c).trans ?_)))))
 kernel_rfl
theorem Jks{α:Type}(k:Bool->Option α):@W.call wv α Kl (():Unit) k=k true:=ca_s (c:=Kl) Jul
theorem Jm6{l:List Run}(h:∀i,i<4194304->Yk (-1048576) 1048576 l i):l.length<=1000000000:=by
 apply Classical.byContradiction;intro hl;have f:(l.take 4194304).length=4194304:=by rw [List.length_take];omega
 have hr:RunsOK (-1048576) 1048576 (l.take 4194304):=(Jc4 _ _ _).1 λi hi x hx=>by rw [f] at hi;rw [Ai hi] at hx;obtain ⟨a,b,c,d⟩:=h i hi x hx;exact ⟨a,b,c,λp m g=>d p m (by rwa [Ai (by omega)] at g)⟩
 have:=Jg9 (by decide) hr;rw [f] at this;omega
open Classical in
theorem Jnh(l:List Run)(y:l.length<=9223372036854775807):@Jce wv l=some (decide (RunsOK (-1048576) 1048576 l)):=by
 by_cases hl:l.length<=1000000000
 ·exact Jhd l hl
 have g:=Jbg (b:=@Qj wv) (bad:=.inl ()) (fin:=.inr ()) (λi=>⟨l,l,(l.length:Int),(i:Int),()⟩) 4194304 (by omega) (Yk (-1048576) 1048576 l) (λi hi _=>by
  have hi:i<l.length:=by omega
  have hx:=Aa hi;have w:@Qj wv ⟨l,l,(l.length:Int),(i:Int),()⟩=if Yk (-1048576) 1048576 l i then some (.go ⟨l,l,(l.length:Int),((i+1:Nat):Int),()⟩) else some (.out (.inl ())):=by
   unfold Qj;dsimp only;rw [Qw (by omega),ge_s (fg hx)];simp only [w_br,Jl8,Jat,Jir,Ks,w_nt,Jlv,decide_eq_true_eq,Af,decide_eq_false_iff_not];rw [wr (by omega) (by omega)];by_cases v:0<i
   ·have o:=Aa (l:=l) (i:=i - 1) (by omega);rw [ge_s (fgz (i - 1) (by rw [Zb,wr (by omega) (by omega)];omega) o)];have r:Yk (-1048576) 1048576 l i↔-1048576<=l[i].1/\l[i].1<l[i].2/\l[i].2<=1048576/\(l[i - 1]'(by omega)).2<l[i].1:=by
     constructor
     ·intro h;have:=h _ hx;exact ⟨this.1,this.2.1,this.2.2.1,this.2.2.2 _ v o⟩
     ·rintro ⟨a,b,c,d⟩ x f;rw [hx] at f;injection f with e;subst e;exact ⟨a,b,c,λp _ m=>by rw [o] at m;injection m with e;subst e;exact d⟩
    simp only [r]
    (repeat' split)<;>first|rfl|omega
   ·have r:Yk (-1048576) 1048576 l i↔-1048576<=l[i].1/\l[i].1<l[i].2/\l[i].2<=1048576:=by
     constructor
     ·intro h;have:=h _ hx;exact ⟨this.1,this.2.1,this.2.2.1⟩
     ·rintro ⟨a,b,c⟩ x f;rw [hx] at f;injection f with e;subst e;exact ⟨a,b,c,λp h=>(v h).elim⟩
    simp only [r]
    (repeat' split)<;>first|rfl|omega
  rw [w];exact ⟨λh=>if_pos h,λh=>if_neg h⟩) (λh=>(hl (Jm6 h)).elim)
 refine (lo_s g).trans ?_;rw [if_neg λq=>hl (Jm6 q)];have:¬RunsOK (-1048576) 1048576 l:=λh=>hl (by have:=Jg9 (by decide) h;omega);rw [decide_eq_false this]
open Classical in
theorem Jjx{α:Type}{l:List Run}(hl:l.length<=9223372036854775807)(k:Bool->Option α):@W.call wv α Jr l k=k (decide (RunsOK (-1048576) 1048576 l)):=ca_s (c:=Jr) (Jnh l hl)
def LimA(r:Reg):Prop:=r.length<=1000000000/\∀w∈r,w.2.length<=9223372036854775807
open Classical in
theorem Jjz(r:Reg)(hl:LimA r):@Yw wv r=some (decide (RegOK r)):=by
 have g:=Jbg (b:=@Ku wv) (bad:=.inl ()) (fin:=.inr ()) (λi=>⟨r,(r.length:Int),(i:Int),r,()⟩) r.length (by have:=hl.1;omega) (Zi r) (λi hi _=>by
  have hx:=Aa hi;have hL:=hl.1;have M:@Ku wv ⟨r,(r.length:Int),(i:Int),r,()⟩=if Zi r i then some (.go ⟨r,(r.length:Int),((i+1:Nat):Int),r,()⟩) else some (.out (.inl ())):=by
   generalize N:r[i]=w at hx;have y:=Ad hx;have hLw:=hl.2 w y;unfold Ku;dsimp only;rw [Qw (by omega),ge_s (fg hx)];have tail:letI:W:=wv;∀X:Option (Nx _ (Unit ⊕ Unit)),(br (cm .eql (ln w.2) 0) (some (.out (.inl ()))) (call Jr (w.2:(List (Int×Int))) λ(v3:Bool)=>br (nt v3) (some (.out (.inl ()))) (ge w.2 0 λv4=>call K8 (v4.1:Int) λ(v5:Bool)=>br (nt v5) (some (.out (.inl ())))
     (ge w.2 (ar .sub .i64 (ln w.2) 1) λH=>call K8 ((ar .sub .i64 H.2 1):Int) λ(G:Bool)=>br (nt G) (some (.out (.inl ()))) X))):Option (Nx (HP (List (Int×(List (Int×Int)))) (HP Int (HP Int (HP (List (Int×(List (Int×Int)))) Unit)))) (Unit ⊕ Unit)))=if w.2≠[]/\RunsOK (-4096) 4096 w.2 then X else some (.out (.inl ())):=by
    intro X;cases hr:w.2 with
    | nil=>rfl
    | cons u l=>
     rw [hr] at hLw;have B:(u::l)[0]?=some u:=rfl;have o:(u::l)[(u::l).length - 1]?=some ((u::l)[(u::l).length - 1]'(by simp)):=Aa _;generalize ((u::l)[(u::l).length - 1]'(by simp))=x1 at o;have E:(0:Int)<((u::l).length:Int):=by simp only [List.length_cons];omega
     rw [br_f (by simp only [Xr,w_ln,beq_eq_false_iff_ne];omega),Jjx hLw];by_cases hV:RunsOK (-1048576) 1048576 (u::l)
     ·have K:=hV.bd x1 (Ad o);rw [br_f (by simp [w_nt,hV]),ge_s (fg0 B),Jal,ge_s (fgz ((u::l).length - 1) (by rw [Zb,w_ln,wr (by omega) (by omega)];omega) o),Jal,Zb,wr (by omega) (by omega)];have L:=Jhc B o;simp only [ne_eq,reduceCtorEq,not_false_iff,true_and,L,w_br,w_nt,Af,decide_eq_false_iff_not,hV]
      (repeat' split)<;>first|rfl|omega
     ·rw [br_t (by simp [w_nt,hV]),if_neg];rintro ⟨-,h⟩;exact hV ((Jhc B o).1 h).1
   rw [tail];simp only [Jal,w_br,Jat,Jir,w_nt,Ks,decide_eq_true_eq,Af,decide_eq_false_iff_not];rw [wr (by omega) (by omega)];by_cases F:0<i
   ·have v:=Aa (l:=r) (i:=i - 1) (by omega);generalize r[i - 1]=p at v;rw [ge_s (fgz (i - 1) (by rw [Zb,wr (by omega) (by omega)];omega) v)];have A:Zi r i↔(-4096<=w.1/\w.1<4096)/\(w.2≠[]/\RunsOK (-4096) 4096 w.2)/\p.1<w.1:=by
     constructor
     ·intro h;have:=h _ hx;exact ⟨⟨this.1,this.2.1⟩,⟨this.2.2.1,this.2.2.2.1⟩,this.2.2.2.2 _ F v⟩
     ·rintro ⟨⟨a,b⟩,⟨c,d⟩,e⟩ x f;rw [hx] at f;injection f with q;subst q;exact ⟨a,b,c,d,λJ _ m=>by rw [v] at m;injection m with q;subst q;exact e⟩
    simp only [A];by_cases hT:w.2≠[]/\RunsOK (-4096) 4096 w.2
    ·simp only [hT,and_self,true_and,if_true,ne_eq,not_false_iff]
     (repeat' split)<;>first|rfl|omega
    ·simp only [hT,false_and,and_false,if_false]
     (repeat' split)<;>first|rfl|omega
   ·have A:Zi r i↔(-4096<=w.1/\w.1<4096)/\(w.2≠[]/\RunsOK (-4096) 4096 w.2):=by
     constructor
     ·intro h;have:=h _ hx;exact ⟨⟨this.1,this.2.1⟩,this.2.2.1,this.2.2.2.1⟩
     ·rintro ⟨⟨a,b⟩,c,d⟩ x f;rw [hx] at f;injection f with q;subst q;exact ⟨a,b,c,d,λJ h=>(F h).elim⟩
    simp only [A];by_cases hT:w.2≠[]/\RunsOK (-4096) 4096 w.2
    ·simp only [hT,and_self,and_true,if_true,ne_eq,not_false_iff]
     (repeat' split)<;>first|rfl|omega
    ·simp only [hT,and_false,if_false]
     (repeat' split)<;>first|rfl|omega
  rw [M];exact ⟨λh=>if_pos h,λh=>if_neg h⟩) (λ_=>by unfold Ku;dsimp only;rw [Kq (by omega)])
 unfold Yw;refine (lo_s g).trans ?_;by_cases h:RegOK r
 ·rw [if_pos ((Ja2 _).2 h),decide_eq_true h]
 ·rw [if_neg λq=>h ((Ja2 _).1 q),decide_eq_false h]
theorem Jov{l:List Run}(h:∀i,i<4194304->Yk (-4096) 4096 l i):l.length<=1000000000:=Jm6 λi hi x hx=>by obtain ⟨a,b,c,d⟩:=h i hi x hx;exact ⟨by omega,b,by omega,d⟩
open Classical in
theorem fine_any(l:List Run)(A:l.length<=9223372036854775807):@K9 wv l=some (decide (l≠[]/\RunsOK (-4096) 4096 l)):=by
 by_cases hl:l.length<=1000000000
 ·exact J06 l hl
 have g:=Jbg (b:=@Ka wv) (bad:=.inl ()) (fin:=.inr ⟨l,()⟩) (λi=>⟨l,(i:Int),()⟩) 4194304 (by omega) (Yk (-4096) 4096 l) (λi hi _=>by
  have hi:i<l.length:=by omega
  have hx:=Aa hi;have w:@Ka wv ⟨l,(i:Int),()⟩=if Yk (-4096) 4096 l i then some (.go ⟨l,((i+1:Nat):Int),()⟩) else some (.out (.inl ())):=by
   generalize y:l[i]=u at hx;unfold Ka;dsimp only;simp only [ge_s (fg hx)];rw [w_ln,Qw (by omega)];simp only [w_br,Jl8,Jat,Jir,Jng,Ks,decide_eq_true_eq];rw [wr (by omega) (by omega)];by_cases v:0<i
   ·have o:=Aa (l:=l) (i:=i - 1) (by omega);generalize l[i - 1]=p at o;rw [ge_s (fgz (i - 1) (by rw [Zb,wr (by omega) (by omega)];omega) o)];have r:Yk (-4096) 4096 l i↔-4096<=u.1/\u.1<u.2/\u.2<=4096/\p.2<u.1:=by
     constructor
     ·intro h;have:=h _ hx;exact ⟨this.1,this.2.1,this.2.2.1,this.2.2.2 _ v o⟩
     ·rintro ⟨a,b,c,d⟩ x f;rw [hx] at f;injection f with e;subst e;exact ⟨a,b,c,λp _ m=>by rw [o] at m;injection m with e;subst e;exact d⟩
    simp only [r]
    (repeat' split)<;>first|rfl|omega
   ·have r:Yk (-4096) 4096 l i↔-4096<=u.1/\u.1<u.2/\u.2<=4096:=by
     constructor
     ·intro h;have:=h _ hx;exact ⟨this.1,this.2.1,this.2.2.1⟩
     ·rintro ⟨a,b,c⟩ x f;rw [hx] at f;injection f with e;subst e;exact ⟨a,b,c,λp h=>(v h).elim⟩
    simp only [r]
    (repeat' split)<;>first|rfl|omega
  rw [w];exact ⟨λh=>if_pos h,λh=>if_neg h⟩) (λh=>(hl (Jov h)).elim)
 unfold K9;refine (lo_s g).trans ?_;rw [if_neg λq=>hl (Jov q)];have:¬RunsOK (-4096) 4096 l:=λh=>hl (by have:=Jg9 (by decide) h;omega);rw [decide_eq_false λq=>this q.2]
open Classical in
theorem Jyz{α:Type}{l:List Run}(hl:l.length<=9223372036854775807)(k:Bool->Option α):@W.call wv α Kg l k=k (decide (l≠[]/\RunsOK (-4096) 4096 l)):=ca_s (c:=Kg) (fine_any l hl)
open Classical in
theorem Jrv(r:Reg)(hl:LimA r):@K3 wv r=some (decide (RegOK r)):=by
 have g:=Jbg (b:=@Jy wv) (bad:=.inl ()) (fin:=.inr ()) (λi=>⟨(i:Int),r,()⟩) r.length (by have:=hl.1;omega) (Zi r) (λi hi _=>by
  have hx:=Aa hi;have hL:=hl.1;have B:@Jy wv ⟨(i:Int),r,()⟩=if Zi r i then some (.go ⟨((i+1:Nat):Int),r,()⟩) else some (.out (.inl ())):=by
   generalize E:r[i]=w at hx;have hLw:=hl.2 w (Ad hx);unfold Jy;dsimp only;simp only [ge_s (fg hx)];rw [w_ln,Qw (by omega)];simp only [w_br,Jl8,Jat,Jir,Jng,Ks,w_nt,Jyz hLw,decide_eq_true_eq,Af,decide_eq_false_iff_not];rw [wr (by omega) (by omega)];by_cases y:0<i
   ·have o:=Aa (l:=r) (i:=i - 1) (by omega);generalize r[i - 1]=p at o;rw [ge_s (fgz (i - 1) (by rw [Zb,wr (by omega) (by omega)];omega) o)];have v:Zi r i↔(-4096<=w.1/\w.1<4096)/\(w.2≠[]/\RunsOK (-4096) 4096 w.2)/\p.1<w.1:=by
     constructor
     ·intro h;have:=h _ hx;exact ⟨⟨this.1,this.2.1⟩,⟨this.2.2.1,this.2.2.2.1⟩,this.2.2.2.2 _ y o⟩
     ·rintro ⟨⟨a,b⟩,⟨c,d⟩,e⟩ x f;rw [hx] at f;injection f with q;subst q;exact ⟨a,b,c,d,λA _ m=>by rw [o] at m;injection m with q;subst q;exact e⟩
    simp only [v];by_cases hT:w.2≠[]/\RunsOK (-4096) 4096 w.2
    ·simp only [hT,and_self,true_and,if_true,ne_eq,not_false_iff,not_true_eq_false,if_false]
     (repeat' split)<;>first|rfl|omega
    ·simp only [hT,false_and,and_false,if_false,not_false_iff,if_true]
     (repeat' split)<;>first|rfl|omega
   ·have v:Zi r i↔(-4096<=w.1/\w.1<4096)/\(w.2≠[]/\RunsOK (-4096) 4096 w.2):=by
     constructor
     ·intro h;have:=h _ hx;exact ⟨⟨this.1,this.2.1⟩,this.2.2.1,this.2.2.2.1⟩
     ·rintro ⟨⟨a,b⟩,c,d⟩ x f;rw [hx] at f;injection f with q;subst q;exact ⟨a,b,c,d,λA h=>(y h).elim⟩
    simp only [v];by_cases hT:w.2≠[]/\RunsOK (-4096) 4096 w.2
    ·simp only [hT,and_self,and_true,if_true,ne_eq,not_false_iff,not_true_eq_false,if_false]
     (repeat' split)<;>first|rfl|omega
    ·simp only [hT,and_false,if_false,not_false_iff,if_true]
     (repeat' split)<;>first|rfl|omega
  rw [B];exact ⟨λh=>if_pos h,λh=>if_neg h⟩) (λ_=>by unfold Jy;dsimp only;rw [w_ln,Kq (by omega)])
 unfold K3;refine (lo_s g).trans ?_;by_cases h:RegOK r
 ·rw [if_pos ((Ja2 _).2 h),decide_eq_true h]
 ·rw [if_neg λq=>h ((Ja2 _).1 q),decide_eq_false h]
open Classical in
theorem J4y(r:Reg)(hl:LimA r):@K2 wv r=some (if RegOK r then ((X5 r).length:Int) else 0):=by
 by_cases h:RegOK r
 ·rw [Jsq r (Jct h)]
 ·unfold K2;refine (ca_s (c:=Km) (Jrv r hl)).trans ?_;rw [decide_eq_false h,if_neg h];rfl
theorem heavy_ok(r:Reg)(hr:∀w∈r,w.2.length<=9223372036854775807):∃b,@Ze wv r=some b/\(b=false->LimA r/\(RegOK r->(X5 r).length<=1000)):=by
 classical
 obtain ⟨e,a,c,rfl⟩:=jq (b:=@Qu wv) (λi s=>∃c:Int,s=(⟨c,(i:Int),r,()⟩:HP Int (HP Int (HP Reg Unit)))) (λe=>∃c:Int,e=(⟨c,r,()⟩:HP Int (HP Reg Unit))) (min r.length 300) (by omega) (s0:=⟨0,0,r,()⟩) ⟨0,rfl⟩ (λi s hi=>by
  rintro ⟨c,rfl⟩;have hx:=Aa (l:=r) (i:=i) (by omega);generalize r[i]=w at hx;refine ⟨(⟨@W.ar wv .add .i64 c (@W.ln wv Run w.2),((i+1:Nat):Int),r,()⟩:HP Int (HP Int (HP Reg Unit))),?_,_,rfl⟩;have m:@W.ar wv .add .i64 (i:Int) 1=((i+1:Nat):Int):=by rw [Ks,wr (by omega) (by omega)];omega
  unfold Qu;dsimp only;rw [m,show @W.ln wv (Int×List (Int×Int)) r=(r.length:Int) from rfl,Qw (by omega),Qw (by omega),ge_s (fg hx)]) (by
  rintro s ⟨c,rfl⟩;refine ⟨_,?_,c,rfl⟩;unfold Qu;dsimp only;rw [show @W.ln wv (Int×List (Int×Int)) r=(r.length:Int) from rfl];by_cases q:r.length<=300
  ·rw [Kq (by omega)]
  ·rw [Qw (by omega),Kq (by omega)])
 by_cases d:(r.length:Int) > 200
 ·refine ⟨true,(lo_s a).trans ?_,λh=>by cases h⟩;dsimp only;rw [w_ln,br_gt d]
 have hl:LimA r:=⟨by omega,hr⟩;by_cases f:c > 400
 ·refine ⟨true,(lo_s a).trans ?_,λh=>by cases h⟩;dsimp only;rw [w_ln,Jwv d,br_gt f]
 refine ⟨decide ((if RegOK r then ((X5 r).length:Int) else 0) > 1000),(lo_s a).trans ?_,λh=>⟨hl,λg=>?_⟩⟩
 ·dsimp only;rw [w_ln,Jwv d,Jwv f];exact (ca_s (c:=Kn) (J4y r hl)).trans rfl
 ·have:=of_decide_eq_false h;rw [if_pos g] at this;omega
open Classical in
theorem Jgu{α:Type}{r:Reg}(hl:LimA r)(k:Bool->Option α):@W.call wv α Js r k=k (decide (RegOK r)):=ca_s (c:=Js) (Jjz r hl)
open Classical in
theorem Jtl(r:Reg)(n:Int)(hl:LimA r)(a:RegOK r->(X5 r).length<=2000):@Q6 wv (r,n)=some (if RegOK r then (Jno (ja r (min (max n 0) 64).toNat),eroN r (min (max n 0) 64).toNat) else ([],[])):=by
 by_cases h:RegOK r
 ·exact Jkj r n (Jct h) a
 ·unfold Q6;dsimp only;rw [Jgu hl,br_t (by simp [w_nt,h]),if_neg h]
theorem Jjl(l:List J0)(hl:l.length<=100000000000)(d:∀t∈l,t.2.2.length<=1000000000):@Q0 wv (l,l)=some true:=by
 have a:=Ql (b:=@Qd wv) (e:=.inr ()) (λi=>⟨l,l,(l.length:Int),(i:Int),()⟩) l.length (by omega) (λi hi=>by
  have hx:=Aa hi;generalize l[i]=t at hx;unfold Qd;dsimp only;rw [Qw (by omega),ge_s (fg hx),ge_s (fg hx),k_Same (d t (Ad hx)),br_f (by simp [w_nt]),Ks,wr (by omega) (by omega)];rfl) (by unfold Qd;dsimp only;rw [Kq (by omega)])
 unfold Q0;dsimp only;rw [br_f (by simp [Jna,w_ln])];exact lo_s a
theorem Jtu{out:List J0}{last:List Cell}{x:J0}(h:x∈Jj0 out last):x∈out\/x.2.2=last:=by
 unfold Jj0 at h;rcases out.eq_nil_or_concat with rfl|⟨r,v,rfl⟩
 ·exact .inl h
 ·rw [List.concat_eq_append] at h ⊢;rw [X7] at h;rcases Ae.1 h with q|q
  ·exact .inl (Ae.2 (.inl q))
  ·rw [Ac] at q;exact .inr (by rw [q])
theorem runQ_tr(role:Int)(l:List (Cell×Bool)):∀t∈(runQ role l).1,t.2.2.length<=l.length:=by
 have key:∀m:List (Cell×Bool),∀t∈(runQ role m.reverse).1,t.2.2.length<=m.reverse.length:=by
  intro m
  induction m with
  | nil=>intro t a;cases a
  | cons p m d=>
   have hl:=(Jj8 role m.reverse).2.2.2;rw [List.reverse_cons,Jm4,List.length_append];generalize runQ role m.reverse=s at d hl ⊢;obtain ⟨out,last,pv⟩:=s;obtain ⟨c,k⟩:=p;intro t a;have old:t∈out->t.2.2.length<=m.reverse.length+[(c,k)].length:=λq=>Nat.le_succ_of_le (d t q);cases k with
   | false=>exact old a
   | true=>
    cases pv with
    | true=>exact old a
    | false=>
     have a:t∈Jj0 out last++[(role,(false,[]))]:=a;rcases Ae.1 a with q|q
     ·rcases Jtu q with q|q
      ·exact old q
      ·rw [q];exact Nat.le_succ_of_le hl
     ·rw [Ac] at q;rw [q];exact Nat.zero_le _
 have:=key l.reverse;rwa [List.reverse_reverse] at this
theorem Jy9(role:Int)(l:List (Cell×Bool)):∀t∈Jk9 role l,t.2.2.length<=l.length:=λt a=>by
 rcases Jtu (show t∈Jj0 (runQ role l).1 (runQ role l).2.1 from a) with q|q
 ·exact runQ_tr role l t q
 ·rw [q];exact (Jj8 role l).2.2.2
theorem onceF_tr{n:Nat}{l:List J0}(h:∀t∈l,t.2.2.length<=n):∀t∈Jno l,t.2.2.length<=n:=by
 have key:∀(l:List J0) (s:List J0×Mb),(∀t∈l,t.2.2.length<=n)->(∀t∈s.1,t.2.2.length<=n)->∀t∈(l.foldl stN s).1,t.2.2.length<=n:=by
  intro l
  induction l with
  | nil=>intro s _ h;exact h
  | cons a l m=>
   intro s g f;rw [List.foldl_cons];refine m _ (λt d=>g t (Ag _ d)) λt d=>?_;have o:=g a (Ah ..);unfold stN at d;split at d
   ·rcases Ae.1 d with q|q
    ·exact f t q
    ·split at q
     ·rw [Ac] at q;rw [q];exact o
     ·have:=Jy9 _ _ t q;rw [List.length_zip] at this;omega
   ·exact f t d
 exact key l ([],[]) h λt d=>by cases d
theorem Juq(r:Reg)(n:Int)(hr:∀w∈r,w.2.length<=9223372036854775807)(E:-9223372036854775808<=n/\n<=9223372036854775807):@Kh wv (r,n)=some true:=by
 classical
 obtain ⟨b,v,o⟩:=heavy_ok r hr;unfold Kh;refine (ca_s (c:=Qn) v).trans ?_;cases b with
 | true=>rw [br_t rfl,Jks]
 | false=>
  obtain ⟨hl,f⟩:=o rfl;have eM:@W.mx wv 0 (@W.mn wv n 64)=max 0 (min n 64):=by rw [w_mx,w_mn];split<;>split<;>omega
  have eN:(min (max (max 0 (min n 64)) 0) 64).toNat=(min (max n 0) 64).toNat:=by omega
  have w1:=Jtl r n hl λq=>by have:=f q;omega
  have g:=Jtl r (max 0 (min n 64)) hl λq=>by have:=f q;omega
  rw [eN] at g;rw [br_f rfl];refine (ca_s (c:=Ko) w1).trans ?_;dsimp only;rw [eM];refine (ca_s (c:=Ko) g).trans ?_;have nt1:@W.nt wv true=false:=rfl;by_cases h:RegOK r
  ·rw [if_pos h];have hN:(min (max n 0) 64).toNat<=64:=by omega
   generalize (min (max n 0) 64).toNat=N at hN ⊢;obtain ⟨F,m⟩:=Jc1 h (by have:=f h;omega) N;have B:=J3t λt q=>(m t q).1;have A:N * 8000<=64 * 8000:=Ab _ (by omega);have y:(ja r N).length * 65537<=512000 * 65537:=Ab _ (by omega);have d:(Jno (ja r N)).length<=100000000000:=Nat.le_trans (Jsl _) (by omega);have a:=onceF_tr (n:=1000000000) (l:=ja r N) λt q=>by have:=(m t q).1.2.1.2;omega
   refine (ca_s (c:=Kw) (Jjl _ d a)).trans ?_;rw [nt1,br_f rfl];refine (ca_s (c:=Kf) (Jtd _ (Jct (Jqq h N).1))).trans ?_;rw [nt1,br_f rfl,Jgu hl,br_t (by simp [h]),Jks]
  ·rw [if_neg h];refine (ca_s (c:=Kw) (Jjl [] (by simp) (by simp))).trans ?_;rw [nt1,br_f rfl];refine (ca_s (c:=Kf) (Jtd [] ⟨by simp,by simp⟩)).trans ?_;rw [nt1,br_f rfl,Jgu hl,br_f (by simp [h])];exact (br_t rfl).trans ((br_t rfl).trans (Jks _))
end Go.Proofs.YtmfagdfkpjgeiaaGreat
namespace Go.Proofs.YtmfagdfkpjgeiaaGreat
open Go Go.Vv Go.Dn
theorem i64_bd{v:Int}(h:(Lit.int .i64 v).wf=true):-9223372036854775808<=v/\v<=9223372036854775807:=by have h:(decide (Go.IntKind.min .i64<=v)&&decide (v<=Go.IntKind.max .i64))=true:=h;rw [Bool.and_eq_true,decide_eq_true_eq,decide_eq_true_eq] at h;exact h
theorem row_bd{r:Reg}(h:∀x:Row,List.Mem x r->(Dn.Ty.p I (.ls (.p I I))).wf x):∀w∈r,w.2.length<=9223372036854775807:=λw a=>(h w a).2.1
end Go.Proofs.YtmfagdfkpjgeiaaGreat
