/- walls.Walls: what it hands out. Conditions: a valid region of at most 2000 cells, or one that is not valid. -/
import Derived.Test.YtmfagdfkpjgeiaaGreatXG
import Derived.Test.YtmfagdfkpjgeiaaGreatXH
import Derived.Test.YtmfagdfkpjgeiaaGreatXF
import Derived.Test.YtmfagdfkpjgeiaaGreatXE
import Derived.Test.YtmfagdfkpjgeiaaGreatXD
import Derived.Test.YtmfagdfkpjgeiaaGreatFC
set_option linter.unusedVariables false
set_option linter.unusedSimpArgs false
set_option maxRecDepth 100000
open List renaming getElem?_eq_getElem → Aa, mem_singleton → Ab, mem_of_getElem? → Ae, mem_append → Af, getElem?_take_of_lt → Ag, mem_cons_of_mem → Ah
open Bool renaming not_eq_true' → Ac
open Nat renaming mul_le_mul_right → Ad, le_refl → Ai
namespace Go.Proofs.YtmfagdfkpjgeiaaGreat
open Go Go.Vv Go.Dn Go.Dn.W
theorem ero_ex{r:Reg}(h:RegOK r):∃E,@jc wv (r,1)=some E/\RegOK E/\∀c,Jv E c↔deep r 1 c:=Erode_ok r h (Xp h) 1 ⟨by decide,by decide⟩
open Classical in
noncomputable def eroF(r:Reg):Reg:=if h:RegOK r then (ero_ex h).choose else []
theorem Jep{r:Reg}(h:RegOK r):@jc wv (r,1)=some (eroF r)/\RegOK (eroF r)/\∀c,Jv (eroF r) c↔deep r 1 c:=by unfold eroF;rw [dif_pos h];exact (ero_ex h).choose_spec
theorem J64{r:Reg}(h:RegOK r):(K8 (eroF r)).length<=(K8 r).length:=by
 obtain ⟨-,l,g⟩:=Jep h;refine Yr ((l.cells_pw).imp λ{a b} d e=>?_) λc f=>?_
 ·subst e;exact Ji2 d d
 ·rw [Q8,g] at f;rw [Q8];have:=f 0 0 (by decide) (by decide) (by decide) (by decide);simpa using this
noncomputable def eroN(r:Reg):Nat->Reg
 | 0=>r
 | n+1=>eroF (eroN r n)
theorem Jga{r:Reg}(h:RegOK r):∀n,RegOK (eroN r n)/\(K8 (eroN r n)).length<=(K8 r).length
 | 0=>⟨h,Ai _⟩
 | n+1=>by obtain ⟨a,d⟩:=Jga h n;exact ⟨(Jep a).2.1,Nat.le_trans (J64 a) d⟩
noncomputable def Jat(r:Reg):List Jz:=(Zx r).map (Jdd r)
theorem Jwd{r:Reg}(h:RegOK r)(g:(K8 r).length<=2000):(Jat r).length<=8000/\(∀t∈Jat r,VT t/\t.1=1/\t.2.1=true):=by have f:=Jsc r;have a:=(Jlx r (Xp h) λ_=>by omega).2 h;have hl:=Jpc a;refine ⟨by unfold Jat;rw [List.length_map];omega,λt d=>?_⟩;obtain ⟨s,hs,rfl⟩:=List.mem_map.1 d;exact ⟨walk_VT h (by omega) ((a.mem s).1 hs).1,rfl,rfl⟩
theorem totT_le{l:List Jz}(h:∀t∈l,VT t):totT l<=l.length * 65537:=by
 induction l with
 | nil=>exact Ai _
 | cons t l a=>
  have g:=a λx hx=>h x (Ah _ hx);have f:=(h t (List.mem_cons_self ..)).2.1.2;have d:totT (t::l)=(t.2.2.length+1)+totT l:=by unfold totT;rw [List.map_cons,List.sum_cons]
  rw [List.length_cons,Nat.add_mul];omega
noncomputable def Q5(r:Reg):Nat->List Jz
 | 0=>[]
 | n+1=>Q5 r n++Jat (eroN r n)
theorem Jch{r:Reg}(h:RegOK r)(d:(K8 r).length<=2000):∀n,(Q5 r n).length<=n * 8000/\∀t∈Q5 r n,VT t/\t.1=1/\t.2.1=true
 | 0=>⟨Ai _,λt a=>by cases a⟩
 | n+1=>by
  obtain ⟨m,f⟩:=Jch h d n;obtain ⟨l,v⟩:=Jga h n;obtain ⟨o,g⟩:=Jwd l (by omega);refine ⟨?_,λt a=>?_⟩
  ·show (Q5 r n++Jat (eroN r n)).length<=_;rw [List.length_append,Nat.add_mul];omega
  ·rcases Af.1 (show t∈Q5 r n++Jat (eroN r n) from a) with q|q
   ·exact f t q
   ·exact g t q
abbrev Wa0S:=HP (List Jz) (HP Int (HP Int (HP Reg Unit)))
open Classical in
theorem Jlu(r:Reg)(n:Int)(hl:LimR r)(d:RegOK r->(K8 r).length<=2000):@Xg wv (r,n)=some (if RegOK r then (Jdv (Q5 r (min (max n 0) 64).toNat),eroN r (min (max n 0) 64).toNat) else ([],[])):=by
 unfold Xg;dsimp only;rw [Qa hl];by_cases h:RegOK r
 ·have d:=d h;rw [br_f (by simp [w_nt,h]),if_pos h];have m:RegOK ([]:Reg):=⟨by simp,.nil,by simp,by simp⟩;obtain ⟨U,y,v,o⟩:=Jal r [] h m hl (Xp m);have eU:U=r:=Jil v h λc=>by rw [o];exact ⟨λq=>q.elim id λ⟨w,A,_⟩=>(List.not_mem_nil A).elim,.inl⟩
  subst eU;refine (ca_s (c:=Kv) y).trans ?_;have eN:@W.mn wv (@W.mx wv n 0) 64=(((min (max n 0) 64).toNat:Nat):Int):=by rw [w_mn,w_mx];split<;>split<;>omega
  rw [eN];have hN:(min (max n 0) 64).toNat<=64:=by omega
  generalize (min (max n 0) 64).toNat=N at hN ⊢;have key:=Qo (b:=@j8 wv) (e:=(⟨Q5 U N,eroN U N,()⟩:HP (List Jz) (HP Reg Unit))) (λi=>(⟨Q5 U i,(N:Int),(i:Int),eroN U i,()⟩:Wa0S)) N (by omega) (λi hi=>by
   obtain ⟨f,J⟩:=Jga h i;obtain ⟨H,G⟩:=Jwd f (by omega);obtain ⟨w1,g⟩:=Jch h d i;have l:(Q5 U i).length+(Jat (eroN U i)).length<=1000000:=by have:i * 8000<=64 * 8000:=Ad _ (by omega);omega
   unfold j8;dsimp only;rw [Qp (by omega),k_Walk (Xp f) (λ_=>by omega),if_pos f];refine (ca_s (c:=jq) (a:=(Q5 U i,Jat (eroN U i))) (r:=Q5 U i++Jat (eroN U i)) (if_pos l)).trans ?_;refine (ca_s (c:=zo) (Jep f).1).trans ?_;rw [Ki,wr (by omega) (by omega)];rfl) (by unfold j8;dsimp only;rw [Ko (by omega)])
  refine (lo_s key).trans ?_;obtain ⟨w1,g⟩:=Jch h d N;have F:=totT_le λt q=>(g t q).1;have E:N * 8000<=64 * 8000:=Ad _ (by omega);have B:(Q5 U N).length * 65537<=512000 * 65537:=Ad _ (by omega);exact (ca_s (c:=Jbf) (Once_ok (Q5 U N) (by omega) λt q=>by have:=(g t q).1.2.1.2;omega)).trans rfl
 ·rw [br_t (by simp [w_nt,h]),if_neg h]
theorem J37:@Zf wv 4=some (boxR 0 0 4 4):=by kernel_rfl
theorem Jxa:eroF (boxR 0 0 4 4)=boxR 1 1 2 2:=by
 have a:RegOK (boxR 0 0 4 4):=Jmy (by decide) (by decide) (by decide);have d:RegOK (boxR 1 1 2 2):=Jmy (by decide) (by decide) (by decide);refine Jil (Jep a).2.1 d λc=>?_;rw [(Jep a).2.2,Jfg];constructor
 ·intro h;have g:=Jfg.1 (h (-1) (-1) (by decide) (by decide) (by decide) (by decide));have f:=Jfg.1 (h 1 1 (by decide) (by decide) (by decide) (by decide));dsimp only at g f;omega
 ·intro h dx dy r o m l;rw [Jfg];dsimp only;omega
theorem ero_box2:eroF (boxR 1 1 2 2)=[]:=by
 have a:RegOK (boxR 1 1 2 2):=Jmy (by decide) (by decide) (by decide);have f:RegOK ([]:Reg):=⟨by simp,.nil,by simp,by simp⟩;refine Jil (Jep a).2.1 f λc=>?_;rw [(Jep a).2.2];constructor
 ·intro h;have l:=Jfg.1 (h (-1) (-1) (by decide) (by decide) (by decide) (by decide));have g:=Jfg.1 (h 1 1 (by decide) (by decide) (by decide) (by decide));dsimp only at l g;omega
 ·rintro ⟨w,d,-⟩;exact (List.not_mem_nil d).elim
def bw4:List Cell:=[(0,0),(1,0),(2,0),(3,0),(3,1),(3,2),(3,3),(2,3),(1,3),(0,3),(0,2),(0,1)]
def bw2:List Cell:=[(1,1),(2,1),(2,2),(1,2)]
theorem walks4:Jat (boxR 0 0 4 4)=[(1,true,bw4)]:=by unfold Jat;rw [Jjz (by decide) (by decide)];show [Jdd _ _]=_;unfold Jdd;rw [Jtc (Jds (by decide) (by decide) (by decide)) (Jsl (by decide) (by decide)),Jws (by decide) (by decide)];exact congrArg (λl=>[((1:Int),true,l)]) (by decide)
theorem walks2:Jat (boxR 1 1 2 2)=[(1,true,bw2)]:=by unfold Jat;rw [Jjz (by decide) (by decide)];show [Jdd _ _]=_;unfold Jdd;rw [Jtc (Jds (by decide) (by decide) (by decide)) (Jsl (by decide) (by decide)),Jws (by decide) (by decide)];exact congrArg (λl=>[((1:Int),true,l)]) (by decide)
theorem box4:RegOK (boxR 0 0 4 4)/\(K8 (boxR 0 0 4 4)).length<=2000:=⟨Jmy (by decide) (by decide) (by decide),by have:=Jv0 (x:=0) (y:=0) (n:=4) (m:=4);omega⟩
theorem walls1:Q5 (boxR 0 0 4 4) 1=[(1,true,bw4)]:=by show []++Jat (boxR 0 0 4 4)=_;rw [walks4];rfl
theorem walls2:Q5 (boxR 0 0 4 4) 2=[(1,true,bw4),(1,true,bw2)]:=by show ([]++Jat (boxR 0 0 4 4))++Jat (eroF (boxR 0 0 4 4))=_;rw [Jxa,walks4,walks2];rfl
theorem once1:Jdv [(1,true,bw4)]=[(1,true,bw4)]:=by
 have a:VT (1,true,bw4):=((Jch box4.1 box4.2 1).2 _ (by rw [walls1];exact Ab.2 rfl)).1;show (stN ([],[]) (1,true,bw4)).1=_;unfold stN;rw [if_pos a];have h:(runO [] bw4).1=true:=by decide
 dsimp only;rw [if_pos h];rfl
theorem once2:Jdv [(1,true,bw4),(1,true,bw2)]=[(1,true,bw4),(1,true,bw2)]:=by
 have d:=(Jch box4.1 box4.2 2).2;rw [walls2] at d;have f:=(d (1,true,bw4) (List.mem_cons_self ..)).1;have a:=(d (1,true,bw2) (Ah _ (Ab.2 rfl))).1;show (stN (stN ([],[]) (1,true,bw4)) (1,true,bw2)).1=_;have g:stN ([],[]) (1,true,bw4)=([(1,true,bw4)],(runO [] bw4).2.1):=by
  unfold stN;rw [if_pos f];have h:(runO [] bw4).1=true:=by decide
  dsimp only;rw [if_pos h];rfl
 rw [g];unfold stN;rw [if_pos a];have h:(runO (runO [] bw4).2.1 bw2).1=true:=by decide
 dsimp only;rw [if_pos h];rfl
theorem walls_a:@Xg wv (boxR 0 0 4 4,1)=some ([(1,true,bw4)],boxR 1 1 2 2):=by rw [Jlu _ _ (Xp box4.1) λ_=>box4.2,if_pos box4.1];show some (Jdv (Q5 (boxR 0 0 4 4) 1),eroF (boxR 0 0 4 4))=_;rw [walls1,once1,Jxa]
theorem walls_b:@Xg wv (boxR 0 0 4 4,2)=some ([(1,true,bw4),(1,true,bw2)],[]):=by rw [Jlu _ _ (Xp box4.1) λ_=>box4.2,if_pos box4.1];show some (Jdv (Q5 (boxR 0 0 4 4) 2),eroF (eroF (boxR 0 0 4 4)))=_;rw [walls2,once2,Jxa,ero_box2]
theorem walls_c:@Xg wv (boxR 0 0 4 4,0)=some ([],boxR 0 0 4 4):=by rw [Jlu _ _ (Xp box4.1) λ_=>box4.2,if_pos box4.1];rfl
theorem Jtq:@X7 wv ()=some true:=by
 have sq:=λ{α:Type} (k:Reg->Option α)=>ca_s (c:=Kk) (k:=k) J37;unfold X7;refine (sq _).trans ((ca_s (c:=Ku) walls_a).trans ((sq _).trans ((ca_s (c:=Ku) walls_b).trans ((sq _).trans ((ca_s (c:=Ku) walls_c).trans ?_)))))
 kernel_rfl
theorem Jbn{α:Type}(k:Bool->Option α):@W.call wv α Jy (():Unit) k=k true:=ca_s (c:=Jy) Jtq
theorem Joe{l:List Run}(h:∀i,i<4194304->Yw (-1048576) 1048576 l i):l.length<=1000000000:=by
 apply Classical.byContradiction;intro hl;have f:(l.take 4194304).length=4194304:=by rw [List.length_take];omega
 have hr:RunsOK (-1048576) 1048576 (l.take 4194304):=(Jd1 _ _ _).1 λi hi x hx=>by rw [f] at hi;rw [Ag hi] at hx;obtain ⟨a,b,c,d⟩:=h i hi x hx;exact ⟨a,b,c,λp m g=>d p m (by rwa [Ag (by omega)] at g)⟩
 have:=Jiv (by decide) hr;rw [f] at this;omega
open Classical in
theorem Jow(l:List Run)(y:l.length<=9223372036854775807):@Jdn wv l=some (decide (RunsOK (-1048576) 1048576 l)):=by
 by_cases hl:l.length<=1000000000
 ·exact Jis l hl
 have g:=Jb7 (b:=@Qw wv) (bad:=.inl ()) (fin:=.inr ()) (λi=>⟨l,l,(l.length:Int),(i:Int),()⟩) 4194304 (by omega) (Yw (-1048576) 1048576 l) (λi hi _=>by
  have hi:i<l.length:=by omega
  have hx:=Aa hi;have w:@Qw wv ⟨l,l,(l.length:Int),(i:Int),()⟩=if Yw (-1048576) 1048576 l i then some (.go ⟨l,l,(l.length:Int),((i+1:Nat):Int),()⟩) else some (.out (.inl ())):=by
   unfold Qw;dsimp only;rw [Qp (by omega),ge_s (fg hx)];simp only [w_br,Jh3,jm,Jjm,Ki,w_nt,Jmm,decide_eq_true_eq,Ac,decide_eq_false_iff_not];rw [wr (by omega) (by omega)];by_cases v:0<i
   ·have o:=Aa (l:=l) (i:=i - 1) (by omega);rw [ge_s (fgz (i - 1) (by rw [Yp,wr (by omega) (by omega)];omega) o)];have r:Yw (-1048576) 1048576 l i↔-1048576<=l[i].1/\l[i].1<l[i].2/\l[i].2<=1048576/\(l[i - 1]'(by omega)).2<l[i].1:=by
     constructor
     ·intro h;have:=h _ hx;exact ⟨this.1,this.2.1,this.2.2.1,this.2.2.2 _ v o⟩
     ·rintro ⟨a,b,c,d⟩ x f;rw [hx] at f;injection f with e;subst e;exact ⟨a,b,c,λp _ m=>by rw [o] at m;injection m with e;subst e;exact d⟩
    simp only [r]
    (repeat' split)<;>first|rfl|omega
   ·have r:Yw (-1048576) 1048576 l i↔-1048576<=l[i].1/\l[i].1<l[i].2/\l[i].2<=1048576:=by
     constructor
     ·intro h;have:=h _ hx;exact ⟨this.1,this.2.1,this.2.2.1⟩
     ·rintro ⟨a,b,c⟩ x f;rw [hx] at f;injection f with e;subst e;exact ⟨a,b,c,λp h=>(v h).elim⟩
    simp only [r]
    (repeat' split)<;>first|rfl|omega
  rw [w];exact ⟨λh=>if_pos h,λh=>if_neg h⟩) (λh=>(hl (Joe h)).elim)
 refine (lo_s g).trans ?_;rw [if_neg λq=>hl (Joe q)];have:¬RunsOK (-1048576) 1048576 l:=λh=>hl (by have:=Jiv (by decide) h;omega);rw [decide_eq_false this]
open Classical in
theorem Jlh{α:Type}{l:List Run}(hl:l.length<=9223372036854775807)(k:Bool->Option α):@W.call wv α Jq l k=k (decide (RunsOK (-1048576) 1048576 l)):=ca_s (c:=Jq) (Jow l hl)
def LimA(r:Reg):Prop:=r.length<=1000000000/\∀w∈r,w.2.length<=9223372036854775807
open Classical in
theorem Jlk(r:Reg)(hl:LimA r):@Za wv r=some (decide (RegOK r)):=by
 have g:=Jb7 (b:=@K2 wv) (bad:=.inl ()) (fin:=.inr ()) (λi=>⟨r,(r.length:Int),(i:Int),r,()⟩) r.length (by have:=hl.1;omega) (Zt r) (λi hi _=>by
  have hx:=Aa hi;have hL:=hl.1;have M:@K2 wv ⟨r,(r.length:Int),(i:Int),r,()⟩=if Zt r i then some (.go ⟨r,(r.length:Int),((i+1:Nat):Int),r,()⟩) else some (.out (.inl ())):=by
   generalize N:r[i]=w at hx;have y:=Ae hx;have hLw:=hl.2 w y;unfold K2;dsimp only;rw [Qp (by omega),ge_s (fg hx)];have tail:letI:W:=wv;∀X:Option (Nx _ (Unit ⊕ Unit)),(br (cm .eql (ln w.2) 0) (some (.out (.inl ()))) (call Jq (w.2:(List (Int×Int))) λ(v3:Bool)=>br (nt v3) (some (.out (.inl ()))) (ge w.2 0 λv4=>call J5 (v4.1:Int) λ(v5:Bool)=>br (nt v5) (some (.out (.inl ())))
     (ge w.2 (ar .sub .i64 (ln w.2) 1) λH=>call J5 ((ar .sub .i64 H.2 1):Int) λ(G:Bool)=>br (nt G) (some (.out (.inl ()))) X))):Option (Nx (HP (List (Int×(List (Int×Int)))) (HP Int (HP Int (HP (List (Int×(List (Int×Int)))) Unit)))) (Unit ⊕ Unit)))=if w.2≠[]/\RunsOK (-4096) 4096 w.2 then X else some (.out (.inl ())):=by
    intro X;cases hr:w.2 with
    | nil=>rfl
    | cons u l=>
     rw [hr] at hLw;have B:(u::l)[0]?=some u:=rfl;have o:(u::l)[(u::l).length - 1]?=some ((u::l)[(u::l).length - 1]'(by simp)):=Aa _;generalize ((u::l)[(u::l).length - 1]'(by simp))=x1 at o;have E:(0:Int)<((u::l).length:Int):=by simp only [List.length_cons];omega
     rw [br_f (by simp only [Xb,w_ln,beq_eq_false_iff_ne];omega),Jlh hLw];by_cases hV:RunsOK (-1048576) 1048576 (u::l)
     ·have K:=hV.bd x1 (Ae o);rw [br_f (by simp [w_nt,hV]),ge_s (fg0 B),Qi,ge_s (fgz ((u::l).length - 1) (by rw [Yp,w_ln,wr (by omega) (by omega)];omega) o),Qi,Yp,wr (by omega) (by omega)];have L:=Ji9 B o;simp only [ne_eq,reduceCtorEq,not_false_iff,true_and,L,w_br,w_nt,Ac,decide_eq_false_iff_not,hV]
      (repeat' split)<;>first|rfl|omega
     ·rw [br_t (by simp [w_nt,hV]),if_neg];rintro ⟨-,h⟩;exact hV ((Ji9 B o).1 h).1
   rw [tail];simp only [Qi,w_br,jm,Jjm,w_nt,Ki,decide_eq_true_eq,Ac,decide_eq_false_iff_not];rw [wr (by omega) (by omega)];by_cases F:0<i
   ·have v:=Aa (l:=r) (i:=i - 1) (by omega);generalize r[i - 1]=p at v;rw [ge_s (fgz (i - 1) (by rw [Yp,wr (by omega) (by omega)];omega) v)];have A:Zt r i↔(-4096<=w.1/\w.1<4096)/\(w.2≠[]/\RunsOK (-4096) 4096 w.2)/\p.1<w.1:=by
     constructor
     ·intro h;have:=h _ hx;exact ⟨⟨this.1,this.2.1⟩,⟨this.2.2.1,this.2.2.2.1⟩,this.2.2.2.2 _ F v⟩
     ·rintro ⟨⟨a,b⟩,⟨c,d⟩,e⟩ x f;rw [hx] at f;injection f with q;subst q;exact ⟨a,b,c,d,λJ _ m=>by rw [v] at m;injection m with q;subst q;exact e⟩
    simp only [A];by_cases hT:w.2≠[]/\RunsOK (-4096) 4096 w.2
    ·simp only [hT,and_self,true_and,if_true,ne_eq,not_false_iff]
     (repeat' split)<;>first|rfl|omega
    ·simp only [hT,false_and,and_false,if_false]
     (repeat' split)<;>first|rfl|omega
   ·have A:Zt r i↔(-4096<=w.1/\w.1<4096)/\(w.2≠[]/\RunsOK (-4096) 4096 w.2):=by
     constructor
     ·intro h;have:=h _ hx;exact ⟨⟨this.1,this.2.1⟩,this.2.2.1,this.2.2.2.1⟩
     ·rintro ⟨⟨a,b⟩,c,d⟩ x f;rw [hx] at f;injection f with q;subst q;exact ⟨a,b,c,d,λJ h=>(F h).elim⟩
    simp only [A];by_cases hT:w.2≠[]/\RunsOK (-4096) 4096 w.2
    ·simp only [hT,and_self,and_true,if_true,ne_eq,not_false_iff]
     (repeat' split)<;>first|rfl|omega
    ·simp only [hT,and_false,if_false]
     (repeat' split)<;>first|rfl|omega
  rw [M];exact ⟨λh=>if_pos h,λh=>if_neg h⟩) (λ_=>by unfold K2;dsimp only;rw [Ko (by omega)])
 unfold Za;refine (lo_s g).trans ?_;by_cases h:RegOK r
 ·rw [if_pos ((Jbe _).2 h),decide_eq_true h]
 ·rw [if_neg λq=>h ((Jbe _).1 q),decide_eq_false h]
theorem Jp0{l:List Run}(h:∀i,i<4194304->Yw (-4096) 4096 l i):l.length<=1000000000:=Joe λi hi x hx=>by obtain ⟨a,b,c,d⟩:=h i hi x hx;exact ⟨by omega,b,by omega,d⟩
open Classical in
theorem fine_any(l:List Run)(A:l.length<=9223372036854775807):@Qm wv l=some (decide (l≠[]/\RunsOK (-4096) 4096 l)):=by
 by_cases hl:l.length<=1000000000
 ·exact J4n l hl
 have g:=Jb7 (b:=@Kg wv) (bad:=.inl ()) (fin:=.inr ⟨l,()⟩) (λi=>⟨l,(i:Int),()⟩) 4194304 (by omega) (Yw (-4096) 4096 l) (λi hi _=>by
  have hi:i<l.length:=by omega
  have hx:=Aa hi;have w:@Kg wv ⟨l,(i:Int),()⟩=if Yw (-4096) 4096 l i then some (.go ⟨l,((i+1:Nat):Int),()⟩) else some (.out (.inl ())):=by
   generalize y:l[i]=u at hx;unfold Kg;dsimp only;simp only [ge_s (fg hx)];rw [w_ln,Qp (by omega)];simp only [w_br,Jh3,jm,Jjm,Jo4,Ki,decide_eq_true_eq];rw [wr (by omega) (by omega)];by_cases v:0<i
   ·have o:=Aa (l:=l) (i:=i - 1) (by omega);generalize l[i - 1]=p at o;rw [ge_s (fgz (i - 1) (by rw [Yp,wr (by omega) (by omega)];omega) o)];have r:Yw (-4096) 4096 l i↔-4096<=u.1/\u.1<u.2/\u.2<=4096/\p.2<u.1:=by
     constructor
     ·intro h;have:=h _ hx;exact ⟨this.1,this.2.1,this.2.2.1,this.2.2.2 _ v o⟩
     ·rintro ⟨a,b,c,d⟩ x f;rw [hx] at f;injection f with e;subst e;exact ⟨a,b,c,λp _ m=>by rw [o] at m;injection m with e;subst e;exact d⟩
    simp only [r]
    (repeat' split)<;>first|rfl|omega
   ·have r:Yw (-4096) 4096 l i↔-4096<=u.1/\u.1<u.2/\u.2<=4096:=by
     constructor
     ·intro h;have:=h _ hx;exact ⟨this.1,this.2.1,this.2.2.1⟩
     ·rintro ⟨a,b,c⟩ x f;rw [hx] at f;injection f with e;subst e;exact ⟨a,b,c,λp h=>(v h).elim⟩
    simp only [r]
    (repeat' split)<;>first|rfl|omega
  rw [w];exact ⟨λh=>if_pos h,λh=>if_neg h⟩) (λh=>(hl (Jp0 h)).elim)
 unfold Qm;refine (lo_s g).trans ?_;rw [if_neg λq=>hl (Jp0 q)];have:¬RunsOK (-4096) 4096 l:=λh=>hl (by have:=Jiv (by decide) h;omega);rw [decide_eq_false λq=>this q.2]
open Classical in
theorem J1l{α:Type}{l:List Run}(hl:l.length<=9223372036854775807)(k:Bool->Option α):@W.call wv α Km l k=k (decide (l≠[]/\RunsOK (-4096) 4096 l)):=ca_s (c:=Km) (fine_any l hl)
open Classical in
theorem Jrc(r:Reg)(hl:LimA r):@Qd wv r=some (decide (RegOK r)):=by
 have g:=Jb7 (b:=@J2 wv) (bad:=.inl ()) (fin:=.inr ()) (λi=>⟨(i:Int),r,()⟩) r.length (by have:=hl.1;omega) (Zt r) (λi hi _=>by
  have hx:=Aa hi;have hL:=hl.1;have B:@J2 wv ⟨(i:Int),r,()⟩=if Zt r i then some (.go ⟨((i+1:Nat):Int),r,()⟩) else some (.out (.inl ())):=by
   generalize E:r[i]=w at hx;have hLw:=hl.2 w (Ae hx);unfold J2;dsimp only;simp only [ge_s (fg hx)];rw [w_ln,Qp (by omega)];simp only [w_br,Jh3,jm,Jjm,Jo4,Ki,w_nt,J1l hLw,decide_eq_true_eq,Ac,decide_eq_false_iff_not];rw [wr (by omega) (by omega)];by_cases y:0<i
   ·have o:=Aa (l:=r) (i:=i - 1) (by omega);generalize r[i - 1]=p at o;rw [ge_s (fgz (i - 1) (by rw [Yp,wr (by omega) (by omega)];omega) o)];have v:Zt r i↔(-4096<=w.1/\w.1<4096)/\(w.2≠[]/\RunsOK (-4096) 4096 w.2)/\p.1<w.1:=by
     constructor
     ·intro h;have:=h _ hx;exact ⟨⟨this.1,this.2.1⟩,⟨this.2.2.1,this.2.2.2.1⟩,this.2.2.2.2 _ y o⟩
     ·rintro ⟨⟨a,b⟩,⟨c,d⟩,e⟩ x f;rw [hx] at f;injection f with q;subst q;exact ⟨a,b,c,d,λA _ m=>by rw [o] at m;injection m with q;subst q;exact e⟩
    simp only [v];by_cases hT:w.2≠[]/\RunsOK (-4096) 4096 w.2
    ·simp only [hT,and_self,true_and,if_true,ne_eq,not_false_iff,not_true_eq_false,if_false]
     (repeat' split)<;>first|rfl|omega
    ·simp only [hT,false_and,and_false,if_false,not_false_iff,if_true]
     (repeat' split)<;>first|rfl|omega
   ·have v:Zt r i↔(-4096<=w.1/\w.1<4096)/\(w.2≠[]/\RunsOK (-4096) 4096 w.2):=by
     constructor
     ·intro h;have:=h _ hx;exact ⟨⟨this.1,this.2.1⟩,this.2.2.1,this.2.2.2.1⟩
     ·rintro ⟨⟨a,b⟩,c,d⟩ x f;rw [hx] at f;injection f with q;subst q;exact ⟨a,b,c,d,λA h=>(y h).elim⟩
    simp only [v];by_cases hT:w.2≠[]/\RunsOK (-4096) 4096 w.2
    ·simp only [hT,and_self,and_true,if_true,ne_eq,not_false_iff,not_true_eq_false,if_false]
     (repeat' split)<;>first|rfl|omega
    ·simp only [hT,and_false,if_false,not_false_iff,if_true]
     (repeat' split)<;>first|rfl|omega
  rw [B];exact ⟨λh=>if_pos h,λh=>if_neg h⟩) (λ_=>by unfold J2;dsimp only;rw [w_ln,Ko (by omega)])
 unfold Qd;refine (lo_s g).trans ?_;by_cases h:RegOK r
 ·rw [if_pos ((Jbe _).2 h),decide_eq_true h]
 ·rw [if_neg λq=>h ((Jbe _).1 q),decide_eq_false h]
open Classical in
theorem J61(r:Reg)(hl:LimA r):@Qe wv r=some (if RegOK r then ((K8 r).length:Int) else 0):=by
 by_cases h:RegOK r
 ·rw [Ju9 r (Xp h)]
 ·unfold Qe;refine (ca_s (c:=Kr) (Jrc r hl)).trans ?_;rw [decide_eq_false h,if_neg h];rfl
theorem heavy_ok(r:Reg)(hr:∀w∈r,w.2.length<=9223372036854775807):∃b,@Zu wv r=some b/\(b=false->LimA r/\(RegOK r->(K8 r).length<=1000)):=by
 classical
 obtain ⟨e,a,c,rfl⟩:=Zp (b:=@Q7 wv) (λi s=>∃c:Int,s=(⟨c,(i:Int),r,()⟩:HP Int (HP Int (HP Reg Unit)))) (λe=>∃c:Int,e=(⟨c,r,()⟩:HP Int (HP Reg Unit))) (min r.length 300) (by omega) (s0:=⟨0,0,r,()⟩) ⟨0,rfl⟩ (λi s hi=>by
  rintro ⟨c,rfl⟩;have hx:=Aa (l:=r) (i:=i) (by omega);generalize r[i]=w at hx;refine ⟨(⟨@W.ar wv .add .i64 c (@W.ln wv Run w.2),((i+1:Nat):Int),r,()⟩:HP Int (HP Int (HP Reg Unit))),?_,_,rfl⟩;have m:@W.ar wv .add .i64 (i:Int) 1=((i+1:Nat):Int):=by rw [Ki,wr (by omega) (by omega)];omega
  unfold Q7;dsimp only;rw [m,show @W.ln wv (Int×List (Int×Int)) r=(r.length:Int) from rfl,Qp (by omega),Qp (by omega),ge_s (fg hx)]) (by
  rintro s ⟨c,rfl⟩;refine ⟨_,?_,c,rfl⟩;unfold Q7;dsimp only;rw [show @W.ln wv (Int×List (Int×Int)) r=(r.length:Int) from rfl];by_cases q:r.length<=300
  ·rw [Ko (by omega)]
  ·rw [Qp (by omega),Ko (by omega)])
 by_cases d:(r.length:Int) > 200
 ·refine ⟨true,(lo_s a).trans ?_,λh=>by cases h⟩;dsimp only;rw [w_ln,br_gt d]
 have hl:LimA r:=⟨by omega,hr⟩;by_cases f:c > 400
 ·refine ⟨true,(lo_s a).trans ?_,λh=>by cases h⟩;dsimp only;rw [w_ln,Jyr d,br_gt f]
 refine ⟨decide ((if RegOK r then ((K8 r).length:Int) else 0) > 1000),(lo_s a).trans ?_,λh=>⟨hl,λg=>?_⟩⟩
 ·dsimp only;rw [w_ln,Jyr d,Jyr f];exact (ca_s (c:=Kp) (J61 r hl)).trans rfl
 ·have:=of_decide_eq_false h;rw [if_pos g] at this;omega
open Classical in
theorem Jhq{α:Type}{r:Reg}(hl:LimA r)(k:Bool->Option α):@W.call wv α Jn r k=k (decide (RegOK r)):=ca_s (c:=Jn) (Jlk r hl)
open Classical in
theorem Jvz(r:Reg)(n:Int)(hl:LimA r)(a:RegOK r->(K8 r).length<=2000):@Xg wv (r,n)=some (if RegOK r then (Jdv (Q5 r (min (max n 0) 64).toNat),eroN r (min (max n 0) 64).toNat) else ([],[])):=by
 by_cases h:RegOK r
 ·exact Jlu r n (Xp h) a
 ·unfold Xg;dsimp only;rw [Jhq hl,br_t (by simp [w_nt,h]),if_neg h]
theorem Juv{out:List Jz}{last:List Cell}{x:Jz}(h:x∈Jfa out last):x∈out\/x.2.2=last:=by
 unfold Jfa at h;rcases out.eq_nil_or_concat with rfl|⟨r,v,rfl⟩
 ·exact .inl h
 ·rw [List.concat_eq_append] at h ⊢;rw [Qt] at h;rcases Af.1 h with q|q
  ·exact .inl (Af.2 (.inl q))
  ·rw [Ab] at q;exact .inr (by rw [q])
theorem runQ_tr(role:Int)(l:List (Cell×Bool)):∀t∈(runQ role l).1,t.2.2.length<=l.length:=by
 have key:∀m:List (Cell×Bool),∀t∈(runQ role m.reverse).1,t.2.2.length<=m.reverse.length:=by
  intro m
  induction m with
  | nil=>intro t a;cases a
  | cons p m d=>
   have hl:=(Jji role m.reverse).2.2.2;rw [List.reverse_cons,Jjl,List.length_append];generalize runQ role m.reverse=s at d hl ⊢;obtain ⟨out,last,pv⟩:=s;obtain ⟨c,k⟩:=p;intro t a;have old:t∈out->t.2.2.length<=m.reverse.length+[(c,k)].length:=λq=>Nat.le_succ_of_le (d t q);cases k with
   | false=>exact old a
   | true=>
    cases pv with
    | true=>exact old a
    | false=>
     have a:t∈Jfa out last++[(role,(false,[]))]:=a;rcases Af.1 a with q|q
     ·rcases Juv q with q|q
      ·exact old q
      ·rw [q];exact Nat.le_succ_of_le hl
     ·rw [Ab] at q;rw [q];exact Nat.zero_le _
 have:=key l.reverse;rwa [List.reverse_reverse] at this
theorem J12(role:Int)(l:List (Cell×Bool)):∀t∈Jnf role l,t.2.2.length<=l.length:=λt a=>by
 rcases Juv (show t∈Jfa (runQ role l).1 (runQ role l).2.1 from a) with q|q
 ·exact runQ_tr role l t q
 ·rw [q];exact (Jji role l).2.2.2
end Go.Proofs.YtmfagdfkpjgeiaaGreat
namespace Go.Proofs.YtmfagdfkpjgeiaaGreat
open Go Go.Vv Go.Dn
theorem i64_bd{v:Int}(h:(Lit.int .i64 v).wf=true):-9223372036854775808<=v/\v<=9223372036854775807:=by have h:(decide (Go.IntKind.min .i64<=v)&&decide (v<=Go.IntKind.max .i64))=true:=h;rw [Bool.and_eq_true,decide_eq_true_eq,decide_eq_true_eq] at h;exact h
theorem row_bd{r:Reg}(h:∀x:Row,List.Mem x r->(Dn.Ty.p I (.ls (.p I I))).wf x):∀w∈r,w.2.length<=9223372036854775807:=λw a=>(h w a).2.1
end Go.Proofs.YtmfagdfkpjgeiaaGreat
