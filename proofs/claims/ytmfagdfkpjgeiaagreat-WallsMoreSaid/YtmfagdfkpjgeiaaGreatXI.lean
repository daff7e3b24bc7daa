/- walls.Walls: what it hands out. Conditions: a valid region of at most 2000 cells, or one that is not valid. -/
import Derived.Test.YtmfagdfkpjgeiaaGreatXG
import Derived.Test.YtmfagdfkpjgeiaaGreatXH
import Derived.Test.YtmfagdfkpjgeiaaGreatXF
import Derived.Test.YtmfagdfkpjgeiaaGreatXE
import Derived.Test.YtmfagdfkpjgeiaaGreatXD
import Derived.Test.YtmfagdfkpjgeiaaGreatFC
set_option linter.unusedVariables false
set_option linter.unusedSimpArgs false
set_option maxRecDepth 100000
open List renaming getElem?_eq_getElem → Aa, mem_of_getElem? → Ab, mem_singleton → Ac, mem_append → Af, getElem?_take_of_lt → Ag, mem_cons_of_mem → Ah
open Bool renaming not_eq_true' → Ad
open Nat renaming mul_le_mul_right → Ae, le_refl → Ai
namespace Go.Proofs.YtmfagdfkpjgeiaaGreat
open Go Go.Vv Go.Dn Go.Dn.W
theorem ero_ex{r:Reg}(h:RegOK r):∃E,@Zq wv (r,1)=some E/\RegOK E/\∀c,Kk E c↔deep r 1 c:=Erode_ok r h (Jbv h) 1 ⟨by decide,by decide⟩
open Classical in
noncomputable def eroF(r:Reg):Reg:=if h:RegOK r then (ero_ex h).choose else []
theorem Jan{r:Reg}(h:RegOK r):@Zq wv (r,1)=some (eroF r)/\RegOK (eroF r)/\∀c,Kk (eroF r) c↔deep r 1 c:=by unfold eroF;rw [dif_pos h];exact (ero_ex h).choose_spec
theorem J5m{r:Reg}(h:RegOK r):(Q1 (eroF r)).length<=(Q1 r).length:=by
 obtain ⟨-,l,g⟩:=Jan h;refine jd ((l.cells_pw).imp λ{a b} d e=>?_) λc f=>?_
 ·subst e;exact Jre d d
 ·rw [Zi,g] at f;rw [Zi];have:=f 0 0 (by decide) (by decide) (by decide) (by decide);simpa using this
noncomputable def eroN(r:Reg):Nat->Reg
 | 0=>r
 | n+1=>eroF (eroN r n)
theorem Jjf{r:Reg}(h:RegOK r):∀n,RegOK (eroN r n)/\(Q1 (eroN r n)).length<=(Q1 r).length
 | 0=>⟨h,Ai _⟩
 | n+1=>by obtain ⟨a,d⟩:=Jjf h n;exact ⟨(Jan a).2.1,Nat.le_trans (J5m a) d⟩
noncomputable def zk(r:Reg):List Jw:=(Zk r).map (Jcx r)
theorem Js3{r:Reg}(h:RegOK r)(g:(Q1 r).length<=2000):(zk r).length<=8000/\(∀t∈zk r,VT t/\t.1=1/\t.2.1=true):=by have f:=Jrf r;have a:=(Jkr r (Jbv h) λ_=>by omega).2 h;have hl:=Jo6 a;refine ⟨by unfold zk;rw [List.length_map];omega,λt d=>?_⟩;obtain ⟨s,hs,rfl⟩:=List.mem_map.1 d;exact ⟨walk_VT h (by omega) ((a.mem s).1 hs).1,rfl,rfl⟩
theorem totT_le{l:List Jw}(h:∀t∈l,VT t):totT l<=l.length * 65537:=by
 induction l with
 | nil=>exact Ai _
 | cons t l a =>
  have g:=a λx hx=>h x (Ah _ hx);have f:=(h t (List.mem_cons_self ..)).2.1.2;have d:totT (t::l)=(t.2.2.length+1)+totT l:=by unfold totT;rw [List.map_cons,List.sum_cons]
  rw [List.length_cons,Nat.add_mul];omega
noncomputable def Xa(r:Reg):Nat->List Jw
 | 0=>[]
 | n+1=>Xa r n++zk (eroN r n)
theorem Jb7{r:Reg}(h:RegOK r)(d:(Q1 r).length<=2000):∀n,(Xa r n).length<=n * 8000/\∀t∈Xa r n,VT t/\t.1=1/\t.2.1=true
 | 0=>⟨Ai _,λt a=>by cases a⟩
 | n+1=>by
  obtain ⟨m,f⟩:=Jb7 h d n;obtain ⟨l,v⟩:=Jjf h n;obtain ⟨o,g⟩:=Js3 l (by omega);refine ⟨?_,λt a=>?_⟩
  ·show (Xa r n++zk (eroN r n)).length<=_;rw [List.length_append,Nat.add_mul];omega
  ·rcases Af.1 (show t∈Xa r n++zk (eroN r n) from a) with q|q
   ·exact f t q
   ·exact g t q
abbrev Wa0S:=HP (List Jw) (HP Int (HP Int (HP Reg Unit)))
open Classical in
theorem Jkv(r:Reg)(n:Int)(hl:LimR r)(d:RegOK r->(Q1 r).length<=2000):@Q8 wv (r,n)=some (if RegOK r then (Jc9 (Xa r (min (max n 0) 64).toNat),eroN r (min (max n 0) 64).toNat) else ([],[])):=by
 unfold Q8;dsimp only;rw [X9 hl];by_cases h:RegOK r
 ·have d:=d h;rw [br_f (by simp [w_nt,h]),if_pos h];have m:RegOK ([]:Reg):=⟨by simp,.nil,by simp,by simp⟩;obtain ⟨U,y,v,o⟩:=Jnb r [] h m hl (Jbv m);have eU:U=r:=Jk6 v h λc=>by rw [o];exact ⟨λq=>q.elim id λ⟨w,A,_⟩=>(List.not_mem_nil A).elim,.inl⟩
  subst eU;refine (ca_s (c:=jk) y).trans ?_;have eN:@W.mn wv (@W.mx wv n 0) 64=(((min (max n 0) 64).toNat:Nat):Int):=by rw [w_mn,w_mx];split<;>split<;>omega
  rw [eN];have hN:(min (max n 0) 64).toNat<=64:=by omega
  generalize (min (max n 0) 64).toNat=N at hN ⊢;have key:=Qr (b:=@jm wv) (e:=(⟨Xa U N,⟨eroN U N,()⟩⟩:HP (List Jw) (HP Reg Unit))) (λi=>(⟨Xa U i,⟨(N:Int),⟨(i:Int),⟨eroN U i,()⟩⟩⟩⟩:Wa0S)) N (by omega) (λi hi=>by
   obtain ⟨f,J⟩:=Jjf h i;obtain ⟨H,G⟩:=Js3 f (by omega);obtain ⟨w1,g⟩:=Jb7 h d i;have l:(Xa U i).length+(zk (eroN U i)).length<=1000000:=by have:i * 8000<=64 * 8000:=Ae _ (by omega);omega
   unfold jm;dsimp only;rw [Qt (by omega),k_Walk (Jbv f) (λ_=>by omega),if_pos f];refine (ca_s (c:=ji) (a:=(Xa U i,zk (eroN U i))) (r:=Xa U i++zk (eroN U i)) (if_pos l)).trans ?_;refine (ca_s (c:=Qn) (Jan f).1).trans ?_;rw [Ku,wr (by omega) (by omega)];rfl) (by unfold jm;dsimp only;rw [Kt (by omega)])
  refine (lo_s key).trans ?_;obtain ⟨w1,g⟩:=Jb7 h d N;have F:=totT_le λt q=>(g t q).1;have E:N * 8000<=64 * 8000:=Ae _ (by omega);have B:(Xa U N).length * 65537<=512000 * 65537:=Ae _ (by omega);exact (ca_s (c:=Jbe) (Once_ok (Xa U N) (by omega) λt q=>by have:=(g t q).1.2.1.2;omega)).trans rfl
 ·rw [br_t (by simp [w_nt,h]),if_neg h]
theorem J2h:@Y4 wv 4=some (boxR 0 0 4 4):=by kernel_rfl
theorem Jvs:eroF (boxR 0 0 4 4)=boxR 1 1 2 2:=by
 have a:RegOK (boxR 0 0 4 4):=Jlb (by decide) (by decide) (by decide);have d:RegOK (boxR 1 1 2 2):=Jlb (by decide) (by decide) (by decide);refine Jk6 (Jan a).2.1 d λc=>?_;rw [(Jan a).2.2,Jev];constructor
 ·intro h;have g:=Jev.1 (h (-1) (-1) (by decide) (by decide) (by decide) (by decide));have f:=Jev.1 (h 1 1 (by decide) (by decide) (by decide) (by decide));dsimp only at g f;omega
 ·intro h dx dy r o m l;rw [Jev];dsimp only;omega
theorem ero_box2:eroF (boxR 1 1 2 2)=[]:=by
 have a:RegOK (boxR 1 1 2 2):=Jlb (by decide) (by decide) (by decide);have f:RegOK ([]:Reg):=⟨by simp,.nil,by simp,by simp⟩;refine Jk6 (Jan a).2.1 f λc=>?_;rw [(Jan a).2.2];constructor
 ·intro h;have l:=Jev.1 (h (-1) (-1) (by decide) (by decide) (by decide) (by decide));have g:=Jev.1 (h 1 1 (by decide) (by decide) (by decide) (by decide));dsimp only at l g;omega
 ·rintro ⟨w,d,-⟩;exact (List.not_mem_nil d).elim
def bw4:List Cell:=[(0,0),(1,0),(2,0),(3,0),(3,1),(3,2),(3,3),(2,3),(1,3),(0,3),(0,2),(0,1)]
def bw2:List Cell:=[(1,1),(2,1),(2,2),(1,2)]
theorem walks4:zk (boxR 0 0 4 4)=[(1,true,bw4)]:=by unfold zk;rw [Jjq (by decide) (by decide)];show [Jcx _ _]=_;unfold Jcx;rw [Jru (Jc4 (by decide) (by decide) (by decide)) (Jrm (by decide) (by decide)),Jvq (by decide) (by decide)];exact congrArg (λl=>[((1:Int),true,l)]) (by decide)
theorem walks2:zk (boxR 1 1 2 2)=[(1,true,bw2)]:=by unfold zk;rw [Jjq (by decide) (by decide)];show [Jcx _ _]=_;unfold Jcx;rw [Jru (Jc4 (by decide) (by decide) (by decide)) (Jrm (by decide) (by decide)),Jvq (by decide) (by decide)];exact congrArg (λl=>[((1:Int),true,l)]) (by decide)
theorem box4:RegOK (boxR 0 0 4 4)/\(Q1 (boxR 0 0 4 4)).length<=2000:=⟨Jlb (by decide) (by decide) (by decide),by have:=Jtn (x:=0) (y:=0) (n:=4) (m:=4);omega⟩
theorem walls1:Xa (boxR 0 0 4 4) 1=[(1,true,bw4)]:=by show []++zk (boxR 0 0 4 4)=_;rw [walks4];rfl
theorem walls2:Xa (boxR 0 0 4 4) 2=[(1,true,bw4),(1,true,bw2)]:=by show ([]++zk (boxR 0 0 4 4))++zk (eroF (boxR 0 0 4 4))=_;rw [Jvs,walks4,walks2];rfl
theorem once1:Jc9 [(1,true,bw4)]=[(1,true,bw4)]:=by
 have a:VT (1,true,bw4):=((Jb7 box4.1 box4.2 1).2 _ (by rw [walls1];exact Ac.2 rfl)).1;show (stN ([],[]) (1,true,bw4)).1=_;unfold stN;rw [if_pos a];have h:(runO [] bw4).1=true:=by decide
 dsimp only;rw [if_pos h];rfl
theorem once2:Jc9 [(1,true,bw4),(1,true,bw2)]=[(1,true,bw4),(1,true,bw2)]:=by
 have d:=(Jb7 box4.1 box4.2 2).2;rw [walls2] at d;have f:=(d (1,true,bw4) (List.mem_cons_self ..)).1;have a:=(d (1,true,bw2) (Ah _ (Ac.2 rfl))).1;show (stN (stN ([],[]) (1,true,bw4)) (1,true,bw2)).1=_;have g:stN ([],[]) (1,true,bw4)=([(1,true,bw4)],(runO [] bw4).2.1):=by
  unfold stN;rw [if_pos f];have h:(runO [] bw4).1=true:=by decide
  dsimp only;rw [if_pos h];rfl
 rw [g];unfold stN;rw [if_pos a];have h:(runO (runO [] bw4).2.1 bw2).1=true:=by decide
 dsimp only;rw [if_pos h];rfl
theorem walls_a:@Q8 wv (boxR 0 0 4 4,1)=some ([(1,true,bw4)],boxR 1 1 2 2):=by rw [Jkv _ _ (Jbv box4.1) λ_=>box4.2,if_pos box4.1];show some (Jc9 (Xa (boxR 0 0 4 4) 1),eroF (boxR 0 0 4 4))=_;rw [walls1,once1,Jvs]
theorem walls_b:@Q8 wv (boxR 0 0 4 4,2)=some ([(1,true,bw4),(1,true,bw2)],[]):=by rw [Jkv _ _ (Jbv box4.1) λ_=>box4.2,if_pos box4.1];show some (Jc9 (Xa (boxR 0 0 4 4) 2),eroF (eroF (boxR 0 0 4 4)))=_;rw [walls2,once2,Jvs,ero_box2]
theorem walls_c:@Q8 wv (boxR 0 0 4 4,0)=some ([],boxR 0 0 4 4):=by rw [Jkv _ _ (Jbv box4.1) λ_=>box4.2,if_pos box4.1];rfl
theorem Juq:@X5 wv ()=some true:=by
 have sq:=λ{α:Type} (k:Reg->Option α)=>ca_s (c:=Kf) (k:=k) J2h;unfold X5;refine (sq _).trans ((ca_s (c:=Kp) walls_a).trans ((sq _).trans ((ca_s (c:=Kp) walls_b).trans ((sq _).trans ((ca_s (c:=Kp) walls_c).trans ?_)))))
 kernel_rfl
theorem Jhv{α:Type}(k:Bool->Option α):@W.call wv α J1 (():Unit) k=k true:=ca_s (c:=J1) Juq
theorem Jla{l:List Run}(h:∀i,i<4194304->Yq (-1048576) 1048576 l i):l.length<=1000000000:=by
 apply Classical.byContradiction;intro hl;have f:(l.take 4194304).length=4194304:=by rw [List.length_take];omega
 have hr:RunsOK (-1048576) 1048576 (l.take 4194304):=(Jdm _ _ _).1 λi hi x hx=>by rw [f] at hi;rw [Ag hi] at hx;obtain ⟨a,b,c,d⟩:=h i hi x hx;exact ⟨a,b,c,λp m g=>d p m (by rwa [Ag (by omega)] at g)⟩
 have:=Jib (by decide) hr;rw [f] at this;omega
open Classical in
theorem Jn7(l:List Run)(y:l.length<=9223372036854775807):@Jck wv l=some (decide (RunsOK (-1048576) 1048576 l)):=by
 by_cases hl:l.length<=1000000000
 ·exact Jh4 l hl
 have g:=Jbl (b:=@Qo wv) (bad:=.inl ()) (fin:=.inr ()) (λi=>⟨l,⟨l,⟨(l.length:Int),⟨(i:Int),()⟩⟩⟩⟩) 4194304 (by omega) (Yq (-1048576) 1048576 l) (λi hi _=>by
  have hi:i<l.length:=by omega
  have hx:=Aa hi;have w:@Qo wv ⟨l,⟨l,⟨(l.length:Int),⟨(i:Int),()⟩⟩⟩⟩=if Yq (-1048576) 1048576 l i then some (.go ⟨l,⟨l,⟨(l.length:Int),⟨((i+1:Nat):Int),()⟩⟩⟩⟩) else some (.out (.inl ())):=by
   unfold Qo;dsimp only;rw [Qt (by omega),ge_s (fg hx)];simp only [w_br,Ji8,Ja1,Jhy,Ku,w_nt,Jng,decide_eq_true_eq,Ad,decide_eq_false_iff_not];rw [wr (by omega) (by omega)];by_cases v:0<i
   ·have o:=Aa (l:=l) (i:=i - 1) (by omega);rw [ge_s (fgz (i - 1) (by rw [Zf,wr (by omega) (by omega)];omega) o)];have r:Yq (-1048576) 1048576 l i↔-1048576<=l[i].1/\l[i].1<l[i].2/\l[i].2<=1048576/\(l[i - 1]'(by omega)).2<l[i].1:=by
     constructor
     ·intro h;have:=h _ hx;exact ⟨this.1,this.2.1,this.2.2.1,this.2.2.2 _ v o⟩
     ·rintro ⟨a,b,c,d⟩ x f;rw [hx] at f;injection f with e;subst e;exact ⟨a,b,c,λp _ m=>by rw [o] at m;injection m with e;subst e;exact d⟩
    simp only [r]
    (repeat' split)<;>first|rfl|omega
   ·have r:Yq (-1048576) 1048576 l i↔-1048576<=l[i].1/\l[i].1<l[i].2/\l[i].2<=1048576:=by
     constructor
     ·intro h;have:=h _ hx;exact ⟨this.1,this.2.1,this.2.2.1⟩
     ·rintro ⟨a,b,c⟩ x f;rw [hx] at f;injection f with e;subst e;exact ⟨a,b,c,λp h=>(v h).elim⟩
    simp only [r]
    (repeat' split)<;>first|rfl|omega
  rw [w];exact ⟨λh=>if_pos h,λh=>if_neg h⟩) (λh=>(hl (Jla h)).elim)
 refine (lo_s g).trans ?_;rw [if_neg λq=>hl (Jla q)];have:¬RunsOK (-1048576) 1048576 l:=λh=>hl (by have:=Jib (by decide) h;omega);rw [decide_eq_false this]
open Classical in
theorem Jkc{α:Type}{l:List Run}(hl:l.length<=9223372036854775807)(k:Bool->Option α):@W.call wv α Js l k=k (decide (RunsOK (-1048576) 1048576 l)):=ca_s (c:=Js) (Jn7 l hl)
def LimA(r:Reg):Prop:=r.length<=1000000000/\∀w∈r,w.2.length<=9223372036854775807
open Classical in
theorem Jkj(r:Reg)(hl:LimA r):@Y0 wv r=some (decide (RegOK r)):=by
 have g:=Jbl (b:=@Kw wv) (bad:=.inl ()) (fin:=.inr ()) (λi=>⟨r,⟨(r.length:Int),⟨(i:Int),⟨r,()⟩⟩⟩⟩) r.length (by have:=hl.1;omega) (Zl r) (λi hi _=>by
  have hx:=Aa hi;have hL:=hl.1;have M:@Kw wv ⟨r,⟨(r.length:Int),⟨(i:Int),⟨r,()⟩⟩⟩⟩=if Zl r i then some (.go ⟨r,⟨(r.length:Int),⟨((i+1:Nat):Int),⟨r,()⟩⟩⟩⟩) else some (.out (.inl ())):=by
   generalize N:r[i]=w at hx;have y:=Ab hx;have hLw:=hl.2 w y;unfold Kw;dsimp only;rw [Qt (by omega),ge_s (fg hx)];have tail:letI:W:=wv;∀X:Option (Nx _ (Unit ⊕ Unit)),(br (cm .eql (ln w.2) 0) (some (.out (.inl ()))) (call Js (w.2:(List (Int×Int))) λ(v3:Bool)=>br (nt v3) (some (.out (.inl ()))) (ge w.2 0 λv4=>call Qb (v4.1:Int) λ(v5:Bool)=>br (nt v5) (some (.out (.inl ())))
     (ge w.2 (ar .sub .i64 (ln w.2) 1) λH=>call Qb ((ar .sub .i64 H.2 1):Int) λ(G:Bool)=>br (nt G) (some (.out (.inl ()))) X))):Option (Nx (HP (List (Int×(List (Int×Int)))) (HP Int (HP Int (HP (List (Int×(List (Int×Int)))) Unit)))) (Unit ⊕ Unit)))=if w.2≠[]/\RunsOK (-4096) 4096 w.2 then X else some (.out (.inl ())):=by
    intro X;cases hr:w.2 with
    | nil=>rfl
    | cons u l =>
     rw [hr] at hLw;have B:(u::l)[0]?=some u:=rfl;have o:(u::l)[(u::l).length - 1]?=some ((u::l)[(u::l).length - 1]'(by simp)):=Aa _;generalize ((u::l)[(u::l).length - 1]'(by simp))=x1 at o;have E:(0:Int)<((u::l).length:Int):=by simp only [List.length_cons];omega
     rw [br_f (by simp only [Xn,w_ln,beq_eq_false_iff_ne];omega),Jkc hLw];by_cases hV:RunsOK (-1048576) 1048576 (u::l)
     ·have K:=hV.bd x1 (Ab o);rw [br_f (by simp [w_nt,hV]),ge_s (fg0 B),Jai,ge_s (fgz ((u::l).length - 1) (by rw [Zf,w_ln,wr (by omega) (by omega)];omega) o),Jai,Zf,wr (by omega) (by omega)];have L:=Jhm B o;simp only [ne_eq,reduceCtorEq,not_false_iff,true_and,L,w_br,w_nt,Ad,decide_eq_false_iff_not,hV]
      (repeat' split)<;>first|rfl|omega
     ·rw [br_t (by simp [w_nt,hV]),if_neg];rintro ⟨-,h⟩;exact hV ((Jhm B o).1 h).1
   rw [tail];simp only [Jai,w_br,Ja1,Jhy,w_nt,Ku,decide_eq_true_eq,Ad,decide_eq_false_iff_not];rw [wr (by omega) (by omega)];by_cases F:0<i
   ·have v:=Aa (l:=r) (i:=i - 1) (by omega);generalize r[i - 1]=p at v;rw [ge_s (fgz (i - 1) (by rw [Zf,wr (by omega) (by omega)];omega) v)];have A:Zl r i↔(-4096<=w.1/\w.1<4096)/\(w.2≠[]/\RunsOK (-4096) 4096 w.2)/\p.1<w.1:=by
     constructor
     ·intro h;have:=h _ hx;exact ⟨⟨this.1,this.2.1⟩,⟨this.2.2.1,this.2.2.2.1⟩,this.2.2.2.2 _ F v⟩
     ·rintro ⟨⟨a,b⟩,⟨c,d⟩,e⟩ x f;rw [hx] at f;injection f with q;subst q;exact ⟨a,b,c,d,λJ _ m=>by rw [v] at m;injection m with q;subst q;exact e⟩
    simp only [A];by_cases hT:w.2≠[]/\RunsOK (-4096) 4096 w.2
    ·simp only [hT,and_self,true_and,if_true,ne_eq,not_false_iff]
     (repeat' split)<;>first|rfl|omega
    ·simp only [hT,false_and,and_false,if_false]
     (repeat' split)<;>first|rfl|omega
   ·have A:Zl r i↔(-4096<=w.1/\w.1<4096)/\(w.2≠[]/\RunsOK (-4096) 4096 w.2):=by
     constructor
     ·intro h;have:=h _ hx;exact ⟨⟨this.1,this.2.1⟩,⟨this.2.2.1,this.2.2.2.1⟩⟩
     ·rintro ⟨⟨a,b⟩,⟨c,d⟩⟩ x f;rw [hx] at f;injection f with q;subst q;exact ⟨a,b,c,d,λJ h=>(F h).elim⟩
    simp only [A];by_cases hT:w.2≠[]/\RunsOK (-4096) 4096 w.2
    ·simp only [hT,and_self,and_true,if_true,ne_eq,not_false_iff]
     (repeat' split)<;>first|rfl|omega
    ·simp only [hT,and_false,if_false]
     (repeat' split)<;>first|rfl|omega
  rw [M];exact ⟨λh=>if_pos h,λh=>if_neg h⟩) (λ_=>by unfold Kw;dsimp only;rw [Kt (by omega)])
 unfold Y0;refine (lo_s g).trans ?_;by_cases h:RegOK r
 ·rw [if_pos ((Ja0 _).2 h),decide_eq_true h]
 ·rw [if_neg λq=>h ((Ja0 _).1 q),decide_eq_false h]
theorem Jo1{l:List Run}(h:∀i,i<4194304->Yq (-4096) 4096 l i):l.length<=1000000000:=Jla λi hi x hx=>by obtain ⟨a,b,c,d⟩:=h i hi x hx;exact ⟨by omega,b,by omega,d⟩
open Classical in
theorem fine_any(l:List Run)(A:l.length<=9223372036854775807):@Qd wv l=some (decide (l≠[]/\RunsOK (-4096) 4096 l)):=by
 by_cases hl:l.length<=1000000000
 ·exact J26 l hl
 have g:=Jbl (b:=@J8 wv) (bad:=.inl ()) (fin:=.inr ⟨l,()⟩) (λi=>⟨l,⟨(i:Int),()⟩⟩) 4194304 (by omega) (Yq (-4096) 4096 l) (λi hi _=>by
  have hi:i<l.length:=by omega
  have hx:=Aa hi;have w:@J8 wv ⟨l,⟨(i:Int),()⟩⟩=if Yq (-4096) 4096 l i then some (.go ⟨l,⟨((i+1:Nat):Int),()⟩⟩) else some (.out (.inl ())):=by
   generalize y:l[i]=u at hx;unfold J8;dsimp only;simp only [ge_s (fg hx)];rw [w_ln,Qt (by omega)];simp only [w_br,Ji8,Ja1,Jhy,Jn4,Ku,decide_eq_true_eq];rw [wr (by omega) (by omega)];by_cases v:0<i
   ·have o:=Aa (l:=l) (i:=i - 1) (by omega);generalize l[i - 1]=p at o;rw [ge_s (fgz (i - 1) (by rw [Zf,wr (by omega) (by omega)];omega) o)];have r:Yq (-4096) 4096 l i↔-4096<=u.1/\u.1<u.2/\u.2<=4096/\p.2<u.1:=by
     constructor
     ·intro h;have:=h _ hx;exact ⟨this.1,this.2.1,this.2.2.1,this.2.2.2 _ v o⟩
     ·rintro ⟨a,b,c,d⟩ x f;rw [hx] at f;injection f with e;subst e;exact ⟨a,b,c,λp _ m=>by rw [o] at m;injection m with e;subst e;exact d⟩
    simp only [r]
    (repeat' split)<;>first|rfl|omega
   ·have r:Yq (-4096) 4096 l i↔-4096<=u.1/\u.1<u.2/\u.2<=4096:=by
     constructor
     ·intro h;have:=h _ hx;exact ⟨this.1,this.2.1,this.2.2.1⟩
     ·rintro ⟨a,b,c⟩ x f;rw [hx] at f;injection f with e;subst e;exact ⟨a,b,c,λp h=>(v h).elim⟩
    simp only [r]
    (repeat' split)<;>first|rfl|omega
  rw [w];exact ⟨λh=>if_pos h,λh=>if_neg h⟩) (λh=>(hl (Jo1 h)).elim)
 unfold Qd;refine (lo_s g).trans ?_;rw [if_neg λq=>hl (Jo1 q)];have:¬RunsOK (-4096) 4096 l:=λh=>hl (by have:=Jib (by decide) h;omega);rw [decide_eq_false λq=>this q.2]
open Classical in
theorem Jz2{α:Type}{l:List Run}(hl:l.length<=9223372036854775807)(k:Bool->Option α):@W.call wv α Kg l k=k (decide (l≠[]/\RunsOK (-4096) 4096 l)):=ca_s (c:=Kg) (fine_any l hl)
open Classical in
theorem Jq1(r:Reg)(hl:LimA r):@K7 wv r=some (decide (RegOK r)):=by
 have g:=Jbl (b:=@Jz wv) (bad:=.inl ()) (fin:=.inr ()) (λi=>⟨(i:Int),⟨r,()⟩⟩) r.length (by have:=hl.1;omega) (Zl r) (λi hi _=>by
  have hx:=Aa hi;have hL:=hl.1;have B:@Jz wv ⟨(i:Int),⟨r,()⟩⟩=if Zl r i then some (.go ⟨((i+1:Nat):Int),⟨r,()⟩⟩) else some (.out (.inl ())):=by
   generalize E:r[i]=w at hx;have hLw:=hl.2 w (Ab hx);unfold Jz;dsimp only;simp only [ge_s (fg hx)];rw [w_ln,Qt (by omega)];simp only [w_br,Ji8,Ja1,Jhy,Jn4,Ku,w_nt,Jz2 hLw,decide_eq_true_eq,Ad,decide_eq_false_iff_not];rw [wr (by omega) (by omega)];by_cases y:0<i
   ·have o:=Aa (l:=r) (i:=i - 1) (by omega);generalize r[i - 1]=p at o;rw [ge_s (fgz (i - 1) (by rw [Zf,wr (by omega) (by omega)];omega) o)];have v:Zl r i↔(-4096<=w.1/\w.1<4096)/\(w.2≠[]/\RunsOK (-4096) 4096 w.2)/\p.1<w.1:=by
     constructor
     ·intro h;have:=h _ hx;exact ⟨⟨this.1,this.2.1⟩,⟨this.2.2.1,this.2.2.2.1⟩,this.2.2.2.2 _ y o⟩
     ·rintro ⟨⟨a,b⟩,⟨c,d⟩,e⟩ x f;rw [hx] at f;injection f with q;subst q;exact ⟨a,b,c,d,λA _ m=>by rw [o] at m;injection m with q;subst q;exact e⟩
    simp only [v];by_cases hT:w.2≠[]/\RunsOK (-4096) 4096 w.2
    ·simp only [hT,and_self,true_and,if_true,ne_eq,not_false_iff,not_true_eq_false,if_false]
     (repeat' split)<;>first|rfl|omega
    ·simp only [hT,false_and,and_false,if_false,not_false_iff,if_true]
     (repeat' split)<;>first|rfl|omega
   ·have v:Zl r i↔(-4096<=w.1/\w.1<4096)/\(w.2≠[]/\RunsOK (-4096) 4096 w.2):=by
     constructor
     ·intro h;have:=h _ hx;exact ⟨⟨this.1,this.2.1⟩,⟨this.2.2.1,this.2.2.2.1⟩⟩
     ·rintro ⟨⟨a,b⟩,⟨c,d⟩⟩ x f;rw [hx] at f;injection f with q;subst q;exact ⟨a,b,c,d,λA h=>(y h).elim⟩
    simp only [v];by_cases hT:w.2≠[]/\RunsOK (-4096) 4096 w.2
    ·simp only [hT,and_self,and_true,if_true,ne_eq,not_false_iff,not_true_eq_false,if_false]
     (repeat' split)<;>first|rfl|omega
    ·simp only [hT,and_false,if_false,not_false_iff,if_true]
     (repeat' split)<;>first|rfl|omega
  rw [B];exact ⟨λh=>if_pos h,λh=>if_neg h⟩) (λ_=>by unfold Jz;dsimp only;rw [w_ln,Kt (by omega)])
 unfold K7;refine (lo_s g).trans ?_;by_cases h:RegOK r
 ·rw [if_pos ((Ja0 _).2 h),decide_eq_true h]
 ·rw [if_neg λq=>h ((Ja0 _).1 q),decide_eq_false h]
open Classical in
theorem J5r(r:Reg)(hl:LimA r):@K6 wv r=some (if RegOK r then ((Q1 r).length:Int) else 0):=by
 by_cases h:RegOK r
 ·rw [Jt4 r (Jbv h)]
 ·unfold K6;refine (ca_s (c:=Kl) (Jq1 r hl)).trans ?_;rw [decide_eq_false h,if_neg h];rfl
theorem heavy_ok(r:Reg)(hr:∀w∈r,w.2.length<=9223372036854775807):∃b,@Zo wv r=some b/\(b=false->LimA r/\(RegOK r->(Q1 r).length<=1000)):=by
 classical
 obtain ⟨e,a,c,rfl⟩:=jq (b:=@Qx wv) (λi s=>∃c:Int,s=(⟨c,⟨(i:Int),⟨r,()⟩⟩⟩:HP Int (HP Int (HP Reg Unit)))) (λe=>∃c:Int,e=(⟨c,⟨r,()⟩⟩:HP Int (HP Reg Unit))) (min r.length 300) (by omega) (s0:=⟨0,⟨0,⟨r,()⟩⟩⟩) ⟨0,rfl⟩ (λi s hi=>by
  rintro ⟨c,rfl⟩;have hx:=Aa (l:=r) (i:=i) (by omega);generalize r[i]=w at hx;refine ⟨(⟨@W.ar wv .add .i64 c (@W.ln wv Run w.2),⟨((i+1:Nat):Int),⟨r,()⟩⟩⟩:HP Int (HP Int (HP Reg Unit))),?_,_,rfl⟩;have m:@W.ar wv .add .i64 (i:Int) 1=((i+1:Nat):Int):=by rw [Ku,wr (by omega) (by omega)];omega
  unfold Qx;dsimp only;rw [m,show @W.ln wv (Int×List (Int×Int)) r=(r.length:Int) from rfl,Qt (by omega),Qt (by omega),ge_s (fg hx)]) (by
  rintro s ⟨c,rfl⟩;refine ⟨_,?_,c,rfl⟩;unfold Qx;dsimp only;rw [show @W.ln wv (Int×List (Int×Int)) r=(r.length:Int) from rfl];by_cases q:r.length<=300
  ·rw [Kt (by omega)]
  ·rw [Qt (by omega),Kt (by omega)])
 by_cases d:(r.length:Int) > 200
 ·refine ⟨true,(lo_s a).trans ?_,λh=>by cases h⟩;dsimp only;rw [w_ln,br_gt d]
 have hl:LimA r:=⟨by omega,hr⟩;by_cases f:c > 400
 ·refine ⟨true,(lo_s a).trans ?_,λh=>by cases h⟩;dsimp only;rw [w_ln,Jyg d,br_gt f]
 refine ⟨decide ((if RegOK r then ((Q1 r).length:Int) else 0) > 1000),(lo_s a).trans ?_,λh=>⟨hl,λg=>?_⟩⟩
 ·dsimp only;rw [w_ln,Jyg d,Jyg f];exact (ca_s (c:=Kn) (J5r r hl)).trans rfl
 ·have:=of_decide_eq_false h;rw [if_pos g] at this;omega
open Classical in
theorem Jvf{α:Type}{r:Reg}(hl:LimA r)(k:Bool->Option α):@W.call wv α Jp r k=k (decide (RegOK r)):=ca_s (c:=Jp) (Jkj r hl)
open Classical in
theorem Jug(r:Reg)(n:Int)(hl:LimA r)(a:RegOK r->(Q1 r).length<=2000):@Q8 wv (r,n)=some (if RegOK r then (Jc9 (Xa r (min (max n 0) 64).toNat),eroN r (min (max n 0) 64).toNat) else ([],[])):=by
 by_cases h:RegOK r
 ·exact Jkv r n (Jbv h) a
 ·unfold Q8;dsimp only;rw [Jvf hl,br_t (by simp [w_nt,h]),if_neg h]
theorem Jub(l:List Jw)(hl:l.length<=100000000000)(d:∀t∈l,t.2.2.length<=1000000000):@Q9 wv (l,l)=some true:=by
 have a:=Qr (b:=@Qh wv) (e:=.inr ()) (λi=>⟨l,⟨l,⟨(l.length:Int),⟨(i:Int),()⟩⟩⟩⟩) l.length (by omega) (λi hi=>by
  have hx:=Aa hi;generalize l[i]=t at hx;unfold Qh;dsimp only;rw [Qt (by omega),ge_s (fg hx),ge_s (fg hx),k_Same (d t (Ab hx)),br_f (by simp [w_nt]),Ku,wr (by omega) (by omega)];rfl) (by unfold Qh;dsimp only;rw [Kt (by omega)])
 unfold Q9;dsimp only;rw [br_f (by simp [Jp0,w_ln])];exact lo_s a
theorem Jtv{out:List Jw}{last:List Cell}{x:Jw}(h:x∈Jep out last):x∈out\/x.2.2=last:=by
 unfold Jep at h;rcases out.eq_nil_or_concat with rfl|⟨r,v,rfl⟩
 ·exact .inl h
 ·rw [List.concat_eq_append] at h ⊢;rw [Xg] at h;rcases Af.1 h with q|q
  ·exact .inl (Af.2 (.inl q))
  ·rw [Ac] at q;exact .inr (by rw [q])
theorem runQ_tr(role:Int)(l:List (Cell×Bool)):∀t∈(runQ role l).1,t.2.2.length<=l.length:=by
 have key:∀m:List (Cell×Bool),∀t∈(runQ role m.reverse).1,t.2.2.length<=m.reverse.length:=by
  intro m
  induction m with
  | nil=>intro t a;cases a
  | cons p m d =>
   have hl:=(Jhr role m.reverse).2.2.2;rw [List.reverse_cons,Jh2,List.length_append];generalize runQ role m.reverse=s at d hl ⊢;obtain ⟨out,last,pv⟩:=s;obtain ⟨c,k⟩:=p;intro t a;have old:t∈out->t.2.2.length<=m.reverse.length+[(c,k)].length:=λq=>Nat.le_succ_of_le (d t q);cases k with
   | false=>exact old a
   | true =>
    cases pv with
    | true=>exact old a
    | false =>
     have a:t∈Jep out last++[(role,(false,[]))]:=a;rcases Af.1 a with q|q
     ·rcases Jtv q with q|q
      ·exact old q
      ·rw [q];exact Nat.le_succ_of_le hl
     ·rw [Ac] at q;rw [q];exact Nat.zero_le _
 have:=key l.reverse;rwa [List.reverse_reverse] at this
theorem Jzk(role:Int)(l:List (Cell×Bool)):∀t∈Jmr role l,t.2.2.length<=l.length:=λt a=>by
 rcases Jtv (show t∈Jep (runQ role l).1 (runQ role l).2.1 from a) with q|q
 ·exact runQ_tr role l t q
 ·rw [q];exact (Jhr role l).2.2.2
end Go.Proofs.YtmfagdfkpjgeiaaGreat
namespace Go.Proofs.YtmfagdfkpjgeiaaGreat
open Go Go.Vv Go.Dn
theorem i64_bd{v:Int}(h:(Lit.int .i64 v).wf=true):-9223372036854775808<=v/\v<=9223372036854775807:=by have h:(decide (Go.IntKind.min .i64<=v)&&decide (v<=Go.IntKind.max .i64))=true:=h;rw [Bool.and_eq_true,decide_eq_true_eq,decide_eq_true_eq] at h;exact h
theorem row_bd{r:Reg}(h:∀x:Row,List.Mem x r->(Dn.Ty.p I (.ls (.p I I))).wf x):∀w∈r,w.2.length<=9223372036854775807:=λw a=>(h w a).2.1
end Go.Proofs.YtmfagdfkpjgeiaaGreat
