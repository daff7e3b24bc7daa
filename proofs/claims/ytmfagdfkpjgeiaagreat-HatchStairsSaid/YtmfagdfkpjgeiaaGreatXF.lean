/- What region.Cells and line say. Conditions: at most 10^9 cells. -/
import Derived.Test.YtmfagdfkpjgeiaaGreatXE
set_option linter.unusedVariables false
set_option linter.unusedSimpArgs false
set_option maxRecDepth 100000
namespace Go.Proofs.YtmfagdfkpjgeiaaGreat
open Go Go.Vv Go.Dn Go.Dn.W
open List renaming getElem?_eq_getElem -> Aa, length_append -> Ab, mem_of_getElem? -> Ac, take_length -> Ad, mem_singleton -> Ae, length_pos_iff -> Af, mem_append -> Ag, mem_map -> Ah, length_map -> Ai, mem_cons_of_mem -> Aj, mem_append_left -> Ak, mem_cons_self -> Al, length_take -> Am, mem_flatMap -> Ao, flatMap_cons -> Ap, getElem?_append_left -> Aq, getElem?_append_right -> Ar, length_singleton -> As, append_nil -> Au, mem_append_right -> Av, mem_reverse -> Aw, getElem?_eq_none -> Ax, length_cons -> Ay, getD_eq_getElem?_getD -> Az, getElem?_eq_some_iff -> Bb, length_reverse -> Bc, mem_singleton_self -> Bd, append_assoc -> Be, length_filter_le -> Bf, mem_of_mem_take -> Bg, length_nil -> Bh, length_set -> Bj, reverse_eq_nil_iff -> Bk, foldl_append -> Bm, flatMap_nil -> Bn, flatMap_def -> Bo, getElem?_reverse -> Bp, ext_getElem? -> Bq, take_of_length_le -> Br, append_eq_nil_iff -> Bs, foldl_cons -> Bt, mem_filter -> Bu, take_zero -> Bv, pairwise_append -> Bw, mem_cons -> Bx, map_nil -> By
open Int renaming toNat_natCast -> Ba
open Nat renaming le_trans -> Bl, sub_self -> Bz
open Classical in
theorem Jid(r:Reg)(hl:LimR r)(o:RegOK r->(J7 r).length<=1000000000):@jz wv r=some (if RegOK r then J7 r else []):=by
 unfold jz;rw [X5 hl];by_cases h:RegOK r
 case neg=>rw [br_t (by simp [w_nt,h]),if_neg h]
 rw [br_f (by simp [w_nt,h]),if_pos h];have hL:=hl.1;have o:=o h;have d:=Kt (b:=@Yq wv) (e:=⟨J7 r,()⟩) (λi=>⟨r,(r.length:Int),(i:Int),(r.take i).flatMap rowC,()⟩) r.length (by omega) (λi y=>by
  have f:=Aa y;generalize r[i]=w at f;have hLw:=hl.2 w (Ac f);have a:=Kt (b:=@Yr wv) (e:=⟨r,(r.length:Int),(i:Int),(r.take i).flatMap rowC++rowC w,()⟩) (λk=>⟨r,(r.length:Int),(i:Int),w.2,(w.2.length:Int),(k:Int),w.1,w.2,(r.take i).flatMap rowC++(w.2.take k).flatMap (Qq w.1),()⟩) w.2.length (by omega) (λk v=>by
   have g:=Aa v;generalize w.2[k]=u at g;have E:=(h.rs w (Ac f)).bd u (Ac g);have m:=cells_le f g;rw [Y7] at m;have l:=Kt (b:=@Ys wv) (e:=⟨r,(r.length:Int),(i:Int),w.2,(w.2.length:Int),(k:Int),w.1,w.2,(r.take i).flatMap rowC++(w.2.take k).flatMap (Qq w.1)++Qq w.1 u,()⟩)
    (λj=>⟨u.1+(j:Int),r,(r.length:Int),(i:Int),w.2,(w.2.length:Int),(k:Int),w.1,w.2,u.1,u.2,(r.take i).flatMap rowC++(w.2.take k).flatMap (Qq w.1)++(rng u.1 j).map λx=>(x,w.1),()⟩) (u.2 - u.1).toNat (by omega) (λj B=>by
    unfold Ys;dsimp only;rw [Qz (by omega),w_ln,w_pl,Jeb (by simp only [Ab,Ai,Jnx];omega) (by omega),Kz,wr (by omega) (by omega),w_ap,Jgg,show u.1+(j:Int)+1=u.1+((j+1:Nat):Int) by omega,Be _ _ [_]]) (by unfold Ys;dsimp only;rw [Kb (by omega)];rfl)
   have A:u.1+((0:Nat):Int)=u.1:=by omega
   simp only [A,rng,List.range_zero,By,Au] at l;unfold Yr;dsimp only;rw [Qz (by omega),ge_s (fg g),lo_s l];dsimp only;rw [Kz,wr (by omega) (by omega),Jxl g,Be];rfl) (by unfold Yr;dsimp only;rw [Kb (by omega),Ad];rfl)
  simp only [Bv,Bn,Au] at a;unfold Yq;dsimp only;rw [Qz (by omega),ge_s (fg f)];refine (lo_s a).trans ?_;dsimp only;rw [Kz,wr (by omega) (by omega),ze f];rfl) (by unfold Yq;dsimp only;rw [Kb (by omega),Ad];rfl)
 exact lo_s d
open Classical in
theorem Jkr{α:Type}{r:Reg}(hl:LimR r)(a:RegOK r->(J7 r).length<=1000000000)(k:List (Int×Int)->Option α):@W.call wv α Kg r k=k (if RegOK r then J7 r else []):=ca_s (c:=Kg) (Jid r hl a)
theorem J0q(s:Int):@jy wv s=some (decide (1<=s/\s<=64)):=by simp only [jy,w_br,Je1,Jgn,decide_eq_true_eq];split<;>first|exact congrArg some (decide_eq_decide.2 (by omega))|exact congrArg some (decide_eq_false (by omega)).symm
theorem Jt5{α:Type}(s:Int)(k:Bool->Option α):@W.call wv α Jr s k=k (decide (1<=s/\s<=64)):=ca_s (c:=Jr) (J0q s)
theorem Jfj{r:Reg}(h:RegOK r){w:Row}(e:w∈r)(k:Nat):(w.2.take k).length<=((w.2.take k).flatMap (Qq w.1)).length:=by
 have m:=(h.rs w e).bd;have:∀l:List Run,(∀u∈l,u∈w.2)->l.length<=(l.flatMap (Qq w.1)).length:=by
  intro l
  induction l with
  | nil=>intro _;simp
  | cons u l d=>
   intro a;have y:=d λv f=>a v (Aj _ f);have o:=m u (a u (Al ..));simp only [Ap,Ab,Ay,Y7];omega
 exact this _ λu g=>Bg g
theorem Jjf:∀ {l m:List Cell},l.Nodup->l ⊆ m->l.length<=m.length
 | [],m,_,_=>by simp
 | x::l,m,d,hs=>by obtain ⟨f,e⟩:=List.nodup_cons.1 d;have hx:x∈m:=hs (Al ..);have:=Jjf e (m:=m.erase x) λy a=>(List.mem_erase_of_ne (by rintro rfl;exact f a)).2 (hs (Aj _ a));rw [List.length_erase_of_mem hx] at this;have:=List.length_pos_of_mem hx;rw [Ay];omega
theorem Jes{r T:Reg}(h:RegOK r)(hT:RegOK T)(f:Cell->Cell)(l:∀a b,f a=f b->a=b)(g:∀c,Xi T c->Xi r (f c)):(J7 T).length<=(J7 r).length:=by
 have v:((J7 T).map f).Nodup:=by
  rw [List.nodup_iff_pairwise_ne,List.pairwise_map];exact hT.cells_pw.imp λh e=>by have:=l _ _ e;subst this;exact Jqu _ h
 have o:(J7 T).map f ⊆ J7 r:=λc m=>by obtain ⟨d,hd,rfl⟩:=Ah.1 m;exact Jaq.2 (g d (Jaq.1 hd))
 have:=Jjf v o;rwa [Ai] at this
theorem Jdg{T:Reg}(hT:RegOK T){n:Nat}(h:(J7 T).length<=n):T.length<=n/\∀w∈T,w.2.length<=n:=by
 have r:∀w∈T,1<=(rowC w).length/\w.2.length<=(rowC w).length:=λw d=>by have:=Jfj hT d w.2.length;rw [Ad] at this;have m:=Af.2 (hT.ne w d);unfold rowC;omega
 have o:∀l:Reg,(∀w∈l,w∈T)->l.length<=(l.flatMap rowC).length/\∀w∈l,w.2.length<=(l.flatMap rowC).length:=by
  intro l
  induction l with
  | nil=>intro _;simp
  | cons u l f=>
   intro e;have a:=f λv g=>e v (Aj _ g);have b:=r u (e u (Al ..));rw [Ap,Ab,Ay];refine ⟨by omega,λw d=>?_⟩;rcases Bx.1 d with rfl|d
   ·omega
   ·have:=a.2 w d;omega
 have:=o T λw d=>d;unfold J7 at h;exact ⟨by omega,λw d=>by have:=this.2 w d;omega⟩
def fewU(u:Run):Run:=if u.1<u.2/\u.1 > -4097/\u.2<4097/\u.2 - 20 > u.1 then (u.1,u.1+20) else u
def fewR(r:Reg):Reg:=(r.take 12).map λw=>(w.1,(w.2.take 4).map fewU)
theorem few_L2:@jf wv=@Kf wv:=rfl
theorem Jto(i y:Int)(r out:Reg)(l:List Run)(hl:l.length<=4):Xu (@Kf wv) bigN ⟨i,0,r,y,l,out,[],()⟩=some ⟨i,r,y,l,l.map fewU,out,()⟩:=
 Kt (b:=@Kf wv) (λk=>⟨i,(k:Int),r,y,l,out,(l.take k).map fewU,()⟩) l.length (by omega) (λk f=>by
  have hx:=Aa f;generalize l[k]=u at hx;have d:((l.take k).map fewU).length=k:=by rw [Ai,Am];omega
  unfold Kf;dsimp only;rw [w_ln,Qz (by omega),ge_s (fg hx)];simp only [w_ln,w_pl,d,w_ap,Kz,Zo];rw [wr (n:=(k:Int)+1) (by omega) (by omega),Jeb (by omega) (by omega),Jeb (by omega) (by omega),js hx];simp only [w_br,Jg6,Jar,decide_eq_true_eq];unfold fewU;by_cases a:u.1<u.2/\u.1 > -4097/\u.2<4097
  ·rw [if_pos a.1,if_pos a.2.1,if_pos a.2.2,wr (n:=u.2 - 20) (by omega) (by omega),wr (n:=u.1+20) (by omega) (by omega)];by_cases e:u.2 - 20 > u.1
   ·rw [if_pos e,if_pos ⟨a.1,a.2.1,a.2.2,e⟩];rfl
   ·rw [if_neg e,if_neg λq=>e q.2.2.2];rfl
  ·rw [if_neg (c:=u.1<u.2/\u.1 > -4097/\u.2<4097/\u.2 - 20 > u.1) λq=>a ⟨q.1,q.2.1,q.2.2.1⟩]
   (repeat' split)<;>first|rfl|omega) (by unfold Kf;dsimp only;rw [w_ln,Kb (by omega),Ad])
theorem few_ok(r:Reg):@Xy wv r=some (fewR r):=by
 have f:=Kt (b:=@Qw wv) (e:=⟨fewR r,()⟩) (λi=>⟨(i:Int),r,(r.take i).map λw=>(w.1,(w.2.take 4).map fewU),()⟩) (min r.length 12) (by omega) (λi o=>by
  have g:i<r.length:=by omega
  have hx:=Aa g;generalize r[i]=w at hx;unfold Qw;dsimp only;rw [w_ln,Qz (by omega),Qz (by omega),ge_s (fg hx),w_br,Jar,w_ln,js hx];have d:((r.take i).map λw:Row=>(w.1,(w.2.take 4).map fewU)).length=i:=by rw [Ai,Am];omega
  have le_t:∀ {α:Type} {a b:Int} {x:Option α},a<=b->@W.gd wv α (@W.le wv a b) x=x:=λh=>gd_t (by rw [w_le];exact decide_eq_true h);by_cases m:(w.2.length:Int) > 4
  ·rw [if_pos (decide_eq_true m),le_t (by omega),le_t (by omega),w_ct,show (0:Int).toNat=0 from rfl,show (4:Int).toNat=4 from rfl,List.drop_zero];refine (lo_s (Jto _ _ _ _ _ (by rw [Am];omega))).trans ?_;dsimp only;rw [w_ln,w_pl,d,Jxg (by omega) (by omega),Kz,wr (by omega) (by omega)];rfl
  ·rw [if_neg (by simpa using m),few_L2,Br (l:=w.2) (by omega)];refine (lo_s (Jto _ _ _ _ _ (by omega))).trans ?_;dsimp only;rw [w_ln,w_pl,d,Jxg (by omega) (by omega),Kz,wr (by omega) (by omega)];rfl) (by
  unfold Qw;dsimp only;rw [w_ln,w_br,Jg6,w_br,Jg6];have e:r.take (min r.length 12)=r.take 12:=by rw [List.take_eq_take_iff];omega
  rw [e];by_cases h:((min r.length 12:Nat):Int)<(r.length:Int)
  ·rw [if_pos (decide_eq_true h),if_neg (by simp;omega)];rfl
  ·rw [if_neg (by simpa using h)];rfl)
 unfold Xy;refine (lo_s f).trans rfl
theorem k_few{α:Type}{r:Reg}(k:List (Int×List (Int×Int))->Option α):@W.call wv α K5 r k=k (fewR r):=ca_s (c:=K5) (few_ok r)
theorem fewR_lim(r:Reg):LimR (fewR r):=by refine ⟨by unfold fewR;rw [Ai,Am];omega,λw a=>?_⟩;obtain ⟨v,d,rfl⟩:=Ah.1 a;dsimp only;rw [Ai,Am];omega
theorem Jwh(r:Reg)(h:RegOK (fewR r)):(J7 (fewR r)).length<=960:=by
 have d:∀w∈fewR r,∀u∈w.2,(Qq w.1 u).length<=20:=λw a u d=>by
  have e:=(h.rs w a).bd u d;obtain ⟨v,g,rfl⟩:=Ah.1 a;obtain ⟨x,hx,rfl⟩:=Ah.1 d;rw [Y7];unfold fewU at e ⊢;split
  ·dsimp only;omega
  ·rename_i m;rw [if_neg m] at e;omega
 have a:∀w∈fewR r,(rowC w).length<=80:=λw a=>by
  have y:=Jih (f:=Qq w.1) (l:=w.2) (n:=20) (d w a);have o:w.2.length<=4:=by obtain ⟨v,g,rfl⟩:=Ah.1 a;dsimp only;rw [Ai,Am];omega
  unfold rowC;omega
 have y:=Jih (f:=rowC) (l:=fewR r) (n:=80) a;have o:(fewR r).length<=12:=by unfold fewR;rw [Ai,Am];omega
 unfold J7;omega
theorem Jxs(l:List Run)(hl:l.length<=1000000000)(H:∀u∈l,u.1<u.2)(G:l.Pairwise λa b=>a.1<=b.1):∃e,Xu (@Zc wv) bigN ⟨l,(l.length:Int),0,[],()⟩=some e/\Jc6 e.e/\∀x,Jt e.e x↔Jt l x:=by
 refine Jm2 (b:=@Zc wv) (s0:=⟨l,(l.length:Int),0,[],()⟩)
  (λi s=>∃out:List Run,s=⟨l,(l.length:Int),(i:Int),out,()⟩/\out.length<=i/\Jc6 out/\(∀x,Jt out x↔Jt (l.take i) x)/\∀u∈out,∃v∈l.take i,u.1=v.1)
  (λe=>Jc6 e.e/\∀x,Jt e.e x↔Jt l x) l.length (by omega) ⟨[],rfl,by simp,⟨by simp,.nil⟩,by simp,by simp⟩ ?_ ?_
 ·rintro i s Y ⟨out,rfl,M,hN,f,g⟩;have hx:=Aa Y;generalize l[i]=u at hx;have R:=H u (Ac hx);have d:=Q6 hx;have E:∀v∈l.take i,v.1<=u.1:=λv F=>by have O:(l.take (i+1)).Pairwise λa b=>a.1<=b.1:=List.Pairwise.sublist (List.take_sublist _ _) G;rw [d] at O;exact (Bw.1 O).2.2 v F u (by simp)
  have o:∀x,Jt (l.take (i+1)) x↔Jt (l.take i) x\/(u.1<=x/\x<u.2):=λx=>by rw [d,Xz]
  have fresh:∀ {out':List Run},out'=out++[(u.1,u.2)]->(∀v∈out,v.2<u.1)->out'.length<=i+1/\Jc6 out'/\(∀x,Jt out' x↔Jt (l.take (i+1)) x)/\∀w∈out',∃v∈l.take (i+1),w.1=v.1:=by
   rintro out' rfl K;refine ⟨by simp;omega,Jdt.2 ⟨hN,R,K⟩,λx=>by rw [Xz,o,f],λw A=>?_⟩;rcases Ag.1 A with h|h
   ·obtain ⟨v,F,e⟩:=g w h;exact ⟨v,by rw [d];exact Ak _ F,e⟩
   ·rw [Ae.1 h];exact ⟨u,by rw [d];simp,rfl⟩
  unfold Zc;dsimp only;rw [Qz (by omega),ge_s (fg hx)];simp only [w_ln,Zo,Kz,w_pl,w_ap];rw [wr (n:=(i:Int)+1) (by omega) (by omega),wr (n:=(out.length:Int) - 1) (by omega) (by omega)];rcases out.eq_nil_or_concat with rfl|⟨r,v,y⟩
  ·rw [br_f (by rfl),Jeb (by simp) (by simp)];exact ⟨_,rfl,_,rfl,fresh rfl (by simp)⟩
  ·rw [List.concat_eq_append] at y;subst y;have m:((r++[v]).length:Int)=(r.length:Int)+1:=by simp
   have X:(r.length:Int)+1<=i:=by rw [<-m];omega
   simp only [m];rw [show (r.length:Int)+1 - 1=(r.length:Int) by omega];simp only [ge_s (fg (Jdk r v)),Jcs (show 0<=(r.length:Int)/\(r.length:Int)<(r.length:Int)+1 by omega)];rw [br_t (by rw [Je1];exact decide_eq_true (by omega))];obtain ⟨N1,N2,N3⟩:=Jdt.1 hN;obtain ⟨L,B,ev⟩:=g v (by simp);have Q:=E L B;by_cases N:u.1<=v.2
   ·rw [br_t (by rw [Jgn];exact decide_eq_true N),w_st,Ba,Jdw,w_mx];have J:(if u.2 > v.2 then u.2 else v.2)=max v.2 u.2:=by omega
    rw [J];refine ⟨_,rfl,r++[(v.1,max v.2 u.2)],rfl,by simp only [Ab,Ay,Bh] at M ⊢;omega,Jdt.2 ⟨N1,by dsimp only;omega,N3⟩,λx=>?_,λw A=>?_⟩
    ·rw [Xz,o,<-f,Xz];dsimp only;constructor
     ·rintro (h|h)
      ·exact .inl (.inl h)
      ·by_cases q:x<v.2
       ·exact .inl (.inr (by omega))
       ·exact .inr (by omega)
     ·rintro ((h|h)|h)
      ·exact .inl h
      ·exact .inr (by omega)
      ·exact .inr (by omega)
    ·rcases Ag.1 A with h|h
     ·obtain ⟨z,P,e⟩:=g w (Ak _ h);exact ⟨z,by rw [d];exact Ak _ P,e⟩
     ·rw [Ae.1 h];exact ⟨L,by rw [d];exact Ak _ B,ev⟩
   ·rw [br_f (by rw [Jgn];exact decide_eq_false N),Jeb (by omega) (by omega)];refine ⟨_,rfl,_,rfl,fresh rfl λw A=>?_⟩;rcases Ag.1 A with h|h
    ·have:=N3 w h;omega
    ·rw [Ae.1 h];omega
 ·rintro s ⟨out,rfl,M,hN,f,g⟩;unfold Zc;dsimp only;rw [Kb (by omega)];rw [Ad] at f;exact ⟨_,rfl,hN,f⟩
theorem join_ok(l:List Run)(hl:l.length<=1000000000)(f:∀u∈l,u.1<u.2)(d:l.Pairwise λa b=>a.1<=b.1):∃r,@Jah wv l=some r/\Jc6 r/\∀x,Jt r x↔Jt l x:=by obtain ⟨e,h,g⟩:=Jxs l hl f d;refine ⟨e.e,?_,g⟩;unfold Jah;exact lo_s h
theorem k_join{α:Type}{l r:List (Int×Int)}(h:@Jah wv l=some r)(k:List (Int×Int)->Option α):@W.call wv α jm l k=k r:=ca_s (c:=jm) h
theorem k_sortR{l:List Run}(hl:l.length<=1000000000)(g:∀u∈l,-4611686018427387904<u.1/\u.1<4611686018427387904):∃r:List Run,(∀ {α:Type} (k:List (Int×Int)->Option α),@W.call wv α Jg2 l k=k r)/\r.Perm l/\r.Pairwise λa b=>a.1<=b.1:=by have d:∀x∈l,okR x=true:=λx hx=>decide_eq_true (g x hx);obtain ⟨r,v,f,o⟩:=Jq0 (t:=.p I I) swoR (eq:=eqR) (d0:=zR) (l:=l) (show l.length<_ by omega) d;refine ⟨r,λk=>ca_s (c:=Jg2) (a:=l) (r:=r) v,f,?_⟩;refine List.Pairwise.imp_of_mem (λ{a b} m e h=>?_) o;have qa:=d a (f.mem_iff.1 m);have qb:=d b (f.mem_iff.1 e);simp only [Go.Proofs.ltOf,decide_eq_false_iff_not,Jdf qb qa] at h;omega
theorem Norm_ok(l:List Run)(hl:l.length<=1000000000)(d:∀u∈l,u.1<u.2/\-1048576<=u.1/\u.2<=1048576):∃r,@Jao wv l=some (r,0)/\Jc6 r/\∀x,Jt r x↔Jt l x:=by
 have f:=Kt (b:=@j7 wv) (e:=.inr ⟨l,()⟩) (λi=>⟨l,(l.length:Int),(i:Int),l.take i,()⟩) l.length (by omega) (λi y=>by have hx:=Aa y;generalize l[i]=u at hx;have a:=d u (Ac hx);unfold j7;dsimp only;rw [Qz (by omega),ge_s (fg hx),br_f (by rw [Jgn];exact decide_eq_false (by omega)),Jiu,br_f (by simp [w_nt];omega),w_ln,w_pl,Jeb (by rw [Am];omega) (by omega),Kz,wr (by omega) (by omega),w_ap,Q6 hx];rfl) (by unfold j7;dsimp only;rw [Kb (by omega),Ad])
 obtain ⟨r,v,g,m⟩:=k_sortR hl (λu a=>by have:=d u a;omega);obtain ⟨j,w,hN,o⟩:=join_ok r (by rw [g.length_eq];exact hl) (λu a=>(d u (g.mem_iff.1 a)).1) m;refine ⟨j,?_,hN,λx=>(o x).trans ?_⟩
 ·unfold Jao;refine (lo_s f).trans ?_;dsimp only;rw [v,k_join w]
 ·unfold Jt;exact ⟨λ⟨u,a,h⟩=>⟨u,g.mem_iff.1 a,h⟩,λ⟨u,a,h⟩=>⟨u,g.mem_iff.2 a,h⟩⟩
def dst(a b:Cell):Int:=max (max (a.1 - b.1) (b.1 - a.1)) (max (a.2 - b.2) (b.2 - a.2))
theorem Jwu{a b:Cell}{k:Int}:dst a b<=k↔(a.1 - b.1<=k/\b.1 - a.1<=k)/\(a.2 - b.2<=k/\b.2 - a.2<=k):=by unfold dst;omega
def wide(k:Int)(u:Run):Run:=(max (u.1 - k) (-4096),min (u.2+k) 4096)
def near(c:Reg)(k:Int)(p:Cell):Prop:=∃d,Xi c d/\dst d p<=k
def rowW(y k:Int)(w:Row):List Run:=if w.1<y - k\/w.1 > y+k then [] else w.2.map (wide k)
theorem Jue{c:Reg}(h:RegOK c){y k:Int}(A:0<=k){x:Int}(hx:-4096<=x/\x<4096):Jt (c.flatMap (rowW y k)) x↔near c k (x,y):=by
 constructor
 ·rintro ⟨v,o,m,l⟩;obtain ⟨w,a,g⟩:=Ao.1 o;unfold rowW at g;split at g
  ·cases g
  ·rename_i r;obtain ⟨u,f,rfl⟩:=Ah.1 g;have B:=(h.rs w a).bd u f;simp only [wide] at m l;refine ⟨(max u.1 (min x (u.2 - 1)),w.1),⟨w,a,rfl,u,f,by dsimp only;omega,by dsimp only;omega⟩,Jwu.2 ⟨by dsimp only;omega,by dsimp only;omega⟩⟩
 ·rintro ⟨d,⟨w,a,e,u,f,m,l⟩,hd⟩;have hd:=Jwu.1 hd;dsimp only at hd;refine ⟨wide k u,Ao.2 ⟨w,a,?_⟩,by simp only [wide];omega,by simp only [wide];omega⟩;unfold rowW;rw [if_neg (by omega)];exact Ah.2 ⟨u,f,rfl⟩
theorem rowW_len(y k:Int)(w:Row):(rowW y k w).length<=w.2.length:=by unfold rowW;split<;>simp
theorem Jcr(c:Reg)(y k:Int)(i:Nat):((c.take i).flatMap (rowW y k)).length<=(c.flatMap λw=>w.2).length:=by
 have a:∀l:Reg,(l.flatMap (rowW y k)).length<=(l.flatMap λw=>w.2).length:=by
  intro l
  induction l with
  | nil=>simp
  | cons w l d=>have:=rowW_len y k w;simp only [Ap,Ab];omega
 have:=a (c.take i);have:=Jhj (λw:Row=>w.2) c i;omega
theorem Ju9{c:Reg}(h:RegOK c):(c.flatMap λw=>w.2).length<=(J7 c).length:=by
 unfold J7;have:∀l:Reg,(∀w∈l,w∈c)->(l.flatMap λw=>w.2).length<=(l.flatMap rowC).length:=by
  intro l
  induction l with
  | nil=>intro _;simp
  | cons w l d=>
   intro a;have m:=d λv f=>a v (Aj _ f);have g:=Jfj h (a w (Al ..)) w.2.length;rw [Ad] at g;simp only [Ap,Ab];unfold rowC at *
   omega
 exact this c λw e=>e
theorem k_Norm{α:Type}{l r:List Run}(h:@Jao wv l=some (r,0))(k:List (Int×Int)×Int->Option α):@W.call wv α jt l k=k (r,0):=ca_s (c:=jt) h
theorem Jy6(c:Reg)(y k:Int)(hl:LimR c)(h:RegOK c)(X:(J7 c).length<=1000000)(G:0<=k/\k<=100000)(R:-4096<=y/\y<4096):∃r,@Za wv (c,(y,k))=some r/\Jc6 r/\∀x,Jt r x↔(-4096<=x/\x<4096)/\near c k (x,y):=by
 have hL:=hl.1;have J:=Ju9 h;have m:=Kt (b:=@Yp wv) (e:=⟨c.flatMap (rowW y k),()⟩) (λi=>⟨y,k,c,(c.length:Int),(i:Int),(c.take i).flatMap (rowW y k),()⟩) c.length (by omega) (λi M=>by
  have l:=Aa M;generalize c[i]=w at l;have g:=Ac l;have hLw:=hl.2 w g;have P:=Jcr c y k i;have Q:=h.y w g;unfold Yp;dsimp only;rw [Qz (by omega),ge_s (fg l),Zo,Kz,Kz,wr (n:=y - k) (by omega) (by omega),wr (n:=y+k) (by omega) (by omega),wr (n:=(i:Int)+1) (by omega) (by omega),ze l];by_cases E:w.1<y - k
  ·rw [Qz E,rowW,if_pos (.inl E),Au];rfl
  rw [Kb E];by_cases B:w.1 > y+k
  ·rw [br_t (by rw [Jar];exact decide_eq_true B),rowW,if_pos (.inr B),Au];rfl
  rw [br_f (by rw [Jar];exact decide_eq_false B),rowW,if_neg (by omega)];have d:=Kt (b:=@Yt wv) (e:=⟨y,k,c,(c.length:Int),(i:Int),(c.take i).flatMap (rowW y k)++w.2.map (wide k),()⟩)
   (λj=>⟨y,k,c,(c.length:Int),(i:Int),w.2,(w.2.length:Int),(j:Int),(c.take i).flatMap (rowW y k)++(w.2.take j).map (wide k),()⟩) w.2.length (by omega) (λj L=>by
   have a:=Aa L;generalize w.2[j]=u at a;have A:=(h.rs w g).bd u (Ac a);have O:=Qv (λw:Row=>w.2) l;have N:((c.take i).flatMap (rowW y k)).length<=((c.take i).flatMap λw=>w.2).length:=by have:=Jcr (c.take i) y k i;rwa [List.take_take,Nat.min_self] at this
   unfold Yt;dsimp only;rw [Qz (by omega),ge_s (fg a),w_ln,w_pl,Jeb (by simp only [Ab,Ai,Am];omega) (by omega),Kz,Kz,Zo,wr (n:=(j:Int)+1) (by omega) (by omega),wr (n:=u.1 - k) (by omega) (by omega),wr (n:=u.2+k) (by omega) (by omega),w_ap,js a,<-Be,w_mx,w_mn];have e:((if -4096 > u.1 - k then -4096 else u.1 - k),(if 4096<u.2+k then 4096 else u.2+k))=wide k u:=by unfold wide;rw [Prod.mk.injEq];omega
   rw [e];rfl) (by unfold Yt;dsimp only;rw [Kb (by omega),Ad])
  simp only [Bv,By,Au] at d;refine (lo_s d).trans ?_;dsimp only;rw [Kz,wr (by omega) (by omega)];rfl) (by unfold Yp;dsimp only;rw [Kb (by omega),Ad])
 have f:∀u∈c.flatMap (rowW y k),u.1<u.2/\-4096<=u.1/\u.2<=4096:=λv H=>by
  obtain ⟨w,l,o⟩:=Ao.1 H;unfold rowW at o;split at o
  ·cases o
  ·obtain ⟨u,a,rfl⟩:=Ah.1 o;have A:=(h.rs w l).bd u a;simp only [wide];omega
 have F:(c.flatMap (rowW y k)).length<=1000000:=by have:=Jcr c y k c.length;rw [Ad] at this;omega
 obtain ⟨r,K,hN,d⟩:=Norm_ok (c.flatMap (rowW y k)) (by omega) (λu a=>by have:=f u a;omega);refine ⟨r,?_,hN,λx=>(d x).trans ?_⟩
 ·unfold Za;refine (lo_s m).trans ?_;dsimp only;rw [k_Norm K]
 ·constructor
  ·intro hx;have A:-4096<=x/\x<4096:=by obtain ⟨u,a,E,B⟩:=hx;have:=f u a;omega
   exact ⟨A,(Jue h G.1 A).1 hx⟩
  ·exact λhx=>(Jue h G.1 hx.1).2 hx.2
theorem k_spread{α:Type}{c:Reg}{y k:Int}{r:List Run}(h:@Za wv (c,(y,k))=some r)(k':List (Int×Int)->Option α):@W.call wv α X8 ((c,(y,k)):List (Int×List (Int×Int))×(Int×Int)) k'=k' r:=ca_s (c:=X8) h
theorem Jv3{α:Type}{a b r:List Run}(h:@Yo wv (a,b)=some r)(k:List (Int×Int)->Option α):@W.call wv α Xk ((a,b):List (Int×Int)×List (Int×Int)) k=k r:=ca_s (c:=Xk) h
theorem Jup{l:List Run}(h:Jc6 l)(g:∀x,Jt l x->-4096<=x/\x<4096):l.length<=8192:=by
 have hV:=Joe h g;have key:∀(m:List Run) (lo:Int),RunsOK lo 4096 m->lo<=4096->(m.length:Int)<=4096 - lo:=by
  intro m
  induction m with
  | nil=>intro lo _ d;simp;omega
  | cons u m f=>
   intro lo a d;have o:=a.bd u (Al ..);have:=f (lo+1) ⟨λv e=>by have w:=a.bd v (Aj _ e);have r:=(List.pairwise_cons.1 a.pw).1 v e;omega,(List.pairwise_cons.1 a.pw).2⟩ (by omega)
   simp only [Ay];omega
 have:=key l (-4096) hV (by omega);omega
theorem Jz8(r c:Reg)(k:Int)(hl:LimR r)(h:RegOK r)(P:LimR c)(hV:RegOK c)(hr:(J7 r).length<=1000000)(hc:(J7 c).length<=1000000)(hk:0<=k/\k<=100000) :
  ∃T,@Y5 wv (r,(c,k))=some T/\RegOK T/\∀p,Xi T p↔Xi r p/\¬near c k p:=by
 have hL:=hl.1;have G:∃e,Xu (@Xr wv) bigN ⟨k,r,(r.length:Int),0,c,[],()⟩=some e/\RegOK e.e/\∀p,Xi e.e p↔Xi r p/\¬near c k p:=by
  refine Jm2 (b:=@Xr wv) (λi s=>∃out:Reg,s=⟨k,r,(r.length:Int),(i:Int),c,out,()⟩/\out.length<=i/\RegOK out/\(∀p,Xi out p↔Xi (r.take i) p/\¬near c k p)/\∀w∈out,∃v∈r.take i,v.1=w.1) _ r.length (by omega) ⟨[],rfl,by simp,⟨by simp,.nil,by simp,by simp⟩,λp=>by simp [Xi],by simp⟩ ?_ ?_
  ·rintro i s hi ⟨out,rfl,ho,hO,m,o⟩;have K:=Aa hi;generalize r[i]=w at K;have A:=Ac K;have hLw:=hl.2 w A;have Q:=h.y w A;have f:=h.rs w A;have l:=Q6 K;have O:∀v∈r.take i,v.1<w.1:=λv B=>by have H:(r.take (i+1)).Pairwise λa b=>a.1<b.1:=List.Pairwise.sublist (List.take_sublist _ _) h.pw;rw [l] at H;exact (Bw.1 H).2.2 v B w (by simp)
   obtain ⟨sp,N,hspN,d⟩:=Jy6 c w.1 k P hV hc hk Q;have hspB:RunsOK (-4096) 4096 sp:=Joe hspN λx hx=>((d x).1 hx).1;have R:=Jup hspN λx hx=>((d x).1 hx).1;have Z:=Jup (RunsOK.norm f) λx ⟨u,g,H,L⟩=>by have:=f.bd u g;omega
   obtain ⟨su,M,hsuN,E⟩:=Jsw w.2 sp (by omega) (by omega) ⟨λu g=>by have:=f.bd u g;omega,f.pw⟩ ⟨λu g=>by have:=hspB.bd u g;omega,hspB.pw⟩;have hD:∀x,Jt su x↔Jt w.2 x/\¬near c k (x,w.1):=λx=>by
    rw [E,d];constructor
    ·rintro ⟨a,b⟩;have hb:-4096<=x/\x<4096:=by obtain ⟨u,g,H,L⟩:=a;have:=f.bd u g;omega
     exact ⟨a,λq=>b ⟨hb,q⟩⟩
    ·rintro ⟨a,b⟩;exact ⟨a,λq=>b q.2⟩
   have hsuB:RunsOK (-4096) 4096 su:=Joe hsuN λx hx=>by obtain ⟨u,g,H,L⟩:=((hD x).1 hx).1;have:=f.bd u g;omega
   unfold Xr;dsimp only;rw [Qz (by omega),ge_s (fg K),k_spread N,Jv3 M,Kz,wr (by omega) (by omega)];have y:∀p,Xi (r.take (i+1)) p↔Xi (r.take i) p\/(w.1=p.2/\Jt w.2 p.1):=λp=>by rw [l,Zl]
   by_cases F:su=[]
   ·subst F;rw [br_f (by rfl)];refine ⟨_,rfl,out,rfl,by omega,hO,λp=>?_,λv B=>?_⟩
    ·rw [m,y];constructor
     ·rintro ⟨a,b⟩;exact ⟨.inl a,b⟩
     ·rintro ⟨a|⟨e,a⟩,b⟩
      ·exact ⟨a,b⟩
      ·have:=(hD p.1).2 ⟨a,by rw [e];exact b⟩;obtain ⟨u,g,-⟩:=this;cases g
    ·obtain ⟨z,J,e⟩:=o v B;exact ⟨z,by rw [l];exact Ak _ J,e⟩
   ·have X:=Af.2 F;rw [br_t (by rw [w_ln,Jar];exact decide_eq_true (by omega)),w_ln,w_pl,Jxg (by omega) (by omega),w_ap];refine ⟨_,rfl,out++[(w.1,su)],rfl,by simp;omega,Jbn.2 ⟨hO,Q,F,hsuB,λv B=>?_⟩,λp=>?_,λv B=>?_⟩
    ·obtain ⟨z,J,e⟩:=o v B;have:=O z J;dsimp only;omega
    ·rw [Zl,m,y];dsimp only;constructor
     ·rintro (⟨a,b⟩|⟨e,a⟩)
      ·exact ⟨.inl a,b⟩
      ·obtain ⟨a1,Y⟩:=(hD p.1).1 a;exact ⟨.inr ⟨e,a1⟩,by rw [e] at Y;exact Y⟩
     ·rintro ⟨a|⟨e,a⟩,b⟩
      ·exact .inl ⟨a,b⟩
      ·exact .inr ⟨e,(hD p.1).2 ⟨a,by rw [e];exact b⟩⟩
    ·rcases Ag.1 B with q|q
     ·obtain ⟨z,J,e⟩:=o v q;exact ⟨z,by rw [l];exact Ak _ J,e⟩
     ·rw [Ae.1 q];exact ⟨w,by rw [l];simp,rfl⟩
  ·rintro s ⟨out,rfl,ho,hO,m,o⟩;unfold Xr;dsimp only;rw [Kb (by omega)];rw [Ad] at m;exact ⟨_,rfl,hO,m⟩
 obtain ⟨e,he,H,L⟩:=G;refine ⟨e.e,?_,H,L⟩;unfold Y5;exact lo_s he
theorem k_beyond{α:Type}{r c T:Reg}{k:Int}(h:@Y5 wv (r,(c,k))=some T)(k':List (Int×List (Int×Int))->Option α):@W.call wv α Qp ((r,(c,k)):List (Int×List (Int×Int))×(List (Int×List (Int×Int))×Int)) k'=k' T:=ca_s (c:=Qp) h
noncomputable def Jvp(a b:Cell):Bool:=(@zf wv (a,b)).getD false
theorem Jvn(a b:Cell):@zf wv (a,b)=some (Jvp a b):=rfl
theorem k_near{α:Type}{a b:Cell}(k:Bool->Option α):@W.call wv α Qo (((a.1,a.2),(b.1,b.2)):(Int×Int)×(Int×Int)) k=k (Jvp a b):=ca_s (c:=Qo) (Jvn a b)
abbrev Zs:=Option (List Kj×List Cell)
def zT:Zs->List Kj
 | none=>[]
 | some (O,C)=>O++[(3,(false,C))]
def zA:Zs->List Kj
 | none=>[]
 | some (O,_)=>O++[(3,(false,[]))]
def zC:Zs->List Cell
 | none=>[]
 | some (_,C)=>C
noncomputable def Jzy(C l:List Cell):Bool:=Jvp (C.getD (C.length - 1) (0,0)) (l.getD 0 (0,0))&&decide ((C.length:Int)+(l.length:Int)<=65536)
noncomputable def zPut:Zs->List Cell->Zs
 | none,l=>some ([],l)
 | some (O,C),l=>if Jzy C l=true then some (O,C++l) else some (O++[(3,(false,C))],l)
def Q0(z:Zs):List Cell:=(zT z).flatMap λt=>t.2.2
def zOK(z:Zs):Prop:=∀t∈zT z,t.2.2≠[]
theorem Ju2(z:Zs)(l:List Cell):Q0 (zPut z l)=Q0 z++l:=by
 rcases z with _|⟨O,C⟩
 ·simp [Q0,zPut,zT]
 ·simp only [zPut];split<;>simp [Q0,zT]
theorem zPut_ok{z:Zs}{l:List Cell}(h:zOK z)(hl:l≠[]):zOK (zPut z l):=by
 rcases z with _|⟨O,C⟩
 ·intro t a;simp only [zPut,zT,List.nil_append,Ae] at a;rw [a];exact hl
 ·have hO:∀t∈O,t.2.2≠[]:=λt a=>h t (Ak _ a);have hC:C≠[]:=h (3,(false,C)) (Av _ (Bd _));simp only [zPut];split
  ·intro t a;rcases Ag.1 a with q|q
   ·exact hO t q
   ·rw [Ae.1 q];intro e;exact hC (Bs.1 e).1
  ·intro t a;rcases Ag.1 a with q|q
   ·rcases Ag.1 q with q|q
    ·exact hO t q
    ·rw [Ae.1 q];exact hC
   ·rw [Ae.1 q];exact hl
theorem Jda:∀ {T:List Kj},(∀t∈T,t.2.2≠[])->T.length<=(T.flatMap λt=>t.2.2).length/\∀t∈T,t.2.2.length<=(T.flatMap λt=>t.2.2).length
 | [],_=>⟨by simp,λt a=>by cases a⟩
 | t::T,h=>by
  obtain ⟨f,d⟩:=Jda (T:=T) λs hs=>h s (Aj _ hs);have e:=Af.2 (h t (Al ..));simp only [Ap,Ab,Ay];refine ⟨by omega,λs hs=>?_⟩;rcases Bx.1 hs with rfl|hs
  ·omega
  ·have:=d s hs;omega
theorem zOK.le{z:Zs}(h:zOK z):(zT z).length<=(Q0 z).length/\∀t∈zT z,t.2.2.length<=(Q0 z).length:=Jda h
theorem Jht:∀(ls:List (List Cell)) {z:Zs},zOK z->(∀l∈ls,l≠[])->zOK (ls.foldl zPut z)
 | [],_,h,_=>h
 | l::ls,z,h,hl=>Jht ls (zPut_ok h (hl l (Al ..))) λm a=>hl m (Aj _ a)
theorem Jat:∀(ls:List (List Cell)) (z:Zs),Q0 (ls.foldl zPut z)=Q0 z++ls.flatten
 | [],z=>by simp
 | l::ls,z=>by rw [Bt,Jat ls,Ju2,List.flatten_cons,Be]
def Jdc(w:Row):List (List Cell):=if w.1 % 2=0 then w.2.map (Qq w.1) else w.2.reverse.map λu=>(Qq w.1 u).reverse
noncomputable def zRow(z:Zs)(w:Row):Zs:=(Jdc w).foldl zPut z
theorem Jdh{lo d:Int}{w:Row}(h:RunsOK lo d w.2){u:Run}(a:u∈w.2):Qq w.1 u≠[]:=by have:=h.bd u a;intro e;have f:=Y7 w.1 u;rw [e,Bh] at f;omega
theorem Jct{α β:Type}(f:α->List β):∀l:List α,((l.reverse.map λu=>(f u).reverse).flatten).length=(l.flatMap f).length
 | []=>rfl
 | x::l=>by have:=Jct f l;simp only [List.reverse_cons,List.map_append,List.flatten_append,Ab,List.map_cons,By,List.flatten_cons,List.flatten_nil,Au,Bc,Ap,Bh] at this ⊢;omega
theorem Jqm{w:Row}{lo d:Int}(h:RunsOK lo d w.2):∀l∈Jdc w,l≠[]:=by
 intro l hl;unfold Jdc at hl;split at hl
 ·obtain ⟨u,a,rfl⟩:=Ah.1 hl;exact Jdh h a
 ·obtain ⟨u,a,rfl⟩:=Ah.1 hl;intro e;exact Jdh h (Aw.1 a) (Bk.1 e)
theorem Jvf(w:Row):(Jdc w).flatten.length=(rowC w).length:=by
 unfold Jdc rowC;split
 ·rw [Bo]
 ·exact Jct (Qq w.1) w.2
theorem zRow_ok{w:Row}{lo d:Int}(h:RunsOK lo d w.2){z:Zs}(a:zOK z):zOK (zRow z w):=Jht _ a (Jqm h)
theorem zRow_len(z:Zs)(w:Row):(Q0 (zRow z w)).length=(Q0 z).length+(rowC w).length:=by rw [zRow,Jat,Ab,Jvf]
theorem Jnp:∀(l:Reg) {z:Zs},(∀w∈l,RunsOK (-4096) 4096 w.2)->zOK z->zOK (l.foldl zRow z)
 | [],_,_,a=>a
 | w::l,z,h,a=>Jnp l (λv d=>h v (Aj _ d)) (zRow_ok (h w (Al ..)) a)
theorem Jf0:∀(l:Reg) (z:Zs),(Q0 (l.foldl zRow z)).length=(Q0 z).length+(l.flatMap rowC).length
 | [],z=>by simp
 | w::l,z=>by rw [Bt,Jf0 l,zRow_len,Ap,Ab];omega
noncomputable abbrev putX [W] {α:Type} (A:List Kj) (C l:List Cell) (mk:List Kj->List Cell->Option α):Option α:=
 br (cm .geq (ar .sub .i64 (ln A) 1) 0) (gd (ib (ar .sub .i64 (ln A) 1) (ln A)) <|
 ge A (ar .sub .i64 (ln A) 1) λv5=>
 gd (cm .eql (pl (ar .sub .i64 (ln A) 1) 1) (ln A)) <|
 ge A (ar .sub .i64 (ln A) 1) λv6=>
 gd (cm .eql (pl (ar .sub .i64 (ln A) 1) 1) (ln A)) <|
 gd (ib (ar .sub .i64 (ln C) 1) (ln C)) <|
 ge C (ar .sub .i64 (ln C) 1) λv7=>
 gd (ib 0 (ln l)) <|
 ge l 0 λv8=>
 call Qo (((v7.1,v7.2),(v8.1,v8.2)):((Int×Int)×(Int×Int))) λ(v9:Bool)=>
 br v9 (ge A (ar .sub .i64 (ln A) 1) λv10=>
 gd (cm .eql (pl (ar .sub .i64 (ln A) 1) 1) (ln A)) <|
 br (cm .leq (ar .add .i64 (ln C) (ln l)) 65536) (ge A (ar .sub .i64 (ln A) 1) λv11=>
 gd (cm .eql (pl (ar .sub .i64 (ln A) 1) 1) (ln A)) <|
 gd (ft 16 (pl (ln C) (ln l))) <|
 ge A (ar .sub .i64 (ln A) 1) λv12=>
 gd (cm .eql (pl (ar .sub .i64 (ln A) 1) 1) (ln A)) <|
 mk (st A (ar .sub .i64 (ln A) 1) (v12.1,(v12.2.1,v12.2.2))) (ap C l))
 (gd (ft 40 (pl (ln A) 1)) <|
 mk (ap (ml A λy=>(y.1,(y.2.1,C))) ((3,(false,[]))::[])) l))
 (gd (ft 40 (pl (ln A) 1)) <|
 mk (ap (ml A λy=>(y.1,(y.2.1,C))) ((3,(false,[]))::[])) l))
 (gd (ft 40 (pl (ln A) 1)) <|
 mk (ap (ml A λy=>(y.1,(y.2.1,C))) ((3,(false,[]))::[])) l)
theorem Jsa{C:List Cell}(h:C≠[]):C[C.length - 1]?=some (C.getD (C.length - 1) (0,0)):=by have:=Af.2 h;rw [Az,Aa (by omega)];rfl
theorem Jkm{l:List Cell}(h:l≠[]):l[0]?=some (l.getD 0 (0,0)):=by have:=Af.2 h;rw [Az,Aa (by omega)];rfl
theorem Jwq{α:Type}{z:Zs}{l:List Cell}(r:zOK z)(hl:l≠[])(E:(Q0 z).length+l.length<=1000000000)(mk:List Kj->List Cell->Option α) :
  @putX wv α (zA z) (zC z) l mk=mk (zA (zPut z l)) (zC (zPut z l)):=by
 have d:=r.le;have v:=Af.2 hl;rcases z with _|⟨O,C⟩
 ·unfold putX;dsimp only [zA,zC,zPut];have e:@W.cm wv .geq (@W.ar wv .sub .i64 (@W.ln wv Kj []) 1) 0=false:=by decide
  rw [br_f e,Jzo (by rw [w_pl,w_ln];simp) (by rw [w_pl,w_ln];simp)];rfl
 ·have hC:C≠[]:=r (3,(false,C)) (Av _ (Bd _));have hCp:=Af.2 hC;have hT:O.length+1<=(Q0 (some (O,C))).length:=by have:=d.1;simpa only [zT,Ab,As] using this
  have hCl:C.length<=(Q0 (some (O,C))).length:=d.2 (3,(false,C)) (Av _ (Bd _));unfold putX;dsimp only [zA,zC];have A:@W.ar wv .sub .i64 ((O.length:Int)+1) 1=(O.length:Int):=by rw [Zo,wr (by omega) (by omega)];omega
  have B:@W.ln wv _ (O++[((3,(false,[])):Kj)])=(O.length:Int)+1:=by rw [w_ln,Ab,As];omega
  have w:@W.ar wv .sub .i64 (@W.ln wv _ C) 1=((C.length - 1:Nat):Int):=by rw [w_ln,Zo,wr (by omega) (by omega)];omega
  simp only [B,A,w];have f:fget (O++[((3,(false,[])):Kj)]) (O.length:Int)=some (3,(false,[])):=fg (Jdk O _);have a:@W.cm wv .eql (@W.pl wv (O.length:Int) 1) ((O.length:Int)+1)=true:=by rw [Yf,w_pl];simp
  rw [br_t (by rw [Je1];exact decide_eq_true (by omega)),Jcs (by omega),ge_s f,gd_t a,ge_s f,gd_t a,w_ln,Jcs (by omega),ge_s (fg (Jsa hC)),w_ln,Jcs (by omega),ge_s (fg0 (Jkm hl)),k_near];have g:∀ {β:Type} (x:Option β),@W.gd wv β (@W.ft wv 40 (@W.pl wv ((O.length:Int)+1) 1)) x=x:=λx=>Jzo (by rw [w_pl];omega) (by rw [w_pl];omega);have h:@W.ap wv _ (@W.ml wv _ (O++[((3,(false,[])):Kj)]) λy=>(y.1,(y.2.1,C))) ((3,(false,[]))::[])=(O++[(3,(false,C))])++[(3,(false,[]))]:=by rw [w_ap,w_ml,Q9]
  cases o:Jvp (C.getD (C.length - 1) (0,0)) (l.getD 0 (0,0)) with
  | false=>
   rw [br_f rfl,g,h];simp only [zPut,Jzy,o,Bool.false_and,Bool.false_eq_true,if_false,zA,zC]
  | true=>
   rw [br_t rfl,ge_s f,gd_t a,Kz,wr (by omega) (by omega)];by_cases m:(C.length:Int)+(l.length:Int)<=65536
   ·rw [br_t (by rw [Jgn];exact decide_eq_true m),ge_s f,gd_t a,Jeb (by rw [w_pl];omega) (by rw [w_pl];omega),ge_s f,gd_t a,w_st,Ba,Jdw];simp only [zPut,Jzy,o,Bool.true_and,decide_eq_true m,if_true,zA,zC];rfl
   ·rw [br_f (by rw [Jgn];exact decide_eq_false m),g,h];simp only [zPut,Jzy,o,Bool.true_and,decide_eq_false m,Bool.false_eq_true,if_false,zA,zC]
theorem zline_L3(y a b:Int)(E:-4611686018427387904<=a)(B:b<=4611686018427387904)(A:b - a<=1000000000)(o:Reg)(m l:Int)(h:List Run)(g f r s10:Int)(s11:List Run)(s12:List Kj)(s13:List Cell) :
  Xu (@Xp wv) bigN ⟨y,a,o,m,l,h,g,f,r,b,s10,s11,s12,s13,[],()⟩=some ⟨o,m,l,h,g,f,Qq y (a,b),s10,s11,s12,s13,()⟩:=by
 have d:=Kt (b:=@Xp wv) (e:=⟨o,m,l,h,g,f,Qq y (a,b),s10,s11,s12,s13,()⟩) (λi=>⟨y,a+(i:Int),o,m,l,h,g,f,r,b,s10,s11,s12,s13,(rng a i).map λx=>(x,y),()⟩) (b - a).toNat (by omega) (λi w=>by unfold Xp;dsimp only;rw [Qz (by omega),w_ln,w_pl,Jeb (by rw [Ai,Jnx];omega) (by omega),Kz,wr (by omega) (by omega),w_ap,Jgg,show a+(i:Int)+1=a+((i+1:Nat):Int) by omega]) (by unfold Xp;dsimp only;rw [Kb (by omega)];rfl)
 have v:a+((0:Nat):Int)=a:=by omega
 simp only [v] at d;exact d
theorem zline_L5(y a b:Int)(E:-4611686018427387904<=a)(B:b<=4611686018427387904)(A:b - a<=1000000000)(o:Int)(m:Reg)(l h r:Int)(g:List Run)(f:Int)(s10:List Run)(s11:List Kj)(s12:List Cell) :
  Xu (@Xm wv) bigN ⟨y,a,o,m,l,h,r,b,g,f,s10,s11,s12,[],()⟩=some ⟨o,m,l,h,Qq y (a,b),g,f,s10,s11,s12,()⟩:=by
 have d:=Kt (b:=@Xm wv) (e:=⟨o,m,l,h,Qq y (a,b),g,f,s10,s11,s12,()⟩) (λi=>⟨y,a+(i:Int),o,m,l,h,r,b,g,f,s10,s11,s12,(rng a i).map λx=>(x,y),()⟩) (b - a).toNat (by omega) (λi w=>by unfold Xm;dsimp only;rw [Qz (by omega),w_ln,w_pl,Jeb (by rw [Ai,Jnx];omega) (by omega),Kz,wr (by omega) (by omega),w_ap,Jgg,show a+(i:Int)+1=a+((i+1:Nat):Int) by omega]) (by unfold Xm;dsimp only;rw [Kb (by omega)];rfl)
 have v:a+((0:Nat):Int)=a:=by omega
 simp only [v] at d;exact d
def rvS(l:List Cell)(m:Nat):List Cell:=(List.range l.length).map λt=>l.getD (if t<m\/l.length - m<=t then l.length - 1 - t else t) (0,0)
theorem Jdb(l:List Cell)(m:Nat):(rvS l m).length=l.length:=by simp [rvS]
theorem Jg3(l:List Cell)(m:Nat){t:Nat}(h:t<l.length):(rvS l m)[t]?=some (l.getD (if t<m\/l.length - m<=t then l.length - 1 - t else t) (0,0)):=by simp only [rvS,List.getElem?_map,List.getElem?_range h,Option.map_some]
theorem Jnd{l:List Cell}{t:Nat}(h:t<l.length):l[t]?=some (l.getD t (0,0)):=by rw [Az,Aa h];rfl
theorem rvS_zero(l:List Cell):rvS l 0=l:=by
 refine Bq λt=>?_;by_cases h:t<l.length
 ·rw [Jg3 l 0 h,if_neg (by omega),Jnd h]
 ·rw [Ax (by rw [Jdb];omega),Ax (by omega)]
theorem rvS_fin(l:List Cell):rvS l (l.length / 2)=l.reverse:=by
 refine Bq λt=>?_;by_cases h:t<l.length
 ·rw [Jg3 l _ h,Bp h,Jnd (by omega)];split
  ·rfl
  ·rw [show l.length - 1 - t=t by omega]
 ·rw [Ax (by rw [Jdb];omega),Ax (by rw [Bc];omega)]
theorem rvS_step(l:List Cell)(m:Nat)(h:2 * m+1<l.length):((rvS l m).set m (l.getD (l.length - 1 - m) (0,0))).set (l.length - 1 - m) (l.getD m (0,0))=rvS l (m+1):=by
 refine Bq λt=>?_;by_cases d:t<l.length
 ·rw [Jg3 l (m+1) d,List.getElem?_set,List.getElem?_set,Bj,Jdb,Jg3 l m d];by_cases f:l.length - 1 - m=t
  ·rw [if_pos f,if_pos (by omega),if_pos (by omega),show l.length - 1 - t=m by omega]
  ·rw [if_neg f];by_cases a:m=t
   ·rw [if_pos a,if_pos (by omega),if_pos (by omega),a]
   ·rw [if_neg a]
    congr 2
    by_cases e:t<m\/l.length - m<=t
    ·rw [if_pos e,if_pos (by omega)]
    ·rw [if_neg e,if_neg (by omega)]
 ·rw [Ax (by rw [Bj,Bj,Jdb];omega),Ax (by rw [Jdb];omega)]
theorem zrev_L6(l:List Cell)(hl:l.length<=1000000000)(v:Int)(r:Reg)(o h:Int)(g:List Run)(f:Int)(d:List Run)(s10:List Kj)(s11:List Cell) :
  Xu (@Xn wv) bigN ⟨0,(l.length:Int) - 1,v,r,o,h,l,g,f,d,s10,s11,()⟩=some ⟨v,r,o,h,l.reverse,g,f,d,s10,s11,()⟩:=by
 have a:=Kt (b:=@Xn wv) (e:=⟨v,r,o,h,l.reverse,g,f,d,s10,s11,()⟩) (λm=>⟨(m:Int),(l.length:Int) - 1 - (m:Int),v,r,o,h,rvS l m,g,f,d,s10,s11,()⟩) (l.length / 2) (by omega) (λm F=>by
  have w:2 * m+1<l.length:=by omega
  have ej:(l.length:Int) - 1 - (m:Int)=((l.length - 1 - m:Nat):Int):=by omega
  have B:fget (rvS l m) ((l.length - 1 - m:Nat):Int)=some (l.getD (l.length - 1 - m) (0,0)):=fg (by rw [Jg3 l m (by omega),if_neg (by omega)]);have y:fget (rvS l m) (m:Int)=some (l.getD m (0,0)):=fg (by rw [Jg3 l m (by omega),if_neg (by omega)]);unfold Xn;dsimp only;rw [ej,Qz (by omega),w_ln,Jdb,Jcs (by omega),ge_s B,Jcs (by omega),ge_s y,Jcs (by omega),ge_s y];rw [w_st,Ba,w_ln,Bj,Jdb,Jcs (by omega)];have A:∃x,fget ((rvS l m).set m ((l.getD (l.length - 1 - m) (0,0)).1,(l.getD (l.length - 1 - m) (0,0)).2)) ((l.length - 1 - m:Nat):Int)=some x:=⟨_,fg (Jnd (by rw [Bj,Jdb];omega))⟩;obtain ⟨x,hx⟩:=A;rw [ge_s hx,w_st,Ba,Kz,wr (by omega) (by omega),Zo,wr (by omega) (by omega),show (((l.getD (l.length - 1 - m) (0,0)).1,(l.getD (l.length - 1 - m) (0,0)).2):Cell)=l.getD (l.length - 1 - m) (0,0) from rfl,show (((l.getD m (0,0)).1,(l.getD m (0,0)).2):Cell)=l.getD m (0,0) from rfl,rvS_step l m w,show ((l.length - 1 - m:Nat):Int) - 1=(l.length:Int) - 1 - ((m+1:Nat):Int) by omega];rfl) (by unfold Xn;dsimp only;rw [Kb (by omega),rvS_fin])
 have E:(l.length:Int) - 1 - ((0:Nat):Int)=(l.length:Int) - 1:=by omega
 simp only [E,rvS_zero] at a;exact a
noncomputable def zFwd(w:Row)(z:Zs)(k:Nat):Zs:=((w.2.take k).map (Qq w.1)).foldl zPut z
noncomputable def zBwd(w:Row)(z:Zs)(k:Nat):Zs:=((w.2.reverse.take k).map λu=>(Qq w.1 u).reverse).foldl zPut z
theorem Jxe{w:Row}(z:Zs){k:Nat}{u:Run}(h:w.2[k]?=some u):zFwd w z (k+1)=zPut (zFwd w z k) (Qq w.1 u):=by rw [zFwd,js h,Bm];rfl
theorem Jxw{w:Row}(z:Zs){k:Nat}{u:Run}(h:w.2.reverse[k]?=some u):zBwd w z (k+1)=zPut (zBwd w z k) (Qq w.1 u).reverse:=by rw [zBwd,js h,Bm];rfl
theorem zFwd_ok{w:Row}{lo e:Int}(h:RunsOK lo e w.2){z:Zs}(a:zOK z)(k:Nat):zOK (zFwd w z k):=Jht _ a λl hl=>by obtain ⟨u,d,rfl⟩:=Ah.1 hl;exact Jdh h (Bg d)
theorem zBwd_ok{w:Row}{lo f:Int}(h:RunsOK lo f w.2){z:Zs}(a:zOK z)(k:Nat):zOK (zBwd w z k):=Jht _ a λl hl=>by obtain ⟨u,d,rfl⟩:=Ah.1 hl;intro e;exact Jdh h (Aw.1 (Bg d)) (Bk.1 e)
theorem zFwd_len{w:Row}(z:Zs){k:Nat}{u:Run}(h:w.2[k]?=some u):(Q0 (zFwd w z k)).length+(Qq w.1 u).length<=(Q0 z).length+(rowC w).length:=by have:=Qv (Qq w.1) h;rw [zFwd,Jat,Ab,<-Bo];unfold rowC;omega
theorem Jpu{α β:Type}(f:α->List β)(l:List α):(l.reverse.flatMap λu=>(f u).reverse).length=(l.flatMap f).length:=by rw [Bo];exact Jct f l
theorem zBwd_len{w:Row}(z:Zs){k:Nat}{u:Run}(h:w.2.reverse[k]?=some u):(Q0 (zBwd w z k)).length+(Qq w.1 u).reverse.length<=(Q0 z).length+(rowC w).length:=by have:=Qv (λu=>(Qq w.1 u).reverse) h;rw [Jpu] at this;rw [zBwd,Jat,Ab,<-Bo];unfold rowC;omega
theorem zig_even{w:Row}(h:RunsOK (-4096) 4096 w.2)(m:w.1 % 2=0)(y:w.2.length<=1000000000){z:Zs}(l:zOK z)(B:(Q0 z).length+(rowC w).length<=1000000000)(r:Reg)(n i:Int) :
  Xu (@Xs wv) bigN ⟨r,n,i,w.2,(w.2.length:Int),0,w.1,w.2,zA z,zC z,()⟩=some ⟨r,n,i,zA (zRow z w),zC (zRow z w),()⟩:=by
 have a:=Kt (b:=@Xs wv) (e:=⟨r,n,i,zA (zFwd w z w.2.length),zC (zFwd w z w.2.length),()⟩) (λk=>⟨r,n,i,w.2,(w.2.length:Int),(k:Int),w.1,w.2,zA (zFwd w z k),zC (zFwd w z k),()⟩) w.2.length (by omega) (λk o=>by
  have f:=Aa o;generalize w.2[k]=u at f;have d:=Ac f;have E:=h.bd u d;have hl:=zFwd_len z f;have hJ:@jj wv ⟨r,n,i,w.2,(w.2.length:Int),(k:Int),w.1,w.2,zA (zFwd w z k),zC (zFwd w z k),()⟩=some ⟨r,n,i,w.2,(w.2.length:Int),(k:Int),w.1,w.2,zA (zFwd w z (k+1)),zC (zFwd w z (k+1)),()⟩:=by unfold jj;dsimp only;rw [ge_s (fg f)];refine (lo_s (zline_L3 w.1 u.1 u.2 (by omega) (by omega) (by omega) ..)).trans ?_;have g:=Jwq (zFwd_ok h l k) (Jdh h d) (by omega) λ(A:List Kj) (C:List Cell)=>some (⟨r,n,i,w.2,(w.2.length:Int),(k:Int),w.1,w.2,A,C,()⟩:HP Reg (HP Int (HP Int (HP (List Run) (HP Int (HP Int (HP Int (HP (List Run) (HP (List Kj) (HP (List Cell) Unit))))))))));dsimp only [putX] at g ⊢;rw [Jxe z f,show ((u.1,u.2):Run)=u from rfl];exact g
  unfold Xs;dsimp only;rw [Qz (by omega)];refine (jo_s hJ).trans ?_;dsimp only;rw [Kz,wr (by omega) (by omega)];rfl) (by unfold Xs;dsimp only;rw [Kb (by omega)])
 have v:zFwd w z w.2.length=zRow z w:=by rw [zFwd,Ad,zRow,Jdc,if_pos m]
 rw [v] at a;exact a
theorem zig_odd{w:Row}(h:RunsOK (-4096) 4096 w.2)(v:¬w.1 % 2=0)(G:w.2.length<=1000000000){z:Zs}(o:zOK z)(H:(Q0 z).length+(rowC w).length<=1000000000)(r:Reg)(n i:Int) :
  Xu (@Xj wv) bigN ⟨(w.2.length:Int) - 1,r,n,i,w.2,w.1,w.2,zA z,zC z,()⟩=some ⟨r,n,i,w.1,w.2,zA (zRow z w),zC (zRow z w),()⟩:=by
 have a:=Kt (b:=@Xj wv) (e:=⟨r,n,i,w.1,w.2,zA (zBwd w z w.2.length),zC (zBwd w z w.2.length),()⟩) (λk=>⟨(w.2.length:Int) - 1 - (k:Int),r,n,i,w.2,w.1,w.2,zA (zBwd w z k),zC (zBwd w z k),()⟩) w.2.length (by omega) (λk y=>by
  have d:w.2.reverse[k]?=some w.2[w.2.length - 1 - k]:=by rw [Bp y,Aa]
  have g:w.2[w.2.length - 1 - k]?=some w.2[w.2.length - 1 - k]:=Aa _;generalize w.2[w.2.length - 1 - k]=u at g d;have f:=Ac g;have J:=h.bd u f;have hl:=zBwd_len z d;have m:=Y7 w.1 u;have ek:(w.2.length:Int) - 1 - (k:Int)=((w.2.length - 1 - k:Nat):Int):=by omega
  unfold Xj;dsimp only;rw [br_t (by rw [Je1];exact decide_eq_true (by omega)),ek,ge_s (fg g)];refine (lo_s (zline_L5 w.1 u.1 u.2 (by omega) (by omega) (by omega) ..)).trans ?_;dsimp only;rw [show ((u.1,u.2):Run)=u from rfl,w_ln,Zo,wr (by omega) (by omega)];refine (lo_s (zrev_L6 (Qq w.1 u) (by omega) ..)).trans ?_;have l:=Jwq (zBwd_ok h o k) (λe=>Jdh h f (Bk.1 e)) (by omega) λ(A:List Kj) (C:List Cell)=>some (Nx.go (B:=HP Reg (HP Int (HP Int (HP Int (HP (List Run) (HP (List Kj) (HP (List Cell) Unit))))))) (⟨@W.ar wv .sub .i64 ((w.2.length - 1 - k:Nat):Int) 1,r,n,i,w.2,w.1,w.2,A,C,()⟩:HP Int (HP Reg (HP Int (HP Int (HP (List Run) (HP Int (HP (List Run) (HP (List Kj) (HP (List Cell) Unit))))))))));dsimp only [putX] at l ⊢;rw [Jxw z d];refine l.trans ?_;rw [Zo,wr (by omega) (by omega),show ((w.2.length - 1 - k:Nat):Int) - 1=(w.2.length:Int) - 1 - ((k+1:Nat):Int) by omega]) (by unfold Xj;dsimp only;rw [br_f (by rw [Je1];exact decide_eq_false (by omega))])
 have F:(w.2.length:Int) - 1 - ((0:Nat):Int)=(w.2.length:Int) - 1:=by omega
 have E:zBwd w z w.2.length=zRow z w:=by rw [zBwd,Br (by rw [Bc];omega),zRow,Jdc,if_neg v]
 simp only [F,E] at a;exact a
noncomputable def zigT(r:Reg):List Kj:=zT (r.foldl zRow none)
theorem Jza:zOK none:=λt a=>by cases a
theorem zig_fin(z:Zs):@W.ml wv _ (zA z) (λy=>(y.1,(y.2.1,zC z)))=zT z:=by
 rcases z with _|⟨O,C⟩
 ·rfl
 ·rw [w_ml];exact Q9 _ _ O
open Classical in
theorem Jwm(r:Reg)(hl:LimR r)(m:RegOK r->(J7 r).length<=1000000000):@X6 wv r=some (if RegOK r then zigT r else []):=by
 unfold X6;rw [X5 hl];by_cases h:RegOK r
 case neg=>rw [br_t (by simp [w_nt,h]),if_neg h]
 rw [br_f (by simp [w_nt,h]),if_pos h];have hL:=hl.1;have m:=m h;have f:=Kt (b:=@Yu wv) (e:=⟨zA (r.foldl zRow none),zC (r.foldl zRow none),()⟩) (λi=>⟨r,(r.length:Int),(i:Int),zA ((r.take i).foldl zRow none),zC ((r.take i).foldl zRow none),()⟩) r.length (by omega) (λi A=>by
  have g:=Aa A;generalize r[i]=w at g;have d:=Ac g;have hLw:=hl.2 w d;have o:zOK ((r.take i).foldl zRow none):=Jnp _ (λv y=>h.rs v (Bg y)) Jza;have a:(Q0 ((r.take i).foldl zRow none)).length+(rowC w).length<=1000000000:=by rw [Jf0];have:=Qv rowC g;unfold J7 at m;simp only [Q0,zT,Bn,Bh];omega
  have hs:(r.take (i+1)).foldl zRow none=zRow ((r.take i).foldl zRow none) w:=by rw [Q6 g,Bm];rfl
  unfold Yu;dsimp only;rw [Qz (by omega),ge_s (fg g),Jtf (by omega) (by omega),hs];by_cases l:w.1 % 2=0
  ·rw [br_t (by rw [Yf];simp [l])];refine (lo_s (zig_even (h.rs w d) l hLw o a r (r.length:Int) (i:Int))).trans ?_;dsimp only;rw [Kz,wr (by omega) (by omega)];rfl
  ·rw [br_f (by rw [Yf];simp [l]),w_ln,Zo,wr (by omega) (by omega)];refine (lo_s (zig_odd (h.rs w d) l hLw o a r (r.length:Int) (i:Int))).trans ?_;dsimp only;rw [Kz,wr (by omega) (by omega)];rfl) (by unfold Yu;dsimp only;rw [Kb (by omega),Ad])
 refine (lo_s f).trans ?_;exact congrArg some (zig_fin _)
open Classical in
theorem k_Zigzag{α:Type}{r:Reg}(hl:LimR r)(a:RegOK r->(J7 r).length<=1000000000)(k:List (Int×(Bool×List (Int×Int)))->Option α):@W.call wv α K7 r k=k (if RegOK r then zigT r else []):=ca_s (c:=K7) (Jwm r hl a)
theorem Jpg{y:Int}{u:Run}{i:Nat}{c:Cell}(h:(Qq y u)[i]?=some c):c=(u.1+(i:Int),y)/\i<(u.2 - u.1).toNat:=by have a:=(Bb.1 h).1;rw [Y7] at a;refine ⟨?_,a⟩;simp only [Qq,rng,List.getElem?_map,Option.map_eq_some_iff] at h;obtain ⟨x,⟨j,e,rfl⟩,rfl⟩:=h;have:=Bb.1 e;obtain ⟨f,d⟩:=this;rw [List.getElem_range] at d;subst d;rfl
structure Walk (l:List Cell):Prop where
 gr:∀c∈l,grid c
 nx:∀i a b,l[i]?=some a->l[i+1]?=some b->nb a b
theorem nb_symm{a b:Cell}(h:nb a b):nb b a:=by
 unfold nb at *
 rw [show b.1 - a.1=-(a.1 - b.1) by omega,show b.2 - a.2=-(a.2 - b.2) by omega,Int.neg_mul_neg,Int.neg_mul_neg];exact h
theorem near_nb{a b:Cell}(f:grid a)(e:grid b):Jvp a b=decide (nb a b):=by unfold grid at f e;have h:=sq_bd (d:=a.1 - b.1) (by omega) (by omega);have g:=sq_bd (d:=a.2 - b.2) (by omega) (by omega);unfold Jvp zf;dsimp only [Option.getD_some];simp only [Kz,Jwe,Zo,Yf];rw [wr (n:=a.1 - b.1) (by omega) (by omega),wr (n:=a.2 - b.2) (by omega) (by omega),wr (n:=(a.1 - b.1) * (a.1 - b.1)) (by omega) (by omega),wr (n:=(a.2 - b.2) * (a.2 - b.2)) (by omega) (by omega),wr (by omega) (by omega)];rfl
theorem walk_app{C l:List Cell}(hC:Walk C)(hl:Walk l)(h:∀a b,C[C.length - 1]?=some a->l[0]?=some b->nb a b):Walk (C++l):=by
 refine ⟨λc f=>?_,λi a b e d=>?_⟩
 ·rcases Ag.1 f with q|q
  ·exact hC.gr c q
  ·exact hl.gr c q
 ·by_cases g:i+1<C.length
  ·rw [Aq (by omega)] at e;rw [Aq g] at d;exact hC.nx i a b e d
  ·by_cases m:i+1=C.length
   ·rw [Aq (by omega)] at e;rw [Ar (by omega),show i+1 - C.length=0 by omega] at d;exact h a b (by rw [show C.length - 1=i by omega];exact e) d
   ·rw [Ar (by omega)] at e;rw [Ar (by omega),show i+1 - C.length=i - C.length+1 by omega] at d;exact hl.nx _ a b e d
theorem walk_rev{l:List Cell}(h:Walk l):Walk l.reverse:=by refine ⟨λc f=>h.gr c (Aw.1 f),λi a b e d=>?_⟩;have g:=(Bb.1 d).1;rw [Bc] at g;rw [Bp (by omega)] at e d;refine nb_symm (h.nx (l.length - 1 - (i+1)) b a d ?_);rw [show l.length - 1 - (i+1)+1=l.length - 1 - i by omega];exact e
theorem Jph{r:Reg}(h:RegOK r){w:Row}(f:w∈r){u:Run}(g:u∈w.2):Walk (Qq w.1 u):=by
 have y:=(h.rs w f).bd u g;have v:=h.y w f;refine ⟨λc l=>?_,λi a b m d=>?_⟩
 ·obtain ⟨e,o⟩:=Jh2.1 l;unfold grid;omega
 ·obtain ⟨rfl,o⟩:=Jpg m;obtain ⟨rfl,A⟩:=Jpg d;unfold nb;dsimp only;rw [show u.1+(i:Int) - (u.1+((i+1:Nat):Int))=-1 by omega,Int.sub_self];rfl
theorem VT_walk{l:List Cell}(h:Walk l)(f:l≠[])(hl:l.length<=65536):VT (3,(false,l)):=by have:=Af.2 f;refine ⟨by dsimp only;omega,⟨by dsimp only;omega,hl⟩,λi g c a=>⟨h.gr c (Ac a),λp d e=>?_⟩,λq=>by cases q⟩;exact h.nx (i - 1) p c e (by rw [show i - 1+1=i by omega];exact a)
def zV(z:Zs):Prop:=∀t∈zT z,t.1=3/\t.2.1=false/\t.2.2≠[]/\t.2.2.length<=65536/\Walk t.2.2
theorem zPut_V{z:Zs}{l:List Cell}(h:zV z)(m:l≠[])(hl:l.length<=65536)(g:Walk l):zV (zPut z l):=by
 have o:(3:Int)=3/\false=false/\l≠[]/\l.length<=65536/\Walk l:=⟨rfl,rfl,m,hl,g⟩;rcases z with _|⟨O,C⟩
 ·intro t d;simp only [zPut,zT,List.nil_append,Ae] at d;rw [d];exact o
 ·have hO:∀t∈O,t.1=3/\t.2.1=false/\t.2.2≠[]/\t.2.2.length<=65536/\Walk t.2.2:=λt d=>h t (Ak _ d);obtain ⟨-,-,hC0,hCl,hCw⟩:=h (3,(false,C)) (Av _ (Bd _));dsimp only at hC0 hCl hCw;simp only [zPut];split
  ·rename_i f;unfold Jzy at f;rw [Bool.and_eq_true,decide_eq_true_eq] at f;intro t d;rcases Ag.1 d with q|q
   ·exact hO t q
   ·rw [Ae.1 q];refine ⟨rfl,rfl,λe=>hC0 (Bs.1 e).1,by rw [Ab];omega,walk_app hCw g λa b v r=>?_⟩;rw [Jsa hC0] at v;rw [Jkm m] at r;injection v with y;injection r with w;rw [y,w] at f;have ga:grid a:=hCw.gr a (by rw [<-y];exact Ac (Jsa hC0));have gb:grid b:=g.gr b (by rw [<-w];exact Ac (Jkm m));have:=f.1;rw [near_nb ga gb] at this;exact of_decide_eq_true this
  ·intro t d;rcases Ag.1 d with q|q
   ·rcases Ag.1 q with q|q
    ·exact hO t q
    ·rw [Ae.1 q];exact ⟨rfl,rfl,hC0,hCl,hCw⟩
   ·rw [Ae.1 q];exact o
theorem Jzh:∀(ls:List (List Cell)) {z:Zs},zV z->(∀l∈ls,l≠[]/\l.length<=65536/\Walk l)->zV (ls.foldl zPut z)
 | [],_,h,_=>h
 | l::ls,z,h,hl=>by obtain ⟨f,e,d⟩:=hl l (Al ..);exact Jzh ls (zPut_V h f e d) λm a=>hl m (Aj _ a)
theorem zLines_V{r:Reg}(h:RegOK r){w:Row}(e:w∈r):∀l∈Jdc w,l≠[]/\l.length<=65536/\Walk l:=by
 intro l hl;have d:∀u∈w.2,(Qq w.1 u).length<=65536:=λu a=>by have:=(h.rs w e).bd u a;rw [Y7];omega
 refine ⟨Jqm (h.rs w e) l hl,?_⟩;unfold Jdc at hl;split at hl
 ·obtain ⟨u,a,rfl⟩:=Ah.1 hl;exact ⟨d u a,Jph h e a⟩
 ·obtain ⟨u,a,rfl⟩:=Ah.1 hl;have a:=Aw.1 a;exact ⟨by rw [Bc];exact d u a,walk_rev (Jph h e a)⟩
theorem Jzv{r:Reg}(h:RegOK r):∀(l:Reg) {z:Zs},(∀w∈l,w∈r)->zV z->zV (l.foldl zRow z)
 | [],_,_,a=>a
 | w::l,z,d,a=>Jzv h l (λv e=>d v (Aj _ e)) (Jzh _ a (zLines_V h (d w (Al ..))))
theorem zigT_V{r:Reg}(h:RegOK r){t:Kj}(d:t∈zigT r):VT t/\t.1=3:=by obtain ⟨m,l,g,f,e⟩:=Jzv h r (λ_ o=>o) (z:=none) (λt d=>by cases d) t d;obtain ⟨a,b,c⟩:=t;dsimp only at m l g f e;subst m;subst l;exact ⟨VT_walk e g f,rfl⟩
theorem Ju1{w:Row}{c:Cell}:c∈(Jdc w).flatten↔c∈rowC w:=by
 unfold Jdc rowC;rw [List.mem_flatten,Ao];split
 ·constructor
  ·rintro ⟨l,hl,d⟩;obtain ⟨u,a,rfl⟩:=Ah.1 hl;exact ⟨u,a,d⟩
  ·rintro ⟨u,a,d⟩;exact ⟨_,Ah.2 ⟨u,a,rfl⟩,d⟩
 ·constructor
  ·rintro ⟨l,hl,d⟩;obtain ⟨u,a,rfl⟩:=Ah.1 hl;exact ⟨u,Aw.1 a,Aw.1 d⟩
  ·rintro ⟨u,a,d⟩;exact ⟨_,Ah.2 ⟨u,Aw.2 a,rfl⟩,Aw.2 d⟩
theorem Jo0{c:Cell}:∀(l:Reg) (z:Zs),c∈Q0 (l.foldl zRow z)↔c∈Q0 z\/c∈l.flatMap rowC
 | [],z=>by simp
 | w::l,z=>by rw [Bt,Jo0 l,zRow,Jat,Ag,Ju1,Ap,Ag,or_assoc]
theorem Jy0{r:Reg}(h:RegOK r)(c:Cell):(∃t∈zigT r,VT t/\c∈t.2.2)↔Xi r c:=by
 have e:=Jo0 (c:=c) r none;rw [<-Jaq];constructor
 ·rintro ⟨t,d,-,a⟩;rcases e.1 (Ao.2 ⟨t,d,a⟩) with q|q
  ·simp only [Q0,zT,Bn] at q;cases q
  ·exact q
 ·intro a;obtain ⟨t,d,a⟩:=Ao.1 (e.2 (.inr a));exact ⟨t,d,(zigT_V h d).1,a⟩
theorem zig_len(r:Reg):((zigT r).flatMap λt=>t.2.2).length=(J7 r).length:=by have:=Jf0 r none;simp only [Q0,zT,Bn,Bh,Nat.zero_add] at this;exact this
def Jg8(l:List Run):Nat:=(l.flatMap (Qq 0)).length
theorem Jr2(w:Row):(rowC w).length=Jg8 w.2:=by
 unfold rowC Jg8;generalize w.2=l
 induction l with
 | nil=>rfl
 | cons u l a=>rw [Ap,Ap,Ab,Ab,a,Y7,Y7]
theorem Jk8(l:List Run)(h:RunsOK (-1048576) 1048576 l)(hl:l.length<=1000000000)(f:Jg8 l<=1000000000):@zy wv l=some ((Jg8 l:Nat):Int):=by
 have a:=Kt (b:=@Zg wv) (e:=⟨((Jg8 l:Nat):Int),()⟩) (λi=>⟨((((l.take i).flatMap (Qq 0)).length:Nat):Int),l,(l.length:Int),(i:Int),()⟩) l.length (by omega) (λi o=>by
  have d:=Aa o;generalize l[i]=u at d;have r:=h.bd u (Ac d);have m:=Qv (Qq 0) d;have g:=Y7 0 u;unfold Jg8 at f;unfold Zg;dsimp only;rw [Qz (by omega),ge_s (fg d),Zo,Kz,Kz,wr (n:=u.2 - u.1) (by omega) (by omega),wr (by omega) (by omega),wr (n:=(i:Int)+1) (by omega) (by omega),ze d,Ab,show ((((l.take i).flatMap (Qq 0)).length:Nat):Int)+(u.2 - u.1)=((((l.take i).flatMap (Qq 0)).length+(Qq 0 u).length:Nat):Int) by omega];rfl) (by unfold Zg;dsimp only;rw [Kb (by omega),Ad];rfl)
 unfold zy;rw [zj hl,br_f (by simp [w_nt,h])];exact lo_s a
theorem Count_ok(r:Reg)(hl:LimR r)(h:RegOK r)(v:(J7 r).length<=1000000000):@Y9 wv r=some (((J7 r).length:Nat):Int):=by
 have hL:=hl.1;have d:=Kt (b:=@Yy wv) (e:=⟨(((J7 r).length:Nat):Int),()⟩) (λi=>⟨((((r.take i).flatMap rowC).length:Nat):Int),r,(r.length:Int),(i:Int),()⟩) r.length (by omega) (λi o=>by
  have f:=Aa o;generalize r[i]=w at f;have a:=Ac f;have m:=Qv rowC f;have g:=Jr2 w;unfold J7 at v;have l:RunsOK (-1048576) 1048576 w.2:=⟨λx hx=>by have:=(h.rs w a).bd x hx;omega,(h.rs w a).pw⟩;unfold Yy;dsimp only;rw [Qz (by omega),ge_s (fg f)];refine (ca_s (c:=Zy) (Jk8 w.2 l (hl.2 w a) (by omega))).trans ?_;rw [Kz,Kz,wr (by omega) (by omega),wr (n:=(i:Int)+1) (by omega) (by omega),ze f,Ab,g];rfl) (by unfold Yy;dsimp only;rw [Kb (by omega),Ad];rfl)
 unfold Y9;rw [X5 hl,br_f (by simp [w_nt,h])];exact lo_s d
open Classical in
theorem Jhm(l:List Run)(x:Int)(hl:l.length<=1000000000):@Zr wv (l,x)=some (decide (RunsOK (-1048576) 1048576 l/\Jt l x)):=by
 unfold Zr;dsimp only;rw [zj hl];by_cases h:RunsOK (-1048576) 1048576 l
 case neg=>rw [br_t (by simp [w_nt,h]),decide_eq_false λq=>h q.1]
 rw [br_f (by simp [w_nt,h])];obtain ⟨e,o,f⟩:=loop_any (b:=@Q2 wv) l (by omega) (λi=>⟨l,(l.length:Int),(i:Int),x,()⟩) (λu=>u.1<=x/\x<u.2) (λi _=>.inl ⟨(i:Int),()⟩) (.inr ()) (λi u v a=>by
  have d:@Q2 wv ⟨l,(l.length:Int),(i:Int),x,()⟩=if u.1<=x/\x<u.2 then some (.out (.inl ⟨(i:Int),()⟩)) else some (.go ⟨l,(l.length:Int),((i+1:Nat):Int),x,()⟩):=by
   unfold Q2;dsimp only;rw [Qz (by omega),ge_s (fg a),Kz,wr (by omega) (by omega)];simp only [w_br,Jgn,Jg6,decide_eq_true_eq]
   (repeat' split)<;>first|rfl|omega
  exact ⟨λh=>d.trans (if_pos h),λh=>d.trans (if_neg h)⟩) (by unfold Q2;dsimp only;rw [Kb (by omega)])
 refine (lo_s o).trans ?_;rcases f with ⟨rfl,m⟩|⟨i,u,a,g,rfl⟩
 ·show some (decide ((-1:Int)>=0))=_;refine congrArg some (decide_eq_decide.2 ⟨λq=>by omega,λq=>?_⟩);obtain ⟨u,a,r⟩:=q.2;exact (m u a r).elim
 ·show some (decide ((i:Int)>=0))=_;exact congrArg some (decide_eq_decide.2 ⟨λ_=>⟨h,u,Ac a,g⟩,λ_=>by omega⟩)
open Classical in
theorem Jik{α:Type}{l:List Run}{x:Int}(hl:l.length<=1000000000)(k:Bool->Option α):@W.call wv α Xl ((l,x):List (Int×Int)×Int) k=k (decide (RunsOK (-1048576) 1048576 l/\Jt l x)):=ca_s (c:=Xl) (Jhm l x hl)
open Classical in
theorem Jsi(r:Reg)(c:Cell)(hl:LimR r):@Yx wv (r,c)=some (decide (RegOK r/\Xi r c)):=by
 unfold Yx;dsimp only;rw [X5 hl];by_cases h:RegOK r
 ·rw [br_t (by simp [h]),Jo4 hl h,Jik (Jw6 hl _)];simp only [h,rowAt_ok h,J0l h,true_and]
 ·rw [br_f (by simp [h]),decide_eq_false λq=>h q.1]
open Classical in
theorem Jlq{α:Type}{r:Reg}{c:Cell}(hl:LimR r)(k:Bool->Option α):@W.call wv α K4 ((r,(c.1,c.2)):List (Int×List (Int×Int))×(Int×Int)) k=k (decide (RegOK r/\Xi r c)):=ca_s (c:=K4) (Jsi r c hl)
def aft(w:Int)(c:Cell):Cell:=if (c.1+c.2) % w=0 then (c.1+1,c.2) else (c.1,c.2 - 1)
theorem aft_nb(w:Int)(c:Cell):nb c (aft w c):=by
 unfold nb aft;split
 ·show (c.1 - (c.1+1)) * (c.1 - (c.1+1))+(c.2 - c.2) * (c.2 - c.2)=1;rw [show c.1 - (c.1+1)=-1 by omega,show c.2 - c.2=0 by omega];rfl
 ·show (c.1 - c.1) * (c.1 - c.1)+(c.2 - (c.2 - 1)) * (c.2 - (c.2 - 1))=1;rw [show c.1 - c.1=0 by omega,show c.2 - (c.2 - 1)=1 by omega];rfl
def sT:Zs->List Kj
 | none=>[]
 | some (O,C)=>O++[(4,(false,C))]
def Jk4(C:List Cell):Cell:=C.getD (C.length - 1) (0,0)
def sPut(w:Int):Zs->Cell->Zs
 | none,c=>some ([],[c])
 | some (O,C),c=>if aft w (Jk4 C)=c then some (O,C++[c]) else some (O++[(4,(false,C))],[c])
def sOK(w:Int)(l:List Kj):Prop:=∀t∈l,t.1=4/\t.2.1=false/\t.2.2≠[]/\∀i a b,t.2.2[i]?=some a->t.2.2[i+1]?=some b->b=aft w a
theorem Jvu(w:Int)(z:Zs)(c:Cell):((sT (sPut w z c)).flatMap λt=>t.2.2)=((sT z).flatMap λt=>t.2.2)++[c]:=by
 match z with
 | none=>rfl
 | some (O,C)=>
  unfold sPut;dsimp only;split<;>simp [sT]
theorem sPut_ok{w:Int}{z:Zs}(h:sOK w (sT z))(c:Cell):sOK w (sT (sPut w z c)):=by
 have one:sOK w [(4,(false,[c]))]:=λt d=>by have:=Ae.1 d;subst this;exact ⟨rfl,rfl,by simp,λi a b g f=>by cases i<;>simp at f⟩
 match z,h with
 | none,h=>exact one
 | some (O,C),h=>
  unfold sPut;dsimp only;split
  ·rename_i e;intro t d;rcases Ag.1 d with d|d
   ·exact h t (Ak _ d)
   ·have:=Ae.1 d;subst this;obtain ⟨A,y,v,l⟩:=h (4,(false,C)) (Av _ (Ae.2 rfl));refine ⟨rfl,rfl,by simp,λi a b g f=>?_⟩;dsimp only at g f v l;by_cases r:i+1<C.length
    ·rw [Aq (by omega)] at g;rw [Aq r] at f;exact l i a b g f
    ·have o:=(Bb.1 f).1;simp only [Ab,As] at o;rw [Ar (by omega),show i+1 - C.length=0 by omega] at f;rw [Aq (by omega)] at g;have m:Jk4 C=a:=by unfold Jk4;rw [Az,show C.length - 1=i by omega,g];rfl
     injection f with f;rw [<-f,<-e,m]
  ·intro t d;rcases Ag.1 d with d|d
   ·exact h t d
   ·exact one t d
def sRun(w:Int)(L:List Cell):Zs:=L.foldl (sPut w) none
theorem Jq2{w:Int}{L:List Cell}{i:Nat}{c:Cell}(h:L[i]?=some c):sRun w (L.take (i+1))=sPut w (sRun w (L.take i)) c:=by rw [Q6 h,sRun,Bm];rfl
theorem Juz{w:Int}:∀(L:List Cell) (z:Zs),sOK w (sT z)->sOK w (sT (L.foldl (sPut w) z))/\((sT (L.foldl (sPut w) z)).flatMap λt=>t.2.2)=((sT z).flatMap λt=>t.2.2)++L
 | [],z,h=>⟨h,by simp⟩
 | c::L,z,h=>by obtain ⟨d,a⟩:=Juz L (sPut w z c) (sPut_ok h c);refine ⟨d,?_⟩;show ((sT (L.foldl (sPut w) (sPut w z c))).flatMap λt=>t.2.2)=_;rw [a,Jvu];simp
theorem Jnr(w:Int)(L:List Cell):sOK w (sT (sRun w L))/\((sT (sRun w L)).flatMap λt=>t.2.2)=L:=Juz L none λt a=>by cases a
theorem Jze{w:Int}{L:List Cell}{i:Nat}(a:i<L.length):∃O C,sRun w (L.take (i+1))=some (O,C)/\C≠[]/\some (Jk4 C)=L[i]?:=by
 have hx:=Aa a;rw [Jq2 hx,hx];unfold sPut;split
 ·exact ⟨_,_,rfl,by simp,rfl⟩
 ·split
  ·refine ⟨_,_,rfl,by simp,?_⟩;simp [Jk4]
  ·exact ⟨_,_,rfl,by simp,rfl⟩
theorem sOK_VT{w:Int}{l:List Kj}(h:sOK w l)(hl:(l.flatMap λt=>t.2.2).length<=65536)(m:∀c∈l.flatMap (λt=>t.2.2),grid c){t:Kj}(d:t∈l):VT t:=by
 obtain ⟨E,y,v,o⟩:=h t d;have a:∀c∈t.2.2,grid c:=λc f=>m c (Ao.2 ⟨t,d,f⟩);have B:t.2.2.length<=(l.flatMap λt=>t.2.2).length:=by
  clear E y v o a m hl h
  induction l with
  | nil=>cases d
  | cons u r A=>
   rw [Ap,Ab];rcases Bx.1 d with e|e
   ·subst e;omega
   ·have:=A e;omega
 have g:0<t.2.2.length:=Af.2 v;refine ⟨by omega,⟨g,by omega⟩,λi F c f=>⟨a c (Ac f),λp G g=>?_⟩,λq=>by rw [y] at q;cases q⟩;have:=o (i - 1) p c g (by rw [show i - 1+1=i by omega];exact f);rw [this];exact aft_nb w p
def stC(r:Reg)(w:Int):List Cell:=(J7 r).filter λc=>decide ((c.1+c.2) % w<2)
theorem Jwl(L:List Cell)(hL:L.length<=1000000)(e:∀c∈L,grid c)(r:Reg)(s y w:Int)(l:1<=w)(g:w<=1000000) :
  Xu (@Km wv) bigN ⟨L,(L.length:Int),0,r,s,y,w,[],()⟩=some ⟨r,s,y,w,L.filter λc=>decide ((c.1+c.2) % w<2),()⟩:=
 Kt (b:=@Km wv) (λi=>⟨L,(L.length:Int),(i:Int),r,s,y,w,(L.take i).filter λc=>decide ((c.1+c.2) % w<2),()⟩) L.length (by omega) (λi d=>by
  have hx:=Aa d;generalize L[i]=c at hx;have f:=e c (Ac hx);unfold grid at f;have a:((L.take i).filter λc=>decide ((c.1+c.2) % w<2)).length<=i:=Bl (Bf _ _) (by rw [Am];omega);unfold Km;dsimp only;rw [Qz (by omega),ge_s (fg hx),Kz,wr (n:=c.1+c.2) (by omega) (by omega),Jtf l g,Kz,wr (n:=(i:Int)+1) (by omega) (by omega),Q6 hx,List.filter_append];by_cases h:(c.1+c.2) % w<2
  ·rw [Qz h,Jeb (by rw [w_pl,w_ln];exact Int.le_trans (Int.add_le_add_right (Int.ofNat_le.2 a) 1) (by omega)) (by rw [w_pl,w_ln];exact Int.add_nonneg (Int.natCast_nonneg _) (by decide)),w_ap,List.filter_cons_of_pos (by exact decide_eq_true h)];rfl
  ·rw [Kb h,List.filter_cons_of_neg (by rw [decide_eq_false h];exact Bool.false_ne_true),List.filter_nil,Au];rfl) (by unfold Km;dsimp only;rw [Kb (by omega),Ad])
theorem after_ok(r:Reg)(s y:Int)(hs:1<=s/\s<=64)(c:Cell)(a:grid c):@Xf wv ((r,(s,y)),c)=some (aft (2 * s) c):=by unfold grid at a;unfold Xf aft;dsimp only;rw [Kz,wr (n:=c.1+c.2) (by omega) (by omega),Jwe,wr (by omega) (by omega),Jtf (by omega) (by omega),Kz,wr (n:=c.1+1) (by omega) (by omega),Zo,wr (n:=c.2 - 1) (by omega) (by omega),w_br,Yf];simp only [beq_iff_eq];split<;>rfl
theorem k_after{α:Type}{r:Reg}{s y:Int}(hs:1<=s/\s<=64){c:Cell}(a:grid c)(k:Int×Int->Option α):@W.call wv α Kx (((r,(s,y)),(c.1,c.2)):(List (Int×List (Int×Int))×(Int×Int))×(Int×Int)) k=k (aft (2 * s) c):=ca_s (c:=Kx) (after_ok r s y hs c a)
def sA:Zs->List Kj
 | none=>[]
 | some (O,C)=>O++[(4,(false,[]))]
theorem s_fin(z:Zs):@W.ml wv _ (sA z) (λy=>(y.1,(y.2.1,zC z)))=sT z:=by
 match z with
 | none=>rfl
 | some (O,C)=>show K8 (O++[(4,(false,[]))]) _=_;rw [Q9];rfl
noncomputable abbrev newX [W] {α:Type} (X:List Kj) (n:Int) (mk:List Kj->Option α):Option α:=
 gd (ib (ar .sub .i64 (ln X) 1) (ln X)) <|
 ge X (ar .sub .i64 (ln X) 1) λv6=>
 gd (cm .eql (pl (ar .sub .i64 (ln X) 1) 1) (ln X)) <|
 gd (ft 16 n) <|
 ge X (ar .sub .i64 (ln X) 1) λv7=>
 gd (cm .eql (pl (ar .sub .i64 (ln X) 1) 1) (ln X)) <|
 mk (st X (ar .sub .i64 (ln X) 1) (v7.1,(v7.2.1,v7.2.2)))
theorem Jrk{α:Type}(M:List Kj)(t:Kj)(hM:M.length<=1000000000)(n:Int)(g:0<=n/\n<=1000000000)(mk:List Kj->Option α):@newX wv α (M++[t]) n mk=mk (M++[t]):=by
 unfold newX;have e:@W.ar wv .sub .i64 ((M.length:Int)+1) 1=(M.length:Int):=by rw [Zo,wr (by omega) (by omega)];omega
 have f:@W.ln wv _ (M++[t])=(M.length:Int)+1:=by rw [w_ln,Ab,As];omega
 simp only [f,e];have d:fget (M++[t]) (M.length:Int)=some t:=fg (Jdk M _);have a:@W.cm wv .eql (@W.pl wv (M.length:Int) 1) ((M.length:Int)+1)=true:=by rw [Yf,w_pl];simp
 rw [Jcs (by omega),ge_s d,gd_t a,Jeb (by omega) (by omega),ge_s d,gd_t a,w_st,Ba,Jdw]
abbrev StT:=HP Int (HP Int (HP (List (Int×(List (Int×Int)))) (HP Int (HP Int (HP (List (Int×Int)) (HP (List (Int×(Bool×(List (Int×Int))))) (HP (List (Int×Int)) Unit)))))))
abbrev mkS(r:Reg)(s y:Int)(L:List Cell)(i:Int)(C:List Cell)(l:List Kj):Option (Nx StT (HP (List (Int×(Bool×(List (Int×Int))))) (HP (List (Int×Int)) Unit))):=some (.go ⟨(L.length:Int),i,r,s,y,L,l,C,()⟩)
abbrev stS(r:Reg)(s y:Int)(L:List Cell)(i:Nat):StT:=
 ⟨(L.length:Int),(i:Int),r,s,y,L,sA (sRun (2 * s) (L.take i)),zC (sRun (2 * s) (L.take i)),()⟩
theorem Jve(r:Reg)(s y:Int)(hs:1<=s/\s<=64)(L:List Cell)(hL:L.length<=1000000)(E:∀c∈L,grid c)(i:Nat)(B:i<L.length) :
  @Kn wv (stS r s y L i)=some (.go (stS r s y L (i+1))):=by
 have hx:=Aa B;unfold stS;rw [Jq2 hx];generalize L[i]=c at hx;unfold Kn;dsimp only;rw [Qz (by omega),w_ln,Jcs (by omega),ge_s (fg hx),Kz,wr (n:=(i:Int)+1) (by omega) (by omega)];cases i with
 | zero=>
  rw [br_t (by rfl),Bv];dsimp only [sRun,List.foldl_nil,sA,zC,sPut];rw [Jzo (by rw [w_pl,w_ln];simp) (by rw [w_pl,w_ln];simp)];exact Jrk [] ((4,(false,[])):Kj) (by simp) 1 (by omega) (mkS r s y L (((0:Nat):Int)+1) [c])
 | succ j=>
  have A:j<L.length:=by omega
  obtain ⟨O,C,l,hC,a⟩:=Jze (w:=2 * s) A;have m:L[j]?=some (Jk4 C):=a.symm;have f:=E _ (Ac m);have g:=Jda λt v=>((Jnr (2 * s) (L.take (j+1))).1 t v).2.2.1;rw [(Jnr (2 * s) (L.take (j+1))).2,l,Am] at g;have hO:O.length+1<=1000000:=by have:=g.1;simp only [sT,Ab,As] at this;omega
  have hCl:C.length<=1000000:=by have:=g.2 (4,(false,C)) (Av _ (Ae.2 rfl));dsimp only at this;omega
  rw [l,br_f (by rw [Yf];simp;omega),Zo,wr (n:=((j+1:Nat):Int) - 1) (by omega) (by omega),show ((j+1:Nat):Int) - 1=(j:Int) by omega,Jcs (by omega),ge_s (fg m),k_after hs f];dsimp only [sA,zC,sPut];have h:@W.ap wv _ (@W.ml wv _ (O++[((4,(false,[])):Kj)]) λy=>(y.1,(y.2.1,C))) ((4,(false,[]))::[])=(O++[(4,(false,C))])++[(4,(false,[]))]:=by rw [w_ap,w_ml,Q9]
  by_cases e:aft (2 * s) (Jk4 C)=c
  ·rw [br_f (by rw [w_nt,w_an,Yf,Yf,e];simp),if_pos e];exact Jrk O ((4,(false,[])):Kj) (by omega) (@W.pl wv (@W.ln wv _ C) 1) (by rw [w_pl,w_ln];omega) (mkS r s y L (((j+1:Nat):Int)+1) (C++[c]))
  ·have d:@W.nt wv (@W.an wv (@W.cm wv .eql (aft (2 * s) (Jk4 C)).1 c.1) (@W.cm wv .eql (aft (2 * s) (Jk4 C)).2 c.2))=true:=by
    rw [w_nt,w_an,Yf,Yf];simp only [Bool.not_eq_true',Bool.and_eq_false_iff,beq_eq_false_iff_ne];by_cases o:(aft (2 * s) (Jk4 C)).1=c.1
    ·exact .inr λF=>e (Prod.ext o F)
    ·exact .inl o
   rw [br_t d,if_neg e,Jzo (by rw [w_pl,w_ln,Ab,As];omega) (by rw [w_pl,w_ln];omega),h];exact Jrk (O++[(4,(false,C))]) ((4,(false,[])):Kj) (by rw [Ab,As];omega) 1 (by omega) (mkS r s y L (((j+1:Nat):Int)+1) [c])
theorem k_stairF{L M:List Cell}{w:Int}(h:Jux (L,w)=some M){α:Type}(k:List (Int×Int)->Option α):@W.call wv α Jmo ((L,w):List (Int×Int)×Int) k=k M:=ca_s (c:=Jmo) h
theorem J0h(r:Reg)(s:Int)(hl:LimR r)(h:RegOK r)(v:(J7 r).length<=60000)(hs:1<=s/\s<=64) :
  ∃L:List Cell,L.Perm (stC r (2 * s))/\∀y:Int,@Kl wv (r,(s,y))=some (sT (sRun (2 * s) L)):=by
 have g:∀c∈J7 r,grid c:=λc a=>h.bd (Jaq.1 a);have m:(stC r (2 * s)).length<=60000:=Bl (Bf _ _) v;have f:∀c∈stC r (2 * s),grid c:=λc a=>g c ((Bu.1 a).1);obtain ⟨L,hF,hP⟩:=Jwi (cf:=cmpS) (okw:=okN) (ok:=okS) (d0:=zS) (λn _=>swoS n) (l:=stC r (2 * s)) (n:=2 * s) (by omega) (by unfold okN;exact decide_eq_true (by omega)) (λc a=>by have:=f c a;unfold grid at this;unfold okS;exact decide_eq_true (by omega))
 have hF:Jux (stC r (2 * s),2 * s)=some L:=hF;have hLl:=hP.length_eq;have hgL:∀c∈L,grid c:=λc a=>f c (hP.mem_iff.1 a);refine ⟨L,hP,λy=>?_⟩;unfold Kl;dsimp only;rw [Jkr hl (λ_=>by omega),if_pos h,Jwe,wr (by omega) (by omega)];refine (lo_s (Jwl (J7 r) (by omega) g r s y (2 * s) (by omega) (by omega))).trans ?_;dsimp only;refine (k_stairF hF _).trans ?_;have d:=Kt (b:=@Kn wv) (e:=⟨sA (sRun (2 * s) L),zC (sRun (2 * s) L),()⟩) (stS r s y L) L.length (by omega) (λi o=>Jve r s y hs L (by omega) hgL i o) (by unfold Kn stS;dsimp only;rw [Kb (by omega),Ad])
 refine (lo_s d).trans ?_;exact congrArg some (s_fin _)
theorem k_stairs{α:Type}{a:(List (Int×List (Int×Int)))×(Int×Int)}{l:List Kj}(h:@Kl wv a=some l)(k:List (Int×(Bool×List (Int×Int)))->Option α):@W.call wv α Yi a k=k l:=ca_s (c:=Yi) h
theorem k_CoverF{α:Type}{l:List Kj}{T:Reg}(h:@Q5 wv l=some T)(k:List (Int×List (Int×Int))->Option α):@W.call wv α K6 l k=k T:=ca_s (c:=K6) h
theorem Jtn{r:Reg}(h:RegOK r):(zigT r).length<=(J7 r).length/\∀t∈zigT r,t.2.2.length<=(J7 r).length:=by
 have a:zOK (r.foldl zRow none):=Jnp _ h.rs Jza;have d:(Q0 (r.foldl zRow none)).length=(J7 r).length:=by rw [Jf0];simp [Q0,zT,J7]
 rw [<-d];exact a.le
def Jsu(t:Kj):Kj:=(4,t.2)
theorem Jv2(Z S:List Kj)(hl:Z.length<=1000000000):Xu (@Q7 wv) bigN ⟨4,(Z.length:Int),0,Z,S,()⟩=some ⟨Z.map Jsu,S,()⟩:=
 Kt (b:=@Q7 wv) (λi=>⟨4,(Z.length:Int),(i:Int),(Z.take i).map Jsu++Z.drop i,S,()⟩) Z.length (by omega) (λi f=>by
  have hx:=Aa f;have d:Z.drop i=Z[i]::Z.drop (i+1):=List.drop_eq_getElem_cons f;generalize Z[i]=t at hx d;have a:((Z.take i).map Jsu).length=i:=by rw [Ai,Am];omega
  have g:((Z.take i).map Jsu++Z.drop i)[i]?=some t:=by rw [d,Ar (by omega),a,Bz];rfl
  have e:0<=(i:Int)/\(i:Int)<@W.ln wv Kj ((Z.take i).map Jsu++Z.drop i):=⟨by omega,by rw [w_ln,Ab,a,List.length_drop];omega⟩;unfold Q7;dsimp only;rw [Qz (by omega),Jcs e,ge_s (fg g),Kz,wr (by omega) (by omega),w_st,Ba,js hx,d,List.set_append_right _ _ (by omega),a,Bz,List.set_cons_zero,Be];rfl) (by unfold Q7;dsimp only;rw [Kb (by omega),Ad,List.drop_length,Au])
theorem Jwd(r:Reg)(s y:Int)(hl:LimR r)(h:¬(RegOK r/\1<=s/\s<=64)):@Qu wv (r,(3,(s,y)))=some []:=by
 unfold Qu;dsimp only;rw [X5 hl];by_cases a:RegOK r
 case neg=>rw [br_t (by simp [w_nt,a])]
 rw [br_f (by simp [w_nt,a]),Jt5,br_t (by rw [w_nt,decide_eq_false λq=>h ⟨a,q⟩];rfl)]
theorem Jwk(r:Reg)(s:Int)(hl:LimR r)(h:RegOK r)(o:(J7 r).length<=60000)(hs:1<=s/\s<=64) :
  ∃(L:List Cell) (F:Reg),L.Perm (stC r (2 * s))/\RegOK F/\(J7 F).length<=60000/\(∀p,Xi F p->Xi r p/\p∉L)/\(∀t∈sT (sRun (2 * s) L),VT t)/\∀y:Int,@Qu wv (r,(3,(s,y)))=some (sT (sRun (2 * s) L)++(zigT F).map Jsu):=by
 obtain ⟨L,hP,hS⟩:=J0h r s hl h o hs;obtain ⟨l,d⟩:=Jnr (2 * s) L;have hLl:L.length<=60000:=by rw [hP.length_eq];exact Bl (Bf _ _) o
 have m:∀c∈L,Xi r c:=λc f=>Jaq.1 ((Bu.1 (hP.mem_iff.1 f)).1);have hVT:∀t∈sT (sRun (2 * s) L),VT t:=λt g=>sOK_VT l (by rw [d];omega) (λc f=>by rw [d] at f;exact h.bd (m c f)) g;have B:=Jda λt g=>(l t g).2.2.1;rw [d] at B;obtain ⟨T,hT,hTok,hTin⟩:=Jt6 (sT (sRun (2 * s) L)) (by omega) (by rw [d];omega);have hTL:∀c,Xi T c↔c∈L:=λc=>by
  rw [hTin];constructor
  ·rintro ⟨t,g,-,f⟩;rw [<-d];exact Ao.2 ⟨t,g,f⟩
  ·intro f;rw [<-d] at f;obtain ⟨t,g,f⟩:=Ao.1 f;exact ⟨t,g,hVT t g,f⟩
 have hTc:(J7 T).length<=60000:=Bl (Jes h hTok id (λa b e=>e) λc f=>m c ((hTL c).1 f)) o;have hTl:LimR T:=by have:=Jdg hTok hTc;exact ⟨by omega,λw v=>by have:=this.2 w v;omega⟩
 obtain ⟨F,hF,hFok,hFin⟩:=Jz8 r T s hl h hTl hTok (by omega) (by omega) (by omega);have hFc:(J7 F).length<=60000:=Bl (Jes h hFok id (λa b e=>e) λc f=>((hFin c).1 f).1) o;have hFl:LimR F:=by have:=Jdg hFok hFc;exact ⟨by omega,λw v=>by have:=this.2 w v;omega⟩
 refine ⟨L,F,hP,hFok,hFc,λp A=>⟨((hFin p).1 A).1,λf=>((hFin p).1 A).2 ⟨p,(hTL p).2 f,Jwu.2 (by omega)⟩⟩,hVT,λy=>?_⟩;have hZ:=Jtn hFok;unfold Qu;dsimp only;rw [X5 hl,br_f (by simp [w_nt,h]),Jt5,br_f (by rw [w_nt,decide_eq_true hs];rfl),br_f (by rfl),br_f (by rfl),br_f (by rfl),br_t (by rfl)];refine (k_stairs (hS y) _).trans ?_;refine (k_CoverF hT _).trans ?_;refine (k_beyond hF _).trans ?_;refine (k_Zigzag hFl (λ_=>by omega) _).trans ?_;rw [if_pos hFok];refine (lo_s (Jv2 (zigT F) (sT (sRun (2 * s) L)) (by omega))).trans ?_;dsimp only;rw [Jzo (by rw [w_pl,w_ln,w_ln,Ai];omega) (by rw [w_pl,w_ln,w_ln];omega)];rfl
theorem Jkf{α:Type}{a:(List (Int×List (Int×Int)))×(Int×(Int×Int))}{l:List Kj}(h:@Qu wv a=some l)(k:List (Int×(Bool×List (Int×Int)))->Option α):@W.call wv α Kh a k=k l:=ca_s (c:=Kh) h
theorem Jxj:@Yl wv ()=some true:=by kernel_rfl
theorem Jj8{α:Type}(k:Bool->Option α):@W.call wv α Jp (():Unit) k=k true:=ca_s (c:=Jp) Jxj
theorem lrest_ok(c:Cell)(b:Int)(a:grid c)(g:1<=b)(f:b<=1000000):@Xg wv (c,b)=some ((c.1+c.2) % b):=by
 unfold grid at a;obtain ⟨e,l,h,a3,a4⟩:=Jlp (c.1+c.2) (b:=b) (by omega);unfold Xg;dsimp only;have d:@W.cm wv .neq b 0=true:=by rw [Jnh];simp;omega
 rw [gd_t d,Kz,wr (n:=c.1+c.2) (by omega) (by omega),w_rem,Kz,wr (by omega) (by omega),w_br,Jg6];simp only [decide_eq_true_eq];split
 ·congr 1;omega
 ·congr 1;omega
theorem Jn2{α:Type}{c:Cell}{b:Int}(a:grid c)(e:1<=b)(d:b<=1000000)(k:Int->Option α):@W.call wv α Jn (((c.1,c.2),b):(Int×Int)×Int) k=k ((c.1+c.2) % b):=ca_s (c:=Jn) (lrest_ok c b a e d)
theorem w_two{s:Int}(hs:1<=s/\s<=64):@W.ar wv .mul .i64 2 s=2 * s:=by rw [Jwe,wr (by omega) (by omega)]
theorem steps_ok(r:Reg)(s n:Int)(hs:1<=s/\s<=64)(l:List Kj)(i:Nat)(t:Kj)(h:l[i]?=some t)(E:t.2.2≠[])(y:t.2.2.length<=1000000)(A:∀c∈t.2.2,grid c)(F:∀i a b,t.2.2[i]?=some a->t.2.2[i+1]?=some b->b=aft (2 * s) a) :
  Xu (@J6 wv) bigN ⟨s,l,n,(i:Int),1,r,()⟩=some (.inr ⟨s,l,n,(i:Int),r,()⟩):=by
 have H:=Af.2 E;have f:=Kt (b:=@J6 wv) (e:=.inr ⟨s,l,n,(i:Int),r,()⟩) (λj=>⟨s,l,n,(i:Int),(j:Int)+1,r,()⟩) (t.2.2.length - 1) (by omega) (λj J=>by
  have o:=Aa (l:=t.2.2) (i:=j) (by omega);have m:=Aa (l:=t.2.2) (i:=j+1) (by omega);generalize t.2.2[j]=a at o;generalize t.2.2[j+1]=b at m;have e:=F j a b o m;have ga:=A a (Ac o);have gb:=A b (Ac m);have v:fget t.2.2 ((j:Int)+1)=some b:=fgz (j+1) (by omega) m;have w:fget t.2.2 (@W.ar wv .sub .i64 ((j:Int)+1) 1)=some a:=fgz j (by rw [Zo,wr (by omega) (by omega)];omega) o;have d:∀ {α:Type} (k:Int->Option α),@W.call wv α Jn (((a.1,a.2),2 * s):(Int×Int)×Int) k=k ((a.1+a.2) % (2 * s)):=λk=>Jn2 ga (by omega) (by omega) k;have gg:=ga;unfold grid at gg;have G:((j+1:Nat):Int)=(j:Int)+1:=by omega
  have fin:@W.ar wv .add .i64 ((j:Int)+1) 1=((j+1:Nat):Int)+1:=by rw [Kz,wr (by omega) (by omega)];omega
  unfold J6;dsimp only;rw [ge_s (fg h),Qz (by rw [w_ln];omega),ge_s (fg h),ge_s w,ge_s (fg h),ge_s v,w_two hs,d];by_cases g:(a.1+a.2) % (2 * s)=0
  ·have eb:b=(a.1+1,a.2):=by rw [e];unfold aft;rw [if_pos g]
   rw [br_t (by rw [Yf,g];rfl),br_f (by rw [w_nt,w_an,Yf,Yf,Kz,wr (by omega) (by omega),eb];simp),d,br_f (by rw [Yf,g];rfl),fin]
  ·have eb:b=(a.1,a.2 - 1):=by rw [e];unfold aft;rw [if_neg g]
   rw [br_f (by rw [Yf];simpa using g),d];by_cases B:(a.1+a.2) % (2 * s)=1
   ·rw [br_t (by rw [Yf,B];rfl),br_f (by rw [w_nt,w_an,Yf,Yf,Zo,wr (by omega) (by omega),eb];simp),fin]
   ·rw [br_f (by rw [Yf];simpa using B),fin]) (by unfold J6;dsimp only;rw [ge_s (fg h),Kb (by rw [w_ln];omega)])
 exact f
theorem walk_ok(r:Reg)(s:Int)(hs:1<=s/\s<=64)(S Z:List Kj)(hS:sOK (2 * s) S)(hV:∀t∈S,VT t)(hF:∀t∈S,∀c∈t.2.2,(c.1+c.2) % (2 * s)<2)(hZ:∀t∈Z,t.2.2≠[]/\∀c∈t.2.2,grid c/\¬(c.1+c.2) % (2 * s)<2)(hl:S.length+Z.length<=1000000)(v:(S.flatMap λt=>t.2.2).length<=1000000) :
  Xu (@J5 wv) bigN ⟨s,S++Z,0,0,r,()⟩=some (.inr ⟨s,((S.flatMap λt=>t.2.2).length:Int),r,()⟩):=
 have gr:∀t∈S,∀c∈t.2.2,grid c:=λt f c v=>by obtain ⟨i,h,e⟩:=List.mem_iff_getElem.1 v;exact ((hV t f).2.2.1 i h c (by rw [Aa h,e])).1
 Kt (b:=@J5 wv) (λi=>⟨s,S++Z,(((S.take i).flatMap λt=>t.2.2).length:Int),(i:Int),r,()⟩) S.length (by omega) (λi h=>by
  have hx:=Aa h;generalize S[i]=t at hx;have f:=Ac hx;have a:(S++Z)[i]?=some t:=by rw [Aq h];exact hx
  obtain ⟨F,E,g,o⟩:=hS t f;have w:=Af.2 g;have d:=Jkm g;generalize t.2.2.getD 0 (0,0)=c at d;have l:=Ac d;have y:=Qv (λt:Kj=>t.2.2) hx;have m:=steps_ok r s (((S.take i).flatMap λt=>t.2.2).length:Int) hs (S++Z) i t a g (by omega) (gr t f) o;unfold J5;dsimp only;rw [Qz (by rw [w_ln,Ab];omega),ge_s (fg a),br_t (by rw [Jar,w_ln];exact decide_eq_true (by omega)),ge_s (fg a),ge_s (fg0 d),w_two hs,Jn2 (gr t f c l) (by omega) (by omega),Qz (hF t f c l)];refine (lo_s m).trans ?_;dsimp only;rw [ge_s (fg a),Kz,Kz,w_ln,wr (by omega) (by omega),wr (by omega) (by omega),ze hx,Ab];rfl) (by
  unfold J5;dsimp only;rw [Ad];cases Z with
  | nil=>rw [Kb (by rw [w_ln,Au];omega)]
  | cons t Z=>
   have a:(S++t::Z)[S.length]?=some t:=by rw [Ar (Nat.le_refl _),Bz];rfl
   obtain ⟨g,o⟩:=hZ t (Al ..);have w:=Af.2 g;have d:=Jkm g;generalize t.2.2.getD 0 (0,0)=c at d;obtain ⟨B,A⟩:=o c (Ac d);rw [Qz (by rw [w_ln,Ab,Ay];omega),ge_s (fg a),br_t (by rw [Jar,w_ln];exact decide_eq_true (by omega)),ge_s (fg a),ge_s (fg0 d),w_two hs,Jn2 B (by omega) (by omega),Kb A])
theorem k_Cover{α:Type}{l:List Kj}{T:Reg}(h:@Q5 wv l=some T)(k:List (Int×List (Int×Int))->Option α):@W.call wv α Yv l k=k T:=ca_s (c:=Yv) h
theorem k_Count{α:Type}{r:Reg}{n:Int}(h:@Y9 wv r=some n)(k:Int->Option α):@W.call wv α X7 r k=k n:=ca_s (c:=X7) h
open Classical in
theorem asked_ok(r q:Reg)(s y:Int)(c:Cell)(l:List Kj)(hs:1<=s/\s<=64)(H:LimR q)(hl:l.length<=1000000000)(K:(l.flatMap λt=>t.2.2).length<=60000)(f:grid c->Xi q c->(c.1+c.2) % (2 * s)<2->∃t∈l,VT t/\c∈t.2.2) :
  @Qa wv (r,(s,(y,c))) q l=some ⟨s,l,false,q,()⟩:=by
 unfold Qa;dsimp only;by_cases E:c.1>=-4096
 case neg=>rw [br_f (by rw [Je1];exact decide_eq_false E)]
 rw [br_t (by rw [Je1];exact decide_eq_true E)];by_cases B:c.1<4096
 case neg=>rw [Kb B]
 rw [Qz B];by_cases A:c.2>=-4096
 case neg=>rw [br_f (by rw [Je1];exact decide_eq_false A)]
 rw [br_t (by rw [Je1];exact decide_eq_true A)];by_cases v:c.2<4096
 case neg=>rw [Kb v]
 have o:grid c:=by unfold grid;omega
 rw [Qz v,Jlq H];by_cases m:RegOK q/\Xi q c
 case neg=>rw [br_f (decide_eq_false m)]
 rw [br_t (decide_eq_true m),w_two hs,Jn2 o (by omega) (by omega)];by_cases h:(c.1+c.2) % (2 * s)<2
 case neg=>rw [Kb h]
 obtain ⟨T,hT,hTok,hTin⟩:=Jt6 l hl (by omega);have hTc:(J7 T).length<=60000:=by refine Bl (Jjf (hTok.cells_pw.imp λ{a b} g e=>by subst e;exact Jqu a g) λd hd=>?_) K;obtain ⟨t,G,-,J⟩:=(hTin d).1 (Jaq.1 hd);exact Ao.2 ⟨t,G,J⟩
 have hTl:LimR T:=by have:=Jdg hTok hTc;exact ⟨by omega,λw F=>by have:=this.2 w F;omega⟩
 rw [Qz h];refine (k_Cover hT _).trans ?_;rw [Jlq hTl,decide_eq_true (⟨hTok,(hTin c).2 (f o m.2 h)⟩:RegOK T/\Xi T c)];rfl
open Classical in
theorem Jsh(r:Reg)(s y:Int)(c:Cell):@J1 wv (r,(s,(y,c)))=some true:=by
 unfold J1;dsimp only;rw [k_few];have hl:=fewR_lim r;have H:=Jwh r;generalize fewR r=q at hl H;by_cases h:RegOK q/\1<=s/\s<=64
 case neg=>
  refine (Jkf (Jwd q s y hl h) _).trans ?_;rw [Jic hl];have J:@W.cm wv .eql (@W.ln wv Kj []) 0=true:=rfl;by_cases l:RegOK q
  ·rw [br_f (by simp [w_nt,l])];by_cases B:s<1
   ·rw [Qz B,br_t J,Jj8]
   ·rw [Kb B,br_t (by rw [Jar];exact decide_eq_true (by have:¬s<=64:=λq=>h ⟨l,by omega,q⟩;omega)),br_t J,Jj8]
  ·rw [br_t (by simp [w_nt,l]),br_t J,Jj8]
 obtain ⟨o,hs⟩:=h;have H:=H o;obtain ⟨L,F,hP,hF,hFc,hFin,hV,hPat⟩:=Jwk q s hl o (by omega) hs;obtain ⟨m,f⟩:=Jnr (2 * s) L;have hLe:L.length=(stC q (2 * s)).length:=hP.length_eq;have hLl:L.length<=(J7 q).length:=by rw [hLe];exact Bf _ _
 have hLm:∀d,d∈L↔Xi q d/\(d.1+d.2) % (2 * s)<2:=λd=>by rw [hP.mem_iff];unfold stC;rw [Bu,Jaq,decide_eq_true_eq]
 have O:=Jda λt g=>(m t g).2.2.1;rw [f] at O;have hZl:=Jtn hF;have hFl:(J7 F).length<=(J7 q).length:=Jes o hF id (λa b e=>e) λd hd=>(hFin d hd).1;obtain ⟨S,eS⟩:∃S,S=sT (sRun (2 * s) L):=⟨_,rfl⟩;obtain ⟨Z,eZ⟩:∃Z,Z=(zigT F).map Jsu:=⟨_,rfl⟩;rw [<-eS] at m f O hV hPat;rw [<-eZ] at hPat;have hZlen:Z.length=(zigT F).length:=by rw [eZ,Ai]
 have hZflat:(Z.flatMap λt=>t.2.2)=(zigT F).flatMap λt=>t.2.2:=by rw [eZ,List.flatMap_map];rfl
 have hZc:(Z.flatMap λt=>t.2.2).length=(J7 F).length:=by rw [hZflat,zig_len]
 have hZm:∀t∈Z,t.2.2≠[]/\∀c∈t.2.2,grid c/\¬(c.1+c.2) % (2 * s)<2:=λt g=>by rw [eZ] at g;obtain ⟨u,M,rfl⟩:=Ah.1 g;have K:=(zigT_V hF M).1;refine ⟨λe=>by have:=K.2.1.1;rw [show u.2.2=[] from e] at this;simp at this,λd hd=>?_⟩;have G:Xi F d:=(Jy0 hF d).1 ⟨u,M,K,hd⟩;obtain ⟨l,B⟩:=hFin d G;exact ⟨o.bd l,λR=>B ((hLm d).2 ⟨l,R⟩)⟩
 have N:(S++Z).length<=1000000:=by rw [Ab];omega
 have w:((S++Z).flatMap λt=>t.2.2).length<=60000:=by rw [List.flatMap_append,Ab,f,hZc];omega
 refine (Jkf (hPat y) _).trans ?_;rw [Jic hl,br_f (by simp [w_nt,o]),Kb (by omega),br_f (by rw [Jar];exact decide_eq_false (by omega))];refine (Jkf (hPat 0) _).trans ?_;have v:∀t∈S++Z,t.2.2.length<=1000000000:=λt g=>by obtain ⟨i,Q⟩:=List.getElem?_of_mem g;have:=Qv (λt:Kj=>t.2.2) Q;omega
 rw [Jyj (by omega) v,br_f (by rfl)];refine (jo_s (asked_ok r q s y c (S++Z) hs hl (by omega) w λX E P=>?_)).trans ?_
 ·have A:=(hLm c).2 ⟨E,P⟩;rw [<-f] at A;obtain ⟨t,g,A⟩:=Ao.1 A;exact ⟨t,Ak _ g,hV t g,A⟩
 dsimp only;rw [br_f rfl];refine (lo_s (walk_ok q s hs S Z m hV (λt g d hd=>((hLm d).1 (by rw [<-f];exact Ao.2 ⟨t,g,hd⟩)).2) hZm (by omega) (by rw [f];omega))).trans ?_;dsimp only;refine (k_Count (Count_ok q hl o (by omega)) _).trans ?_;rw [f,br_t (by rw [Jgn];exact decide_eq_true (by omega))];by_cases l:s > 1
 ·rw [br_t (by rw [Jar];exact decide_eq_true l),Jj8]
 ·have es:s=1:=by omega
  have eL:L.length=(J7 q).length:=by rw [hLe];unfold stC;rw [List.filter_eq_self.2 λd _=>decide_eq_true (by rw [es];omega)]
  rw [br_f (by rw [Jar];exact decide_eq_false l),br_t (by rw [Yf,eL];simp),Jj8]
end Go.Proofs.YtmfagdfkpjgeiaaGreat
