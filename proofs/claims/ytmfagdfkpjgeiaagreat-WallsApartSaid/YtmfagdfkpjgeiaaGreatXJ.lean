/- The typed texts of functions, and that they are right. Conditions: none. -/
import Derived.Test.YtmfagdfkpjgeiaaGreatXG
import Derived.Test.YtmfagdfkpjgeiaaGreatXI
set_option linter.unusedVariables false
set_option linter.unusedSimpArgs false
set_option maxRecDepth 100000
namespace Go.Proofs.YtmfagdfkpjgeiaaGreat
open Go Go.Vv Go.Dn Go.Dn.W
open List renaming mem_append -> Aa, mem_singleton -> Ab, getElem?_append_left -> Ac, not_mem_nil -> Ad, length_append -> Ae, reverse_reverse -> Af, reverse_cons -> Ag, getLast?_eq_getElem? -> Ah, getElem?_eq_getElem -> Ai, length_map -> Aj, getLast?_concat -> Ak, length_pos_iff -> Am
abbrev Gi:=List (Int×Int)
abbrev Gj:=List (Int×Gi)
abbrev Gk:=HP Int (HP Int Unit)
noncomputable def Kx[W](s:(HP Gi (HP Gi Gk))):Option (Nx (HP Gi (HP Gi Gk)) (Unit⊕Unit)):=br (cm .lss s.j.j.j.e s.j.j.e) (ge s.e s.j.j.j.e λv0=>ge s.j.e s.j.j.j.e λv1=>br (nt (an (cm .eql v0.1 v1.1) (cm .eql v0.2 v1.2))) (some (.out (.inl ()))) (some (.go ⟨s.e,s.j.e,s.j.j.e,(ar .add .i64 s.j.j.j.e 1),()⟩))) (some (.out (.inr ())))
noncomputable def K6[W](a:(Gi×Gi)):Option Bool:=br (cm .neq (ln a.1) (ln a.2)) (some false) (loop Kx ⟨a.1,a.2,(ln a.1),0,()⟩ λv2=>match v2 with|.inl v3=>(some false)|.inr v4=>(some true))
noncomputable def Kq:Ctr:=⟨80,[(.one,(.ls (.p I I))),(.one,(.ls (.p I I)))],[(false,.bool)],@K6 wv⟩
theorem Jbs(w:W)(a):fnD (dW w) (V1 []) 8 80 Kq.as Kq.rs a=@K6 w a:=by kernel_rfl
theorem Jbd:V3 Kq:=V2 Ju (Jr (by kernel_rfl)) rfl rfl (Jbs wv)
noncomputable def j7[W](s:(HP Gj (HP Gj Gk))):Option (Nx (HP Gj (HP Gj Gk)) (Unit⊕Unit)):=br (cm .lss s.j.j.j.e s.j.j.e) (ge s.j.e s.j.j.j.e λv2=>ge s.e s.j.j.j.e λv3=>br (cm .eql v2.1 v3.1) (call Kq ((v2.2,v3.2):(Gi×Gi)) λ(v4:Bool)=>br (nt v4) (some (.out (.inl ()))) (some (.go ⟨s.e,s.j.e,s.j.j.e,(ar .add .i64 s.j.j.j.e 1),()⟩))) (some (.out (.inl ())))) (some (.out (.inr ())))
noncomputable def Jb6[W](a:(Gj×Gj)):Option Bool:=call Jn (a.1:Gj) λ(v0:Bool)=>br v0 (call Jn (a.2:Gj) λ(v1:Bool)=>br v1 (br (cm .neq (ln a.1) (ln a.2)) (some false) (loop j7 ⟨a.2,a.1,(ln a.1),0,()⟩ λv5=>match v5 with|.inl f=>(some false)|.inr d=>(some true))) (some false)) (some false)
noncomputable def Yz:Ctr:=⟨32,[(.ag,(.ls (.p I (.ls (.p I I))))),(.ag,(.ls (.p I (.ls (.p I I)))))],[(false,.bool)],@Jb6 wv⟩
theorem Jr2(w:W)(a):fnD (dW w) (V1 [(80,Kq),(23,Jn)]) 8 32 Yz.as Yz.rs a=@Jb6 w a:=by kernel_rfl
theorem Jrh:V3 Yz:=V2 (Je Jbd (Je Yi Ju)) (Jr (by kernel_rfl)) rfl rfl (Jr2 wv)
def flt(l:List Jz):List Cell:=l.flatMap λt=>t.2.2
theorem Jf8(a b:List Jz):flt (a++b)=flt a++flt b:=by unfold flt;rw [List.flatMap_append]
theorem Jkp(t:Jz):flt [t]=t.2.2:=by unfold flt;simp
theorem J29{l:List Jz}{c:Cell}:c∈flt l↔∃t∈l,c∈t.2.2:=by unfold flt;exact List.mem_flatMap
def kp(l:List (Cell×Bool)):List Cell:=(l.filter λp=>p.2).map (·.1)
theorem J6b(l:List (Cell×Bool))(c:Cell)(b:Bool):kp (l++[(c,b)])=if b=true then kp l++[c] else kp l:=by unfold kp;rw [List.filter_append,List.map_append];cases b<;>simp
structure RunI (m:Mb) (l:List Cell):Prop where
 mem:∀c,zn (runO m l).2.1 c=true↔zn m c=true\/c∈l
 nd:(kp (l.zip (runO m l).2.2)).Nodup
 new:∀c∈kp (l.zip (runO m l).2.2),zn m c=false
 all:∀c,c∈l->zn m c=true\/c∈kp (l.zip (runO m l).2.2)
 sub:∀c∈kp (l.zip (runO m l).2.2),c∈l
 full:(runO m l).1=true->kp (l.zip (runO m l).2.2)=l
theorem runI(m:Mb)(l:List Cell):RunI m l:=by
 have key:∀k:List Cell,RunI m k.reverse:=by
  intro k
  induction k with
  | nil=>exact ⟨λc=>⟨.inl,λh=>h.elim id λq=>(Ad q).elim⟩,.nil,λc h=>(Ad h).elim,λc h=>(Ad h).elim,λc h=>(Ad h).elim,λ_=>rfl⟩
  | cons x k B=>
   rw [Ag];have f:=Jls m k.reverse;obtain ⟨o,y,w,v,r,E⟩:=B;generalize k.reverse=l at *
   have F:(l++[x]).zip (runO m (l++[x])).2.2=l.zip (runO m l).2.2++[(x,!zn (runO m l).2.1 x)]:=by rw [Jje];show (l++[x]).zip ((runO m l).2.2++[!zn (runO m l).2.1 x])=_;rw [List.zip_append f.symm];rfl
   have g:kp ((l++[x]).zip (runO m (l++[x])).2.2)=if zn (runO m l).2.1 x=true then kp (l.zip (runO m l).2.2) else kp (l.zip (runO m l).2.2)++[x]:=by rw [F,J6b];cases zn (runO m l).2.1 x<;>rfl
   have G:(runO m (l++[x])).2.1=putM (runO m l).2.1 x:=by rw [Jje];rfl
   have J:(runO m (l++[x])).1=((runO m l).1&&!zn (runO m l).2.1 x):=by rw [Jje];rfl
   refine ⟨λc=>?_,?_,λc d=>?_,λc d=>?_,λc d=>?_,λh=>?_⟩
   ·rw [G,seen_put,Bool.or_eq_true,decide_eq_true_eq,o,Aa,Ab];exact ⟨λh=>h.elim (λq=>.inr (.inr q)) λq=>q.elim .inl λq=>.inr (.inl q),λh=>h.elim (λq=>.inr (.inl q)) λq=>q.elim (λq=>.inr (.inr q)) .inl⟩
   ·rw [g];split
    ·exact y
    ·rename_i hs;refine List.nodup_append.2 ⟨y,by simp,λa K b A=>?_⟩;rw [Ab] at A;subst A;rintro rfl;exact hs ((o a).2 (.inr (r a K)))
   ·rw [g] at d;split at d
    ·exact w c d
    ·rename_i hs;rcases Aa.1 d with q|q
     ·exact w c q
     ·rw [Ab] at q;subst q;cases H:zn m c with
      | false=>rfl
      | true=>exact (hs ((o c).2 (.inl H))).elim
   ·rw [g];rcases Aa.1 d with q|q
    ·rcases v c q with q|q
     ·exact .inl q
     ·refine .inr ?_;split
      ·exact q
      ·exact Aa.2 (.inl q)
    ·rw [Ab] at q;subst q;by_cases hs:zn (runO m l).2.1 c=true
     ·rw [if_pos hs];rcases (o c).1 hs with q|q
      ·exact .inl q
      ·exact v c q
     ·rw [if_neg hs];exact .inr (Aa.2 (.inr (Ab.2 rfl)))
   ·rw [g] at d;split at d
    ·exact Aa.2 (.inl (r c d))
    ·rcases Aa.1 d with q|q
     ·exact Aa.2 (.inl (r c q))
     ·exact Aa.2 (.inr q)
   ·rw [J,Bool.and_eq_true] at h;rw [g,if_neg (by rw [Bool.not_eq_true']at h;rw [h.2];simp),E h.1]
 have:=key l.reverse;rwa [Af] at this
def Chn(l:List Cell):Prop:=l≠[]/\∀i,i<l.length->Jrd l i
theorem chn_one{c:Cell}(h:grid c):Chn [c]:=⟨by simp,λi hi=>by
 have:i=0:=by simp at hi;omega
 subst this;intro d hd;have:c=d:=by simpa using hd
 subst this;exact ⟨h,λp a=>by omega⟩⟩
theorem chn_snoc{l:List Cell}{c p:Cell}(h:Chn l)(hl:l.getLast?=some p)(o:grid c)(m:nb p c):Chn (l++[c]):=⟨by simp,λi hi d hd=>by
 rw [Ae] at hi;have hi:i<l.length+1:=hi;by_cases f:i<l.length
 ·rw [Ac f] at hd;obtain ⟨v,r⟩:=h.2 i f d hd;refine ⟨v,λq g a=>r q g ?_⟩;rwa [Ac (by omega)] at a
 ·have e:i=l.length:=by omega
  subst e;have:c=d:=by simpa using hd
  subst this;refine ⟨o,λq g a=>?_⟩;rw [Ac (by omega)] at a;rw [Ah] at hl;rw [hl] at a;cases a;exact m⟩
structure PcI (role:Int) (l:List (Cell×Bool)) (s:List Jz×List Cell×Bool):Prop where
 nil:s.1=[]->s.2.1=[]
 fl:flt (Jfa s.1 s.2.1)=kp l
 ok:∀t∈Jfa s.1 s.2.1,t.1=role/\t.2.1=false/\Chn t.2.2
 pv:s.2.2=true->∃p b,l.getLast?=some (p,b)/\s.2.1.getLast?=some p
theorem Jd6(r:List Jz)(v:Jz)(last:List Cell):Jfa (r++[v]) last=r++[(v.1,(v.2.1,last))]:=by unfold Jfa;rw [Qt]
theorem pcI(role:Int)(l:List (Cell×Bool))(y:∀i,i<(l.map (·.1)).length->Jrd (l.map (·.1)) i):PcI role l (runQ role l):=by
 have key:∀k:List (Cell×Bool),(∀i,i<(k.reverse.map (·.1)).length->Jrd (k.reverse.map (·.1)) i)->PcI role k.reverse (runQ role k.reverse):=by
  intro k
  induction k with
  | nil=>exact λ_=>⟨λ_=>rfl,rfl,λt h=>(Ad h).elim,λh=>by cases h⟩
  | cons x k N=>
   intro y;obtain ⟨c,b⟩:=x;rw [Ag] at y ⊢;rw [List.map_append] at y;have B:=Jji role k.reverse;have G:∀i,i<(k.reverse.map (·.1)).length->Jrd (k.reverse.map (·.1)) i:=λi hi d hd=>by obtain ⟨L,K⟩:=y i (by rw [Ae];omega) d (by rw [Ac hi];exact hd);exact ⟨L,λp R Q=>K p R (by rw [Ac (by omega)];exact Q)⟩
   have o:=y (k.reverse.map (·.1)).length (by rw [Ae];exact Nat.lt_succ_self _) c (by rw [List.getElem?_append_right (by omega),Nat.sub_self];rfl);obtain ⟨P,w,g,O⟩:=N G;generalize k.reverse=l at *
   have hs:=Jjl role l (c,b);have a:=J6b l c b;generalize runQ role l=s at *
   generalize runQ role (l++[(c,b)])=s' at *
   obtain ⟨out,last,pv⟩:=s;have f:(l++[(c,b)]).getLast?=some (c,b):=Ak;cases b with
   | false=>
    have e:s'=(out,last,false):=hs;subst e;rw [if_neg (by decide)] at a;exact ⟨P,w.trans a.symm,g,λh=>by cases h⟩
   | true=>
    rw [if_pos rfl] at a;cases pv with
    | false=>
     have e:s'=(Jfa out last++[(role,(false,[]))],[c],true):=hs;subst e;refine ⟨λh=>by simp at h,?_,λt m=>?_,λ_=>⟨c,true,f,rfl⟩⟩
     ·dsimp only;rw [Jd6,Jf8,Jkp,a];exact congrArg (·++[c]) w
     ·dsimp only at m;rw [Jd6] at m;rcases Aa.1 m with q|q
      ·exact g t q
      ·rw [Ab] at q;subst q;exact ⟨rfl,rfl,chn_one o.1⟩
    | true=>
     have E:out≠[]:=B.2.1 rfl;obtain ⟨r,v,rfl⟩:∃r v,out=r++[v]:=⟨_,_,(List.dropLast_concat_getLast E).symm⟩;have e:s'=(r++[v],last++[c],true):=hs;subst e;obtain ⟨p,pb,J,H⟩:=O rfl;have H:last.getLast?=some p:=H;have w:flt (Jfa (r++[v]) last)=kp l:=w;have g:∀t∈Jfa (r++[v]) last,t.1=role/\t.2.1=false/\Chn t.2.2:=g;rw [Jd6] at w g;have A:l≠[]:=by rintro rfl;cases J
     have M:0<l.length:=Am.2 A;have F:nb p c:=o.2 p (by rw [Aj];omega) (by rw [Ah] at J;rw [Aj,Ac (by rw [Aj];omega),List.getElem?_map,J];rfl)
     refine ⟨λh=>by simp at h,?_,λt m=>?_,λ_=>⟨c,true,f,Ak⟩⟩
     ·dsimp only;rw [Jd6,Jf8,Jkp,a,<-w,Jf8,Jkp,List.append_assoc]
     ·dsimp only at m;rw [Jd6] at m;rcases Aa.1 m with q|q
      ·exact g t (Aa.2 (.inl q))
      ·rw [Ab] at q;subst q;obtain ⟨L,K,X⟩:=g _ (Aa.2 (.inr (Ab.2 rfl)));exact ⟨L,K,chn_snoc X H o.1 F⟩
 have:=key l.reverse;rw [Af] at this;exact this y
structure OnI (l:List Jz) (s:List Jz×Mb):Prop where
 nd:(flt s.1).Nodup
 seen:∀c,zn s.2 c=true↔c∈flt s.1
 mem:∀c,c∈flt s.1↔c∈flt l
 ok:∀t∈s.1,VT t/\t.1=1
theorem onI(l:List Jz)(h:∀t∈l,VT t/\t.1=1):OnI l (l.foldl stN ([],[])):=by
 have key:∀k:List Jz,(∀t∈k.reverse,VT t/\t.1=1)->OnI k.reverse (k.reverse.foldl stN ([],[])):=by
  intro k
  induction k with
  | nil=>exact λ_=>⟨.nil,λc=>⟨λh=>(by cases h),λh=>(Ad h).elim⟩,λc=>Iff.rfl,λt h=>(Ad h).elim⟩
  | cons x k O=>
   intro h;rw [Ag] at h ⊢;obtain ⟨v,hr⟩:=h x (Aa.2 (.inr (Ab.2 rfl)));obtain ⟨Q,w,B,P⟩:=O λt d=>h t (Aa.2 (.inl d));rw [List.foldl_append];have es:List.foldl stN (k.reverse.foldl stN ([],[])) [x]=stN (k.reverse.foldl stN ([],[])) x:=rfl;rw [es];generalize k.reverse.foldl stN ([],[])=s at *
   generalize k.reverse=l at *
   obtain ⟨out,m⟩:=s;obtain ⟨N,M,L,K,J,H⟩:=runI m x.2.2;have E:=Jls m x.2.2;have o:(x.2.2.zip (runO m x.2.2).2.2).map (·.1)=x.2.2:=List.map_fst_zip (by omega);have R:(x.2.2.zip (runO m x.2.2).2.2).length=x.2.2.length:=by rw [List.length_zip];omega
   have g:=pcI x.1 (x.2.2.zip (runO m x.2.2).2.2) (by rw [o];exact v.2.2.1);have r:∃A:List Jz,stN (out,m) x=(out++A,(runO m x.2.2).2.1)/\flt A=kp (x.2.2.zip (runO m x.2.2).2.2)/\∀t∈A,VT t/\t.1=1:=by
    unfold stN;rw [if_pos v];refine ⟨_,rfl,?_,?_⟩
    ·dsimp only;split
     ·rename_i y;rw [Jkp,H y]
     ·exact g.fl
    ·dsimp only;intro t d;split at d
     ·rw [Ab] at d;subst d;exact ⟨v,hr⟩
     ·obtain ⟨Z,Y,F⟩:=g.ok t d;have g4:=J12 _ _ t d;have g5:=v.2.1.2;have g6:=Am.2 F.1;exact ⟨⟨by omega,by omega,F.2,λq=>by rw [Y] at q;cases q⟩,Z.trans hr⟩
   obtain ⟨A,a1,G,a3⟩:=r;rw [a1];have f:∀c,c∈flt (out++A)↔c∈flt (l++[x]):=λc=>by
    rw [Jf8,Jf8,Jkp,Aa,Aa,<-B,G];refine ⟨λq=>q.elim .inl λq=>.inr (J c q),λq=>q.elim .inl λq=>?_⟩;rcases K c q with q|q
    ·exact .inl ((w c).1 q)
    ·exact .inr q
   refine ⟨?_,λc=>?_,f,λt d=>?_⟩
   ·dsimp only;rw [Jf8,G];refine List.nodup_append.2 ⟨Q,M,λa y b X=>?_⟩;rintro rfl;have:=L a X;rw [(w a).2 y] at this;cases this
   ·rw [f,N,w];rw [Jf8,Jkp,Aa,<-B]
   ·rcases Aa.1 d with q|q
    ·exact P t q
    ·exact a3 t q
 have:=key l.reverse;rw [Af] at this;exact this h
theorem J4l{r:Reg}{c:Cell}:deep r 0 c↔Jv r c:=by
 constructor
 ·intro h;have:=h 0 0 (by omega) (by omega) (by omega) (by omega);simpa using this
 ·intro h dx dy m l g f;have d:dx=0:=by omega
  have a:dy=0:=by omega
  subst d a;simpa using h
theorem Jiq{r:Reg}{k:Int}(a:0<=k){c:Cell}(h:deep r k c):Jv r c:=by have:=h 0 0 (by omega) (by omega) (by omega) (by omega);simpa using this
theorem Jcv{r:Reg}(h:RegOK r):∀(n:Nat) (c:Cell),Jv (eroN r n) c↔deep r (n:Int) c
 | 0,c=>J4l.symm
 | n+1,c=>by
  have e:=(Jep (Jga h n).1).2.2 c;refine e.trans ?_;constructor
  ·intro q dx dy y w v o;obtain ⟨a,g⟩:∃a:Int,(-1<=a/\a<=1)/\(-(n:Int)<=dx - a/\dx - a<=n):=by
    by_cases m:0<dx
    ·exact ⟨1,by omega,by omega,by omega⟩
    ·by_cases l:dx<0
     ·exact ⟨-1,by omega,by omega,by omega⟩
     ·exact ⟨0,by omega,by omega,by omega⟩
   obtain ⟨b,f⟩:∃b:Int,(-1<=b/\b<=1)/\(-(n:Int)<=dy - b/\dy - b<=n):=by
    by_cases m:0<dy
    ·exact ⟨1,by omega,by omega,by omega⟩
    ·by_cases l:dy<0
     ·exact ⟨-1,by omega,by omega,by omega⟩
     ·exact ⟨0,by omega,by omega,by omega⟩
   have d:=(Jcv h n _).1 (q a b g.1.1 g.1.2 f.1.1 f.1.2) (dx - a) (dy - b) g.2.1 g.2.2 f.2.1 f.2.2;have B:c.1+a+(dx - a)=c.1+dx:=by omega
   have A:c.2+b+(dy - b)=c.2+dy:=by omega
   dsimp only at d;rwa [B,A] at d
  ·intro q a b y w v o;refine (Jcv h n _).2 λdx dy H G F E=>?_;have d:=q (a+dx) (b+dy) (by omega) (by omega) (by omega) (by omega);rw [<-Int.add_assoc,<-Int.add_assoc] at d;exact d
theorem J0z{r:Reg}(h:RegOK r)(l:(K8 r).length<=2000)(c:Cell):c∈flt (Jat r)↔J2g r c:=by
 have g:=Jsc r;have a:=(Jlx r (Xp h) λ_=>by omega).2 h;rw [J29];constructor
 ·rintro ⟨t,f,d⟩;obtain ⟨s,hs,rfl⟩:=List.mem_map.1 f;exact Jx6 ((a.mem s).1 hs).1 ((Jro c).1 d)
 ·intro q;obtain ⟨s,hs,d⟩:=Jxp q;exact ⟨Jdd r s,List.mem_map.2 ⟨s,(a.mem s).2 hs,rfl⟩,(Jro c).2 d⟩
theorem Jla{r:Reg}(h:RegOK r)(m:(K8 r).length<=2000):∀(n:Nat) (c:Cell),c∈flt (Q5 r n)↔Jv r c/\¬Jv (eroN r n) c
 | 0,c=>⟨λq=>(Ad q).elim,λq=>(q.2 q.1).elim⟩
 | n+1,c=>by
  obtain ⟨f,o⟩:=Jga h n;have ef:Jv (eroN r (n+1)) c↔deep (eroN r n) 1 c:=(Jep f).2.2 c;show c∈flt (Q5 r n++Jat (eroN r n))↔_;rw [Jf8,Aa,Jla h m n,J0z f (by omega),J6t,ef];have l:deep (eroN r n) 1 c->Jv (eroN r n) c:=Jiq (by decide);have g:Jv (eroN r n) c->Jv r c:=λq=>Jiq (by omega) ((Jcv h n c).1 q);constructor
  ·rintro (⟨d,a⟩|⟨d,a⟩)
   ·exact ⟨d,λq=>a (l q)⟩
   ·exact ⟨g d,a⟩
  ·rintro ⟨d,a⟩;by_cases q:Jv (eroN r n) c
   ·exact .inr ⟨q,a⟩
   ·exact .inl ⟨d,q⟩
theorem flt_len{l:List Jz}(h:∀t∈l,VT t/\t.1=1):l.length<=(flt l).length:=by
 induction l with
 | nil=>exact Nat.le_refl _
 | cons t l a=>
  have f:=a λx hx=>h x (List.mem_cons_of_mem _ hx);have d:=(h t (List.mem_cons_self ..)).1.2.1.1;have e:flt (t::l)=t.2.2++flt l:=by unfold flt;rw [List.flatMap_cons]
  rw [e,List.length_cons,Ae];omega
theorem Jwi{r:Reg}(h:RegOK r)(d:(K8 r).length<=2000)(n:Nat) :
  (∀t∈Jdv (Q5 r n),VT t/\t.1=1)/\(flt (Jdv (Q5 r n))).Nodup/\(∀c,c∈flt (Jdv (Q5 r n))↔Jv r c/\¬Jv (eroN r n) c)/\(flt (Jdv (Q5 r n))).length<=2000/\(Jdv (Q5 r n)).length<=2000:=by have a:=onI (Q5 r n) λt f=>⟨((Jch h d n).2 t f).1,((Jch h d n).2 t f).2.1⟩;have g:∀c,c∈flt (Jdv (Q5 r n))↔Jv r c/\¬Jv (eroN r n) c:=λc=>(a.mem c).trans (Jla h d n c);have l:(flt (Jdv (Q5 r n))).length<=2000:=Nat.le_trans (Yr a.nd λc q=>Q8.2 ((g c).1 q).1) d;exact ⟨a.ok,a.nd,g,l,Nat.le_trans (flt_len a.ok) l⟩
theorem Jof{r:Reg}(h:RegOK r)(m:(K8 r).length<=2000)(n:Nat) :
  ∃T,@Yv wv (Jdv (Q5 r n))=some T/\RegOK T/\(∀c,Jv T c↔Jv r c/\¬Jv (eroN r n) c)/\(K8 T).length=(flt (Jdv (Q5 r n))).length:=by
 obtain ⟨y,w,v,o,A⟩:=Jwi h m n;obtain ⟨T,l,g,t3⟩:=Cover_ok (Jdv (Q5 r n)) (by omega) (by unfold flt at o;omega);have f:∀c,Jv T c↔c∈flt (Jdv (Q5 r n)):=λc=>by rw [t3,J29];exact ⟨λ⟨t,a,_,b⟩=>⟨t,a,b⟩,λ⟨t,a,b⟩=>⟨t,a,(y t a).1,b⟩⟩
 refine ⟨T,l,g,λc=>(f c).trans (v c),Nat.le_antisymm (Yr ((g.cells_pw).imp λ{a b} d e=>?_) λc q=>(f c).1 (Q8.1 q)) (Yr w λc q=>Q8.2 ((f c).2 q))⟩;subst e;exact Ji2 d d
theorem Equal_ok(l:List Run)(hl:l.length<=1000000000):@K6 wv (l,l)=some true:=by
 have a:=Qo (b:=@Kx wv) (e:=.inr ()) (λi=>⟨l,l,(l.length:Int),(i:Int),()⟩) l.length (by omega) (λi hi=>by
  have hx:=Ai hi;generalize l[i]=u at hx;unfold Kx;dsimp only;rw [Qp (by omega),ge_s (fg hx),ge_s (fg hx),br_f (by simp [w_nt,w_an,Xb]),Ki,wr (by omega) (by omega)];rfl) (by unfold Kx;dsimp only;rw [Ko (by omega)])
 unfold K6;dsimp only;rw [br_f (by simp [Jvf,w_ln]),w_ln];exact lo_s a
theorem Jhk{r:Reg}(h:RegOK r):@Jb6 wv (r,r)=some true:=by
 have hl:=Xp h;have hL:=hl.1;have a:=Qo (b:=@j7 wv) (e:=.inr ()) (λi=>⟨r,r,(r.length:Int),(i:Int),()⟩) r.length (by omega) (λi hi=>by
  have d:=Ai hi;generalize r[i]=w at d;have hLw:=hl.2 w (List.mem_of_getElem? d);unfold j7;dsimp only;rw [Qp (by omega),ge_s (fg d),ge_s (fg d),br_t (by simp [Xb])];refine (ca_s (c:=Kq) (Equal_ok w.2 hLw)).trans ?_;rw [br_f (by rfl),Ki,wr (by omega) (by omega)];rfl) (by unfold j7;dsimp only;rw [Ko (by omega)])
 unfold Jb6;dsimp only;rw [Qa hl,br_t (by simp [h]),Qa hl,br_t (by simp [h]),br_f (by simp [Jvf,w_ln]),w_ln];exact (lo_s a).trans rfl
end Go.Proofs.YtmfagdfkpjgeiaaGreat
