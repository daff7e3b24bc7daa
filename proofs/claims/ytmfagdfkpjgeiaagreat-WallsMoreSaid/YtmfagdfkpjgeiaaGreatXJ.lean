/- The typed texts of functions, and that they are right. Conditions: none. -/
import Derived.Test.YtmfagdfkpjgeiaaGreatXG
import Derived.Test.YtmfagdfkpjgeiaaGreatXI
set_option linter.unusedVariables false
set_option linter.unusedSimpArgs false
set_option maxRecDepth 100000
namespace Go.Proofs.YtmfagdfkpjgeiaaGreat
open Go Go.Vv Go.Dn Go.Dn.W
open List renaming mem_append -> Aa, mem_singleton -> Ab, getElem?_append_left -> Ac, not_mem_nil -> Ad, length_append -> Ae, reverse_reverse -> Af, reverse_cons -> Ag, getLast?_eq_getElem? -> Ah, getElem?_eq_getElem -> Ai, length_map -> Aj, getLast?_concat -> Ak, length_pos_iff -> Am
abbrev Gg:=List (Int×Int)
abbrev Gf:=List (Int×Gg)
abbrev Gi:=List (Int×(Bool×Gg))
abbrev Gj:=HP Int (HP Int Unit)
noncomputable def Ks[W](s:(HP Gg (HP Gg Gj))):Option (Nx (HP Gg (HP Gg Gj)) (Unit⊕Unit)):=br (cm .lss s.j.j.j.e s.j.j.e) (ge s.e s.j.j.j.e λv0=>ge s.j.e s.j.j.j.e λv1=>br (nt (an (cm .eql v0.1 v1.1) (cm .eql v0.2 v1.2))) (some (.out (.inl ()))) (some (.go ⟨s.e,⟨s.j.e,⟨s.j.j.e,⟨(ar .add .i64 s.j.j.j.e 1),()⟩⟩⟩⟩))) (some (.out (.inr ())))
noncomputable def K3[W](a:(Gg×Gg)):Option Bool:=br (cm .neq (ln a.1) (ln a.2)) (some false) (loop Ks ⟨a.1,⟨a.2,⟨(ln a.1),⟨0,()⟩⟩⟩⟩ λv2=>match v2 with|.inl v3=>(some false)|.inr v4=>(some true))
noncomputable def Km:Ctr:=⟨80,[(.one,(.ls (.p I I))),(.one,(.ls (.p I I)))],[(false,.bool)],@K3 wv⟩
theorem Jbd(w:W)(a):fnD (dW w) (V1 []) 8 80 Km.as Km.rs a=@K3 w a:=by kernel_rfl
theorem Ja4:V3 Km:=V2 Jx (Ju (by kernel_rfl)) rfl rfl (Jbd wv)
noncomputable def jt[W](s:(HP Gf (HP Gf Gj))):Option (Nx (HP Gf (HP Gf Gj)) (Unit⊕Unit)):=br (cm .lss s.j.j.j.e s.j.j.e) (ge s.j.e s.j.j.j.e λv2=>ge s.e s.j.j.j.e λv3=>br (cm .eql v2.1 v3.1) (call Km ((v2.2,v3.2):(Gg×Gg)) λ(v4:Bool)=>br (nt v4) (some (.out (.inl ()))) (some (.go ⟨s.e,⟨s.j.e,⟨s.j.j.e,⟨(ar .add .i64 s.j.j.j.e 1),()⟩⟩⟩⟩))) (some (.out (.inl ())))) (some (.out (.inr ())))
noncomputable def Jbn[W](a:(Gf×Gf)):Option Bool:=call Jp (a.1:Gf) λ(v0:Bool)=>br v0 (call Jp (a.2:Gf) λ(v1:Bool)=>br v1 (br (cm .neq (ln a.1) (ln a.2)) (some false) (loop jt ⟨a.2,⟨a.1,⟨(ln a.1),⟨0,()⟩⟩⟩⟩ λv5=>match v5 with|.inl f=>(some false)|.inr d=>(some true))) (some false)) (some false)
noncomputable def Zv:Ctr:=⟨32,[(.ag,(.ls (.p I (.ls (.p I I))))),(.ag,(.ls (.p I (.ls (.p I I)))))],[(false,.bool)],@Jbn wv⟩
theorem Jsd(w:W)(a):fnD (dW w) (V1 [(80,Km),(23,Jp)]) 8 32 Zv.as Zv.rs a=@Jbn w a:=by kernel_rfl
theorem Jrp:V3 Zv:=V2 (Jj Ja4 (Jj je Jx)) (Ju (by kernel_rfl)) rfl rfl (Jsd wv)
noncomputable def Kq[W](a:(Gf×Int)):Option Bool:=call Qq (a.1:Gf) λ(v0:Bool)=>br v0 (call J1 (():Unit) λ(v1:Bool)=>some v1) (br (cm .lss a.2 0) (call J1 (():Unit) λ(v2:Bool)=>some v2) (br (cm .geq a.2 64) (call J1 (():Unit) λ(v3:Bool)=>some v3) (call Kp ((a.1,a.2):(Gf×Int)) λ(v4:(Gi×Gf))=>call Kp ((a.1,(ar .add .i64 a.2 1)):(Gf×Int)) λ(v5:(Gi×Gf))=>br (cm .leq (ln v4.1) (ln v5.1)) (gd (le 0 (ln v4.1))<|gd (le (ln v4.1) (ln v5.1))<|call Kz ((v4.1,(ct v5.1 0 (ln v4.1))):(Gi×Gi)) λ(g:Bool)=>br g (call Qn ((v4.2,1):(Gf×Int)) λ(f:Gf)=>call Zv ((v5.2,f):(Gf×Gf)) λ(d:Bool)=>br d (call J1 (():Unit) λ(v9:Bool)=>some v9) (some false)) (some false)) (some false))))
noncomputable def Jc8:Ctr:=⟨8,[(.ag,(.ls (.p I (.ls (.p I I))))),(.one,I)],[(false,.bool)],@Kq wv⟩
theorem Jc1(w:W)(a):fnD (dW w) (V1 [(28,Qq),(29,J1),(30,Kp),(13,Kz),(33,Qn),(32,Zv)]) 8 8 Jc8.as Jc8.rs a=@Kq w a:=by kernel_rfl
theorem Jc3:V3 Jc8:=V2 (Jj Jfb (Jj Jff (Jj Jhz (Jj Jd5 (Jj Jil (Jj Jrp Jx)))))) (Ju (by kernel_rfl)) rfl rfl (Jc1 wv)
def flt(l:List Jw):List Cell:=l.flatMap λt=>t.2.2
theorem Jfo(a b:List Jw):flt (a++b)=flt a++flt b:=by unfold flt;rw [List.flatMap_append]
theorem Jjb(t:Jw):flt [t]=t.2.2:=by unfold flt;simp
theorem mem_flt{l:List Jw}{c:Cell}:c∈flt l↔∃t∈l,c∈t.2.2:=by unfold flt;exact List.mem_flatMap
def kp(l:List (Cell×Bool)):List Cell:=(l.filter λp=>p.2).map (·.1)
theorem J4f(l:List (Cell×Bool))(c:Cell)(b:Bool):kp (l++[(c,b)])=if b=true then kp l++[c] else kp l:=by unfold kp;rw [List.filter_append,List.map_append];cases b<;>simp
structure RunI (m:Mb) (l:List Cell):Prop where
 mem:∀c,za (runO m l).2.1 c=true↔za m c=true\/c∈l
 nd:(kp (l.zip (runO m l).2.2)).Nodup
 new:∀c∈kp (l.zip (runO m l).2.2),za m c=false
 all:∀c,c∈l->za m c=true\/c∈kp (l.zip (runO m l).2.2)
 sub:∀c∈kp (l.zip (runO m l).2.2),c∈l
 full:(runO m l).1=true->kp (l.zip (runO m l).2.2)=l
theorem runI(m:Mb)(l:List Cell):RunI m l:=by
 have key:∀k:List Cell,RunI m k.reverse:=by
  intro k
  induction k with
  | nil=>exact ⟨λc=>⟨.inl,λh=>h.elim id λq=>(Ad q).elim⟩,.nil,λc h=>(Ad h).elim,λc h=>(Ad h).elim,λc h=>(Ad h).elim,λ_=>rfl⟩
  | cons x k B =>
   rw [Ag];have f:=Jkq m k.reverse;obtain ⟨o,y,w,v,r,E⟩:=B;generalize k.reverse=l at *
   have F:(l++[x]).zip (runO m (l++[x])).2.2=l.zip (runO m l).2.2++[(x,!za (runO m l).2.1 x)]:=by rw [Jh3];show (l++[x]).zip ((runO m l).2.2++[!za (runO m l).2.1 x])=_;rw [List.zip_append f.symm];rfl
   have g:kp ((l++[x]).zip (runO m (l++[x])).2.2)=if za (runO m l).2.1 x=true then kp (l.zip (runO m l).2.2) else kp (l.zip (runO m l).2.2)++[x]:=by rw [F,J4f];cases za (runO m l).2.1 x<;>rfl
   have G:(runO m (l++[x])).2.1=putM (runO m l).2.1 x:=by rw [Jh3];rfl
   have J:(runO m (l++[x])).1=((runO m l).1&&!za (runO m l).2.1 x):=by rw [Jh3];rfl
   refine ⟨λc=>?_,?_,λc d=>?_,λc d=>?_,λc d=>?_,λh=>?_⟩
   ·rw [G,seen_put,Bool.or_eq_true,decide_eq_true_eq,o,Aa,Ab];exact ⟨λh=>h.elim (λq=>.inr (.inr q)) λq=>q.elim .inl λq=>.inr (.inl q),λh=>h.elim (λq=>.inr (.inl q)) λq=>q.elim (λq=>.inr (.inr q)) .inl⟩
   ·rw [g];split
    ·exact y
    ·rename_i hs;refine List.nodup_append.2 ⟨y,by simp,λa K b A=>?_⟩;rw [Ab] at A;subst A;rintro rfl;exact hs ((o a).2 (.inr (r a K)))
   ·rw [g] at d;split at d
    ·exact w c d
    ·rename_i hs;rcases Aa.1 d with q|q
     ·exact w c q
     ·rw [Ab] at q;subst q;cases H:za m c with
      | false=>rfl
      | true=>exact (hs ((o c).2 (.inl H))).elim
   ·rw [g];rcases Aa.1 d with q|q
    ·rcases v c q with q|q
     ·exact .inl q
     ·refine .inr ?_;split
      ·exact q
      ·exact Aa.2 (.inl q)
    ·rw [Ab] at q;subst q;by_cases hs:za (runO m l).2.1 c=true
     ·rw [if_pos hs];rcases (o c).1 hs with q|q
      ·exact .inl q
      ·exact v c q
     ·rw [if_neg hs];exact .inr (Aa.2 (.inr (Ab.2 rfl)))
   ·rw [g] at d;split at d
    ·exact Aa.2 (.inl (r c d))
    ·rcases Aa.1 d with q|q
     ·exact Aa.2 (.inl (r c q))
     ·exact Aa.2 (.inr q)
   ·rw [J,Bool.and_eq_true] at h;rw [g,if_neg (by rw [Bool.not_eq_true']at h;rw [h.2];simp),E h.1]
 have:=key l.reverse;rwa [Af] at this
def Chn(l:List Cell):Prop:=l≠[]/\∀i,i<l.length->Jqt l i
theorem chn_one{c:Cell}(h:grid c):Chn [c]:=⟨by simp,λi hi=>by
 have:i=0:=by simp at hi;omega
 subst this;intro d hd;have:c=d:=by simpa using hd
 subst this;exact ⟨h,λp a=>by omega⟩⟩
theorem chn_snoc{l:List Cell}{c p:Cell}(h:Chn l)(hl:l.getLast?=some p)(o:grid c)(m:nb p c):Chn (l++[c]):=⟨by simp,λi hi d hd=>by
 rw [Ae] at hi;have hi:i<l.length+1:=hi;by_cases f:i<l.length
 ·rw [Ac f] at hd;obtain ⟨v,r⟩:=h.2 i f d hd;refine ⟨v,λq g a=>r q g ?_⟩;rwa [Ac (by omega)] at a
 ·have e:i=l.length:=by omega
  subst e;have:c=d:=by simpa using hd
  subst this;refine ⟨o,λq g a=>?_⟩;rw [Ac (by omega)] at a;rw [Ah] at hl;rw [hl] at a;cases a;exact m⟩
structure PcI (role:Int) (l:List (Cell×Bool)) (s:List Jw×List Cell×Bool):Prop where
 nil:s.1=[]->s.2.1=[]
 fl:flt (Jep s.1 s.2.1)=kp l
 ok:∀t∈Jep s.1 s.2.1,t.1=role/\t.2.1=false/\Chn t.2.2
 pv:s.2.2=true->∃p b,l.getLast?=some (p,b)/\s.2.1.getLast?=some p
theorem Jda(r:List Jw)(v:Jw)(last:List Cell):Jep (r++[v]) last=r++[(v.1,(v.2.1,last))]:=by unfold Jep;rw [Xg]
theorem pcI(role:Int)(l:List (Cell×Bool))(y:∀i,i<(l.map (·.1)).length->Jqt (l.map (·.1)) i):PcI role l (runQ role l):=by
 have key:∀k:List (Cell×Bool),(∀i,i<(k.reverse.map (·.1)).length->Jqt (k.reverse.map (·.1)) i)->PcI role k.reverse (runQ role k.reverse):=by
  intro k
  induction k with
  | nil=>exact λ_=>⟨λ_=>rfl,rfl,λt h=>(Ad h).elim,λh=>by cases h⟩
  | cons x k N =>
   intro y;obtain ⟨c,b⟩:=x;rw [Ag] at y ⊢;rw [List.map_append] at y;have B:=Jhr role k.reverse;have G:∀i,i<(k.reverse.map (·.1)).length->Jqt (k.reverse.map (·.1)) i:=λi hi d hd=>by obtain ⟨L,K⟩:=y i (by rw [Ae];omega) d (by rw [Ac hi];exact hd);exact ⟨L,λp R Q=>K p R (by rw [Ac (by omega)];exact Q)⟩
   have o:=y (k.reverse.map (·.1)).length (by rw [Ae];exact Nat.lt_succ_self _) c (by rw [List.getElem?_append_right (by omega),Nat.sub_self];rfl);obtain ⟨P,w,g,O⟩:=N G;generalize k.reverse=l at *
   have hs:=Jh2 role l (c,b);have a:=J4f l c b;generalize runQ role l=s at *
   generalize runQ role (l++[(c,b)])=s' at *
   obtain ⟨out,last,pv⟩:=s;have f:(l++[(c,b)]).getLast?=some (c,b):=Ak;cases b with
   | false =>
    have e:s'=(out,last,false):=hs;subst e;rw [if_neg (by decide)] at a;exact ⟨P,w.trans a.symm,g,λh=>by cases h⟩
   | true =>
    rw [if_pos rfl] at a;cases pv with
    | false =>
     have e:s'=(Jep out last++[(role,(false,[]))],[c],true):=hs;subst e;refine ⟨λh=>by simp at h,?_,λt m=>?_,λ_=>⟨c,true,f,rfl⟩⟩
     ·dsimp only;rw [Jda,Jfo,Jjb,a];exact congrArg (·++[c]) w
     ·dsimp only at m;rw [Jda] at m;rcases Aa.1 m with q|q
      ·exact g t q
      ·rw [Ab] at q;subst q;exact ⟨rfl,rfl,chn_one o.1⟩
    | true =>
     have E:out≠[]:=B.2.1 rfl;obtain ⟨r,v,rfl⟩:∃r v,out=r++[v]:=⟨_,_,(List.dropLast_concat_getLast E).symm⟩;have e:s'=(r++[v],last++[c],true):=hs;subst e;obtain ⟨p,pb,J,H⟩:=O rfl;have H:last.getLast?=some p:=H;have w:flt (Jep (r++[v]) last)=kp l:=w;have g:∀t∈Jep (r++[v]) last,t.1=role/\t.2.1=false/\Chn t.2.2:=g;rw [Jda] at w g;have A:l≠[]:=by rintro rfl;cases J
     have M:0<l.length:=Am.2 A;have F:nb p c:=o.2 p (by rw [Aj];omega) (by rw [Ah] at J;rw [Aj,Ac (by rw [Aj];omega),List.getElem?_map,J];rfl)
     refine ⟨λh=>by simp at h,?_,λt m=>?_,λ_=>⟨c,true,f,Ak⟩⟩
     ·dsimp only;rw [Jda,Jfo,Jjb,a,<-w,Jfo,Jjb,List.append_assoc]
     ·dsimp only at m;rw [Jda] at m;rcases Aa.1 m with q|q
      ·exact g t (Aa.2 (.inl q))
      ·rw [Ab] at q;subst q;obtain ⟨L,K,X⟩:=g _ (Aa.2 (.inr (Ab.2 rfl)));exact ⟨L,K,chn_snoc X H o.1 F⟩
 have:=key l.reverse;rw [Af] at this;exact this y
structure OnI (l:List Jw) (s:List Jw×Mb):Prop where
 nd:(flt s.1).Nodup
 seen:∀c,za s.2 c=true↔c∈flt s.1
 mem:∀c,c∈flt s.1↔c∈flt l
 ok:∀t∈s.1,VT t/\t.1=1
theorem onI(l:List Jw)(h:∀t∈l,VT t/\t.1=1):OnI l (l.foldl stN ([],[])):=by
 have key:∀k:List Jw,(∀t∈k.reverse,VT t/\t.1=1)->OnI k.reverse (k.reverse.foldl stN ([],[])):=by
  intro k
  induction k with
  | nil=>exact λ_=>⟨.nil,λc=>⟨λh=>(by cases h),λh=>(Ad h).elim⟩,λc=>Iff.rfl,λt h=>(Ad h).elim⟩
  | cons x k O =>
   intro h;rw [Ag] at h ⊢;obtain ⟨v,hr⟩:=h x (Aa.2 (.inr (Ab.2 rfl)));obtain ⟨Q,w,B,P⟩:=O λt d=>h t (Aa.2 (.inl d));rw [List.foldl_append];have es:List.foldl stN (k.reverse.foldl stN ([],[])) [x]=stN (k.reverse.foldl stN ([],[])) x:=rfl;rw [es];generalize k.reverse.foldl stN ([],[])=s at *
   generalize k.reverse=l at *
   obtain ⟨out,m⟩:=s;obtain ⟨N,M,L,K,J,H⟩:=runI m x.2.2;have E:=Jkq m x.2.2;have o:(x.2.2.zip (runO m x.2.2).2.2).map (·.1)=x.2.2:=List.map_fst_zip (by omega);have R:(x.2.2.zip (runO m x.2.2).2.2).length=x.2.2.length:=by rw [List.length_zip];omega
   have g:=pcI x.1 (x.2.2.zip (runO m x.2.2).2.2) (by rw [o];exact v.2.2.1);have r:∃A:List Jw,stN (out,m) x=(out++A,(runO m x.2.2).2.1)/\flt A=kp (x.2.2.zip (runO m x.2.2).2.2)/\∀t∈A,VT t/\t.1=1:=by
    unfold stN;rw [if_pos v];refine ⟨_,rfl,?_,?_⟩
    ·dsimp only;split
     ·rename_i y;rw [Jjb,H y]
     ·exact g.fl
    ·dsimp only;intro t d;split at d
     ·rw [Ab] at d;subst d;exact ⟨v,hr⟩
     ·obtain ⟨Z,Y,F⟩:=g.ok t d;have g4:=Jzk _ _ t d;have g5:=v.2.1.2;have g6:=Am.2 F.1;exact ⟨⟨by omega,by omega,F.2,λq=>by rw [Y] at q;cases q⟩,Z.trans hr⟩
   obtain ⟨A,a1,G,a3⟩:=r;rw [a1];have f:∀c,c∈flt (out++A)↔c∈flt (l++[x]):=λc=>by
    rw [Jfo,Jfo,Jjb,Aa,Aa,<-B,G];refine ⟨λq=>q.elim .inl λq=>.inr (J c q),λq=>q.elim .inl λq=>?_⟩;rcases K c q with q|q
    ·exact .inl ((w c).1 q)
    ·exact .inr q
   refine ⟨?_,λc=>?_,f,λt d=>?_⟩
   ·dsimp only;rw [Jfo,G];refine List.nodup_append.2 ⟨Q,M,λa y b X=>?_⟩;rintro rfl;have:=L a X;rw [(w a).2 y] at this;cases this
   ·rw [f,N,w];rw [Jfo,Jjb,Aa,<-B]
   ·rcases Aa.1 d with q|q
    ·exact P t q
    ·exact a3 t q
 have:=key l.reverse;rw [Af] at this;exact this h
theorem J33(a b:List Jw):∃c,Jc9 (a++b)=Jc9 a++c:=by
 have key:∀(b:List Jw) (s:List Jw×Mb),∃c,(b.foldl stN s).1=s.1++c:=by
  intro b
  induction b with
  | nil=>exact λs=>⟨[],(List.append_nil _).symm⟩
  | cons x b f =>
   intro s;obtain ⟨c,g⟩:=f (stN s x);have h:∃d,(stN s x).1=s.1++d:=by
    unfold stN;split
    ·exact ⟨_,rfl⟩
    ·exact ⟨[],(List.append_nil _).symm⟩
   obtain ⟨d,hd⟩:=h;exact ⟨d++c,by rw [List.foldl_cons,g,hd,List.append_assoc]⟩
 unfold Jc9;rw [List.foldl_append];exact key b _
theorem J2c{r:Reg}{c:Cell}:deep r 0 c↔Kk r c:=by
 constructor
 ·intro h;have:=h 0 0 (by omega) (by omega) (by omega) (by omega);simpa using this
 ·intro h dx dy m l g f;have d:dx=0:=by omega
  have a:dy=0:=by omega
  subst d a;simpa using h
theorem Jnm{r:Reg}{k:Int}(a:0<=k){c:Cell}(h:deep r k c):Kk r c:=by have:=h 0 0 (by omega) (by omega) (by omega) (by omega);simpa using this
theorem Jmv{r:Reg}(h:RegOK r):∀(n:Nat) (c:Cell),Kk (eroN r n) c↔deep r (n:Int) c
 | 0,c=>J2c.symm
 | n+1,c=>by
  have e:=(Jan (Jjf h n).1).2.2 c;refine e.trans ?_;constructor
  ·intro q dx dy y w v o;obtain ⟨a,g⟩:∃a:Int,(-1<=a/\a<=1)/\(-(n:Int)<=dx - a/\dx - a<=n):=by
    by_cases m:0<dx
    ·exact ⟨1,by omega,by omega,by omega⟩
    ·by_cases l:dx<0
     ·exact ⟨-1,by omega,by omega,by omega⟩
     ·exact ⟨0,by omega,by omega,by omega⟩
   obtain ⟨b,f⟩:∃b:Int,(-1<=b/\b<=1)/\(-(n:Int)<=dy - b/\dy - b<=n):=by
    by_cases m:0<dy
    ·exact ⟨1,by omega,by omega,by omega⟩
    ·by_cases l:dy<0
     ·exact ⟨-1,by omega,by omega,by omega⟩
     ·exact ⟨0,by omega,by omega,by omega⟩
   have d:=(Jmv h n _).1 (q a b g.1.1 g.1.2 f.1.1 f.1.2) (dx - a) (dy - b) g.2.1 g.2.2 f.2.1 f.2.2;have B:c.1+a+(dx - a)=c.1+dx:=by omega
   have A:c.2+b+(dy - b)=c.2+dy:=by omega
   dsimp only at d;rwa [B,A] at d
  ·intro q a b y w v o;refine (Jmv h n _).2 λdx dy H G F E=>?_;have d:=q (a+dx) (b+dy) (by omega) (by omega) (by omega) (by omega);rw [<-Int.add_assoc,<-Int.add_assoc] at d;exact d
theorem J0b{r:Reg}(h:RegOK r)(l:(Q1 r).length<=2000)(c:Cell):c∈flt (zk r)↔J44 r c:=by
 have g:=Jrf r;have a:=(Jkr r (Jbv h) λ_=>by omega).2 h;rw [mem_flt];constructor
 ·rintro ⟨t,f,d⟩;obtain ⟨s,hs,rfl⟩:=List.mem_map.1 f;exact Jwk ((a.mem s).1 hs).1 ((Jsb c).1 d)
 ·intro q;obtain ⟨s,hs,d⟩:=Jwq q;exact ⟨Jcx r s,List.mem_map.2 ⟨s,(a.mem s).2 hs,rfl⟩,(Jsb c).2 d⟩
theorem Jj3{r:Reg}(h:RegOK r)(m:(Q1 r).length<=2000):∀(n:Nat) (c:Cell),c∈flt (Xa r n)↔Kk r c/\¬Kk (eroN r n) c
 | 0,c=>⟨λq=>(Ad q).elim,λq=>(q.2 q.1).elim⟩
 | n+1,c=>by
  obtain ⟨f,o⟩:=Jjf h n;have ef:Kk (eroN r (n+1)) c↔deep (eroN r n) 1 c:=(Jan f).2.2 c;show c∈flt (Xa r n++zk (eroN r n))↔_;rw [Jfo,Aa,Jj3 h m n,J0b f (by omega),J4i,ef];have l:deep (eroN r n) 1 c->Kk (eroN r n) c:=Jnm (by decide);have g:Kk (eroN r n) c->Kk r c:=λq=>Jnm (by omega) ((Jmv h n c).1 q);constructor
  ·rintro (⟨d,a⟩|⟨d,a⟩)
   ·exact ⟨d,λq=>a (l q)⟩
   ·exact ⟨g d,a⟩
  ·rintro ⟨d,a⟩;by_cases q:Kk (eroN r n) c
   ·exact .inr ⟨q,a⟩
   ·exact .inl ⟨d,q⟩
theorem flt_len{l:List Jw}(h:∀t∈l,VT t/\t.1=1):l.length<=(flt l).length:=by
 induction l with
 | nil=>exact Nat.le_refl _
 | cons t l a =>
  have f:=a λx hx=>h x (List.mem_cons_of_mem _ hx);have d:=(h t (List.mem_cons_self ..)).1.2.1.1;have e:flt (t::l)=t.2.2++flt l:=by unfold flt;rw [List.flatMap_cons]
  rw [e,List.length_cons,Ae];omega
theorem Jlr{r:Reg}(h:RegOK r)(d:(Q1 r).length<=2000)(n:Nat) :
  (∀t∈Jc9 (Xa r n),VT t/\t.1=1)/\(flt (Jc9 (Xa r n))).Nodup/\(∀c,c∈flt (Jc9 (Xa r n))↔Kk r c/\¬Kk (eroN r n) c)/\(flt (Jc9 (Xa r n))).length<=2000/\(Jc9 (Xa r n)).length<=2000:=by have a:=onI (Xa r n) λt f=>⟨((Jb7 h d n).2 t f).1,((Jb7 h d n).2 t f).2.1⟩;have g:∀c,c∈flt (Jc9 (Xa r n))↔Kk r c/\¬Kk (eroN r n) c:=λc=>(a.mem c).trans (Jj3 h d n c);have l:(flt (Jc9 (Xa r n))).length<=2000:=Nat.le_trans (jd a.nd λc q=>Zi.2 ((g c).1 q).1) d;exact ⟨a.ok,a.nd,g,l,Nat.le_trans (flt_len a.ok) l⟩
theorem Equal_ok(l:List Run)(hl:l.length<=1000000000):@K3 wv (l,l)=some true:=by
 have a:=Qr (b:=@Ks wv) (e:=.inr ()) (λi=>⟨l,⟨l,⟨(l.length:Int),⟨(i:Int),()⟩⟩⟩⟩) l.length (by omega) (λi hi=>by
  have hx:=Ai hi;generalize l[i]=u at hx;unfold Ks;dsimp only;rw [Qt (by omega),ge_s (fg hx),ge_s (fg hx),br_f (by simp [w_nt,w_an,Xn]),Ku,wr (by omega) (by omega)];rfl) (by unfold Ks;dsimp only;rw [Kt (by omega)])
 unfold K3;dsimp only;rw [br_f (by simp [Jp0,w_ln]),w_ln];exact lo_s a
theorem Jn1{r:Reg}(h:RegOK r):@Jbn wv (r,r)=some true:=by
 have hl:=Jbv h;have hL:=hl.1;have a:=Qr (b:=@jt wv) (e:=.inr ()) (λi=>⟨r,⟨r,⟨(r.length:Int),⟨(i:Int),()⟩⟩⟩⟩) r.length (by omega) (λi hi=>by
  have d:=Ai hi;generalize r[i]=w at d;have hLw:=hl.2 w (List.mem_of_getElem? d);unfold jt;dsimp only;rw [Qt (by omega),ge_s (fg d),ge_s (fg d),br_t (by simp [Xn])];refine (ca_s (c:=Km) (Equal_ok w.2 hLw)).trans ?_;rw [br_f (by rfl),Ku,wr (by omega) (by omega)];rfl) (by unfold jt;dsimp only;rw [Kt (by omega)])
 unfold Jbn;dsimp only;rw [X9 hl,br_t (by simp [h]),X9 hl,br_t (by simp [h]),br_f (by simp [Jp0,w_ln]),w_ln];exact (lo_s a).trans rfl
theorem Jy3:RegOK ([]:Reg):=⟨by simp,.nil,by simp,by simp⟩
theorem ero_nil:eroF []=[]:=Jk6 (Jan Jy3).2.1 Jy3 λc=>by rw [(Jan Jy3).2.2];exact ⟨λh=>Jnm (by decide) h,λ⟨w,a,_⟩=>(Ad a).elim⟩
theorem J40(r:Reg)(n:Int)(hr:∀w∈r,w.2.length<=9223372036854775807)(M:-9223372036854775808<=n/\n<=9223372036854775807):@Kq wv (r,n)=some true:=by
 classical
 obtain ⟨b,K,J⟩:=heavy_ok r hr;unfold Kq;dsimp only;refine (ca_s (c:=Qq) K).trans ?_;cases b with
 | true=>rw [br_t rfl,Jhv]
 | false =>
  rw [br_f rfl];by_cases B:n<0
  ·rw [Qt B,Jhv]
  rw [Kt B];by_cases f:n>=64
  ·rw [br_t (by rw [Ji8];exact decide_eq_true f),Jhv]
  rw [br_f (by rw [Ji8];exact decide_eq_false f),Ku,wr (by omega) (by omega)];obtain ⟨hl,l⟩:=J rfl;have w1:=Jug r n hl λq=>by have:=l q;omega
  have o:=Jug r (n+1) hl λq=>by have:=l q;omega
  obtain ⟨N,rfl⟩:∃N:Nat,n=(N:Int):=⟨n.toNat,by omega⟩;rw [show (min (max (N:Int) 0) 64).toNat=N by omega] at w1;rw [show (min (max ((N:Int)+1) 0) 64).toNat=N+1 by omega] at o;refine (ca_s (c:=Kp) w1).trans ((ca_s (c:=Kp) o).trans ?_);have key:∀(a c:List Jw) (e:Reg),RegOK e->a.length<=2000->(∀t∈a,t.2.2.length<=1000000000)->(a++c).length<=2000 ->
    (@W.br wv Bool (@W.cm wv .leq (@W.ln wv Jw a) (@W.ln wv Jw (a++c)))
     (@W.gd wv Bool (@W.le wv 0 (@W.ln wv Jw a)) <| @W.gd wv Bool (@W.le wv (@W.ln wv Jw a) (@W.ln wv Jw (a++c))) <|
      @W.call wv Bool Kz (a,@W.ct wv Jw (a++c) 0 (@W.ln wv Jw a)) λ(G:Bool)=>@W.br wv Bool G
       (@W.call wv Bool Qn ((e,1):Reg×Int) λ(F:Reg)=>@W.call wv Bool Zv ((eroF e,F):Reg×Reg) λ(E:Bool)=>@W.br wv Bool E (@W.call wv Bool J1 (():Unit) λ(v9:Bool)=>some v9) (some false)) (some false)) (some false))=some true:=λa c e A O hx m=>by
   rw [Ae] at m;have ect:@W.ct wv Jw (a++c) 0 ((a.length:Nat):Int)=a:=by rw [w_ct];simp
   rw [w_ln,w_ln,Ae,br_t (by rw [Jhy];exact decide_eq_true (by omega)),gd_t (by rw [w_le];exact decide_eq_true (by omega)),gd_t (by rw [w_le];exact decide_eq_true (by omega)),ect];refine (ca_s (c:=Kz) (Jub a (by omega) hx)).trans ?_;rw [br_t rfl];refine (ca_s (c:=Qn) (Jan A).1).trans ((ca_s (c:=Zv) (Jn1 (Jan A).2.1)).trans ?_);rw [br_t rfl,Jhv]
  by_cases h:RegOK r
  ·rw [if_pos h,if_pos h];have d:(Q1 r).length<=2000:=by have:=l h;omega
   obtain ⟨c,g⟩:=J33 (Xa r N) (zk (eroN r N));have L:Jc9 (Xa r (N+1))=Jc9 (Xa r N)++c:=g;have y:=Jlr h d N;have v:=Jlr h d (N+1);rw [L] at v ⊢;exact key (Jc9 (Xa r N)) c (eroN r N) (Jjf h N).1 y.2.2.2.2 (λt H=>by have:=(y.1 t H).1.2.1.2;omega) v.2.2.2.2
  ·rw [if_neg h,if_neg h];have:=key [] [] [] Jy3 (by simp) (by simp) (by simp);rw [ero_nil] at this;exact this
end Go.Proofs.YtmfagdfkpjgeiaaGreat
