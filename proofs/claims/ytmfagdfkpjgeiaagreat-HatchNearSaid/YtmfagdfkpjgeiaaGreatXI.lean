/- Rows and Columns of the program. Conditions: at most 10^9 cells. -/
import Derived.Test.YtmfagdfkpjgeiaaGreatXH
import Derived.Test.YtmfagdfkpjgeiaaGreatXF
import Derived.Test.YtmfagdfkpjgeiaaGreatXE
open Option renaming some -> AC
open Bool renaming false -> AF, true -> AE
open _root_ renaming List -> AG, Option -> AH, Int -> AI, Nat -> AM, Bool -> AN, if_neg -> AR, if_pos -> AS, decide_eq_true -> AW, congrArg -> AT, decide_eq_false -> B0
set_option linter.unusedVariables false
set_option linter.unusedSimpArgs false
set_option maxRecDepth 100000
namespace Go.Proofs.YtmfagdfkpjgeiaaGreat
open Go Go.Vv Go.Dn Go.Dn.W
open List renaming mem_append -> Aa, length_append -> Ab, length_map -> Ac, mem_cons_self -> Ad, mem_singleton -> Ae, mem_map -> Af, getElem?_eq_getElem -> Ag, getElem?_append_left -> Ah, take_length -> Ai, getElem?_append_right -> Aj, not_mem_nil -> Am, append_assoc -> Ao, length_pos_iff -> Ap, append_nil -> Aq, set_append_right -> As, mem_of_getElem? -> Au, reverse_reverse -> Av, length_take -> Aw, nodup_iff_pairwise_ne -> Ax, length_cons -> Ay, drop_eq_getElem_cons -> Az, set_cons_zero -> Ba, reverse_cons -> Bc, mem_cons_of_mem -> Bd, getElem?_map -> Be, nodup_append -> Bf, getLast?_eq_getElem? -> Bg, length_drop -> Bh, drop_length -> Bj, mem_flatMap -> Bk, map_append -> Bm, getLast?_concat -> Bn
open Nat renaming sub_self -> Ak, le_trans -> Bb
open Int renaming toNat_natCast -> Ar
open Option renaming map_eq_some_iff -> Bl
theorem Wj(y s p:AI)(d:1<=s)(a:s<=1000000):@zM wv (y,(s,p))=AC (decide (y % s=p % s)):=by
 unfold zM;dsimp only;rw [lU d a,lU d a,Q3]
 congr 1
theorem fZ{α:Type}{y s p:AI}(d:1<=s)(a:s<=1000000)(k:AN->AH α):@W.call wv α Qp ((y,(s,p)):AI×(AI×AI)) k=k (decide (y % s=p % s)):=BM (c:=Qp) (Wj y s p d a)
def LD(y:AI)(u:Run):Jk:=(4,(AF,Q6 y u))
def F4(s p:AI)(w:Row):AG Jk:=if w.1 % s=p % s then w.2.map (LD w.1) else []
def JR(r:AQ)(s p:AI):AG Jk:=r.flatMap (F4 s p)
theorem UW{r:AQ}(h:AJ r)(s p:AI){w:Row}(a:w∈r):(F4 s p w).length<=(CV w).length:=by
 have:=Jdk h a w.2.length;rw [Ai] at this;unfold F4;split
 .simp only [Ac];exact this
 .simp
theorem Jlx{r:AQ}(h:AJ r)(s p:AI)(i:AM):((r.take i).flatMap (F4 s p)).length<=((r.take i).flatMap CV).length:=by
 have:∀l:AQ,(∀w∈l,w∈r)->(l.flatMap (F4 s p)).length<=(l.flatMap CV).length:=by
  intro l
  induction l with
  | nil=>intro _;simp
  | cons u l d=>
   intro a;have y:=d λv f=>a v (Bd _ f);have m:=UW h s p (a u (Ad ..));simp only [List.flatMap_cons,Ab];omega
 exact this _ λu g=>List.mem_of_mem_take g
theorem Jqk(r:AQ)(s p:AI)(hl:DJ r)(B:(Jq r).length<=1000000000)(h:AJ r)(hs:1<=s/\s<=64):Qm (@jo wv) CK ⟨s,p,r,(r.length:AI),0,[],()⟩=AC ⟨JR r s p,()⟩:=by
 have hL:=hl.1;exact Kc (b:=@jo wv) (e:=⟨JR r s p,()⟩) (λi=>⟨s,p,r,(r.length:AI),(i:AI),(r.take i).flatMap (F4 s p),()⟩) r.length (by omega) (λi hi=>by
  have d:=Ag hi;generalize r[i]=w at d;have a:=Au d;have hLw:=hl.2 w a;unfold jo;dsimp only;rw [Ky (by omega),BH (fg d),fZ hs.1 (by omega),J6,ZP d];by_cases l:w.1 % s=p % s
  .rw [BA (by simp [BO,l])];have g:=Kc (b:=@Jby wv) (e:=⟨s,p,r,(r.length:AI),(i:AI),(r.take i).flatMap (F4 s p)++w.2.map (LD w.1),()⟩)
    (λk=>⟨s,p,r,(r.length:AI),(i:AI),w.2,(w.2.length:AI),(k:AI),(r.take i).flatMap (F4 s p)++(w.2.take k).map (LD w.1),w.1,w.2,()⟩) w.2.length (by omega) (λk m=>by
    have f:=Ag m;generalize w.2[k]=u at f;have E:=(h.rs w a).bd u (Au f);have A:=Jlx h s p i;have y:=Jdk h a k;have v:=J2c d f;unfold Jby;dsimp only;rw [Ky (by omega),BH (fg f),fT (by omega) (by omega) (by omega),AZ,BZ,TQ (by simp only [Ab,Ac];omega) (by omega),J6,wr (by omega) (by omega),DL,Q9 f,Ao];rfl) (by unfold Jby;dsimp only;rw [J2 (by omega),Ai])
   simp only [List.take_zero,List.map_nil,Aq] at g;refine (BN g).trans ?_;dsimp only;rw [J6,wr (by omega) (by omega),F4,AS l];rfl
  .rw [BF (by simp [BO,l]),wr (by omega) (by omega),F4,AR l,Aq];rfl) (by unfold jo;dsimp only;rw [J2 (by omega),Ai];rfl)
open Classical in
theorem Kbz(r:AQ)(s p:AI)(hl:DJ r)(a:AJ r->(Jq r).length<=1000000000):@Ys wv (r,(s,p))=AC (if AJ r/\1<=s/\s<=64 then JR r s p else []):=by
 unfold Ys;dsimp only;rw [Kg hl];by_cases h:AJ r
 case neg=>rw [BF (by simp [BO,h]),AR λq=>h q.1]
 rw [BA (by simp [BO,h]),tN];by_cases hs:1<=s/\s<=64
 case neg=>rw [BF (by simp [BO];omega),AR λq=>hs q.2]
 rw [BA (by simp [BO];omega),AS ⟨h,hs⟩];exact BN (Jqk r s p hl (a h) h hs)
def swp(c:Cell):Cell:=(c.2,c.1)
theorem wX(c:Cell):swp (swp c)=c:=rfl
theorem Wq(l:AG Cell)(hl:l.length<=1000000000):@zJ wv l=AC (l.map swp):=by
 have d:=Kc (b:=@Jbn wv) (e:=⟨l.map swp,()⟩) (λi=>⟨l,(l.length:AI),(i:AI),(l.take i).map swp++List.replicate (l.length - i) ((0:AI),(0:AI)),()⟩) l.length (by omega) (λi hi=>by
  have hx:=Ag hi;generalize l[i]=c at hx;obtain ⟨m,f⟩:∃m,l.length - i=m+1:=⟨l.length - i - 1,by omega⟩;have a:((l.take i).map swp).length=i:=by rw [Ac,Aw];omega
  have g:((l.take i).map swp++List.replicate (m+1) ((0:AI),(0:AI)))[i]?=AC (0,0):=by rw [Aj (by omega),a,Ak];rfl
  unfold Jbn;dsimp only;rw [f,Ky (by omega),BH (fg hx),Fj ⟨by omega,by rw [AZ,Ab,a,List.length_replicate];omega⟩,BH (fg g),J6,wr (by omega) (by omega),FM,Ar,Q9 hx,As _ _ (by omega),a,Ak,List.replicate_succ,Ba,show l.length - (i+1)=m by omega,Ao];rfl) (by unfold Jbn;dsimp only;rw [J2 (by omega),Ai,Ak,List.replicate_zero,Aq])
 unfold zJ;rw [AZ,og,Cy (by rw [Tp];exact AW (by omega)),GI (by omega) (by omega),Ar];refine (BN d)
theorem J7q{α:Type}{l:AG Cell}(hl:l.length<=1000000000)(k:AG (AI×AI)->AH α):@W.call wv α Yr l k=k (l.map swp):=BM (c:=Yr) (Wq l hl)
def JG(t:Jk):Jk:=(t.1,(t.2.1,t.2.2.map swp))
theorem Jsi(l:AG Jk)(hl:l.length<=1000000000)(h:∀t∈l,t.2.2.length<=1000000000):Qm (@Yt wv) CK ⟨(l.length:AI),0,l,()⟩=AC ⟨l.map JG,()⟩:=
 Kc (b:=@Yt wv) (λi=>⟨(l.length:AI),(i:AI),(l.take i).map JG++l.drop i,()⟩) l.length (by omega) (λi hi=>by
  have hx:=Ag hi;have d:l.drop i=l[i]::l.drop (i+1):=Az hi;generalize l[i]=t at hx d;have a:((l.take i).map JG).length=i:=by rw [Ac,Aw];omega
  have g:((l.take i).map JG++l.drop i)[i]?=AC t:=by rw [d,Aj (by omega),a,Ak];rfl
  have f:0<=(i:AI)/\(i:AI)<@W.ln wv Jk ((l.take i).map JG++l.drop i):=⟨by omega,by rw [AZ,Ab,a,Bh];omega⟩;unfold Yt;dsimp only;rw [Ky (by omega),Fj f,BH (fg g),J7q (h t (Au hx)),Fj f,BH (fg g),J6,wr (by omega) (by omega),FM,Ar,Q9 hx,d,As _ _ (by omega),a,Ak,Ba,Ao];rfl) (by unfold Yt;dsimp only;rw [J2 (by omega),Ai,Bj,Aq])
theorem xY{T:AQ}(h:AJ T)(a:∀c,¬J1 T c):T=[]:=by
 cases T with
 | nil=>rfl
 | cons w T=>
  have d:=h.ne w (Ad ..);cases hr:w.2 with
  | nil=>exact (d hr).elim
  | cons u l=>
   have f:=(h.rs w (Ad ..)).bd u (by rw [hr];exact Ad ..);exact (a (u.1,w.1) ⟨w,Ad ..,rfl,u,by rw [hr];exact Ad ..,by dsimp only;omega,by dsimp only;omega⟩).elim
structure Turned (r T:AQ):Prop where
 ok:AJ T
 iff:∀c,J1 T c↔J1 r (swp c)
open Classical in
theorem Jsk(r:AQ)(s p:AI)(hl:DJ r)(f:AJ r->(Jq r).length<=1000000000) :
  ∃T,(AJ r->Turned r T)/\@Xw wv (r,(s,p))=AC (if AJ r/\1<=s/\s<=64 then (JR T s p).map JG else []):=by
 unfold Xw;dsimp only;rw [Jjt hl f];have hd:Qm (@Je4 wv) CK ⟨0,0,()⟩=AC ():=ZO (n:=18446744073709551615) rfl;have m:Qm (@Jex wv) CK ⟨0,0,()⟩=AC ():=ZO (n:=18446744073709551615) rfl;by_cases h:AJ r
 .have f:=f h;rw [AS h,J7q f];obtain ⟨T,hT,hV,l⟩:=Sb ((Jq r).map swp) (by rw [Ac];exact f) (λc f=>by obtain ⟨d,hd,rfl⟩:=Af.1 f;have:=h.bd (Q5.1 hd);simp only [swp];omega)
  have g:∀c,J1 T c↔J1 r (swp c):=λc=>by
   rw [l,<-Q5];constructor
   .intro f;obtain ⟨d,hd,rfl⟩:=Af.1 f;exact hd
   .exact λf=>Af.2 ⟨_,f,rfl⟩
  have hcT:(Jq T).length<=1000000000:=Bb (nZ h hV swp (λa b e=>by rw [<-wX a,e,wX]) λc f=>(g c).1 f) f;have hlT:DJ T:=Jxj hV hcT;refine ⟨T,λ_=>⟨hV,g⟩,?_⟩;rw [gD hT,BA (by rfl),Kg hlT,BA (by simp [BO,hV]),tN];by_cases hs:1<=s/\s<=64
  .rw [BA (by simp [BO];omega),AS ⟨h,hs⟩];refine (BN (b:=@Jbx wv) (Jqk T s p hlT hcT hV hs)).trans ?_;dsimp only;have q:=Jlx hV s p T.length;rw [Ai] at q;refine BN (Jsi (JR T s p) (Bb q hcT) λt B=>?_);obtain ⟨w,y,v⟩:=Bk.1 B;unfold F4 at v;split at v
   .obtain ⟨u,A,rfl⟩:=Af.1 v;have:=(hV.rs w y).bd u A;simp only [LD,Za];omega
   .cases v
  .rw [BF (by simp [BO];omega),AR λq=>hs q.2];exact BN m
 .rw [AR h,J7q (by simp)];obtain ⟨T,hT,hV,l⟩:=Sb [] (by simp) (by simp);have hT0:T=[]:=xY hV λc f=>by have:=(l c).1 f;cases this
  subst hT0;refine ⟨[],λq=>(h q).elim,?_⟩;rw [List.map_nil,gD hT,BA (by rfl),Kg ⟨by simp,by simp⟩,BA (by simp [BO,hV]),tN,AR λq=>h q.1];by_cases hs:1<=s/\s<=64
  .rw [BA (by simp [BO];omega)];refine (BN (b:=@Jbx wv) (Jqk [] s p ⟨by simp,by simp⟩ (by simp [Jq]) hV hs)).trans ?_;exact BN (Jsi [] (by simp) (by simp))
  .rw [BF (by simp [BO];omega)];exact BN m
theorem J2y{r:AQ}(h:AJ r){w:Row}(g:w∈r){u:Run}(m:u∈w.2):VT (LD w.1 u)/\VT (JG (LD w.1 u)):=by
 have F:=(h.rs w g).bd u m;have E:=h.y w g;have l:(Q6 w.1 u).length=(u.2 - u.1).toNat:=Za _ _;refine ⟨⟨by simp only [LD];omega,by simp only [LD];omega,λi hi c f=>?_,λq=>by cases q⟩,by simp only [JG,LD];omega,by simp only [JG,LD,Ac];omega,λi hi c f=>?_,λq=>by cases q⟩
 .obtain ⟨rfl,A⟩:=nQ (show (Q6 w.1 u)[i]?=AC c from f);refine ⟨by unfold grid;dsimp only;omega,λp B a=>?_⟩;obtain ⟨rfl,y⟩:=nQ (show (Q6 w.1 u)[i - 1]?=AC p from a);unfold nb;dsimp only;rw [show u.1+((i - 1:AM):AI) - (u.1+(i:AI))=-1 by omega,Int.sub_self];rfl
 .simp only [JG,LD,Be,Bl] at f;obtain ⟨d,hd,rfl⟩:=f;obtain ⟨rfl,A⟩:=nQ hd;refine ⟨by unfold grid swp;dsimp only;omega,λp B a=>?_⟩;simp only [JG,LD,Be,Bl] at a;obtain ⟨e,v,rfl⟩:=a;obtain ⟨rfl,y⟩:=nQ v;unfold nb swp;dsimp only;rw [show u.1+((i - 1:AM):AI) - (u.1+(i:AI))=-1 by omega,Int.sub_self];rfl
theorem nT{r:AQ}(s p:AI){t:Jk}:t∈JR r s p↔∃w∈r,w.1 % s=p % s/\∃u∈w.2,t=LD w.1 u:=by
 unfold JR F4;rw [Bk];constructor
 .rintro ⟨w,a,h⟩;split at h
  .obtain ⟨u,d,rfl⟩:=Af.1 h;exact ⟨w,a,by assumption,u,d,rfl⟩
  .cases h
 .rintro ⟨w,a,f,u,d,rfl⟩;exact ⟨w,a,by rw [AS f];exact Af.2 ⟨u,d,rfl⟩⟩
theorem J4v{r:AQ}(h:AJ r)(s p:AI)(c:Cell):(∃t∈JR r s p,VT t/\c∈t.2.2)↔J1 r c/\c.2 % s=p % s:=by
 constructor
 .rintro ⟨t,l,-,m⟩;obtain ⟨w,a,g,u,d,rfl⟩:=(nT s p).1 l;obtain ⟨e,f⟩:=bg.1 m;exact ⟨⟨w,a,e.symm,u,d,f⟩,by rw [e];exact g⟩
 .rintro ⟨⟨w,a,e,u,d,f⟩,g⟩;exact ⟨LD w.1 u,(nT s p).2 ⟨w,a,by rw [e];exact g,u,d,rfl⟩,(J2y h a d).1,bg.2 ⟨e.symm,f⟩⟩
theorem J4s{T:AQ}(h:AJ T)(s p:AI)(c:Cell):(∃t∈(JR T s p).map JG,VT t/\c∈t.2.2)↔J1 T (swp c)/\c.1 % s=p % s:=by
 constructor
 .rintro ⟨t,r,-,y⟩;obtain ⟨v,m,rfl⟩:=Af.1 r;obtain ⟨w,a,l,u,f,rfl⟩:=(nT s p).1 m;obtain ⟨d,hd,rfl⟩:=Af.1 y;obtain ⟨e,g⟩:=bg.1 hd;exact ⟨⟨w,a,e.symm,u,f,g⟩,by show d.2 % s=_;rw [e];exact l⟩
 .rintro ⟨⟨w,a,e,u,f,g⟩,l⟩;refine ⟨JG (LD w.1 u),Af.2 ⟨_,(nT s p).2 ⟨w,a,by rw [e];exact l,u,f,rfl⟩,rfl⟩,(J2y h a f).2,Af.2 ⟨swp c,bg.2 ⟨e.symm,g⟩,rfl⟩⟩
theorem OI{r:AQ}(h:AJ r)(s p:AI){t:Jk}(f:t∈JR r s p):VT t/\t.1=4:=by obtain ⟨w,a,-,u,d,rfl⟩:=(nT s p).1 f;exact ⟨(J2y h a d).1,rfl⟩
theorem Rx{T:AQ}(h:AJ T)(s p:AI){t:Jk}(g:t∈(JR T s p).map JG):VT t/\t.1=4:=by obtain ⟨v,d,rfl⟩:=Af.1 g;obtain ⟨w,a,-,u,f,rfl⟩:=(nT s p).1 d;exact ⟨(J2y h a f).2,rfl⟩
theorem T9:∀a b:Cell,swp a=swp b->a=b:=λa b e=>by rw [<-wX a,e,wX]
def flt(l:AG Jk):AG Cell:=l.flatMap λt=>t.2.2
theorem NI(a b:AG Jk):flt (a++b)=flt a++flt b:=by unfold flt;rw [List.flatMap_append]
theorem mV(t:Jk):flt [t]=t.2.2:=by unfold flt;simp
theorem mU{l:AG Jk}{c:Cell}:c∈flt l↔∃t∈l,c∈t.2.2:=by unfold flt;exact Bk
def kp(l:AG (Cell×AN)):AG Cell:=(l.filter λp=>p.2).map (·.1)
theorem J85(l:AG (Cell×AN))(c:Cell)(b:AN):kp (l++[(c,b)])=if b=AE then kp l++[c] else kp l:=by unfold kp;rw [List.filter_append,Bm];cases b<;>simp
theorem Jyn{out:AG Jk}{last:AG Cell}{x:Jk}(h:x∈JF out last):x∈out\/x.2.2=last:=by
 unfold JF at h;rcases out.eq_nil_or_concat with rfl|⟨r,v,rfl⟩
 .exact .inl h
 .rw [List.concat_eq_append] at h ⊢;rw [Qi] at h;rcases Aa.1 h with q|q
  .exact .inl (Aa.2 (.inl q))
  .rw [Ae] at q;exact .inr (by rw [q])
theorem UU(role:AI)(l:AG (Cell×AN)):∀t∈(DC role l).1,t.2.2.length<=l.length:=by
 have key:∀m:AG (Cell×AN),∀t∈(DC role m.reverse).1,t.2.2.length<=m.reverse.length:=by
  intro m
  induction m with
  | nil=>intro t a;cases a
  | cons p m d=>
   have hl:=(tH role m.reverse).2.2.2;rw [Bc,xq,Ab];generalize DC role m.reverse=s at d hl ⊢;obtain ⟨out,last,pv⟩:=s;obtain ⟨c,k⟩:=p;intro t a;have old:t∈out->t.2.2.length<=m.reverse.length+[(c,k)].length:=λq=>Nat.le_succ_of_le (d t q);cases k with
   | false=>exact old a
   | true=>
    cases pv with
    | true=>exact old a
    | false=>
     have a:t∈JF out last++[(role,(AF,[]))]:=a;rcases Aa.1 a with q|q
     .rcases Jyn q with q|q
      .exact old q
      .rw [q];exact Nat.le_succ_of_le hl
     .rw [Ae] at q;rw [q];exact Nat.zero_le _
 have:=key l.reverse;rwa [Av] at this
theorem J6b(role:AI)(l:AG (Cell×AN)):∀t∈sP role l,t.2.2.length<=l.length:=λt a=>by
 rcases Jyn (show t∈JF (DC role l).1 (DC role l).2.1 from a) with q|q
 .exact UU role l t q
 .rw [q];exact (tH role l).2.2.2
structure qh (m:Mb) (l:AG Cell):Prop where
 mem:∀c,Fp (CU m l).2.1 c=AE↔Fp m c=AE\/c∈l
 nd:(kp (l.zip (CU m l).2.2)).Nodup
 new:∀c∈kp (l.zip (CU m l).2.2),Fp m c=AF
 all:∀c,c∈l->Fp m c=AE\/c∈kp (l.zip (CU m l).2.2)
 sub:∀c∈kp (l.zip (CU m l).2.2),c∈l
 full:(CU m l).1=AE->kp (l.zip (CU m l).2.2)=l
theorem runI(m:Mb)(l:AG Cell):qh m l:=by
 have key:∀k:AG Cell,qh m k.reverse:=by
  intro k
  induction k with
  | nil=>exact ⟨λc=>⟨.inl,λh=>h.elim id λq=>(Am q).elim⟩,.nil,λc h=>(Am h).elim,λc h=>(Am h).elim,λc h=>(Am h).elim,λ_=>rfl⟩
  | cons x k E=>
   rw [Bc];have f:=xM m k.reverse;obtain ⟨r,A,y,w,v,F⟩:=E;generalize k.reverse=l at *
   have G:(l++[x]).zip (CU m (l++[x])).2.2=l.zip (CU m l).2.2++[(x,!Fp (CU m l).2.1 x)]:=by rw [xR];show (l++[x]).zip ((CU m l).2.2++[!Fp (CU m l).2.1 x])=_;rw [List.zip_append f.symm];rfl
   have g:kp ((l++[x]).zip (CU m (l++[x])).2.2)=if Fp (CU m l).2.1 x=AE then kp (l.zip (CU m l).2.2) else kp (l.zip (CU m l).2.2)++[x]:=by rw [G,J85];cases Fp (CU m l).2.1 x<;>rfl
   have H:(CU m (l++[x])).2.1=FP (CU m l).2.1 x:=by rw [xR];rfl
   have K:(CU m (l++[x])).1=((CU m l).1&&!Fp (CU m l).2.1 x):=by rw [xR];rfl
   refine ⟨λc=>?_,?_,λc d=>?_,λc d=>?_,λc d=>?_,λh=>?_⟩
   .rw [H,OE,Bool.or_eq_true,decide_eq_true_eq,r,Aa,Ae];exact ⟨λh=>h.elim (λq=>.inr (.inr q)) λq=>q.elim .inl λq=>.inr (.inl q),λh=>h.elim (λq=>.inr (.inl q)) λq=>q.elim (λq=>.inr (.inr q)) .inl⟩
   .rw [g];split
    .exact A
    .rename_i hs;refine Bf.2 ⟨A,by simp,λa L b B=>?_⟩;rw [Ae] at B;subst B;rintro rfl;exact hs ((r a).2 (.inr (v a L)))
   .rw [g] at d;split at d
    .exact y c d
    .rename_i hs;rcases Aa.1 d with q|q
     .exact y c q
     .rw [Ae] at q;subst q;cases J:Fp m c with
      | false=>rfl
      | true=>exact (hs ((r c).2 (.inl J))).elim
   .rw [g];rcases Aa.1 d with q|q
    .rcases w c q with q|q
     .exact .inl q
     .refine .inr ?_;split
      .exact q
      .exact Aa.2 (.inl q)
    .rw [Ae] at q;subst q;by_cases hs:Fp (CU m l).2.1 c=AE
     .rw [AS hs];rcases (r c).1 hs with q|q
      .exact .inl q
      .exact w c q
     .rw [AR hs];exact .inr (Aa.2 (.inr (Ae.2 rfl)))
   .rw [g] at d;split at d
    .exact Aa.2 (.inl (v c d))
    .rcases Aa.1 d with q|q
     .exact Aa.2 (.inl (v c q))
     .exact Aa.2 (.inr q)
   .rw [K,Bool.and_eq_true] at h;rw [g,AR (by rw [Bool.not_eq_true']at h;rw [h.2];simp),F h.1]
 have:=key l.reverse;rwa [Av] at this
def vS(l:AG Cell):Prop:=l≠[]/\∀i,i<l.length->YU l i
theorem XK{c:Cell}(h:grid c):vS [c]:=⟨by simp,λi hi=>by
 have:i=0:=by simp at hi;omega
 subst this;intro d hd;have:c=d:=by simpa using hd
 subst this;exact ⟨h,λp a=>by omega⟩⟩
theorem R3{l:AG Cell}{c p:Cell}(h:vS l)(hl:l.getLast?=AC p)(r:grid c)(m:nb p c):vS (l++[c]):=⟨by simp,λi hi d hd=>by
 rw [Ab] at hi;have hi:i<l.length+1:=hi;by_cases f:i<l.length
 .rw [Ah f] at hd;obtain ⟨w,v⟩:=h.2 i f d hd;refine ⟨w,λq g a=>v q g ?_⟩;rwa [Ah (by omega)] at a
 .have e:i=l.length:=by omega
  subst e;have:c=d:=by simpa using hd
  subst this;refine ⟨r,λq g a=>?_⟩;rw [Ah (by omega)] at a;rw [Bg] at hl;rw [hl] at a;cases a;exact m⟩
structure PcI (role:AI) (l:AG (Cell×AN)) (s:AG Jk×AG Cell×AN):Prop where
 nil:s.1=[]->s.2.1=[]
 fl:flt (JF s.1 s.2.1)=kp l
 ok:∀t∈JF s.1 s.2.1,t.1=role/\t.2.1=AF/\vS t.2.2
 pv:s.2.2=AE->∃p b,l.getLast?=AC (p,b)/\s.2.1.getLast?=AC p
theorem uM(r:AG Jk)(v:Jk)(last:AG Cell):JF (r++[v]) last=r++[(v.1,(v.2.1,last))]:=by unfold JF;rw [Qi]
theorem pcI(role:AI)(l:AG (Cell×AN))(A:∀i,i<(l.map (·.1)).length->YU (l.map (·.1)) i):PcI role l (DC role l):=by
 have key:∀k:AG (Cell×AN),(∀i,i<(k.reverse.map (·.1)).length->YU (k.reverse.map (·.1)) i)->PcI role k.reverse (DC role k.reverse):=by
  intro k
  induction k with
  | nil=>exact λ_=>⟨λ_=>rfl,rfl,λt h=>(Am h).elim,λh=>by cases h⟩
  | cons x k O=>
   intro A;obtain ⟨c,b⟩:=x;rw [Bc] at A ⊢;rw [Bm] at A;have E:=tH role k.reverse;have H:∀i,i<(k.reverse.map (·.1)).length->YU (k.reverse.map (·.1)) i:=λi hi d hd=>by obtain ⟨M,L⟩:=A i (by rw [Ab];omega) d (by rw [Ah hi];exact hd);exact ⟨M,λp X R=>L p X (by rw [Ah (by omega)];exact R)⟩
   have w:=A (k.reverse.map (·.1)).length (by rw [Ab];exact Nat.lt_succ_self _) c (by rw [Aj (by omega),Ak];rfl);obtain ⟨Q,y,g,P⟩:=O H;generalize k.reverse=l at *
   have hs:=xq role l (c,b);have a:=J85 l c b;generalize DC role l=s at *
   generalize DC role (l++[(c,b)])=s' at *
   obtain ⟨out,last,pv⟩:=s;have f:(l++[(c,b)]).getLast?=AC (c,b):=Bn;cases b with
   | false=>
    have e:s'=(out,last,AF):=hs;subst e;rw [AR (by decide)] at a;exact ⟨Q,y.trans a.symm,g,λh=>by cases h⟩
   | true=>
    rw [AS rfl] at a;cases pv with
    | false=>
     have e:s'=(JF out last++[(role,(AF,[]))],[c],AE):=hs;subst e;refine ⟨λh=>by simp at h,?_,λt m=>?_,λ_=>⟨c,AE,f,rfl⟩⟩
     .dsimp only;rw [uM,NI,mV,a];exact AT (·++[c]) y
     .dsimp only at m;rw [uM] at m;rcases Aa.1 m with q|q
      .exact g t q
      .rw [Ae] at q;subst q;exact ⟨rfl,rfl,XK w.1⟩
    | true=>
     have F:out≠[]:=E.2.1 rfl;obtain ⟨r,v,rfl⟩:∃r v,out=r++[v]:=⟨_,_,(List.dropLast_concat_getLast F).symm⟩;have e:s'=(r++[v],last++[c],AE):=hs;subst e;obtain ⟨p,pb,K,J⟩:=P rfl;have J:last.getLast?=AC p:=J;have y:flt (JF (r++[v]) last)=kp l:=y;have g:∀t∈JF (r++[v]) last,t.1=role/\t.2.1=AF/\vS t.2.2:=g;rw [uM] at y g;have B:l≠[]:=by rintro rfl;cases K
     have N:0<l.length:=Ap.2 B;have G:nb p c:=w.2 p (by rw [Ac];omega) (by rw [Bg] at K;rw [Ac,Ah (by rw [Ac];omega),Be,K];rfl)
     refine ⟨λh=>by simp at h,?_,λt m=>?_,λ_=>⟨c,AE,f,Bn⟩⟩
     .dsimp only;rw [uM,NI,mV,a,<-y,NI,mV,Ao]
     .dsimp only at m;rw [uM] at m;rcases Aa.1 m with q|q
      .exact g t (Aa.2 (.inl q))
      .rw [Ae] at q;subst q;obtain ⟨M,L,Y⟩:=g _ (Aa.2 (.inr (Ae.2 rfl)));exact ⟨M,L,R3 Y J w.1 G⟩
 have:=key l.reverse;rw [Av] at this;exact this A
structure OnI (ro:AI) (l:AG Jk) (s:AG Jk×Mb):Prop where
 nd:(flt s.1).Nodup
 seen:∀c,Fp s.2 c=AE↔c∈flt s.1
 mem:∀c,c∈flt s.1↔c∈flt l
 ok:∀t∈s.1,VT t/\t.1=ro
theorem onI(ro:AI)(l:AG Jk)(h:∀t∈l,VT t/\t.1=ro):OnI ro l (l.foldl Ih ([],[])):=by
 have key:∀k:AG Jk,(∀t∈k.reverse,VT t/\t.1=ro)->OnI ro k.reverse (k.reverse.foldl Ih ([],[])):=by
  intro k
  induction k with
  | nil=>exact λ_=>⟨.nil,λc=>⟨λh=>(by cases h),λh=>(Am h).elim⟩,λc=>Iff.rfl,λt h=>(Am h).elim⟩
  | cons x k P=>
   intro h;rw [Bc] at h ⊢;obtain ⟨g,hr⟩:=h x (Aa.2 (.inr (Ae.2 rfl)));obtain ⟨R,y,E,Q⟩:=P λt d=>h t (Aa.2 (.inl d));rw [List.foldl_append];have es:List.foldl Ih (k.reverse.foldl Ih ([],[])) [x]=Ih (k.reverse.foldl Ih ([],[])) x:=rfl;rw [es];generalize k.reverse.foldl Ih ([],[])=s at *
   generalize k.reverse=l at *
   obtain ⟨out,m⟩:=s;obtain ⟨O,N,M,L,K,J⟩:=runI m x.2.2;have F:=xM m x.2.2;have v:(x.2.2.zip (CU m x.2.2).2.2).map (·.1)=x.2.2:=List.map_fst_zip (by omega);have X:(x.2.2.zip (CU m x.2.2).2.2).length=x.2.2.length:=by rw [List.length_zip];omega
   have r:=pcI x.1 (x.2.2.zip (CU m x.2.2).2.2) (by rw [v];exact g.2.2.1);have w:∃A:AG Jk,Ih (out,m) x=(out++A,(CU m x.2.2).2.1)/\flt A=kp (x.2.2.zip (CU m x.2.2).2.2)/\∀t∈A,VT t/\t.1=ro:=by
    unfold Ih;rw [AS g];refine ⟨_,rfl,?_,?_⟩
    .dsimp only;split
     .rename_i B;rw [mV,J B]
     .exact r.fl
    .dsimp only;intro t d;split at d
     .rw [Ae] at d;subst d;exact ⟨g,hr⟩
     .obtain ⟨g1,Z,G⟩:=r.ok t d;have g7:=g.1;have g4:=J6b _ _ t d;have g5:=g.2.1.2;have g6:=Ap.2 G.1;exact ⟨⟨by omega,by omega,G.2,λq=>by rw [Z] at q;cases q⟩,g1.trans hr⟩
   obtain ⟨A,a1,H,a3⟩:=w;rw [a1];have f:∀c,c∈flt (out++A)↔c∈flt (l++[x]):=λc=>by
    rw [NI,NI,mV,Aa,Aa,<-E,H];refine ⟨λq=>q.elim .inl λq=>.inr (K c q),λq=>q.elim .inl λq=>?_⟩;rcases L c q with q|q
    .exact .inl ((y c).1 q)
    .exact .inr q
   refine ⟨?_,λc=>?_,f,λt d=>?_⟩
   .dsimp only;rw [NI,H];refine Bf.2 ⟨R,N,λa B b Y=>?_⟩;rintro rfl;have:=M a Y;rw [(y a).2 B] at this;cases this
   .rw [f,O,y];rw [NI,mV,Aa,<-E]
   .rcases Aa.1 d with q|q
    .exact Q t q
    .exact a3 t q
 have:=key l.reverse;rw [Av] at this;exact this h
def Sg(r c:AQ)(m:AI):Prop:=0<=m/\(∀p,J1 r p->FC c m p)/\∀k,0<=k->(∀p,J1 r p->FC c k p)->m<=k
theorem J89{c:AQ}{k k':AI}(h:k<=k'){p:Cell}(a:FC c k p):FC c k' p:=by obtain ⟨d,f,g⟩:=a;exact ⟨d,f,by omega⟩
theorem quoD(n:AM)(h:n<=1000000):@W.ar wv .quo .i64 (IntKind.wrap .i64 (n:AI)) 2=((n / 2:AM):AI):=by rw [Nb,wr (n:=(n:AI)) (by omega) (by omega),Int.tdiv_eq_ediv_of_nonneg (by omega),wr (by omega) (by omega)];omega
open Classical in
theorem kS(r c:AQ)(hl:DJ r)(G:DJ c)(hr:AJ r->(Jq r).length<=1000000)(hc:AJ c->(Jq c).length<=1000000) :
  ∃n,@uY wv (r,c)=AC n/\(¬(AJ r/\AJ c)->n=-1)/\(AJ r/\AJ c->(r=[]->n=0)/\(r≠[]->c=[]->n=-1)/\(r≠[]->c≠[]->Sg r c n)):=by
 unfold uY;dsimp only;rw [Kg hl];by_cases d:AJ r
 case neg=>rw [BF (by simp [BO,d])];exact ⟨_,rfl,λ_=>rfl,λq=>(d q.1).elim⟩
 rw [BA (by simp [BO,d]),Kg G];by_cases a:AJ c
 case neg=>rw [BF (by simp [BO,a])];exact ⟨_,rfl,λ_=>rfl,λq=>(a q.2).elim⟩
 rw [BA (by simp [BO,a])];by_cases K:r=[]
 .subst K;rw [BF (by rfl)];exact ⟨_,rfl,λq=>(q ⟨d,a⟩).elim,λ_=>⟨λ_=>rfl,λq=>(q rfl).elim,λq=>(q rfl).elim⟩⟩
 have R:=Ap.2 K;rw [BA (by rw [AZ,Q3,beq_eq_false_iff_ne];omega)];by_cases J:c=[]
 .subst J;rw [BF (by rfl)];exact ⟨_,rfl,λq=>(q ⟨d,a⟩).elim,λ_=>⟨λq=>(K q).elim,λ_ _=>rfl,λ_ q=>(q rfl).elim⟩⟩
 have L:=Ap.2 J;rw [BA (by rw [AZ,Q3,beq_eq_false_iff_ne];omega)];have hB:∀k:AI,0<=k->k<=100000->∃T,@Zy wv (r,(c,k))=AC T/\(T=[]↔∀p,J1 r p->FC c k p):=λk O N=>by
  obtain ⟨T,hT,hV,y⟩:=Jzh r c k hl d G a (hr d) (hc a) ⟨O,N⟩;refine ⟨T,hT,λe p f=>?_,λq=>?_⟩
  .by_cases F:FC c k p
   .exact F
   .have:=(y p).2 ⟨f,F⟩;rw [e] at this;obtain ⟨w,B,-⟩:=this;cases B
  .exact xY hV λp f=>((y p).1 f).2 (q p ((y p).1 f).1)
 have v:∃e,Qm (@Jcn wv) CK ⟨0,8192,r,c,()⟩=AC e/\Sg r c e.e:=by
  refine tV (b:=@Jcn wv) (λs=>∃lo hi:AM,s=⟨(lo:AI),(hi:AI),r,c,()⟩/\lo<=hi/\hi<=8192/\(∀p,J1 r p->FC c hi p)/\∀k:AI,0<=k->(∀p,J1 r p->FC c k p)->(lo:AI)<=k) _ (λs=>(s.j.e - s.e).toNat) ?_ ⟨0,8192,rfl,by omega,by omega,λp f=>?_,λk hk _=>by omega⟩ (by dsimp only;omega)
  .rintro s ⟨lo,hi,rfl,hlo,P,F,g⟩;unfold Jcn;dsimp only;by_cases Z:lo<hi
   .left;have em:@W.ar wv .quo .i64 (@W.ar wv .add .i64 (lo:AI) (hi:AI)) 2=(((lo+hi) / 2:AM):AI):=by rw [J6,show (lo:AI)+(hi:AI)=((lo+hi:AM):AI) by omega];exact quoD (lo+hi) (by omega)
    obtain ⟨T,hT,h⟩:=hB (((lo+hi) / 2:AM):AI) (by omega) (by omega);rw [Ky (by omega),Cy (by rfl),em,J2a hT];by_cases hT0:T=[]
    .rw [BF (by rw [hT0];rfl)];exact ⟨_,rfl,⟨lo,(lo+hi) / 2,rfl,by omega,by omega,h.1 hT0,g⟩,by dsimp only;omega⟩
    .have:=Ap.2 hT0;rw [BA (by rw [AZ,Q3,beq_eq_false_iff_ne];omega),J6,wr (by omega) (by omega)];refine ⟨_,rfl,⟨(lo+hi) / 2+1,hi,by simp only [Int.natCast_add];rfl,by omega,P,F,λk hk H=>?_⟩,by dsimp only;omega⟩;by_cases q:k<=(((lo+hi) / 2:AM):AI)
     .exact (hT0 (h.2 λp f=>J89 q (H p f))).elim
     .omega
   .right;have:lo=hi:=by omega
    subst this;rw [J2 (by omega)];exact ⟨_,rfl,by dsimp only;omega,F,g⟩
  .cases A:c with
   | nil=>exact (J A).elim
   | cons w l=>
    have B:w∈c:=by rw [A];exact Ad ..
    have M:=a.ne w B;cases E:w.2 with
    | nil=>exact (M E).elim
    | cons u m=>
     have Q:u∈w.2:=by rw [E];exact Ad ..
     have hb:=(a.rs w B).bd u Q;have hy:=a.y w B;have Y:=d.bd f;refine ⟨(u.1,w.1),⟨w,by rw [<-A];exact B,rfl,u,Q,by dsimp only;omega,by dsimp only;omega⟩,rM.2 ?_⟩;dsimp only;omega
 obtain ⟨e,he,X⟩:=v;exact ⟨e.e,BN he,λq=>(q ⟨d,a⟩).elim,λ_=>⟨λq=>(K q).elim,λ_ q=>(J q).elim,λ_ _=>X⟩⟩
theorem cells_ok(l:AG Jk)(role:AI)(hV:∀t∈l,VT t/\t.1=role)(hl:l.length<=1000000000)(f:(l.flatMap λt=>t.2.2).length<=1000000000):@Xf wv (l,role)=AC ((((l.flatMap λt=>t.2.2).length:AM):AI),AE):=by
 have a:=Kc (b:=@Xl wv) (e:=.inr ⟨(((l.flatMap λt=>t.2.2).length:AM):AI),()⟩) (λi=>⟨l,role,((((l.take i).flatMap λt=>t.2.2).length:AM):AI),(i:AI),()⟩) l.length (by omega) (λi hi=>by
  have hx:=Ag hi;generalize l[i]=t at hx;obtain ⟨v1,v2⟩:=hV t (Au hx);have d:=Yv (λt:Jk=>t.2.2) hx;unfold Xl;dsimp only;rw [AZ,Ky (by omega),BH (fg hx),BH (fg hx),Jg3,BA (by simp [BO,v1]),BH (fg hx),BA (by rw [TN,v2];simp),AZ,J6,J6,wr (by omega) (by omega),wr (n:=(i:AI)+1) (by omega) (by omega),ZP hx,Ab];rfl) (by unfold Xl;dsimp only;rw [AZ,J2 (by omega),Ai])
 unfold Xf;exact BN a
structure FZ (r:AQ) (S:AG Jk):Prop where
 vt:∀t∈S,VT t/\t.1=4
 inn:∀c∈flt S,J1 r c
 nd:(flt S).Nodup
theorem uf{r:AQ}(h:AJ r):(Jq r).Nodup:=(h.IQ).imp λ{a b} d e=>by subst e;exact nR a d
theorem Ll{r:AQ}(h:AJ r):DJ r:=⟨by have:=sw h;omega,λw a=>by have:=jX (h.rs w a);omega⟩
theorem Juj(s p:AI):∀r:AQ,(flt (JR r s p)).Sublist (Jq r)
 | []=>List.Sublist.refl _
 | w::r=>by
  have a:=Juj s p r;have f:JR (w::r) s p=F4 s p w++JR r s p:=rfl;have d:Jq (w::r)=CV w++Jq r:=rfl;rw [f,d,NI];refine List.Sublist.append ?_ a;unfold F4;split
  .rw [flt,List.flatMap_map];exact List.Sublist.refl _
  .exact List.nil_sublist _
theorem Js4{r:AQ}(h:AJ r)(s p:AI):FZ r (JR r s p):=
 ⟨λt a=>OI h s p a,λc f=>by obtain ⟨t,a,d⟩:=mU.1 f;exact ((J4v h s p c).1 ⟨t,a,(OI h s p a).1,d⟩).1,(Juj s p r).nodup (uf h)⟩
theorem RB(l:AG Jk):flt (l.map JG)=(flt l).map swp:=by
 induction l with
 | nil=>rfl
 | cons t l a=>
  have e:flt ((t::l).map JG)=t.2.2.map swp++flt (l.map JG):=rfl;have d:flt (t::l)=t.2.2++flt l:=rfl;rw [e,d,a,Bm]
theorem J6k{f:Cell->Cell}(g:∀a b,f a=f b->a=b){l:AG Cell}(h:l.Nodup):(l.map f).Nodup:=by rw [Ax,List.pairwise_map];rw [Ax] at h;exact h.imp λd e=>d (g _ _ e)
theorem Jtj{r T:AQ}(h:AJ r)(hT:Turned r T)(s p:AI):FZ r ((JR T s p).map JG):=
 ⟨λt a=>Rx hT.ok s p a,λc f=>by
  obtain ⟨t,a,d⟩:=mU.1 f;have:=((J4s hT.ok s p c).1 ⟨t,a,(Rx hT.ok s p a).1,d⟩).1;exact (hT.iff _).1 this,by rw [RB];exact J6k T9 ((Juj s p T).nodup (uf hT.ok))⟩
theorem FZ.len{r:AQ}{S:AG Jk}(h:FZ r S):(flt S).length<=(Jq r).length/\S.length<=(Jq r).length/\∀t∈S,t.2.2.length<=(Jq r).length:=by
 have d:(flt S).length<=(Jq r).length:=tu h.nd λc g=>Q5.2 (h.inn c g);have f:=xQ (T:=S) λt a e=>by have:=(h.vt t a).1.2.1.1;rw [e] at this;simp at this
 exact ⟨d,Bb f.1 d,λt a=>Bb (f.2 t a) d⟩
theorem Tz{l:AG Jk}(h:∀t∈l,VT t):EG l<=l.length * 65537:=by
 induction l with
 | nil=>exact Nat.le_refl _
 | cons t l a=>
  have g:=a λu d=>h u (Bd _ d);have f:=(h t (Ad ..)).2.1.2;have e:EG (t::l)=(t.2.2.length+1)+EG l:=by unfold EG;rw [List.map_cons,List.sum_cons]
  rw [e,Ay];omega
theorem Jto{r:AQ}{l:AG Jk}(a:∀t∈l,VT t/\t.1=4)(hi:∀c∈flt l,J1 r c)(hl:l.length<=1000000):@jx wv l=AC (MB l)/\FZ r (MB l):=by have d:=Tz λt d=>(a t d).1;have o:=onI 4 l a;exact ⟨YG l (by omega) λt h=>by have:=(a t h).1.2.1.2;omega,o.ok,λc f=>hi c ((o.mem c).1 f),o.nd⟩
theorem QI{α:Type}{l m:AG Jk}(h:@jx wv l=AC m)(k:AG (AI×(AN×AG (AI×AI)))->AH α):@W.call wv α zD l k=k m:=BM (c:=zD) h
theorem WV{α:Type}{a:(AG (AI×AG (AI×AI)))×(AI×AI)}{l:AG Jk}(h:@Ys wv a=AC l)(k:AG (AI×(AN×AG (AI×AI)))->AH α):@W.call wv α zi a k=k l:=BM (c:=zi) h
theorem Jx3{α:Type}{a:(AG (AI×AG (AI×AI)))×(AI×AI)}{l:AG Jk}(h:@Xw wv a=AC l)(k:AG (AI×(AN×AG (AI×AI)))->AH α):@W.call wv α Qd a k=k l:=BM (c:=Qd) h
theorem Wm(r:AQ)(s y:AI)(h:AJ r)(a:(Jq r).length<=960)(hs:1<=s/\s<=64):∃S,FZ r S/\@Q8 wv (r,(s,y))=AC S:=by
 have hl:=Ll h;obtain ⟨T,hT,hC⟩:=Jsk r s 0 hl λ_=>by omega
 have hT:=hT h;have hR:=Kbz r s 0 hl λ_=>by omega
 rw [AS ⟨h,hs⟩] at hC hR;have dR:=Js4 h s 0;have dC:=Jtj h hT s 0;have lR:=dR.len;have lC:=dC.len;obtain ⟨g,f⟩:=Jto (r:=r) (l:=JR r s 0++(JR T s 0).map JG) (λt d=>(Aa.1 d).elim (dR.vt t) (dC.vt t)) (λc a=>by rw [NI] at a;exact (Aa.1 a).elim (dR.inn c) (dC.inn c)) (by rw [Ab];omega)
 refine ⟨_,f,?_⟩;unfold Q8;dsimp only;refine (WV hR _).trans ?_;refine (Jx3 hC _).trans ?_;rw [TQ (by rw [BZ,AZ,AZ];omega) (by rw [BZ,AZ,AZ];omega)];exact (QI g _).trans rfl
theorem J3o{t:Jk}(h:VT t):VT (KX t):=⟨⟨(by decide:(1:AI)<=4),(by decide:(4:AI)<=7)⟩,h.2.1,h.2.2.1,h.2.2.2⟩
theorem J2g(l:AG Jk):flt (l.map KX)=flt l:=by unfold flt;rw [List.flatMap_map];rfl
noncomputable def jA(r:AQ):AG Jk:=(jv r).map (bI r)
theorem J7b{r:AQ}(h:AJ r)(m:(Jq r).length<=960):@Xg wv r=AC (jA r)/\(jA r).length<=4000/\(∀t∈jA r,VT t)/\∀c∈flt (jA r),J1 r c:=by
 have l:=J0q r;have hl:=Ll h;have a:=(Juh r hl λ_=>by omega).2 h;have hW:=J7p r hl λ_=>by omega
 rw [AS h] at hW;refine ⟨hW,?_,λt d=>?_,λc f=>?_⟩
 .have g:(jv r).length<=(Ia r).length:=Jsp a;unfold jA;rw [Ac];omega
 .obtain ⟨s,hs,rfl⟩:=Af.1 d;exact Tn h (by omega) ((a.mem s).1 hs).1
 .obtain ⟨t,d,f⟩:=mU.1 f;obtain ⟨s,hs,rfl⟩:=Af.1 d;exact (Jzs ((a.mem s).1 hs).1 ((J2x c).1 f)).1
theorem Jv5(Z:AG Jk)(cur r:AQ)(s y:AI)(out:AG Jk)(hl:Z.length<=1000000000):Qm (@Qr wv) CK ⟨4,(Z.length:AI),0,Z,r,s,y,cur,out,()⟩=AC ⟨Z.map KX,r,s,y,cur,out,()⟩:=
 Kc (b:=@Qr wv) (λi=>⟨4,(Z.length:AI),(i:AI),(Z.take i).map KX++Z.drop i,r,s,y,cur,out,()⟩) Z.length (by omega) (λi hi=>by
  have hx:=Ag hi;have d:Z.drop i=Z[i]::Z.drop (i+1):=Az hi;generalize Z[i]=t at hx d;have a:((Z.take i).map KX).length=i:=by rw [Ac,Aw];omega
  have g:((Z.take i).map KX++Z.drop i)[i]?=AC t:=by rw [d,Aj (by omega),a,Ak];rfl
  have f:0<=(i:AI)/\(i:AI)<@W.ln wv Jk ((Z.take i).map KX++Z.drop i):=⟨by omega,by rw [AZ,Ab,a,Bh];omega⟩;unfold Qr;dsimp only;rw [Ky (by omega),Fj f,BH (fg g),J6,wr (by omega) (by omega),FM,Ar,Q9 hx,d,As _ _ (by omega),a,Ak,Ba,Ao];rfl) (by unfold Qr;dsimp only;rw [J2 (by omega),Ai,Bj,Aq])
theorem WS{α:Type}{r:AQ}{l:AG Jk}(h:@Xg wv r=AC l)(k:AG (AI×(AN×AG (AI×AI)))->AH α):@W.call wv α jw r k=k l:=BM (c:=jw) h
theorem WX{α:Type}{a:(AG (AI×AG (AI×AI)))×AI}{E:AQ}(h:@uy wv a=AC E)(k:AG (AI×AG (AI×AI))->AH α):@W.call wv α zw a k=k E:=BM (c:=zw) h
theorem Jxy:∀ {l m:AG AI},l.Nodup->(∀x∈l,x∈m)->l.length<=m.length
 | [],m,_,_=>by simp
 | x::l,m,d,hs=>by obtain ⟨g,f⟩:=List.nodup_cons.1 d;have hx:x∈m:=hs x (Ad ..);have:=Jxy f (m:=m.erase x) λy a=>(List.mem_erase_of_ne (by rintro rfl;exact g a)).2 (hs y (Bd _ a));rw [List.length_erase_of_mem hx] at this;have:=List.length_pos_of_mem hx;rw [Ay];omega
theorem J42{w:Row}{r E:AQ}(h:AJ (w::r))(hE:AJ E){k:AI}(M:1<=k)(B:∀c,J1 E c↔deep (w::r) k c):E.length<=r.length:=by
 have g:∀ {r:AQ},AJ r->(r.map (·.1)).Nodup:=λ{r} h=>by rw [Ax,List.pairwise_map];exact h.pw.imp λh e=>by omega
 have f:∀y∈E.map (·.1),y∈r.map (·.1):=λy H=>by
  obtain ⟨v,A,rfl⟩:=Af.1 H;obtain ⟨u,l,G⟩:∃u l,v.2=u::l:=by
   cases m:v.2 with
   | nil=>exact (hE.ne v A m).elim
   | cons u l=>exact ⟨u,l,rfl⟩
  have N:=(hE.rs v A).bd u (by rw [G];exact Ad ..);have J:J1 E (u.1,v.1):=⟨v,A,rfl,u,by rw [G];exact Ad ..,by dsimp only;omega,by dsimp only;omega⟩;have hd:=(B _).1 J;have L:=hd 0 0 (by omega) (by omega) (by omega) (by omega);have K:=hd 0 (-1) (by omega) (by omega) (by omega) (by omega);obtain ⟨a,F,ea,-⟩:=L;obtain ⟨b,d,eb,-⟩:=K;dsimp only at ea eb;rcases List.mem_cons.1 F with rfl|F
  .rcases List.mem_cons.1 d with rfl|d
   .omega
   .have:=(List.pairwise_cons.1 h.pw).1 b d;omega
  .exact Af.2 ⟨a,F,by omega⟩
 have:=Jxy (g hE) f;rwa [Ac,Ac] at this
theorem OT(r:AQ)(s y:AI)(h:AJ r)(d:(Jq r).length<=960)(hr:r.length<=12)(hs:1<=s/\s<=64):∃S,FZ r S/\@Q2 wv (r,(s,y))=AC S:=by
 have f:∃e,Qm (@Qs wv) CK ⟨r,s,y,r,[],()⟩=AC e/\(∀t∈e.e,VT t/\t.1=4)/\(∀c∈flt e.e,J1 r c)/\e.e.length<=1000000:=by
  refine tV (b:=@Qs wv) (λst=>∃(cur:AQ) (out:AG Jk),st=⟨r,s,y,cur,out,()⟩/\AJ cur/\(∀c,J1 cur c->J1 r c)/\cur.length<=12/\out.length+4000 * cur.length<=48000/\(∀t∈out,VT t/\t.1=4)/\∀c∈flt out,J1 r c)
   (λe=>(∀t∈e.e,VT t/\t.1=4)/\(∀c∈flt e.e,J1 r c)/\e.e.length<=1000000) (λst=>st.j.j.j.e.length) ?_ ⟨r,[],rfl,h,λ_ q=>q,hr,by simp;omega,λt m=>(by cases m),λc d=>(by cases d)⟩ (by dsimp only;omega)
  rintro st ⟨cur,out,rfl,g,l,X,R,B,A⟩;cases cur with
  | nil=>
   right;refine ⟨⟨out,()⟩,?_,B,A,by dsimp only;omega⟩;unfold Qs;dsimp only;rw [BA (by rfl)]
  | cons w cur=>
   left;have v:(Jq (w::cur)).length<=960:=Bb (nZ h g id (λa b e=>e) l) d;obtain ⟨w1,w2,K,J⟩:=J7b g v;obtain ⟨E,Z,H,G⟩:=Sz (w::cur) g (Ll g) s (by omega);have F:=J42 g H hs.1 G;rw [Ay] at X R;refine ⟨⟨r,s,y,E,out++(jA (w::cur)).map KX,()⟩,?_,⟨E,_,rfl,H,λc d=>l c ?_,by omega,by rw [Ab,Ac];omega,λt m=>?_,λc d=>?_⟩,by dsimp only;rw [Ay];omega⟩
   .unfold Qs;dsimp only;rw [BF (by rw [jm,AZ,Ay];exact AW (by omega))];refine (WS w1 _).trans ?_;refine (BN (Jv5 (jA (w::cur)) (w::cur) r s y out (by omega))).trans ?_;dsimp only;rw [TQ (by rw [BZ,AZ,AZ,Ac];omega) (by rw [BZ,AZ,AZ];omega)];exact (WX Z _).trans rfl
   .have:=(G c).1 d 0 0 (by omega) (by omega) (by omega) (by omega);simpa using this
   .rcases Aa.1 m with q|q
    .exact B t q
    .obtain ⟨u,Y,rfl⟩:=Af.1 q;exact ⟨J3o (K u Y),rfl⟩
   .rw [NI,J2g] at d;rcases Aa.1 d with q|q
    .exact A c q
    .exact l c (J c q)
 obtain ⟨e,Q,P,O,N⟩:=f;obtain ⟨M,L⟩:=Jto P O N;refine ⟨_,L,?_⟩;unfold Q2;dsimp only;refine (BN Q).trans ?_;exact (QI M _).trans rfl
theorem Jx1(r:AQ)(s y:AI)(h:AJ r)(m:(Jq r).length<=960)(hs:1<=s/\s<=64):∃S,FZ r S/\@K0 wv (r,(s,y))=AC S:=by
 obtain ⟨L,hP,hS⟩:=J95 r s (Ll h) h (by omega) hs;obtain ⟨f,a⟩:=J0g (2 * s) L;have g:∀c∈L,J1 r c:=λc d=>Q5.1 (List.mem_filter.1 (hP.mem_iff.1 d)).1;have hl:L.length<=960:=by rw [hP.length_eq];exact Bb (List.length_filter_le _ _) m
 refine ⟨_,⟨λt l=>⟨dh f (by rw [a];omega) (λc d=>by rw [a] at d;exact h.bd (g c d)) l,(f t l).1⟩,λc d=>g c (by rwa [flt,a] at d),?_⟩,hS y⟩;rw [flt,a];exact hP.symm.nodup ((uf h).filter _)
theorem Kau:@ju wv ()=AC AE:=by kernel_rfl
theorem nK{α:Type}(k:AN->AH α):@W.call wv α J3 (():Unit) k=k AE:=BM (c:=J3) Kau
theorem J4u(Z S:AG Jk)(hl:Z.length<=1000000000):Qm (@Qu wv) CK ⟨4,(Z.length:AI),0,Z,S,()⟩=AC ⟨Z.map KX,S,()⟩:=
 Kc (b:=@Qu wv) (λi=>⟨4,(Z.length:AI),(i:AI),(Z.take i).map KX++Z.drop i,S,()⟩) Z.length (by omega) (λi hi=>by
  have hx:=Ag hi;have d:Z.drop i=Z[i]::Z.drop (i+1):=Az hi;generalize Z[i]=t at hx d;have a:((Z.take i).map KX).length=i:=by rw [Ac,Aw];omega
  have g:((Z.take i).map KX++Z.drop i)[i]?=AC t:=by rw [d,Aj (by omega),a,Ak];rfl
  have f:0<=(i:AI)/\(i:AI)<@W.ln wv Jk ((Z.take i).map KX++Z.drop i):=⟨by omega,by rw [AZ,Ab,a,Bh];omega⟩;unfold Qu;dsimp only;rw [Ky (by omega),Fj f,BH (fg g),J6,wr (by omega) (by omega),FM,Ar,Q9 hx,d,As _ _ (by omega),a,Ak,Ba,Ao];rfl) (by unfold Qu;dsimp only;rw [J2 (by omega),Ai,Bj,Aq])
theorem Ka0{α:Type}{l:AG Jk}{T:AQ}(h:@Yp wv l=AC T)(k:AG (AI×AG (AI×AI))->AH α):@W.call wv α K4 l k=k T:=BM (c:=K4) h
structure Two (r:AQ) (s:AI) (S:AG Jk) (F:AQ):Prop where
 dr:FZ r S
 ok:AJ F
 far:∃T,AJ T/\(∀c,J1 T c↔c∈flt S)/\∀p,J1 F p↔J1 r p/\¬FC T s p
abbrev PaS:=HP AI (HP AI (HP AI (HP (AG (AI×(AN×(AG (AI×AI))))) (HP (AG (AI×(AN×(AG (AI×AI))))) Unit))))
abbrev PaO:=HP (AG (AI×(AN×(AG (AI×AI))))) (HP (AG (AI×(AN×(AG (AI×AI))))) Unit)
theorem sG{r:AQ}(h:AJ r)(w:(Jq r).length<=960){s:AI}(hs:1<=s/\s<=64){S:AG Jk}(hS:FZ r S)(L:PaS->AH (Nx PaS PaO))(hL:L=@Qu wv):∃F,Two r s S F /\
  (@W.call wv (AG Jk) K4 S λv3=>@W.call wv (AG Jk) Kt ((r,(v3,s)):((AG (AI×(AG (AI×AI))))×((AG (AI×(AG (AI×AI))))×AI))) λv4=>@W.call wv (AG Jk) K3 v4 λv5=>
   @W.loop wv PaS PaO (AG Jk) L ⟨4,@W.ln wv _ v5,0,v5,S,()⟩ λd=>@W.gd wv (AG Jk) (@W.ft wv 40 (@W.pl wv (@W.ln wv _ d.j.e) (@W.ln wv _ d.e))) (AC (@W.ap wv _ d.j.e d.e)))=AC (S++(GL F).map KX):=by
 subst hL;obtain ⟨g,v,m⟩:=hS.len;have l:(S.flatMap λt=>t.2.2).length<=(Jq r).length:=g;obtain ⟨T,hT,hTok,hTin⟩:=J3l S (by omega) (by omega);have hTm:∀c,J1 T c↔c∈flt S:=λc=>by rw [hTin,mU];exact ⟨λ⟨t,a,_,b⟩=>⟨t,a,b⟩,λ⟨t,a,b⟩=>⟨t,a,(hS.vt t a).1,b⟩⟩
 have hTc:(Jq T).length<=(Jq r).length:=nZ h hTok id (λa b e=>e) λc f=>hS.inn c ((hTm c).1 f);obtain ⟨F,hF,hFok,hFin⟩:=Jzh r T s (Ll h) h (Ll hTok) hTok (by omega) (by omega) (by omega);have hFc:(Jq F).length<=(Jq r).length:=nZ h hFok id (λa b e=>e) λc f=>((hFin c).1 f).1;have hZ:=J3f hFok;refine ⟨F,⟨hS,hFok,T,hTok,hTm,hFin⟩,?_⟩;refine (Ka0 hT _).trans ?_;refine (J2a hF _).trans ?_;refine (QG (Ll hFok) (λ_=>by omega) _).trans ?_;rw [AS hFok];refine (BN (J4u (GL F) S (by omega))).trans ?_;dsimp only;rw [TQ (by rw [BZ,AZ,AZ,Ac];omega) (by rw [BZ,AZ,AZ];omega)];rfl
theorem fq{α:Type}{a:(AG (AI×AG (AI×AI)))×(AI×AI)}{l:AG Jk}(h:@Q8 wv a=AC l)(k:AG (AI×(AN×AG (AI×AI)))->AH α):@W.call wv α Jax a k=k l:=BM (c:=Jax) h
theorem WQ{α:Type}{a:(AG (AI×AG (AI×AI)))×(AI×AI)}{l:AG Jk}(h:@Q2 wv a=AC l)(k:AG (AI×(AN×AG (AI×AI)))->AH α):@W.call wv α Jaa a k=k l:=BM (c:=Jaa) h
theorem WW{α:Type}{a:(AG (AI×AG (AI×AI)))×(AI×AI)}{l:AG Jk}(h:@Ys wv a=AC l)(k:AG (AI×(AN×AG (AI×AI)))->AH α):@W.call wv α jr a k=k l:=BM (c:=jr) h
theorem J1q{α:Type}{a b:AI}{x y:AH α}(h:a≠b):@W.br wv α (@W.cm wv .eql a b) x y=y:=BA (by rw [Q3];simpa using h)
theorem J4w(r:AQ)(k s y:AI)(hl:DJ r)(h:¬(AJ r/\(0<=k/\k<=3)/\1<=s/\s<=64)):@Xz wv (r,(k,(s,y)))=AC []:=by
 unfold Xz;dsimp only;rw [Kg hl];by_cases d:AJ r
 case neg=>rw [BF (by simp [BO,d])]
 rw [BA (by simp [BO,d]),tN];by_cases a:1<=s/\s<=64
 case neg=>rw [BF (by rw [BO,B0 a];rfl)]
 have f:¬(0<=k/\k<=3):=λq=>h ⟨d,q,a⟩;rw [BA (by rw [BO,AW a];rfl),J1q (by omega),J1q (by omega),J1q (by omega),J1q (by omega)]
theorem J4l(r:AQ)(k s y:AI)(h:AJ r)(f:(Jq r).length<=960)(hr:r.length<=12)(w:0<=k/\k<=3)(hs:1<=s/\s<=64):∃S F,Two r s S F/\@Xz wv (r,(k,(s,y)))=AC (S++(GL F).map KX):=by
 have hl:=Ll h;have v:k=0\/k=1\/k=2\/k=3:=by omega
 unfold Xz;dsimp only;rw [Kg hl,BA (by simp [BO,h]),tN,BA (by rw [BO,AW hs];rfl)];rcases v with rfl|rfl|rfl|rfl
 .rw [BF (by rfl),Cy (by rfl)];by_cases m:@W.cm wv .eql (@W.ar wv .rem .i64 y 2) 0=AE
  .have hR:=Kbz r s 0 hl λ_=>by omega
   rw [AS ⟨h,hs⟩] at hR;obtain ⟨F,d,a⟩:=sG h f hs (Js4 h s 0) (@Qu wv) rfl;refine ⟨_,F,d,?_⟩;rw [BF m];exact (WW hR _).trans a
  .obtain ⟨T,hT,hC⟩:=Jsk r s 0 hl λ_=>by omega
   rw [AS ⟨h,hs⟩] at hC;obtain ⟨F,d,a⟩:=sG h f hs (Jtj h (hT h) s 0) (@Jez wv) rfl;refine ⟨_,F,d,?_⟩;rw [BA (by simpa using m)];exact (Jx3 hC _).trans a
 .obtain ⟨S,l,g⟩:=Wm r s y h f hs;obtain ⟨F,d,a⟩:=sG h f hs l (@Jet wv) rfl;refine ⟨S,F,d,?_⟩;rw [BA (by rfl),BF (by rfl)];exact (fq g _).trans a
 .obtain ⟨S,l,g⟩:=OT r s y h f hr hs;obtain ⟨F,d,a⟩:=sG h f hs l (@Jfe wv) rfl;refine ⟨S,F,d,?_⟩;rw [BA (by rfl),BA (by rfl),BF (by rfl)];exact (WQ g _).trans a
 .obtain ⟨S,l,g⟩:=Jx1 r s y h f hs;obtain ⟨F,d,a⟩:=sG h f hs l (@Jey wv) rfl;refine ⟨S,F,d,?_⟩;rw [BA (by rfl),BA (by rfl),BA (by rfl),BF (by rfl)];exact (P9 g _).trans a
theorem Jxl{α:Type}{a:(AG (AI×AG (AI×AI)))×(AI×(AI×AI))}{l:AG Jk}(h:@Xz wv a=AC l)(k:AG (AI×(AN×AG (AI×AI)))->AH α):@W.call wv α Qz a k=k l:=BM (c:=Qz) h
theorem WY{α:Type}{l:AG Jk}{T:AQ}(h:@Yp wv l=AC T)(k:AG (AI×AG (AI×AI))->AH α):@W.call wv α zm l k=k T:=BM (c:=zm) h
theorem WZ{α:Type}{r:AQ}{n:AI}(h:@vD wv r=AC n)(k:AI->AH α):@W.call wv α Zz r k=k n:=BM (c:=Zz) h
theorem WT{α:Type}{a:(AG (AI×(AN×AG (AI×AI))))×AI}{n:AI×AN}(h:@Xf wv a=AC n)(k:AI×AN->AH α):@W.call wv α Qn a k=k n:=BM (c:=Qn) h
theorem qI{α:Type}{a:(AG (AI×AG (AI×AI)))×(AG (AI×AG (AI×AI)))}{n:AI}(h:@uY wv a=AC n)(k:AI->AH α):@W.call wv α kC a k=k n:=BM (c:=kC) h
theorem QH{α:Type}{a:(AG (AI×AG (AI×AI)))×(AG (AI×AG (AI×AI)))}{n:AN}(h:@j9 wv a=AC n)(k:AN->AH α):@W.call wv α Y9 a k=k n:=BM (c:=Y9) h
theorem qH{α:Type}{a:(AG (AI×AG (AI×AI)))×(AG (AI×AG (AI×AI)))}{U:AQ}(h:@Y4 wv a=AC U)(k:AG (AI×AG (AI×AI))->AH α):@W.call wv α Xu a k=k U:=BM (c:=Xu) h
theorem J8l{a b:AQ}(f:AJ a)(d:AJ b)(h:∀c,J1 a c->J1 b c)(g:(Jq a).length<=1000000):@j9 wv (a,b)=AC AE:=by obtain ⟨U,r,m,l⟩:=Jk1 a b f d (Ll f) (Ll d);have e:U=[]:=xY m λc g=>((l c).1 g).2 (h c ((l c).1 g).1);subst e;unfold j9;dsimp only;rw [Kg (Ll f),BF (by simp [f]),Kg (Ll d),BF (by simp [d])];exact (qH r _).trans rfl
theorem RS(r:AQ):(Fe r).length<=12:=by unfold Fe;rw [Ac,Aw];omega
theorem J6p(r:AQ)(k s y:AI):@Kw wv (r,(k,(s,y)))=AC AE:=by
 unfold Kw;dsimp only;rw [qG];have hl:=RQ r;have E:=J4p r;have hr:=RS r;generalize Fe r=q at hl E hr;by_cases h:AJ q/\(0<=k/\k<=3)/\1<=s/\s<=64
 case neg=>
  refine (Jxl (J4w q k s y hl h) _).trans ?_;rw [Jox hl];have B:@W.cm wv .eql (@W.ln wv Jk []) 0=AE:=rfl;by_cases L:AJ q
  case neg=>rw [BF (by simp [BO,L]),BF B,nK]
  rw [BA (by simp [BO,L])];by_cases P:k<0
  .rw [Ky P,BF B,nK]
  rw [J2 P];by_cases O:k > 3
  .rw [BF (by rw [jm];exact AW O),BF B,nK]
  rw [BA (by rw [jm];exact B0 O)];by_cases N:s<1
  .rw [Ky N,BF B,nK]
  rw [J2 N,BF (by rw [jm];exact AW (by have:¬s<=64:=λz=>h ⟨L,⟨by omega,by omega⟩,by omega,z⟩;omega)),BF B,nK]
 obtain ⟨g,hk,hs⟩:=h;have E:=E g;obtain ⟨S,F,⟨dS,hF,T,hT,hTm,hFin⟩,hP⟩:=J4l q k s y g E hr hk hs;obtain ⟨l1,l2,l3⟩:=dS.len;have hZl:=J3f hF;have hFc:(Jq F).length<=(Jq q).length:=nZ g hF id (λa b e=>e) λd hd=>((hFin d).1 hd).1;obtain ⟨Z,eZ⟩:∃Z,Z=(GL F).map KX:=⟨_,rfl⟩;rw [<-eZ] at hP;have hZlen:Z.length=(GL F).length:=by rw [eZ,Ac]
 have hZf:flt Z=flt (GL F):=by rw [eZ,J2g]
 have hZc:(flt Z).length=(Jq F).length:=by rw [hZf];exact Tf F
 have hZm:∀c,c∈flt Z↔J1 F c:=λc=>by rw [hZf,mU,<-J7u hF c];exact ⟨λ⟨t,a,b⟩=>⟨t,a,(Kbe hF a).1,b⟩,λ⟨t,a,_,b⟩=>⟨t,a,b⟩⟩
 have hV:∀t∈S++Z,VT t/\t.1=4:=λt ht=>by
  rcases Aa.1 ht with z|z
  .exact dS.vt t z
  .rw [eZ] at z;obtain ⟨u,Y,rfl⟩:=Af.1 z;exact ⟨J3o (Kbe hF Y).1,rfl⟩
 have J:((S++Z).flatMap λt=>t.2.2).length=(flt S).length+(Jq F).length:=by
  have:(flt (S++Z)).length=(flt S).length+(flt Z).length:=by rw [NI,Ab]
  rw [<-hZc];exact this
 have hll:(S++Z).length<=1000000:=by rw [Ab];omega
 obtain ⟨C,hC,hCok,hCin⟩:=J3l (S++Z) (by omega) (by omega);have hCm:∀c,J1 C c↔c∈flt S\/J1 F c:=λc=>by rw [hCin,<-hZm,<-Aa,<-NI,mU];exact ⟨λ⟨t,a,_,b⟩=>⟨t,a,b⟩,λ⟨t,a,b⟩=>⟨t,a,(hV t a).1,b⟩⟩
 have hCq:∀c,J1 C c->J1 q c:=λc A=>((hCm c).1 A).elim (dS.inn c) λz=>((hFin c).1 z).1;have hCc:(Jq C).length<=(Jq q).length:=nZ g hCok id (λa b e=>e) hCq;have H:(flt S++Jq F).Nodup:=Bf.2 ⟨dS.nd,uf hF,λa ha b hb e=>by subst e;exact ((hFin a).1 (Q5.1 hb)).2 ⟨a,(hTm a).2 ha,rM.2 (by omega)⟩⟩
 have l:(Jq C).length=(flt S).length+(Jq F).length:=by have a1:=tu (uf hCok) (m:=flt S++Jq F) λc A=>Aa.2 (((hCm c).1 (Q5.1 A)).imp id λz=>Q5.2 z);have a2:=tu H (m:=Jq C) λc A=>Q5.2 ((hCm c).2 ((Aa.1 A).imp id λz=>Q5.1 z));rw [Ab] at a1 a2;omega
 have f:∀p,J1 q p->FC C s p:=λp hp=>by
  by_cases v:FC T s p
  .obtain ⟨d,M,d2⟩:=v;exact ⟨d,(hCm d).2 (.inl ((hTm d).1 M)),d2⟩
  .exact ⟨p,(hCm p).2 (.inr ((hFin p).2 ⟨hp,v⟩)),rM.2 (by omega)⟩
 obtain ⟨n,f1,-,f2⟩:=kS q C (Ll g) (Ll hCok) (λ_=>by omega) λ_=>by omega
 have v:0<=n/\n<=s:=by
  obtain ⟨g1,g2,g3⟩:=f2 ⟨g,hCok⟩;by_cases e:q=[]
  .rw [g1 e];omega
  .have G:C≠[]:=by rintro rfl;refine e (xY g λc K=>?_);obtain ⟨d,M,-⟩:=f c K;obtain ⟨w,X,-⟩:=M;cases X
   obtain ⟨R,m2,Q⟩:=g3 e G;exact ⟨R,Q s (by omega) f⟩
 refine (Jxl hP _).trans ?_;rw [Jox hl,BA (by simp [BO,g]),J2 (by omega),BA (by rw [jm];exact B0 (by omega)),J2 (by omega),BA (by rw [jm];exact B0 (by omega))];refine (WY hC _).trans ?_;refine (WT (cells_ok (S++Z) 4 hV (by omega) (by omega)) _).trans ?_;refine (qI f1 _).trans ?_;dsimp only;rw [BF rfl];refine (WZ (TD C (Ll hCok) hCok (by omega)) _).trans ?_;rw [BF (by rw [Q3,J,l];simp)];refine (QH (J8l hCok g hCq (by omega)) _).trans ?_;rw [BF rfl,BF (by rw [MR];exact AW v.1),BF (by rw [KY];exact AW v.2),nK]
end Go.Proofs.YtmfagdfkpjgeiaaGreat
