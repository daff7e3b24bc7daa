/- track.Once: its cells are those of the tracks, each once, and its tracks are valid. Conditions: valid tracks. -/
import Derived.Test.YtmfagdfkpjgeiaaGreatXI
import Derived.Test.YtmfagdfkpjgeiaaGreatXG
set_option linter.unusedVariables false
set_option linter.unusedSimpArgs false
set_option maxRecDepth 100000
namespace Go.Proofs.YtmfagdfkpjgeiaaGreat
open Go Go.Vv Go.Dn Go.Dn.W
open List renaming mem_append -> Aa, mem_singleton -> Ab, getElem?_eq_some_iff -> Ac, getElem?_eq_getElem -> Ad, mem_of_getElem? -> Ae, not_mem_nil -> Af, getElem?_of_mem -> Ag, append_assoc -> Ah, pairwise_iff_getElem -> Ai, dropLast_concat_getLast -> Aj, pairwise_cons -> Ak, take_length -> Ao, getLast?_concat -> Ap, dropLast_concat -> Aq, mem_cons -> Ar, length_pos_iff -> As
open Classical renaming byContradiction -> Am
def flt(l:List Jt):List Cell:=l.flatMap λt=>t.2.2
def kp(l:List (Cell×Bool)):List Cell:=(l.filter λp=>p.2).map (·.1)
theorem J7o(l:List (Cell×Bool))(c:Cell)(b:Bool):kp (l++[(c,b)])=if b=true then kp l++[c] else kp l:=by unfold kp;rw [List.filter_append,List.map_append];cases b<;>simp
structure RunI (m:Mb) (l:List Cell):Prop where
 mem:∀c,FI (BJ m l).2.1 c=true↔FI m c=true\/c∈l
 nd:(kp (l.zip (BJ m l).2.2)).Nodup
 new:∀c∈kp (l.zip (BJ m l).2.2),FI m c=false
 all:∀c,c∈l->FI m c=true\/c∈kp (l.zip (BJ m l).2.2)
 sub:∀c∈kp (l.zip (BJ m l).2.2),c∈l
 full:(BJ m l).1=true->kp (l.zip (BJ m l).2.2)=l
def Chn(l:List Cell):Prop:=l≠[]/\∀i,i<l.length->jI l i
structure PcI (role:Int) (l:List (Cell×Bool)) (s:List Jt×List Cell×Bool):Prop where
 nil:s.1=[]->s.2.1=[]
 fl:flt (JO s.1 s.2.1)=kp l
 ok:∀t∈JO s.1 s.2.1,t.1=role/\t.2.1=false/\Chn t.2.2
 pv:s.2.2=true->∃p b,l.getLast?=some (p,b)/\s.2.1.getLast?=some p
structure OnI (l:List Jt) (s:List Jt×Mb):Prop where
 nd:(flt s.1).Nodup
 seen:∀c,FI s.2 c=true↔c∈flt s.1
 mem:∀c,c∈flt s.1↔c∈flt l
 ok:∀t∈s.1,VT t/\t.1=1
theorem PV:AL ([]:AY):=⟨by simp,.nil,by simp,by simp⟩
theorem zJ(v:Int):@yC wv v=some (decide (-1048576<=v/\v<=1048576)):=by
 unfold yC;by_cases h:-1048576<=v
 ·rw [BA (by rw [JH];exact decide_eq_true h),Fz];simp [h]
 ·rw [AU (by rw [JH];exact decide_eq_false h)];simp [h]
theorem QH{α:Type}(v:Int)(k:Bool->Option α):@W.call wv α Xh (v:Int) k=k (decide (-1048576<=v/\v<=1048576)):=BH (c:=Xh) (zJ v)
theorem XI(l:List Run)(hl:l.length<=1000000000)(h:AJ (-1048576) 1048576 l):@Jbl wv l=some true:=by
 have a:=Ki (b:=@Ym wv) (e:=.inr ()) (λi=>(⟨l,(i:Int),()⟩:HP (List Run) (HP Int Unit))) l.length (by omega) (λi hi=>by
  have hx:=Ad hi;generalize l[i]=u at hx;have w:=h.bd u (Ae hx);have hs:∀ {γ:Type} (x y:Option γ),@W.br wv γ (@W.nt wv (decide (-1048576<=u.1/\u.1<=1048576))) x y=y:=λx y=>AU (by rw [BQ,decide_eq_true ⟨by omega,by omega⟩];rfl);have m:∀ {γ:Type} (x y:Option γ),@W.br wv γ (@W.nt wv (decide (-1048576<=u.2/\u.2<=1048576))) x y=y:=λx y=>AU (by rw [BQ,decide_eq_true ⟨by omega,by omega⟩];rfl);unfold Ym;dsimp only;rw [AO,J5 (by omega),AP (fg hx),AP (fg hx),AU (by rw [JH];exact decide_eq_false (by omega)),AP (fg hx),QH,hs,AP (fg hx),QH,m,J3,wr (by omega) (by omega)];by_cases r:i=0
  ·subst r;rw [AU (by rw [z7];rfl)];rfl
  ·have d:=Ad (l:=l) (i:=i - 1) (by omega);have o:∀v,l[i - 1]?=some v->v.2<u.1:=λv g=>by obtain ⟨p,e⟩:=Ac.1 g;obtain ⟨q,f⟩:=Ac.1 hx;have:=Ai.1 h.pw (i - 1) i p q (by omega);rw [e,f] at this;exact this
   have g:=o _ d;generalize l[i - 1]=v at d g;rw [BA (by rw [z7];exact decide_eq_true (by omega)),AP (fg hx),AP (Im (i - 1) (by rw [Xo,wr (by omega) (by omega)];omega) d),AU (by rw [Fz];exact decide_eq_false (by omega))];rfl) (by unfold Ym;dsimp only;rw [AO,Jr (by omega)])
 exact BL a
theorem Js5{α:Type}{l:List Run}(hl:l.length<=1000000000)(h:AJ (-1048576) 1048576 l)(k:Bool->Option α):@W.call wv α Kc l k=k true:=BH (c:=Kc) (XI l hl h)
def FD(x:Int):List Int->List Int
 | []=>[x]
 | y::r=>if x<=y then (if x<y then x::y::r else y::r) else y::FD x r
theorem Jve(x:Int)(l:List Int):(FD x l).length<=l.length+1:=by
 induction l with
 | nil=>exact Nat.le_refl _
 | cons y r a=>unfold FD;split<;>(try split)<;>simp<;>omega
theorem Ju8(x:Int)(l:List Int)(z:Int):z∈FD x l↔z=x\/z∈l:=by
 induction l with
 | nil=>simp [FD]
 | cons y r a=>
  unfold FD;split
  ·split
   ·simp
   ·have:x=y:=by omega
    subst this;simp
  ·rw [Ar,Ar,a];exact ⟨λh=>h.elim (λq=>.inr (.inl q)) λq=>q.elim .inl λq=>.inr (.inr q),λh=>h.elim (λq=>.inr (.inl q)) λq=>q.elim .inl λq=>.inr (.inr q)⟩
theorem Kaz(x:Int)(l:List Int)(h:l.Pairwise (·<·)):(FD x l).Pairwise (·<·):=by
 induction l with
 | nil=>exact List.pairwise_singleton _ _
 | cons y r f=>
  have d:=Ak.1 h;unfold FD;split
  ·split
   ·rename_i q;refine Ak.2 ⟨λz a=>?_,h⟩;rcases Ar.1 a with e|e
    ·subst e;exact q
    ·exact Int.lt_trans q (d.1 z e)
   ·exact h
  ·refine Ak.2 ⟨λz a=>?_,f d.2⟩;rcases (Ju8 x r z).1 a with e|e
   ·subst e;omega
   ·exact d.1 z e
abbrev TG:=HP (List Int) (HP Int (HP Bool (HP Int (HP (List Int) Unit))))
abbrev In0O:=HP Int (HP Bool (HP (List Int) Unit))
theorem J3h(l:List Int)(x:Int)(hl:l.length<=500000000):@Jay wv (l,x)=some (FD x l):=by
 obtain ⟨e,v,d,out,rfl,h⟩:=Xr (b:=@Ks wv)
  (λi s=>∃(d:Bool) (out:List Int),s=(⟨l,x,d,(i:Int),out,()⟩:TG)/\out++(if d=true then l.drop i else FD x (l.drop i))=FD x l/\out.length<=i+1)
  (λe=>∃(d:Bool) (out:List Int),e=(⟨x,d,out,()⟩:In0O)/\(if d=true then out else out++[x])=FD x l/\out.length<=l.length+1)
  l.length (by omega) (s0:=⟨l,x,false,0,[],()⟩) ⟨false,[],rfl,rfl,by simp⟩ (λi s hi=>by
   rintro ⟨d,out,rfl,a,m⟩;have hx:=Ad hi;have hd:l.drop i=l[i]::l.drop (i+1):=List.drop_eq_getElem_cons hi;generalize l[i]=y at hx hd;rw [hd] at a;have g:@W.ar wv .add .i64 (i:Int) 1=((i+1:Nat):Int):=by rw [J3,wr (by omega) (by omega)];omega
   cases d with
   | true=>
    rw [if_pos rfl] at a;refine ⟨(⟨l,x,true,((i+1:Nat):Int),out++[y],()⟩:TG),?_,true,out++[y],rfl,?_,by simp;omega⟩
    ·unfold Ks;dsimp only;rw [AO,J5 (by omega),AU (by rfl),AP (fg hx),AO,BX,Ei (by omega) (by omega) (by decide),CV,g]
    ·rw [if_pos rfl,Ah];exact a
   | false=>
    rw [if_neg (by decide)] at a;have a:out++(if x<=y then (if x<y then x::y::l.drop (i+1) else y::l.drop (i+1)) else y::FD x (l.drop (i+1)))=FD x l:=a;by_cases q:x<=y
    ·rw [if_pos q] at a;by_cases f:x<y
     ·rw [if_pos f] at a;refine ⟨(⟨l,x,true,((i+1:Nat):Int),(out++[x])++[y],()⟩:TG),?_,true,(out++[x])++[y],rfl,?_,?_⟩
      ·have o:(out++[x]).length=out.length+1:=by simp
       unfold Ks;dsimp only;rw [AO,J5 (by omega),BA (by rfl),AP (fg hx),BA (by rw [Fz];exact decide_eq_true q),AP (fg hx),J5 f,AO,BX,Ei (by omega) (by omega) (by decide),AP (fg hx),CV,AO,o,BX,Ei (by omega) (by omega) (by decide),CV,g]
      ·rw [if_pos rfl,Ah,Ah];exact a
      ·have r:out.length<=i:=by have e:=congrArg List.length a;rw [List.length_append,List.length_cons,List.length_cons,List.length_drop] at e;have:=Jve x l;omega
       simp;omega
     ·rw [if_neg f] at a;refine ⟨(⟨l,x,true,((i+1:Nat):Int),out++[y],()⟩:TG),?_,true,out++[y],rfl,?_,by simp;omega⟩
      ·unfold Ks;dsimp only;rw [AO,J5 (by omega),BA (by rfl),AP (fg hx),BA (by rw [Fz];exact decide_eq_true q),AP (fg hx),Jr f,AP (fg hx),AO,BX,Ei (by omega) (by omega) (by decide),CV,g]
      ·rw [if_pos rfl,Ah];exact a
    ·rw [if_neg q] at a;refine ⟨(⟨l,x,false,((i+1:Nat):Int),out++[y],()⟩:TG),?_,false,out++[y],rfl,?_,by simp;omega⟩
     ·unfold Ks;dsimp only;rw [AO,J5 (by omega),BA (by rfl),AP (fg hx),AU (by rw [Fz];exact decide_eq_false q),AP (fg hx),AO,BX,Ei (by omega) (by omega) (by decide),CV,g]
     ·rw [if_neg (by decide),Ah];exact a) (by
   rintro s ⟨d,out,rfl,a,m⟩;refine ⟨_,?_,d,out,rfl,?_,m⟩
   ·unfold Ks;dsimp only;rw [AO,Jr (by omega)]
   ·rw [List.drop_length] at a;cases d with
    | true=>rw [if_pos rfl,List.append_nil] at a;exact a
    | false=>exact a)
 refine (BL v).trans ?_;dsimp only;cases d with
 | true=>rw [AU (by rfl)];exact congrArg some h.1
 | false=>
  rw [BA (by rfl),AO,BX,Ei (by omega) (by omega) (by decide),CV];exact congrArg some h.1
theorem SE(l:List Run)(hl:l.length<=200000000)(d:∀u∈l,u.1<u.2):∃b,@Ja0 wv l=some b/\b.Pairwise (·<·)/\b.length<=2 * l.length/\∀x,x∈b↔∃u∈l,x=u.1\/x=u.2:=by
 obtain ⟨e,r,b,rfl,h⟩:=Xr (b:=@Yc wv)
  (λi s=>∃b:List Int,s=(⟨l,b,(i:Int),()⟩:HP (List Run) (HP (List Int) (HP Int Unit)))/\b.Pairwise (·<·)/\b.length<=2 * i/\∀x,x∈b↔∃u∈l.take i,x=u.1\/x=u.2)
  (λe=>∃b:List Int,e=(⟨b,()⟩:HP (List Int) Unit)/\b.Pairwise (·<·)/\b.length<=2 * l.length/\∀x,x∈b↔∃u∈l,x=u.1\/x=u.2)
  l.length (by omega) (s0:=⟨l,[],0,()⟩) ⟨[],rfl,.nil,by simp,by simp⟩ (λi s hi=>by
   rintro ⟨b,rfl,g,m,f⟩;have hx:=Ad hi;generalize l[i]=u at hx;have o:=d u (Ae hx);have A:=Jve u.1 b;have y:=Jve u.2 (FD u.1 b);have w:@W.ar wv .add .i64 (i:Int) 1=((i+1:Nat):Int):=by rw [J3,wr (by omega) (by omega)];omega
   refine ⟨(⟨l,FD u.2 (FD u.1 b),((i+1:Nat):Int),()⟩:HP (List Run) (HP (List Int) (HP Int Unit))),?_,_,rfl,Kaz _ _ (Kaz _ _ g),by omega,λx=>?_⟩
   ·unfold Yc;dsimp only;rw [AO,J5 (by omega),AP (fg hx),AP (fg hx),J5 o,AP (fg hx)];refine (BH (c:=K5) (J3h b u.1 (by omega))).trans ?_;rw [AP (fg hx)];refine (BH (c:=K5) (J3h _ u.2 (by omega))).trans ?_;rw [w]
   ·rw [Ju8,Ju8,f,Ka hx];constructor
    ·rintro (e|e|⟨v,a,e⟩)
     ·exact ⟨u,Aa.2 (.inr (Ab.2 rfl)),.inr e⟩
     ·exact ⟨u,Aa.2 (.inr (Ab.2 rfl)),.inl e⟩
     ·exact ⟨v,Aa.2 (.inl a),e⟩
    ·rintro ⟨v,a,e⟩;rcases Aa.1 a with q|q
     ·exact .inr (.inr ⟨v,q,e⟩)
     ·rw [Ab] at q;subst q;exact e.elim (λe=>.inr (.inl e)) .inl) (by rintro s ⟨b,rfl,g,m,f⟩;refine ⟨_,?_,b,rfl,g,m,λx=>by rw [f,Ao]⟩;unfold Yc;dsimp only;rw [AO,Jr (by omega)])
 exact ⟨b,(BL r).trans rfl,h⟩
open Classical in
theorem zM(l:List Run)(x:Int)(hl:l.length<=1000000000):@Jcz wv (l,x)=some (decide (Jf l x)):=by
 have d:=J3u (b:=@jx wv) l (by omega) (λi=>(⟨l,x,(i:Int),()⟩:HP (List Run) (HP Int (HP Int Unit)))) (λu:Run=>u.1<=x/\x<u.2) (λi u=>.inl ()) (.inr ()) (λi u hi hx=>by
  have m:@W.ar wv .add .i64 (i:Int) 1=((i+1:Nat):Int):=by rw [J3,wr (by omega) (by omega)];omega
  unfold jx;dsimp only;rw [AO,J5 (by omega),AP (fg hx),AP (fg hx),m];simp only [EI,Fz,Li,decide_eq_true_eq];refine ⟨λ⟨a,b⟩=>by rw [if_pos a,if_pos b],λh=>?_⟩;by_cases a:u.1<=x
  ·rw [if_pos a,if_neg λb=>h ⟨a,b⟩]
  ·rw [if_neg a]) (by unfold jx;dsimp only;rw [AO,Jr (by omega)])
 obtain ⟨e,g,h⟩:=d;refine (BL g).trans ?_;rcases h with ⟨rfl,h⟩|⟨i,u,f,h,rfl⟩
 ·rw [decide_eq_false λ⟨u,f,q⟩=>h u f q]
 ·rw [decide_eq_true ⟨u,Ae f,h⟩]
open Classical in
theorem QJ{α:Type}{l:List Run}(x:Int)(hl:l.length<=1000000000)(k:Bool->Option α):@W.call wv α Xf ((l,x):List Run×Int) k=k (decide (Jf l x)):=BH (c:=Xf) (zM l x hl)
abbrev M4:=HP (List Run) (HP (List Run) (HP Int (HP (List Int) (HP Int (HP (List Run) Unit)))))
theorem sZ(s:M4)(g:s.j.j.e=1)(x y:Bool):@Zc wv s x y=some ⟨s.e,s.j.e,1,s.j.j.j.e,s.j.j.j.j.e,x&&y,s.j.j.j.j.j.e,()⟩:=by obtain ⟨a,b,c,d,e,f,u⟩:=s;have g:c=1:=g;subst g;cases x<;>cases y<;>rfl
def LY(out:List Run)(p q:Int):List Run:=match out.getLast? with
 | some v=>if v.2=p then out.dropLast++[(v.1,q)] else out++[(p,q)]
 | none=>out++[(p,q)]
theorem Ou(out:List Run)(p q:Int):(LY out p q).length<=out.length+1:=by
 unfold LY;split
 ·split
  ·simp
  ·simp
 ·simp
def M5(a b out:List Run)(p:Int):Prop:=Io out/\(∀u∈out,u.2<=p)/\∀x,x<p->(Jf out x↔Jf a x/\Jf b x)
theorem Nl{a b out:List Run}{p q:Int}(h:M5 a b out p)(H:p<q)(M:∀x,p<=x->x<q->Jf a x)(L:∀x,p<=x->x<q->Jf b x):M5 a b (LY out p q) q:=by
 obtain ⟨G,F,N⟩:=h;have add:∀l:List Run,(∀x,Jf l x↔Jf out x\/(p<=x/\x<q))->∀x,x<q->(Jf l x↔Jf a x/\Jf b x):=λl hl x hx=>by
  rw [hl];by_cases c:x<p
  ·rw [<-N x c];exact ⟨λg=>g.elim id λg=>by omega,.inl⟩
  ·exact ⟨λ_=>⟨M x (by omega) hx,L x (by omega) hx⟩,λ_=>.inr ⟨by omega,hx⟩⟩
 have app:M5 a b (out++[(p,q)]) q\/∃v,out.getLast?=some v/\v.2=p:=by
  by_cases c:∃v,out.getLast?=some v/\v.2=p
  ·exact .inr c
  refine .inl ⟨bA.2 ⟨G,H,λv B=>?_⟩,λu A=>?_,add _ λx=>?_⟩
  ·have:=F v B;have E:v.2≠p:=λe=>by
    obtain ⟨r,z,rfl⟩:∃r z,out=r++[z]:=⟨_,_,(Aj (List.ne_nil_of_mem B)).symm⟩;refine c ⟨z,Ap,?_⟩;have P:=F z (Aa.2 (.inr (Ab.2 rfl)));rcases Aa.1 B with m|m
    ·have R:=(bA.1 G).2.2 v m;have Q:=(bA.1 G).2.1;omega
    ·rw [Ab] at m;rw [<-m];exact e
   dsimp only;omega
  ·rcases Aa.1 A with m|m
   ·have:=F u m;omega
   ·rw [Ab] at m;subst m;exact Int.le_refl _
  ·constructor
   ·rintro ⟨u,A,y,o⟩;rcases Aa.1 A with m|m
    ·exact .inl ⟨u,m,y,o⟩
    ·rw [Ab] at m;subst m;exact .inr ⟨y,o⟩
   ·rintro (⟨u,A,g⟩|⟨y,o⟩)
    ·exact ⟨u,Aa.2 (.inl A),g⟩
    ·exact ⟨_,Aa.2 (.inr (Ab.2 rfl)),y,o⟩
 unfold LY;cases B:out.getLast? with
 | none=>
  rcases app with g|⟨v,e,_⟩
  ·exact g
  ·rw [B] at e;cases e
 | some v=>
  dsimp only;by_cases c:v.2=p
  ·rw [if_pos c];obtain ⟨r,rfl⟩:∃r,out=r++[v]:=by
    have E:out≠[]:=by rintro rfl;cases B
    refine ⟨out.dropLast,?_⟩;have:=Aj E;rw [List.getLast?_eq_some_getLast E] at B;cases B;exact this.symm
   rw [Aq];obtain ⟨K,O,J⟩:=bA.1 G;refine ⟨bA.2 ⟨K,by dsimp only;omega,J⟩,λu A=>?_,add _ λx=>?_⟩
   ·rcases Aa.1 A with m|m
    ·have:=F u (Aa.2 (.inl m));omega
    ·rw [Ab] at m;subst m;exact Int.le_refl _
   ·constructor
    ·rintro ⟨u,A,y,o⟩;rcases Aa.1 A with m|m
     ·exact .inl ⟨u,Aa.2 (.inl m),y,o⟩
     ·rw [Ab] at m;subst m;dsimp only at y o;by_cases d:x<p
      ·exact .inl ⟨v,Aa.2 (.inr (Ab.2 rfl)),y,by omega⟩
      ·exact .inr ⟨by omega,o⟩
    ·rintro (⟨u,A,y,o⟩|⟨y,o⟩)
     ·rcases Aa.1 A with m|m
      ·exact ⟨u,Aa.2 (.inl m),y,o⟩
      ·rw [Ab] at m;subst m;exact ⟨_,Aa.2 (.inr (Ab.2 rfl)),y,by dsimp only;omega⟩
     ·exact ⟨_,Aa.2 (.inr (Ab.2 rfl)),by dsimp only;omega,o⟩
  ·rw [if_neg c];rcases app with g|⟨w,e,f⟩
   ·exact g
   ·rw [B] at e;cases e;exact (c f).elim
theorem J76{a b out:List Run}{p q:Int}(h:M5 a b out p)(l:p<q)(m:∀x,p<=x->x<q->¬(Jf a x/\Jf b x)):M5 a b out q:=by
 obtain ⟨r,f,o⟩:=h;refine ⟨r,λu d=>by have:=f u d;omega,λx hx=>?_⟩;by_cases c:x<p
 ·exact o x c
 ·refine ⟨λ⟨u,d,w,v⟩=>by have:=f u d;omega,λg=>(m x (by omega) hx g).elim⟩
theorem J60{l:List Run}{bs:List Int}(w:bs.Pairwise (·<·))(f:∀u∈l,u.1∈bs/\u.2∈bs){i:Nat}{p q:Int}(r:bs[i]?=some p)(o:bs[i+1]?=some q)(x:Int)(G:p<=x)(F:x<q):Jf l x↔Jf l p:=by
 have a:∀z∈bs,z<=p\/q<=z:=λz m=>by
  obtain ⟨j,v⟩:=Ag m;obtain ⟨pj,ej⟩:=Ac.1 v;obtain ⟨pp,ep⟩:=Ac.1 r;obtain ⟨pq,eq⟩:=Ac.1 o;have pw:=Ai.1 w;by_cases c:j<i
  ·have:=pw j i pj pp c;rw [ej,ep] at this;omega
  ·by_cases A:j=i
   ·subst A;rw [ep] at ej;omega
   ·by_cases y:j=i+1
    ·subst y;rw [eq] at ej;omega
    ·have:=pw (i+1) j pq pj (by omega);rw [ej,eq] at this;omega
 constructor
 ·rintro ⟨u,d,h,g⟩;have E:=a _ (f u d).1;have B:=a _ (f u d).2;exact ⟨u,d,by omega,by omega⟩
 ·rintro ⟨u,d,h,g⟩;have E:=a _ (f u d).1;have B:=a _ (f u d).2;exact ⟨u,d,by omega,by omega⟩
theorem Oo(a b out:List Run)(bs:List Int)(i:Nat)(p q:Int)(g:out.length<=500000000)(hi:i<=1000000000)(o:bs[i]?=some p)(m:bs[i+1]?=some q)(x y:Bool) :
  (@W.join wv _ (Nx M4 (HP (List Run) Unit)) (@Zc wv (⟨a,b,1,bs,(i:Int),out,()⟩:M4) x y) λd=>
   @W.br wv _ d.j.j.j.j.j.e (@W.ge wv _ Int d.j.j.j.e d.j.j.j.j.e λf=>
   @W.ge wv _ Int d.j.j.j.e (@W.ar wv .add .i64 d.j.j.j.j.e 1) λv9=>
   @W.br wv _ (@W.cm wv .gtr (@W.ln wv Run d.j.j.j.j.j.j.e) 0) (@W.gd wv _ (@W.ib wv (@W.ar wv .sub .i64 (@W.ln wv Run d.j.j.j.j.j.j.e) 1) (@W.ln wv Run d.j.j.j.j.j.j.e)) <|
   @W.ge wv _ Run d.j.j.j.j.j.j.e (@W.ar wv .sub .i64 (@W.ln wv Run d.j.j.j.j.j.j.e) 1) λv10=>
   @W.br wv _ (@W.cm wv .eql v10.2 f) (@W.gd wv _ (@W.le wv 0 (@W.ar wv .sub .i64 (@W.ln wv Run d.j.j.j.j.j.j.e) 1)) <|
   @W.gd wv _ (@W.le wv (@W.ar wv .sub .i64 (@W.ln wv Run d.j.j.j.j.j.j.e) 1) (@W.ln wv Run d.j.j.j.j.j.j.e)) <|
   @W.gd wv _ (@W.le wv 0 0) <|
   @W.gd wv _ (@W.le wv 0 (@W.ar wv .sub .i64 (@W.ln wv Run d.j.j.j.j.j.j.e) 1)) <|
   @W.gd wv _ (@W.le wv (@W.pl wv 0 (@W.ar wv .sub .i64 (@W.ln wv Run d.j.j.j.j.j.j.e) 1)) (@W.ln wv Run d.j.j.j.j.j.j.e)) <|
   @W.gd wv _ (@W.ft wv 16 (@W.pl wv 0 (@W.ln wv Run (@W.ct wv Run d.j.j.j.j.j.j.e 0 (@W.ar wv .sub .i64 (@W.ln wv Run d.j.j.j.j.j.j.e) 1))))) <|
   @W.gd wv _ (@W.ib wv (@W.ar wv .sub .i64 (@W.ln wv Run d.j.j.j.j.j.j.e) 1) (@W.ln wv Run d.j.j.j.j.j.j.e)) <|
   @W.ge wv _ Run d.j.j.j.j.j.j.e (@W.ar wv .sub .i64 (@W.ln wv Run d.j.j.j.j.j.j.e) 1) λv11=>
   @W.gd wv _ (@W.ft wv 16 (@W.pl wv (@W.ln wv Run (@W.ct wv Run d.j.j.j.j.j.j.e 0 (@W.ar wv .sub .i64 (@W.ln wv Run d.j.j.j.j.j.j.e) 1))) 1)) <|
   some (.go ⟨d.e,d.j.e,d.j.j.e,d.j.j.j.e,(@W.ar wv .add .i64 d.j.j.j.j.e 1),(@W.ap wv Run (@W.ct wv Run d.j.j.j.j.j.j.e 0 (@W.ar wv .sub .i64 (@W.ln wv Run d.j.j.j.j.j.j.e) 1)) ((v11.1,v9)::[])),()⟩))
   (@W.gd wv _ (@W.ft wv 16 (@W.pl wv (@W.ln wv Run d.j.j.j.j.j.j.e) 1)) <|
   some (.go ⟨d.e,d.j.e,d.j.j.e,d.j.j.j.e,(@W.ar wv .add .i64 d.j.j.j.j.e 1),(@W.ap wv Run d.j.j.j.j.j.j.e ((f,v9)::[])),()⟩)))
   (@W.gd wv _ (@W.ft wv 16 (@W.pl wv (@W.ln wv Run d.j.j.j.j.j.j.e) 1)) <|
   some (.go ⟨d.e,d.j.e,d.j.j.e,d.j.j.j.e,(@W.ar wv .add .i64 d.j.j.j.j.e 1),(@W.ap wv Run d.j.j.j.j.j.j.e ((f,v9)::[])),()⟩)))
   (some (.go ⟨d.e,d.j.e,d.j.j.e,d.j.j.j.e,(@W.ar wv .add .i64 d.j.j.j.j.e 1),d.j.j.j.j.j.j.e,()⟩))) =
  some (.go (⟨a,b,1,bs,((i+1:Nat):Int),if (x&&y)=true then LY out p q else out,()⟩:M4)):=by
 refine (DW (sZ _ rfl x y)).trans ?_;dsimp only;have A:@W.ar wv .add .i64 (i:Int) 1=((i+1:Nat):Int):=by rw [J3,wr (by omega) (by omega)];omega
 rw [A];cases l:(x&&y) with
 | false=>rw [AU rfl,if_neg (by decide)]
 | true=>
  rw [BA rfl,if_pos rfl,AP (fg o),AP (fg m)];rcases out.eq_nil_or_concat with rfl|⟨r,v,rfl⟩
  ·rw [AU (by rfl),AO,BX,FH (by simp) (by simp),CV];rfl
  ·rw [List.concat_eq_append] at g ⊢;have hl:(r++[v]).length=r.length+1:=by simp
   rw [hl] at g;have w:@W.ar wv .sub .i64 (((r.length+1:Nat):Int)) 1=(r.length:Int):=by rw [Xo,wr (by omega) (by omega)];omega
   have ect:@W.ct wv Run (r++[v]) 0 (r.length:Int)=r:=by rw [Iq];simp
   have lt:∀ {s t:Int},s<=t->@W.le wv s t=true:=λh=>by rw [Tz];exact decide_eq_true h
   unfold LY;rw [Ap,AO,hl,w,BA (by rw [z7];exact decide_eq_true (by omega)),FQ ⟨by omega,by omega⟩,AP (fg (iU r v))];dsimp only;by_cases c:v.2=p
   ·rw [if_pos c,BA (by rw [Qn];exact beq_iff_eq.2 c),Cb (lt (by omega)),Cb (lt (by omega)),Cb (lt (by omega)),Cb (lt (by omega)),BX,Cb (lt (by omega)),ect,AO,BX,FH (by omega) (by omega),FQ ⟨by omega,by omega⟩,AP (fg (iU r v)),BX,FH (by omega) (by omega),CV,Aq]
   ·rw [if_neg c,AU (by rw [Qn];exact beq_eq_false_iff_ne.2 c),BX,FH (by omega) (by omega),CV]
theorem Jq0(a b:List Run)(hla:a.length<=50000000)(hlb:b.length<=50000000)(F:AJ (-4096) 4096 a)(N:AJ (-4096) 4096 b):∃l,@X6 wv (a,b)=some l/\AJ (-4096) 4096 l/\∀x,Jf l x↔Jf a x/\Jf b x:=by
 classical
 have wid:∀ {l:List Run},AJ (-4096) 4096 l->AJ (-1048576) 1048576 l:=λ{l} h=>⟨λu d=>by have:=h.bd u d;omega,h.pw⟩;have hab:(a++b).length=a.length+b.length:=List.length_append;obtain ⟨bs,g1,G,g3,y⟩:=SE (a++b) (by omega) λu d=>by
  rcases Aa.1 d with q|q
  ·exact (F.bd u q).2.1
  ·exact (N.bd u q).2.1
 have ma:∀u∈a,u.1∈bs/\u.2∈bs:=λu d=>⟨(y _).2 ⟨u,Aa.2 (.inl d),.inl rfl⟩,(y _).2 ⟨u,Aa.2 (.inl d),.inr rfl⟩⟩;have mb:∀u∈b,u.1∈bs/\u.2∈bs:=λu d=>⟨(y _).2 ⟨u,Aa.2 (.inr d),.inl rfl⟩,(y _).2 ⟨u,Aa.2 (.inr d),.inr rfl⟩⟩;have pwb:=Ai.1 G;obtain ⟨e,he,out,rfl,Y,K⟩:=Xr (b:=@Xa wv)
  (λi s=>∃out,s=(⟨a,b,1,bs,(i:Int),out,()⟩:M4)/\out.length<=i/\(bs=[]->out=[])/\∀p,bs[i]?=some p->M5 a b out p)
  (λe=>∃out,e=(⟨out,()⟩:HP (List Run) Unit)/\Io out/\∀x,Jf out x↔Jf a x/\Jf b x)
  (bs.length - 1) (by omega) (s0:=⟨a,b,1,bs,0,[],()⟩)
  ⟨[],rfl,Nat.le_refl _,λ_=>rfl,λp f=>⟨⟨by simp,.nil⟩,by simp,λx hx=>⟨λ⟨u,d,_⟩=>(Af d).elim,λ⟨⟨u,d,R,A⟩,_⟩=>by
   obtain ⟨j,E⟩:=Ag (ma u d).1;obtain ⟨pj,ej⟩:=Ac.1 E;obtain ⟨pp,ep⟩:=Ac.1 f;by_cases c:j=0
   ·subst c;rw [ep] at ej;omega
   ·have:=pwb 0 j pp pj (by omega);rw [ej,ep] at this;omega⟩⟩⟩ (λi s hi=>by
   rintro ⟨out,rfl,X,J,B⟩;have f:=Ad (l:=bs) (i:=i) (by omega);have v:=Ad (l:=bs) (i:=i+1) (by omega);have o:=pwb i (i+1) (by omega) (by omega) (by omega);generalize bs[i]=p at f o;generalize bs[i+1]=q at v o;have H:@W.ar wv .add .i64 (i:Int) 1=((i+1:Nat):Int):=by rw [J3,wr (by omega) (by omega)];omega
   refine ⟨(⟨a,b,1,bs,((i+1:Nat):Int),if (decide (Jf a p)&&decide (Jf b p))=true then LY out p q else out,()⟩:M4),?_,_,rfl,?_,λh=>?_,λz L=>?_⟩
   ·unfold Xa;dsimp only;rw [AO,H,J5 (by omega),AP (fg f),QJ p (by omega),AP (fg f),QJ p (by omega)];exact Oo a b out bs i p q (by omega) (by omega) f v _ _
   ·have:=Ou out p q;split<;>omega
   ·rw [h] at f;cases f
   ·rw [v] at L;cases L;have d:=B p f;have sa:=λx m g=>J60 G ma f v x m g;have sb:=λx m g=>J60 G mb f v x m g;split
    ·rename_i w;rw [Bool.and_eq_true,decide_eq_true_eq,decide_eq_true_eq] at w;exact Nl d o (λx m g=>(sa x m g).2 w.1) λx m g=>(sb x m g).2 w.2
    ·rename_i w;refine J76 d o λx m g ⟨k1,Z⟩=>w ?_;rw [Bool.and_eq_true,decide_eq_true_eq,decide_eq_true_eq];exact ⟨(sa x m g).1 k1,(sb x m g).1 Z⟩) (by
   rintro s ⟨out,rfl,X,J,B⟩;have H:@W.ar wv .add .i64 ((bs.length - 1:Nat):Int) 1=((bs.length - 1+1:Nat):Int):=by rw [J3,wr (by omega) (by omega)];omega
   refine ⟨_,?_,out,rfl,?_⟩
   ·unfold Xa;dsimp only;rw [AO,H,Jr (by omega)]
   ·by_cases r:bs=[]
    ·rw [J r];refine ⟨⟨by simp,.nil⟩,λx=>⟨λ⟨u,d,_⟩=>(Af d).elim,λ⟨⟨u,d,_⟩,_⟩=>?_⟩⟩;have:=(ma u d).1;rw [r] at this;exact (Af this).elim
    ·have M:=As.2 r;have f:=Ad (l:=bs) (i:=bs.length - 1) (by omega);generalize bs[bs.length - 1]=p at f;obtain ⟨Q,P,O⟩:=B p f;refine ⟨Q,λx=>?_⟩;by_cases c:x<p
     ·exact O x c
     ·refine ⟨λ⟨u,d,_,A⟩=>by have:=P u d;omega,λ⟨⟨u,d,_,A⟩,_⟩=>?_⟩;obtain ⟨j,E⟩:=Ag (ma u d).2;obtain ⟨pj,ej⟩:=Ac.1 E;obtain ⟨pp,ep⟩:=Ac.1 f;by_cases c:j=bs.length - 1
      ·subst c;rw [ep] at ej;omega
      ·have:=pwb j (bs.length - 1) pj pp (by omega);rw [ej,ep] at this;omega)
 refine ⟨out,?_,vC Y λx hx=>?_,K⟩
 ·unfold X6;dsimp only;rw [Js5 (by omega) (wid F),AU (by rfl),Js5 (by omega) (wid N),AU (by rfl),AO,AO,BX,FH (by omega) (by omega),BX,FH (by omega) (by omega),CV];refine (BH (c:=Xs) g1).trans ?_;exact (BL he).trans rfl
 ·obtain ⟨u,d,R,A⟩:=((K x).1 hx).1;have:=F.bd u d;omega
theorem Ju7(l:List Run)(k:Int)(hl:l.length<=1000000000)(h:AJ (-1048576) 1048576 l)(o:0<=k/\k<=1048576):@jj wv (l,k)=some (Co k l):=by
 have a:=Ki (b:=@X8 wv) (e:=(⟨Co k l,()⟩:HP (List Run) Unit)) (λi=>(⟨l,k,(i:Int),Co k (l.take i),()⟩:HP (List Run) (HP Int (HP Int (HP (List Run) Unit))))) l.length (by omega) (λi hi=>by
  have hx:=Ad hi;generalize l[i]=u at hx;have m:=h.bd u (Ae hx);have d:(Co k (l.take i)).length<=l.length:=by refine Nat.le_trans (List.length_filterMap_le _ _) ?_;rw [List.length_take];omega
  have e:Co k (l.take (i+1))=Co k (l.take i)++(Hl k u).toList:=by unfold Co;rw [Ka hx,List.filterMap_append];cases f:Hl k u<;>simp [f]
  have g:@W.ar wv .add .i64 (i:Int) 1=((i+1:Nat):Int):=by rw [J3,wr (by omega) (by omega)];omega
  unfold X8;dsimp only;rw [AO,J5 (by omega),AP (fg hx),AP (fg hx),g,J3,Xo,wr (n:=u.1+k) (by omega) (by omega),wr (n:=u.2 - k) (by omega) (by omega),e];unfold Hl;by_cases q:u.1+k<u.2 - k
  ·rw [J5 q,if_pos q,AP (fg hx),AP (fg hx),AO,BX,FH (by omega) (by omega),J3,Xo,wr (n:=u.1+k) (by omega) (by omega),wr (n:=u.2 - k) (by omega) (by omega),CV];rfl
  ·rw [Jr q,if_neg q];show _=some (Nx.go (⟨l,k,((i+1:Nat):Int),Co k (l.take i)++[],()⟩:HP (List Run) (HP Int (HP Int (HP (List Run) Unit)))));rw [List.append_nil]) (by unfold X8;dsimp only;rw [AO,Jr (by omega),Ao])
 unfold jj;dsimp only;rw [Js5 hl h,AU (by rfl),Jr (by omega),AU (by rw [z7];exact decide_eq_false (by omega))];exact (BL a).trans rfl
abbrev gQ:=HP Int (HP AY (HP Int (HP Int (HP AY (HP AY Unit)))))
abbrev gP:=HP Int (HP Int (HP (List Run) (HP Int (HP AY (HP Int (HP Int (HP AY (HP Int (HP (List Run) (HP AY Unit))))))))))
abbrev XK:=HP Int (HP (List Run) (HP AY (HP Int (HP Int (HP AY (HP Int (HP (List Run) (HP AY Unit))))))))
def Rw(r:AY)(k n x y:Int):Prop:=∀dx dy:Int,-k<=dx->dx<=k->-n<=dy->dy<=n->Qo r (x+dx,y+dy)
theorem Jw6{r:AY}(h:AL r){k:Int}(d:0<=k){w:Row}(a:w∈r)(x:Int):Jf (Co k w.2) x↔∀dx:Int,-k<=dx->dx<=k->Qo r (x+dx,w.1):=by
 rw [J2v (h.rs w a) d];constructor
 ·intro g dx l f;rw [YP h,aS h a];exact g (x+dx) (by omega) (by omega)
 ·intro g y l f;have:=g (y - x) (by omega) (by omega);rw [YP h,aS h a,show x+(y - x)=y by omega] at this;exact this
theorem J6i{r:AY}(h:AL r){k n:Int}(l:0<=k)(E:0<=n){y:Int}{u v:Row}(o:u∈r)(m:v∈r)(eu:u.1=y - (n+1))(ev:v.1=y+(n+1))(x:Int):Rw r k (n+1) x y↔(Rw r k n x y/\Jf (Co k u.2) x)/\Jf (Co k v.2) x:=by
 rw [Jw6 h l o,Jw6 h l m,eu,ev];constructor
 ·intro g;refine ⟨⟨λdx dy f a a3 a4=>g dx dy f a (by omega) (by omega),λdx f a=>?_⟩,λdx f a=>?_⟩
  ·have:=g dx (-(n+1)) f a (by omega) (by omega);rwa [show y+-(n+1)=y - (n+1) by omega] at this
  ·exact g dx (n+1) f a (by omega) (by omega)
 ·rintro ⟨⟨B,A⟩,w⟩ dx dy f a a3 a4;by_cases c:dy=n+1
  ·rw [c];exact w dx f a
  ·by_cases d:dy=-(n+1)
   ·rw [d,show y+-(n+1)=y - (n+1) by omega];exact A dx f a
   ·exact B dx dy f a (by omega) (by omega)
theorem yU{r:AY}{k x y dy:Int}(h:-k<=dy)(f:dy<=k)(d:∀v∈r,v.1≠y+dy)(l:0<=k):¬deep r k (x,y):=λg=>by obtain ⟨v,a,e,_⟩:=g 0 dy (by omega) (by omega) h f;exact d v a e
theorem TI(r:AY)(hr:AL r)(k:Int)(y:0<=k/\k<=64)(i:Nat)(w:Row)(O:r[i]?=some w)(len:Int)(out:AY) :
  ∃o,X0 (@J7 wv) CU (⟨k,(i:Int),Co k w.2,1,r,len,(i:Int),r,w.1,w.2,out,()⟩:gP)=some (⟨k,o,r,len,(i:Int),r,w.1,w.2,out,()⟩:XK)/\AJ (-4096) 4096 o/\∀x,Jf o x↔deep r k (x,w.1):=by
 have hL:=Tg hr;have E:=Ae O;have hy:=hr.y w E;have hil:=(Ac.1 O).1;obtain ⟨e,he,o,rfl,h1,h2⟩:=iW (b:=@J7 wv)
  (λs=>∃(n:Nat) (l:List Run),s=(⟨k,(i:Int),l,(n:Int)+1,r,len,(i:Int),r,w.1,w.2,out,()⟩:gP)/\(n:Int)<=k/\n<=i/\(∃v,r[i - n]?=some v/\v.1=w.1 - n)/\(∃v,r[i+n]?=some v/\v.1=w.1+n)/\AJ (-4096) 4096 l/\∀x,Jf l x↔Rw r k n x w.1)
  (λe=>∃o,e=(⟨k,o,r,len,(i:Int),r,w.1,w.2,out,()⟩:XK)/\AJ (-4096) 4096 o/\∀x,Jf o x↔deep r k (x,w.1))
  (λs=>(k+1 - s.j.j.j.e).toNat) (by
   rintro s ⟨n,l,rfl,n1,n2,⟨a,ha,ea⟩,⟨b,hb,eb⟩,hl,hd⟩;have M:@W.ar wv .sub .i64 (i:Int) ((n:Int)+1)=(i:Int) - ((n:Int)+1):=by rw [Xo,wr (by omega) (by omega)]
   have Z:@W.ar wv .add .i64 (i:Int) ((n:Int)+1)=((i+n+1:Nat):Int):=by rw [J3,wr (by omega) (by omega)];omega
   have P:@W.ar wv .sub .i64 w.1 ((n:Int)+1)=w.1 - ((n:Int)+1):=by rw [Xo,wr (by omega) (by omega)]
   have e4:@W.ar wv .add .i64 w.1 ((n:Int)+1)=w.1+((n:Int)+1):=by rw [J3,wr (by omega) (by omega)]
   have e5:@W.ar wv .add .i64 ((n:Int)+1) 1=((n+1:Nat):Int)+1:=by rw [J3,wr (by omega) (by omega)];omega
   by_cases f:(n:Int)+1<=k
   case neg=>
    have f:(n:Int)=k:=by omega
    refine .inr ⟨_,?_,l,rfl,hl,λx=>by rw [hd,f];exact Iff.rfl⟩;unfold J7;dsimp only;rw [AU (by rw [Fz];exact decide_eq_false (by omega))]
   have brk:(∀x,¬deep r k (x,w.1))->∃o,(⟨k,[],r,len,(i:Int),r,w.1,w.2,out,()⟩:XK)=(⟨k,o,r,len,(i:Int),r,w.1,w.2,out,()⟩:XK)/\AJ (-4096) 4096 o/\∀x,Jf o x↔deep r k (x,w.1):=λh=>⟨[],rfl,⟨by simp,.nil⟩,λx=>⟨λ⟨u,m,_⟩=>(Af m).elim,λg=>(h x g).elim⟩⟩;have low:∀v∈r,v.1=w.1 - ((n:Int)+1)->n+1<=i/\∀z,r[i - (n+1)]?=some z->z.1=w.1 - ((n:Int)+1):=λv d e=>by
    obtain ⟨j,H⟩:=Ag d;have Y:j<i - n:=by apply Am;intro q;have:=Tc hr ha H (by omega);omega
    refine ⟨by omega,λz B=>?_⟩;have X:=Tc hr H B (by omega);have R:=YE hr B ha (by omega);omega
   have A:∀v∈r,v.1=w.1+((n:Int)+1)->i+n+1<r.length/\∀z,r[i+n+1]?=some z->z.1=w.1+((n:Int)+1):=λv d e=>by
    obtain ⟨j,H⟩:=Ag d;have hjl:=(Ac.1 H).1;have Y:i+n<j:=by apply Am;intro q;have:=Tc hr H hb (by omega);omega
    refine ⟨by omega,λz B=>?_⟩;have X:=Tc hr B H (by omega);have R:=YE hr hb B (by omega);omega
   by_cases N:(i:Int) - ((n:Int)+1)<0
   ·refine .inr ⟨_,?_,brk λx=>yU (dy:=-((n:Int)+1)) (by omega) (by omega) (λv d e=>by have:=(low v d (by omega)).1;omega) y.1⟩;unfold J7;dsimp only;rw [BA (by rw [Fz];exact decide_eq_true f),M,J5 N]
   have m:=Ad (l:=r) (i:=i - (n+1)) (by omega);generalize r[i - (n+1)]=u at m;have L:=Ae m;have fu:Hy r ((i:Int) - ((n:Int)+1))=some u:=Im (i - (n+1)) (by omega) m;by_cases J:u.1=w.1 - ((n:Int)+1)
   case neg=>
    refine .inr ⟨_,?_,brk λx=>yU (dy:=-((n:Int)+1)) (by omega) (by omega) (λv d e=>J ((low v d (by omega)).2 u m)) y.1⟩;unfold J7;dsimp only;rw [BA (by rw [Fz];exact decide_eq_true f),M,Jr N,AP fu,P,BA (by rw [GZ];simpa using J)]
   by_cases c3:i+n+1<r.length
   case neg=>
    refine .inr ⟨_,?_,brk λx=>yU (dy:=(n:Int)+1) (by omega) (by omega) (λv d e=>c3 (A v d (by omega)).1) y.1⟩;unfold J7;dsimp only;rw [BA (by rw [Fz];exact decide_eq_true f),M,Jr N,AP fu,P,AU (by rw [GZ];simp [J]),Z,AO,BA (by rw [JH];exact decide_eq_true (by omega))]
   have d:=Ad c3;generalize r[i+n+1]=v at d;have K:=Ae d;by_cases Q:v.1=w.1+((n:Int)+1)
   case neg=>
    refine .inr ⟨_,?_,brk λx=>yU (dy:=(n:Int)+1) (by omega) (by omega) (λz B e=>Q ((A z B (by omega)).2 v d)) y.1⟩;unfold J7;dsimp only;rw [BA (by rw [Fz];exact decide_eq_true f),M,Jr N,AP fu,P,AU (by rw [GZ];simp [J]),Z,AO,AU (by rw [JH];exact decide_eq_false (by omega)),AP (fg d),e4,BA (by rw [GZ];simpa using Q)]
   have wid:∀ {l:List Run},AJ (-4096) 4096 l->AJ (-1048576) 1048576 l:=λ{l} h=>⟨λu m=>by have:=h.bd u m;omega,h.pw⟩;have G:=hr.rs u L;have F:=hr.rs v K;have s1:=Ju7 u.2 k (by have:=Xv G;omega) (wid G) (by omega);have s2:=Ju7 v.2 k (by have:=Xv F;omega) (wid F) (by omega);have k1:=qP G y.1;have k2:=qP F y.1;obtain ⟨l1,p1,p2,p3⟩:=Jq0 l (Co k u.2) (by have:=Xv hl;omega) (by have:=Xv k1;omega) hl k1;obtain ⟨l2,X,R,q3⟩:=Jq0 l1 (Co k v.2) (by have:=Xv p2;omega) (by have:=Xv k2;omega) p2 k2;refine .inl ⟨(⟨k,(i:Int),l2,((n+1:Nat):Int)+1,r,len,(i:Int),r,w.1,w.2,out,()⟩:gP),?_,⟨n+1,l2,rfl,by omega,by omega,⟨u,m,by omega⟩,⟨v,d,by omega⟩,R,λx=>?_⟩,by dsimp only;omega⟩
   ·unfold J7;dsimp only;rw [BA (by rw [Fz];exact decide_eq_true f),M,Jr N,AP fu,P,AU (by rw [GZ];simp [J]),Z,AO,AU (by rw [JH];exact decide_eq_false (by omega)),AP (fg d),e4,AU (by rw [GZ];simp [Q]),AP fu];refine (BH (c:=J8) s1).trans ((BH (c:=Kt) p1).trans ?_);rw [AP (fg d)];refine (BH (c:=J8) s2).trans ((BH (c:=Kt) X).trans ?_);rw [e5]
   ·rw [q3,p3,hd];exact (J6i hr y.1 (by omega) L K J Q x).symm)
  (s0:=⟨k,(i:Int),Co k w.2,1,r,len,(i:Int),r,w.1,w.2,out,()⟩)
  ⟨0,Co k w.2,rfl,by omega,by omega,⟨w,O,by omega⟩,⟨w,O,by omega⟩,qP (hr.rs w E) y.1,λx=>by
   rw [Jw6 hr y.1 E];constructor
   ·intro g dx dy a1 a2 a3 a4;have:=g dx a1 a2;rwa [show w.1+dy=w.1 by omega]
   ·intro g dx a1 a2;have:=g dx 0 a1 a2 (by omega) (by omega);rwa [show w.1+0=w.1 by omega] at this⟩ (by dsimp only;omega)
 exact ⟨o,he,h1,h2⟩
theorem Jyv(r:AY)(hr:AL r)(k:Int)(X:0<=k/\k<=64):∃E,@j6 wv (r,k)=some E/\AL E/\∀c,Qo E c↔deep r k c:=by
 classical
 have hL:=Tg hr;obtain ⟨e,Y,E,rfl,m,y,-⟩:=Xr (b:=@Q1 wv)
  (λi s=>∃E,s=(⟨k,r,(r.length:Int),(i:Int),r,E,()⟩:gQ)/\AL E/\(∀c,Qo E c↔(∃w∈r.take i,w.1=c.2)/\deep r k c)/\∀v∈E,∃w∈r.take i,v.1=w.1)
  (λe=>∃E,e=(⟨E,()⟩:HP AY Unit)/\AL E/\(∀c,Qo E c↔deep r k c)/\True)
  r.length (by omega) (s0:=⟨k,r,(r.length:Int),0,r,[],()⟩)
  ⟨[],rfl,⟨by simp,.nil,by simp,by simp⟩,λc=>⟨λ⟨w,a,_⟩=>(Af a).elim,λ⟨⟨w,a,_⟩,_⟩=>by rw [List.take_zero] at a;exact (Af a).elim⟩,λv f=>(Af f).elim⟩
  (λi s hi=>by
   rintro ⟨E,rfl,m,y,F⟩;have a:=Ad hi;generalize r[i]=w at a;have A:=Ae a;have Q:=hr.y w A;obtain ⟨o,O,N,G⟩:=TI r hr k X i w a (r.length:Int) E;have R:=Xv N;have hEl:=Tg m;have l:=hr.rs w A;have M:=Ju7 w.2 k (by have:=Xv l;omega) ⟨λu H=>by have:=l.bd u H;omega,l.pw⟩ (by omega);have P:@W.ar wv .add .i64 (i:Int) 1=((i+1:Nat):Int):=by rw [J3,wr (by omega) (by omega)];omega
   have J:∀v∈E,v.1<w.1:=λv f=>by obtain ⟨z,d,e⟩:=F v f;obtain ⟨j,L⟩:=Ag d;have K:=(Ac.1 L).1;rw [List.length_take] at K;rw [List.getElem?_take_of_lt (by omega)] at L;have:=YE hr L a (by omega);omega
   have B:=Ka a;by_cases h:o=[]
   ·refine ⟨(⟨k,r,(r.length:Int),((i+1:Nat):Int),r,E,()⟩:gQ),?_,E,rfl,m,λc=>?_,λv f=>?_⟩
    ·unfold Q1;dsimp only;rw [J5 (by omega),AP (fg a)];refine (BH (c:=J8) M).trans ?_;refine (BL O).trans ?_;dsimp only;rw [AU (by rw [z7,AO,h];rfl),P]
    ·rw [y,B];constructor
     ·rintro ⟨⟨z,d,e⟩,g⟩;exact ⟨⟨z,Aa.2 (.inl d),e⟩,g⟩
     ·rintro ⟨⟨z,d,e⟩,g⟩;rcases Aa.1 d with q|q
      ·exact ⟨⟨z,q,e⟩,g⟩
      ·rw [Ab] at q;subst q;have:=(G c.1).2 (by rw [e];exact g);rw [h] at this;obtain ⟨u,H,_⟩:=this;exact (Af H).elim
    ·obtain ⟨z,d,e⟩:=F v f;exact ⟨z,by rw [B];exact Aa.2 (.inl d),e⟩
   ·have Z:=As.2 h;refine ⟨(⟨k,r,(r.length:Int),((i+1:Nat):Int),r,E++[(w.1,o)],()⟩:gQ),?_,_,rfl,Jvx (w:=(w.1,o)) m Q h N J,λc=>?_,λv f=>?_⟩
    ·unfold Q1;dsimp only;rw [J5 (by omega),AP (fg a)];refine (BH (c:=J8) M).trans ?_;refine (BL O).trans ?_;dsimp only;rw [BA (by rw [z7,AO];exact decide_eq_true (by omega)),AO,BX,jG (by omega) (by omega),CV,P]
    ·rw [J1n,y,B];constructor
     ·rintro (⟨⟨z,d,e⟩,g⟩|⟨e,g⟩)
      ·exact ⟨⟨z,Aa.2 (.inl d),e⟩,g⟩
      ·have e:w.1=c.2:=e;refine ⟨⟨w,Aa.2 (.inr (Ab.2 rfl)),e⟩,?_⟩;have:=(G c.1).1 g;rwa [e] at this
     ·rintro ⟨⟨z,d,e⟩,g⟩;rcases Aa.1 d with q|q
      ·exact .inl ⟨⟨z,q,e⟩,g⟩
      ·rw [Ab] at q;subst q;exact .inr ⟨e,(G c.1).2 (by rw [e];exact g)⟩
    ·rcases Aa.1 f with q|q
     ·obtain ⟨z,d,e⟩:=F v q;exact ⟨z,by rw [B];exact Aa.2 (.inl d),e⟩
     ·rw [Ab] at q;subst q;exact ⟨w,by rw [B];exact Aa.2 (.inr (Ab.2 rfl)),rfl⟩)
  (by
   rintro s ⟨E,rfl,m,y,F⟩;refine ⟨_,?_,E,rfl,m,λc=>?_,trivial⟩
   ·unfold Q1;dsimp only;rw [Jr (by omega)]
   ·rw [y,Ao];refine ⟨And.right,λg=>⟨?_,g⟩⟩;have:=g 0 0 (by omega) (by omega) (by omega) (by omega);obtain ⟨w,a,e,_⟩:=this;exact ⟨w,a,by rw [e];dsimp only;omega⟩)
 refine ⟨E,?_,m,y⟩;have f:@jw wv k=some true:=by unfold jw;rw [BA (by rw [JH];exact decide_eq_true (by omega)),Fz,decide_eq_true (by omega)]
 unfold j6;dsimp only;refine (BH (c:=Jd) (xJ r ⟨by omega,λw a=>by have:=Xv (hr.rs w a);omega⟩)).trans ?_;rw [AU (by simp [hr,BQ])];refine (BH (c:=Yf) f).trans ?_;rw [AU (by rfl),AO];exact (BL Y).trans rfl
def tL(l:List Run):Nat:=(l.flatMap (Ie 0)).length
abbrev Wd0S:=HP (List Jt) (HP Int (HP (List Jt) (HP Int (HP Int (HP AY (HP AY Unit))))))
end Go.Proofs.YtmfagdfkpjgeiaaGreat
