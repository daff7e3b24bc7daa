/- track.Once: which cells are seen for the first time. Conditions: none. -/
import Derived.Test.YtmfagdfkpjgeiaaGreatXC
import Derived.Test.YtmfagdfkpjgeiaaGreatXD
import Derived.Test.YtmfagdfkpjgeiaaGreatXF
open Option renaming some -> AC, none -> AD
open Bool renaming true -> AE, false -> AF
open _root_ renaming List -> AG, Option -> AH, Int -> AI, Nat -> AM, Bool -> AN, if_neg -> AR, if_pos -> AS, congrArg -> AT, decide_eq_true -> AW, decide_eq_false -> B0
set_option linter.unusedVariables false
set_option linter.unusedSimpArgs false
set_option maxRecDepth 100000
namespace Go.Proofs.YtmfagdfkpjgeiaaGreat
open Go Go.Vv Go.Dn Go.Dn.W
open List renaming getElem?_eq_getElem -> Aa, length_append -> Ab, mem_of_getElem? -> Ac, take_length -> Ad, mem_singleton -> Ae, mem_append -> Af, mem_map -> Ag, length_take -> Ah, mem_cons_of_mem -> Ai, flatMap_cons -> Aj, mem_append_left -> Ak, mem_cons_self -> Am, getElem?_append_left -> Ao, length_map -> Ap, length_pos_iff -> Aq, getElem?_append_right -> Ar, length_singleton -> As, length_cons -> Av, mem_append_right -> Aw, mem_reverse -> Ax, getElem?_eq_none -> Ay, foldl_append -> Az, append_nil -> Ba, mem_flatMap -> Bb, replicate -> Bc, getD_eq_getElem?_getD -> Bd, getElem?_eq_some_iff -> Be, length_reverse -> Bf, mem_singleton_self -> Bg, append_assoc -> Bh, mem_of_mem_take -> Bj, foldl_cons -> Bk, length_nil -> Bl, length_set -> Bm, reverse_eq_nil_iff -> Bn, take_of_length_le -> Bo, flatMap_nil -> Bp, flatMap_def -> Bq, getElem?_reverse -> Br, ext_getElem? -> Bt, length_zip -> Bv, map_append -> Bw, append_eq_nil_iff -> By, length_replicate -> Bz, concat_eq_append -> Da, length_filter_le -> Db, take_zero -> Dc, getLast?_concat -> Dd, pairwise_append -> De, replicate_succ -> Df, map_cons -> Dg, mem_cons -> Dh, map_nil -> Dj
open Int renaming toNat_natCast -> Au
open Nat renaming le_succ_of_le -> Bs, sub_self -> Bu, le_trans -> Di, le_refl -> Dk
abbrev Mb:=AG (Cell×AN)
def Fp:Mb->Cell->AN
 | [],_=>AF
 | e::r,c=>if c=e.1 then e.2 else Fp r c
def FP:Mb->Cell->Mb
 | [],c=>[(c,AE)]
 | e::r,c=>if c=e.1 then (c,AE)::r else e::FP r c
theorem WG(m:Mb)(c:Cell):@W.mg wv (.p I I) .bool m c AF=Fp m c:=by
 show (zu (a:=.p I I) (b:=.bool) c m).getD AF=_
 induction m with
 | nil=>rfl
 | cons e r d=>
  show _=if c=e.1 then e.2 else Fp r c;by_cases h:c=e.1
  .have hd:Ty.FE (.p I I) c e.1=AE:=by rw [jH];exact AW h
   rw [AS h];exact AT (λo:AH AN=>o.getD AF) (show zu (a:=.p I I) (b:=.bool) c (e::r)=AC e.2 from AS hd)
  .have hd:¬Ty.FE (.p I I) c e.1=AE:=by rw [jH];exact λf=>h (of_decide_eq_true f)
   rw [AR h,<-d];exact AT (λo:AH AN=>o.getD AF) (show zu (a:=.p I I) (b:=.bool) c (e::r)=zu (a:=.p I I) (b:=.bool) c r from AR hd)
theorem WB(m:Mb)(c:Cell):@W.ms wv (.p I I) .bool m c AE=FP m c:=by
 show F7 (a:=.p I I) (b:=.bool) c AE m=_
 induction m with
 | nil=>rfl
 | cons e r d=>
  show (if Ty.FE (.p I I) c e.1=AE then (c,AE)::r else e::F7 (a:=.p I I) (b:=.bool) c AE r)=if c=e.1 then (c,AE)::r else e::FP r c;rw [jH];by_cases h:c=e.1
  .rw [AS (AW h),AS h]
  .rw [AR (by simpa using h),AR h];exact AT (e::·) d
theorem OE(m:Mb)(c d:Cell):Fp (FP m c) d=(decide (d=c) || Fp m d):=by
 induction m with
 | nil=>unfold FP Fp;by_cases h:d=c<;>simp [h,Fp]
 | cons e r f=>
  unfold FP;by_cases h:c=e.1
  .rw [AS h];unfold Fp;by_cases a:d=c
   .simp [a]
   .have:d≠e.1:=λq=>a (q.trans h.symm);simp [a,this]
  .rw [AR h];unfold Fp;by_cases a:d=e.1
   .have:d≠c:=λq=>h (q.symm.trans a);simp only [AS a,B0 this,Bool.false_or]
   .rw [AR a,AR a,f]
def vU(s:AN×Mb×AG AN)(c:Cell):AN×Mb×AG AN:=(s.1&&!Fp s.2.1 c,FP s.2.1 c,s.2.2++[!Fp s.2.1 c])
def CU(m:Mb)(l:AG Cell):AN×Mb×AG AN:=l.foldl vU (AE,m,[])
theorem xR(m:Mb)(l:AG Cell)(c:Cell):CU m (l++[c])=vU (CU m l) c:=by unfold CU;rw [Az];rfl
theorem xM(m:Mb):∀l:AG Cell,(CU m l).2.2.length=l.length:=λl=>by
 have key:∀(l:AG Cell) (s:AN×Mb×AG AN),(l.foldl vU s).2.2.length=s.2.2.length+l.length:=by
  intro l
  induction l with
  | nil=>intro s;rfl
  | cons c l a=>
   intro s;have e:(vU s c).2.2.length=s.2.2.length+1:=by show (s.2.2++[!Fp s.2.1 c]).length=_;rw [Ab];rfl
   rw [Bk,a,e,Av];omega
 exact (key l (AE,m,[])).trans (Nat.zero_add _)
abbrev qj:=HP AN (HP (AG Jk) (HP AI (HP AI (HP (AG Cell) (HP AI (HP AI (HP (AG Jk) (HP Mb (HP AI (HP AN (HP (AG Cell) (HP (AG AN) Unit))))))))))))
abbrev ql:=HP AN (HP (AG Jk) (HP AI (HP AI (HP (AG Jk) (HP Mb (HP AI (HP AN (HP (AG Cell) (HP (AG AN) Unit)))))))))
theorem J5g(a l:AG Jk)(n j:AI)(out:AG Jk)(m:Mb)(role:AI)(cl:AN)(cells:AG Cell)(E:cells.length<=1000000000) :
  Qm (@jz wv a) CK (⟨AE,l,n,j,cells,(cells.length:AI),0,out,m,role,cl,cells,Bc cells.length AF,()⟩:qj) =
   AC (⟨(CU m cells).1,l,n,j,out,(CU m cells).2.1,role,cl,cells,(CU m cells).2.2,()⟩:ql):=by
 have key:=Kc (b:=@jz wv a) (e:=(⟨(CU m cells).1,l,n,j,out,(CU m cells).2.1,role,cl,cells,(CU m cells).2.2,()⟩:ql))
  (λi=>(⟨(CU m (cells.take i)).1,l,n,j,cells,(cells.length:AI),(i:AI),out,(CU m (cells.take i)).2.1,role,cl,cells,(CU m (cells.take i)).2.2++Bc (cells.length - i) AF,()⟩:qj)) cells.length (by omega) (λi hi=>by
   have hx:=Aa hi;have d:=xM m (cells.take i);rw [Ah,Nat.min_eq_left (by omega)] at d;have f:=Ki hx;generalize cells[i]=c at hx f;obtain ⟨x,y⟩:=c;rw [f,xR];generalize CU m (cells.take i)=s at d ⊢;obtain ⟨al,mm,ks⟩:=s;have d:ks.length=i:=d;have B:@W.nt wv (@W.mg wv (.p I I) .bool mm (x,y) AF)=!Fp mm (x,y):=AT (λb:AN=>!b) (WG mm (x,y));have A:@W.ms wv (.p I I) .bool mm (x,y) AE=FP mm (x,y):=WB mm (x,y);have hr:cells.length - i=(cells.length - (i+1))+1:=by omega
   have w:(ks++Bc (cells.length - i) AF).set i (!Fp mm (x,y))=(ks++[!Fp mm (x,y)])++Bc (cells.length - (i+1)) AF:=by rw [hr,Df,List.set_append_right _ _ (by omega),d,Bu,List.set_cons_zero,Bh];rfl
   have v:(ks++Bc (cells.length - i) AF)[i]?=AC AF:=by rw [Ar (by omega),hr,Df,d,Bu];rfl
   have r:((ks++[!Fp mm (x,y)])++Bc (cells.length - (i+1)) AF)[i]?=AC (!Fp mm (x,y)):=by rw [Ao (by simp;omega),Ar (by omega),d,Bu];rfl
   have h:(ks++Bc (cells.length - i) AF).length=cells.length:=by rw [Ab,Bz];omega
   have g:((ks++[!Fp mm (x,y)])++Bc (cells.length - (i+1)) AF).length=cells.length:=by rw [Ab,Ab,Bz];simp;omega
   unfold jz;dsimp only;rw [Ky (by omega),BH (fg hx)];dsimp only;rw [B,A,FM,show ((i:AI)).toNat=i by omega,w,AZ,h,Fj ⟨by omega,by omega⟩,BH (fg v),J6,wr (by omega) (by omega),AZ,g];cases al with
   | true=>rw [BF rfl,Fj ⟨by omega,by omega⟩,BH (fg r)];rfl
   | false=>rw [BA rfl];rfl) (by unfold jz;dsimp only;rw [J2 (by omega),Ad,Bu,List.replicate_zero,Ba])
 exact key
def JF(out:AG Jk)(last:AG Cell):AG Jk:=Qf out λy=>(y.1,(y.2.1,last))
def stQ(role:AI)(s:AG Jk×AG Cell×AN)(p:Cell×AN):AG Jk×AG Cell×AN:=
 match p.2,s.2.2 with
 | false,_=>(s.1,s.2.1,AF)
 | true,AF=>(JF s.1 s.2.1++[(role,(AF,[]))],[p.1],AE)
 | true,AE=>(s.1,s.2.1++[p.1],AE)
def DC(role:AI)(l:AG (Cell×AN)):AG Jk×AG Cell×AN:=l.foldl (stQ role) ([],[],AF)
theorem xq(role:AI)(l:AG (Cell×AN))(p:Cell×AN):DC role (l++[p])=stQ role (DC role l) p:=by unfold DC;rw [Az];rfl
theorem Jre(out:AG Jk)(last:AG Cell):(JF out last).length=out.length:=by
 unfold JF;rcases out.eq_nil_or_concat with rfl|⟨r,v,rfl⟩
 .rfl
 .rw [Da,Qi];simp
theorem tH(role:AI)(l:AG (Cell×AN)):(DC role l).2.2=(l.getLast?.map (·.2)).getD AF/\((DC role l).2.2=AE->(DC role l).1≠[])/\(DC role l).1.length<=l.length/\(DC role l).2.1.length<=l.length:=by
 have key:∀m:AG (Cell×AN),(DC role m.reverse).2.2=(m.reverse.getLast?.map (·.2)).getD AF/\((DC role m.reverse).2.2=AE->(DC role m.reverse).1≠[])/\(DC role m.reverse).1.length<=m.reverse.length/\(DC role m.reverse).2.1.length<=m.reverse.length:=by
  intro m
  induction m with
  | nil=>exact ⟨rfl,λh=>(by cases h),Dk _,Dk _⟩
  | cons p m d=>
   rw [List.reverse_cons,xq,Dd,Ab];generalize DC role m.reverse=s at d ⊢;obtain ⟨out,last,pv⟩:=s;obtain ⟨c,k⟩:=p;obtain ⟨-,g,a,f⟩:=d;cases k with
   | false=>exact ⟨rfl,λh=>(by cases h),Bs a,Bs f⟩
   | true=>
    cases pv with
    | false=>
     refine ⟨rfl,λ_=>by simp [stQ],?_,?_⟩
     .show (JF out last++[(role,(AF,[]))]).length<=_;rw [Ab,Jre];exact Nat.succ_le_succ a
     .show ([c]:AG Cell).length<=_;simp
    | true=>
     refine ⟨rfl,λ_=>g rfl,Bs a,?_⟩;show (last++[c]).length<=_;rw [Ab];exact Nat.succ_le_succ f
 have:=key l.reverse;rwa [List.reverse_reverse] at this
def sP(role:AI)(l:AG (Cell×AN)):AG Jk:=JF (DC role l).1 (DC role l).2.1
abbrev SX:=HP (AG AN) (HP (AG Cell) (HP AI (HP AI (HP AI (HP AN (HP (AG Cell) (HP (AG Jk) (HP (AG Cell) Unit))))))))
abbrev iX:=HP (AG Jk) (HP (AG Cell) Unit)
theorem sV{β:Type}(Y:AG β)(w:β):(Y++[w]).set Y.length w=Y++[w]:=by rw [jN]
theorem Js0(role:AI)(out:AG Jk)(last:AG Cell)(f:out.length<=1000000000){γ:Type}(k:AG Jk->AH γ) :
  (@W.gd wv γ (@W.ft wv 40 (@W.pl wv (@W.ln wv Jk out) 1)) <|
   @W.gd wv γ (@W.ib wv (@W.ar wv .sub .i64 (@W.ln wv Jk (@W.ap wv Jk (@W.ml wv Jk out λy=>(y.1,(y.2.1,last))) ((role,(AF,[]))::[]))) 1) (@W.ln wv Jk (@W.ap wv Jk (@W.ml wv Jk out λy=>(y.1,(y.2.1,last))) ((role,(AF,[]))::[])))) <|
   @W.ge wv γ Jk (@W.ap wv Jk (@W.ml wv Jk out λy=>(y.1,(y.2.1,last))) ((role,(AF,[]))::[])) (@W.ar wv .sub .i64 (@W.ln wv Jk (@W.ap wv Jk (@W.ml wv Jk out λy=>(y.1,(y.2.1,last))) ((role,(AF,[]))::[]))) 1) λv2=>
   @W.gd wv γ (@W.cm wv .eql (@W.pl wv (@W.ar wv .sub .i64 (@W.ln wv Jk (@W.ap wv Jk (@W.ml wv Jk out λy=>(y.1,(y.2.1,last))) ((role,(AF,[]))::[]))) 1) 1) (@W.ln wv Jk (@W.ap wv Jk (@W.ml wv Jk out λy=>(y.1,(y.2.1,last))) ((role,(AF,[]))::[])))) <|
   @W.gd wv γ (@W.ft wv 16 1) <|
   @W.ge wv γ Jk (@W.ap wv Jk (@W.ml wv Jk out λy=>(y.1,(y.2.1,last))) ((role,(AF,[]))::[])) (@W.ar wv .sub .i64 (@W.ln wv Jk (@W.ap wv Jk (@W.ml wv Jk out λy=>(y.1,(y.2.1,last))) ((role,(AF,[]))::[]))) 1) λv3=>
   @W.gd wv γ (@W.cm wv .eql (@W.pl wv (@W.ar wv .sub .i64 (@W.ln wv Jk (@W.ap wv Jk (@W.ml wv Jk out λy=>(y.1,(y.2.1,last))) ((role,(AF,[]))::[]))) 1) 1) (@W.ln wv Jk (@W.ap wv Jk (@W.ml wv Jk out λy=>(y.1,(y.2.1,last))) ((role,(AF,[]))::[])))) <|
   k (@W.st wv Jk (@W.ap wv Jk (@W.ml wv Jk out λy=>(y.1,(y.2.1,last))) ((role,(AF,[]))::[])) (@W.ar wv .sub .i64 (@W.ln wv Jk (@W.ap wv Jk (@W.ml wv Jk out λy=>(y.1,(y.2.1,last))) ((role,(AF,[]))::[]))) 1) (v3.1,(v3.2.1,v3.2.2))))=k (JF out last++[(role,(AF,[]))]):=by
 have hX:@W.ap wv Jk (@W.ml wv Jk out λy=>(y.1,(y.2.1,last))) ((role,(AF,[]))::[])=JF out last++[(role,(AF,[]))]:=rfl;have hl:=Jre out last;rw [hX];generalize JF out last=Y at hl;have d:(Y++[((role,(AF,[])):Jk)]).length=Y.length+1:=by simp
 have hi:@W.ar wv .sub .i64 (((Y.length+1:AM):AI)) 1=(Y.length:AI):=by rw [Yc,wr (by omega) (by omega)];omega
 have a:(Y++[((role,(AF,[])):Jk)])[Y.length]?=AC (role,(AF,[])):=ZN Y _;rw [AZ,AZ,d,hi,BZ,TQ (by omega) (by omega),Fj ⟨by omega,by omega⟩,BH (fg a),BZ,Cy (by rw [Q3];exact AW (by omega)),GI (by decide) (by decide),BH (fg a),Cy (by rw [Q3];exact AW (by omega)),FM,Au];dsimp only;rw [sV]
theorem J1p{A B:Type}{l:AG A}{m:AG B}{i:AM}{a:A}{b:B}(f:l[i]?=AC a)(d:m[i]?=AC b):(l.zip m).take (i+1)=(l.zip m).take i++[(a,b)]:=by refine Ki ?_;rw [List.getElem?_zip_eq_some];exact ⟨f,d⟩
theorem J7w(role:AI)(cl:AN)(cells:AG Cell)(ks:AG AN)(J:ks.length=cells.length)(K:cells.length<=100000000):@Jco wv ((role,(cl,cells)),ks)=AC (sP role (cells.zip ks)):=by
 have zl:(cells.zip ks).length=cells.length:=by rw [Bv];omega
 have key:=Kc (b:=@zo wv) (e:=(⟨(DC role (cells.zip ks)).1,(DC role (cells.zip ks)).2.1,()⟩:iX))
  (λi=>(⟨ks,cells,(cells.length:AI),(i:AI),role,cl,cells,(DC role ((cells.zip ks).take i)).1,(DC role ((cells.zip ks).take i)).2.1,()⟩:SX)) cells.length (by omega) (λi hi=>by
   have hx:=Aa hi;have B:=Aa (l:=ks) (i:=i) (by omega);generalize cells[i]=c at hx;generalize ks[i]=b at B;rw [J1p hx B,xq];obtain ⟨G,F,f,g⟩:=tH role ((cells.zip ks).take i);have y:((cells.zip ks).take i).length=i:=by rw [Ah];omega
   rw [y] at f g;have a:i≠0->ks[i - 1]?=AC (DC role ((cells.zip ks).take i)).2.2:=λd=>by obtain ⟨j,rfl⟩:∃j,i=j+1:=⟨i - 1,by omega⟩;have m:=Aa (l:=cells) (i:=j) (by omega);have A:=Aa (l:=ks) (i:=j) (by omega);rw [G,J1p m A,Dd];simp
   have d:i=0->(DC role ((cells.zip ks).take i)).2.2=AF:=λd=>by subst d;rfl
   generalize DC role ((cells.zip ks).take i)=s at G F f g a d ⊢;obtain ⟨out,last,pv⟩:=s;have f:out.length<=i:=f;have g:last.length<=i:=g;have a:i≠0->ks[i - 1]?=AC pv:=a;have d:i=0->pv=AF:=d;unfold zo;dsimp only;rw [Ky (by omega),BH (fg hx),BH (fg B),J6,wr (by omega) (by omega)];have nt1:@W.nt wv AE=AF:=rfl;have nt0:@W.nt wv AF=AE:=rfl;cases b with
   | false=>rw [nt0,BF rfl];rfl
   | true=>
    rw [nt1,BA rfl];by_cases h:i=0
    .have ep:=d h;subst ep;rw [BF (by rw [Q3];simp [h])];exact Js0 (γ:=Nx SX iX) role out last (by omega) λX=>AC (Nx.go (⟨ks,cells,(cells.length:AI),((i:AI)+1),role,cl,cells,X,[c],()⟩:SX))
    .rw [BA (by rw [Q3];simp [h]),Yc,wr (by omega) (by omega),BH (TI (i - 1) (by omega) (a h))];cases pv with
     | false=>
      rw [nt0,BF rfl];exact Js0 (γ:=Nx SX iX) role out last (by omega) λX=>AC (Nx.go (⟨ks,cells,(cells.length:AI),((i:AI)+1),role,cl,cells,X,[c],()⟩:SX))
     | true=>
      have w:out≠[]:=F rfl;obtain ⟨r,v,rfl⟩:∃r v,out=r++[v]:=⟨_,_,(List.dropLast_concat_getLast w).symm⟩;have E:(r++[v]).length=r.length+1:=by simp
      rw [E] at f;have H:@W.ar wv .sub .i64 (((r.length+1:AM):AI)) 1=(r.length:AI):=by rw [Yc,wr (by omega) (by omega)];omega
      rw [nt1,BA rfl,AZ,E,H,Fj ⟨by omega,by omega⟩,BH (fg (ZN r v)),BZ,Cy (by rw [Q3];exact AW (by omega)),AZ,BZ,GI (by omega) (by omega),BH (fg (ZN r v)),Cy (by rw [Q3];exact AW (by omega)),FM,Au];rw [sV];rfl) (by unfold zo;dsimp only;rw [J2 (by omega),Bo (by omega)])
 unfold Jco;dsimp only;rw [AZ];exact (BN key).trans rfl
open Classical in
noncomputable def Ih(s:AG Jk×Mb)(t:Jk):AG Jk×Mb:=
 if VT t then (s.1++(if (CU s.2 t.2.2).1=AE then [t] else sP t.1 (t.2.2.zip (CU s.2 t.2.2).2.2)),(CU s.2 t.2.2).2.1) else s
noncomputable def MB(l:AG Jk):AG Jk:=(l.foldl Ih ([],[])).1
def EG(l:AG Jk):AM:=(l.map λt=>t.2.2.length+1).sum
theorem J7r(l:AG Jk)(t:Jk):EG (l++[t])=EG l+(t.2.2.length+1):=by unfold EG;rw [Bw,List.sum_append];simp
theorem J3g:∀l:AG Jk,l.length<=EG l
 | []=>Dk _
 | t::l=>by
  have h:=J3g l;have a:EG (t::l)=(t.2.2.length+1)+EG l:=by unfold EG;rw [Dg,List.sum_cons]
  rw [Av];omega
theorem Jzn(l:AG Jk)(i:AM):EG (l.take i)<=EG l:=by
 have:EG l=EG (l.take i)+EG (l.drop i):=by unfold EG;rw [<-List.sum_append,<-Bw,List.take_append_drop]
 omega
theorem Jrb(role:AI)(l:AG (Cell×AN)):(sP role l).length<=l.length:=by unfold sP;rw [Jre];exact (tH role l).2.2.1
theorem UD(s:AG Jk×Mb)(t:Jk):(Ih s t).1.length<=s.1.length+(t.2.2.length+1):=by
 unfold Ih;split
 .dsimp only;rw [Ab];split
  .simp
  .have:=Jrb t.1 (t.2.2.zip (CU s.2 t.2.2).2.2);rw [Bv] at this;omega
 .omega
theorem Kaf:∀l:AG Jk,(l.foldl Ih ([],[])).1.length<=EG l:=by
 have key:∀(l:AG Jk) (s:AG Jk×Mb),(l.foldl Ih s).1.length<=s.1.length+EG l:=by
  intro l
  induction l with
  | nil=>intro s;exact Nat.le_add_right _ _
  | cons t l a=>
   intro s;have g:=a (Ih s t);have f:=UD s t;have d:EG (t::l)=(t.2.2.length+1)+EG l:=by unfold EG;rw [Dg,List.sum_cons]
   rw [Bk];omega
 exact λl=>Di (key l ([],[])) (by simp)
theorem qR{α:Type}{b:AM}{n:AI}{x:AH α}(h:n<=1000000000000)(d:0<=n)(a:b<=64):@W.gd wv α (@W.ft wv b n) x=x:=by refine aN ⟨?_,by omega⟩;have:n * (b:AI)<=1000000000000 * 64:=Int.mul_le_mul h (by omega) (by omega) (by omega);unfold room;omega
abbrev On0S:=HP (AG Jk) (HP AI (HP AI (HP Mb (HP (AG Jk) Unit))))
open Classical in
theorem YG(l:AG Jk)(hl:EG l<=100000000000)(w:∀t∈l,t.2.2.length<=100000000):@jx wv l=AC (MB l):=by
 have A:=J3g l;have key:=Kc (b:=@Jbi wv l) (e:=(⟨MB l,()⟩:HP (AG Jk) Unit))
  (λi=>(⟨l,(l.length:AI),(i:AI),((l.take i).foldl Ih ([],[])).2,((l.take i).foldl Ih ([],[])).1,()⟩:On0S)) l.length (by omega) (λi hi=>by
   have hx:=Aa hi;generalize l[i]=t at hx;have d:=w t (Ac hx);rw [Ki hx,Az];have a:=Kaf (l.take i);have B:=Jzn l i;have y:=Jzn l (i+1);rw [Ki hx,J7r] at y;generalize (l.take i).foldl Ih ([],[])=s at a ⊢;obtain ⟨out,m⟩:=s;obtain ⟨role,cl,cells⟩:=t;have d:cells.length<=100000000:=d;have a:out.length<=EG (l.take i):=a;have y:EG (l.take i)+(cells.length+1)<=EG l:=y;have es:List.foldl Ih (out,m) [(role,(cl,cells))]=Ih (out,m) (role,(cl,cells)):=rfl;rw [es];unfold Jbi;dsimp only;rw [Ky (by omega),BH (fg hx),Jg3,J6,wr (by omega) (by omega)];unfold Ih;by_cases f:VT (role,(cl,cells))
   .have r:=J5g l l (l.length:AI) (i:AI) out m role cl cells (by omega);have v:=xM m cells;rw [AS f,BA (by rw [BO,AW f];rfl),AZ,Cy (by rw [Tp];exact AW (by omega)),KJ (by omega) (by omega) (by decide),og,Au];refine (BN r).trans ?_;dsimp only;by_cases g:(CU m cells).1=AE
    .rw [BF g,AS g,AZ,BZ,GI (by omega) (by omega),AZ,BZ,qR (by omega) (by omega) (by decide),DL,J6,wr (by omega) (by omega)];rfl
    .rw [BA (by simpa using g),AR g];refine (BM (c:=kK) (J7w role cl cells (CU m cells).2.2 v (by omega))).trans ?_;have h:=Jrb role (cells.zip (CU m cells).2.2);rw [Bv] at h;rw [AZ,AZ,BZ,qR (by omega) (by omega) (by decide),DL,J6,wr (by omega) (by omega)];rfl
   .rw [AR f,BF (by rw [BO,B0 f];rfl)];rfl) (by unfold Jbi;dsimp only;rw [J2 (by omega),Ad];rfl)
 unfold jx;rw [AZ];exact (BN key).trans rfl
theorem WJ(y a b:AI)(l:-4611686018427387904<=a)(h:b<=4611686018427387904)(g:b - a<=1000000000):@zF wv (y,(a,b))=AC (Q6 y (a,b)):=by
 have d:=Kc (b:=@Jbs wv) (e:=⟨Q6 y (a,b),()⟩) (λi=>⟨y,a+(i:AI),a,b,(rng a i).map λx=>(x,y),()⟩) (b - a).toNat (by omega) (λi hi=>by unfold Jbs;dsimp only;rw [Ky (by omega),AZ,BZ,GI (by rw [Ap,sD];omega) (by omega),J6,wr (by omega) (by omega),DL,yT,show a+(i:AI)+1=a+((i+1:AM):AI) by omega]) (by unfold Jbs;dsimp only;rw [J2 (by omega)];rfl)
 unfold zF;have f:a+((0:AM):AI)=a:=by omega
 simp only [f] at d;exact BN d
theorem fT{α:Type}{y a b:AI}(g:-4611686018427387904<=a)(f:b<=4611686018427387904)(d:b - a<=1000000000)(k:AG (AI×AI)->AH α):@W.call wv α Ql ((y,(a,b)):AI×(AI×AI)) k=k (Q6 y (a,b)):=BM (c:=Ql) (WJ y a b g f d)
open Classical in
theorem Jp5(r:AQ)(hl:DJ r)(v:AJ r->(Jq r).length<=1000000000):@Jcj wv r=AC (if AJ r then Jq r else []):=by
 unfold Jcj;rw [Kg hl];by_cases h:AJ r
 case neg=>rw [BF (by simp [BO,h]),AR h]
 rw [BA (by simp [BO,h]),AS h];have hL:=hl.1;have v:=v h;have d:=Kc (b:=@zn wv) (e:=⟨Jq r,()⟩) (λi=>⟨r,(r.length:AI),(i:AI),(r.take i).flatMap CV,()⟩) r.length (by omega) (λi hi=>by
  have f:=Aa hi;generalize r[i]=w at f;have hLw:=hl.2 w (Ac f);have a:=Kc (b:=@zx wv) (e:=⟨r,(r.length:AI),(i:AI),(r.take i).flatMap CV++CV w,()⟩) (λk=>⟨r,(r.length:AI),(i:AI),w.2,(w.2.length:AI),(k:AI),w.1,w.2,(r.take i).flatMap CV++(w.2.take k).flatMap (Q6 w.1),()⟩) w.2.length (by omega) (λk y=>by
   have g:=Aa y;generalize w.2[k]=u at g;have E:=(h.rs w (Ac f)).bd u (Ac g);have m:=J2c f g;rw [Za] at m;have l:=Kc (b:=@zq wv) (e:=⟨r,(r.length:AI),(i:AI),w.2,(w.2.length:AI),(k:AI),w.1,w.2,(r.take i).flatMap CV++(w.2.take k).flatMap (Q6 w.1)++Q6 w.1 u,()⟩)
    (λj=>⟨u.1+(j:AI),r,(r.length:AI),(i:AI),w.2,(w.2.length:AI),(k:AI),w.1,w.2,u.1,u.2,(r.take i).flatMap CV++(w.2.take k).flatMap (Q6 w.1)++(rng u.1 j).map λx=>(x,w.1),()⟩) (u.2 - u.1).toNat (by omega) (λj B=>by
    unfold zq;dsimp only;rw [Ky (by omega),AZ,BZ,GI (by simp only [Ab,Ap,sD];omega) (by omega),J6,wr (by omega) (by omega),DL,yT,show u.1+(j:AI)+1=u.1+((j+1:AM):AI) by omega,Bh _ _ [_]]) (by unfold zq;dsimp only;rw [J2 (by omega)];rfl)
   have A:u.1+((0:AM):AI)=u.1:=by omega
   simp only [A,rng,List.range_zero,Dj,Ba] at l;unfold zx;dsimp only;rw [Ky (by omega),BH (fg g),BN l];dsimp only;rw [J6,wr (by omega) (by omega),Kbh g,Bh];rfl) (by unfold zx;dsimp only;rw [J2 (by omega),Ad];rfl)
  simp only [Dc,Bp,Ba] at a;unfold zn;dsimp only;rw [Ky (by omega),BH (fg f)];refine (BN a).trans ?_;dsimp only;rw [J6,wr (by omega) (by omega),ZP f];rfl) (by unfold zn;dsimp only;rw [J2 (by omega),Ad];rfl)
 exact BN d
open Classical in
theorem Jjt{α:Type}{r:AQ}(hl:DJ r)(a:AJ r->(Jq r).length<=1000000000)(k:AG (AI×AI)->AH α):@W.call wv α Qe r k=k (if AJ r then Jq r else []):=BM (c:=Qe) (Jp5 r hl a)
theorem Kbn(s:AI):@Jcq wv s=AC (decide (1<=s/\s<=64)):=by simp only [Jcq,ET,MR,KY,decide_eq_true_eq];split<;>first|exact AT AC (decide_eq_decide.2 (by omega))|exact AT AC (B0 (by omega)).symm
theorem tN{α:Type}(s:AI)(k:AN->AH α):@W.call wv α Kf s k=k (decide (1<=s/\s<=64)):=BM (c:=Kf) (Kbn s)
theorem Jdk{r:AQ}(h:AJ r){w:Row}(f:w∈r)(k:AM):(w.2.take k).length<=((w.2.take k).flatMap (Q6 w.1)).length:=by
 have y:=(h.rs w f).bd;have:∀l:AG Run,(∀u∈l,u∈w.2)->l.length<=(l.flatMap (Q6 w.1)).length:=by
  intro l
  induction l with
  | nil=>intro _;simp
  | cons u l d=>
   intro a;have B:=d λv g=>a v (Ai _ g);have A:=y u (a u (Am ..));simp only [Aj,Ab,Av,Za];omega
 exact this _ λu m=>Bj m
theorem tu:∀ {l m:AG Cell},l.Nodup->l ⊆ m->l.length<=m.length
 | [],m,_,_=>by simp
 | x::l,m,d,hs=>by obtain ⟨g,f⟩:=List.nodup_cons.1 d;have hx:x∈m:=hs (Am ..);have:=tu f (m:=m.erase x) λy a=>(List.mem_erase_of_ne (by rintro rfl;exact g a)).2 (hs (Ai _ a));rw [List.length_erase_of_mem hx] at this;have:=List.length_pos_of_mem hx;rw [Av];omega
theorem nZ{r T:AQ}(h:AJ r)(hT:AJ T)(f:Cell->Cell)(l:∀a b,f a=f b->a=b)(g:∀c,J1 T c->J1 r (f c)):(Jq T).length<=(Jq r).length:=by
 have w:((Jq T).map f).Nodup:=by
  rw [List.nodup_iff_pairwise_ne,List.pairwise_map];exact hT.IQ.imp λh e=>by have:=l _ _ e;subst this;exact nR _ h
 have v:(Jq T).map f ⊆ Jq r:=λc m=>by obtain ⟨d,hd,rfl⟩:=Ag.1 m;exact Q5.2 (g d (Q5.1 hd))
 have:=tu w v;rwa [Ap] at this
theorem Jxj{T:AQ}(hT:AJ T){n:AM}(h:(Jq T).length<=n):T.length<=n/\∀w∈T,w.2.length<=n:=by
 have A:∀w∈T,1<=(CV w).length/\w.2.length<=(CV w).length:=λw d=>by have:=Jdk hT d w.2.length;rw [Ad] at this;have r:=Aq.2 (hT.ne w d);unfold CV;omega
 have y:∀l:AQ,(∀w∈l,w∈T)->l.length<=(l.flatMap CV).length/\∀w∈l,w.2.length<=(l.flatMap CV).length:=by
  intro l
  induction l with
  | nil=>intro _;simp
  | cons u l g=>
   intro f;have a:=g λv m=>f v (Ai _ m);have b:=A u (f u (Am ..));rw [Aj,Ab,Av];refine ⟨by omega,λw d=>?_⟩;rcases Dh.1 d with rfl|d
   .omega
   .have:=a.2 w d;omega
 have:=y T λw d=>d;unfold Jq at h;exact ⟨by omega,λw d=>by have:=this.2 w d;omega⟩
def KL(u:Run):Run:=if u.1<u.2/\u.1 > -4097/\u.2<4097/\u.2 - 20 > u.1 then (u.1,u.1+20) else u
def Fe(r:AQ):AQ:=(r.take 12).map λw=>(w.1,(w.2.take 4).map KL)
theorem gW:@Jb5 wv=@Qc wv:=rfl
theorem J34(i y:AI)(r out:AQ)(l:AG Run)(hl:l.length<=4):Qm (@Qc wv) CK ⟨i,0,r,y,l,out,[],()⟩=AC ⟨i,r,y,l,l.map KL,out,()⟩:=
 Kc (b:=@Qc wv) (λk=>⟨i,(k:AI),r,y,l,out,(l.take k).map KL,()⟩) l.length (by omega) (λk g=>by
  have hx:=Aa g;generalize l[k]=u at hx;have d:((l.take k).map KL).length=k:=by rw [Ap,Ah];omega
  unfold Qc;dsimp only;rw [AZ,Ky (by omega),BH (fg hx)];simp only [AZ,BZ,d,DL,J6,Yc];rw [wr (n:=(k:AI)+1) (by omega) (by omega),GI (by omega) (by omega),GI (by omega) (by omega),Q9 hx];simp only [ET,Sj,jm,decide_eq_true_eq];unfold KL;by_cases a:u.1<u.2/\u.1 > -4097/\u.2<4097
  .rw [AS a.1,AS a.2.1,AS a.2.2,wr (n:=u.2 - 20) (by omega) (by omega),wr (n:=u.1+20) (by omega) (by omega)];by_cases f:u.2 - 20 > u.1
   .rw [AS f,AS ⟨a.1,a.2.1,a.2.2,f⟩];rfl
   .rw [AR f,AR λq=>f q.2.2.2];rfl
  .rw [AR (c:=u.1<u.2/\u.1 > -4097/\u.2<4097/\u.2 - 20 > u.1) λq=>a ⟨q.1,q.2.1,q.2.2.1⟩]
   (repeat' split)<;>first|rfl|omega) (by unfold Qc;dsimp only;rw [AZ,J2 (by omega),Ad])
theorem gV(r:AQ):@Zk wv r=AC (Fe r):=by
 have f:=Kc (b:=@X9 wv) (e:=⟨Fe r,()⟩) (λi=>⟨(i:AI),r,(r.take i).map λw=>(w.1,(w.2.take 4).map KL),()⟩) (min r.length 12) (by omega) (λi hi=>by
  have g:i<r.length:=by omega
  have hx:=Aa g;generalize r[i]=w at hx;unfold X9;dsimp only;rw [AZ,Ky (by omega),Ky (by omega),BH (fg hx),ET,jm,AZ,Q9 hx];have d:((r.take i).map λw:Row=>(w.1,(w.2.take 4).map KL)).length=i:=by rw [Ap,Ah];omega
  have KH:∀ {α:Type} {a b:AI} {x:AH α},a<=b->@W.gd wv α (@W.le wv a b) x=x:=λh=>Cy (by rw [Tp];exact AW h);by_cases m:(w.2.length:AI) > 4
  .rw [AS (AW m),KH (by omega),KH (by omega),oo,show (0:AI).toNat=0 from rfl,show (4:AI).toNat=4 from rfl,List.drop_zero];refine (BN (J34 _ _ _ _ _ (by rw [Ah];omega))).trans ?_;dsimp only;rw [AZ,BZ,d,aZ (by omega) (by omega),J6,wr (by omega) (by omega)];rfl
  .rw [AR (by simpa using m),gW,Bo (l:=w.2) (by omega)];refine (BN (J34 _ _ _ _ _ (by omega))).trans ?_;dsimp only;rw [AZ,BZ,d,aZ (by omega) (by omega),J6,wr (by omega) (by omega)];rfl) (by
  unfold X9;dsimp only;rw [AZ,ET,Sj,ET,Sj];have e:r.take (min r.length 12)=r.take 12:=by rw [List.take_eq_take_iff];omega
  rw [e];by_cases h:((min r.length 12:AM):AI)<(r.length:AI)
  .rw [AS (AW h),AR (by simp;omega)];rfl
  .rw [AR (by simpa using h)];rfl)
 unfold Zk;refine (BN f).trans rfl
theorem qG{α:Type}{r:AQ}(k:AG (AI×AG (AI×AI))->AH α):@W.call wv α Xa r k=k (Fe r):=BM (c:=Xa) (gV r)
theorem RQ(r:AQ):DJ (Fe r):=by refine ⟨by unfold Fe;rw [Ap,Ah];omega,λw a=>?_⟩;obtain ⟨v,d,rfl⟩:=Ag.1 a;dsimp only;rw [Ap,Ah];omega
theorem J4p(r:AQ)(h:AJ (Fe r)):(Jq (Fe r)).length<=960:=by
 have d:∀w∈Fe r,∀u∈w.2,(Q6 w.1 u).length<=20:=λw a u d=>by
  have g:=(h.rs w a).bd u d;obtain ⟨v,m,rfl⟩:=Ag.1 a;obtain ⟨x,hx,rfl⟩:=Ag.1 d;rw [Za];unfold KL at g ⊢;split
  .dsimp only;omega
  .rename_i y;rw [AR y] at g;omega
 have a:∀w∈Fe r,(CV w).length<=80:=λw a=>by
  have B:=Jj8 (f:=Q6 w.1) (l:=w.2) (n:=20) (d w a);have A:w.2.length<=4:=by obtain ⟨v,m,rfl⟩:=Ag.1 a;dsimp only;rw [Ap,Ah];omega
  unfold CV;omega
 have B:=Jj8 (f:=CV) (l:=Fe r) (n:=80) a;have A:(Fe r).length<=12:=by unfold Fe;rw [Ap,Ah];omega
 unfold Jq;omega
theorem J8i(l:AG Run)(hl:l.length<=1000000000)(J:∀u∈l,u.1<u.2)(H:l.Pairwise λa b=>a.1<=b.1):∃e,Qm (@uz wv) CK ⟨l,(l.length:AI),0,[],()⟩=AC e/\Ic e.e/\∀x,Jl e.e x↔Jl l x:=by
 refine jh (b:=@uz wv) (s0:=⟨l,(l.length:AI),0,[],()⟩)
  (λi s=>∃out:AG Run,s=⟨l,(l.length:AI),(i:AI),out,()⟩/\out.length<=i/\Ic out/\(∀x,Jl out x↔Jl (l.take i) x)/\∀u∈out,∃v∈l.take i,u.1=v.1)
  (λe=>Ic e.e/\∀x,Jl e.e x↔Jl l x) l.length (by omega) ⟨[],rfl,by simp,⟨by simp,.nil⟩,by simp,by simp⟩ ?_ ?_
 .rintro i s hi ⟨out,rfl,N,hN,f,g⟩;have hx:=Aa hi;generalize l[i]=u at hx;have X:=J u (Ac hx);have d:=Ki hx;have F:∀v∈l.take i,v.1<=u.1:=λv G=>by have P:(l.take (i+1)).Pairwise λa b=>a.1<=b.1:=List.Pairwise.sublist (List.take_sublist _ _) H;rw [d] at P;exact (De.1 P).2.2 v G u (by simp)
  have y:∀x,Jl (l.take (i+1)) x↔Jl (l.take i) x\/(u.1<=x/\x<u.2):=λx=>by rw [d,Yw]
  have fresh:∀ {out':AG Run},out'=out++[(u.1,u.2)]->(∀v∈out,v.2<u.1)->out'.length<=i+1/\Ic out'/\(∀x,Jl out' x↔Jl (l.take (i+1)) x)/\∀w∈out',∃v∈l.take (i+1),w.1=v.1:=by
   rintro out' rfl L;refine ⟨by simp;omega,uN.2 ⟨hN,X,L⟩,λx=>by rw [Yw,y,f],λw B=>?_⟩;rcases Af.1 B with h|h
   .obtain ⟨v,G,e⟩:=g w h;exact ⟨v,by rw [d];exact Ak _ G,e⟩
   .rw [Ae.1 h];exact ⟨u,by rw [d];simp,rfl⟩
  unfold uz;dsimp only;rw [Ky (by omega),BH (fg hx)];simp only [AZ,Yc,J6,BZ,DL];rw [wr (n:=(i:AI)+1) (by omega) (by omega),wr (n:=(out.length:AI) - 1) (by omega) (by omega)];rcases out.eq_nil_or_concat with rfl|⟨r,v,A⟩
  .rw [BA (by rfl),GI (by simp) (by simp)];exact ⟨_,rfl,_,rfl,fresh rfl (by simp)⟩
  .rw [Da] at A;subst A;have m:((r++[v]).length:AI)=(r.length:AI)+1:=by simp
   have Y:(r.length:AI)+1<=i:=by rw [<-m];omega
   simp only [m];rw [show (r.length:AI)+1 - 1=(r.length:AI) by omega];simp only [BH (fg (ZN r v)),Fj (show 0<=(r.length:AI)/\(r.length:AI)<(r.length:AI)+1 by omega)];rw [BF (by rw [MR];exact AW (by omega))];obtain ⟨N1,N2,N3⟩:=uN.1 hN;obtain ⟨M,E,ev⟩:=g v (by simp);have R:=F M E;by_cases O:u.1<=v.2
   .rw [BF (by rw [KY];exact AW O),FM,Au,jN,dG];have K:(if u.2 > v.2 then u.2 else v.2)=max v.2 u.2:=by omega
    rw [K];refine ⟨_,rfl,r++[(v.1,max v.2 u.2)],rfl,by simp only [Ab,Av,Bl] at N ⊢;omega,uN.2 ⟨N1,by dsimp only;omega,N3⟩,λx=>?_,λw B=>?_⟩
    .rw [Yw,y,<-f,Yw];dsimp only;constructor
     .rintro (h|h)
      .exact .inl (.inl h)
      .by_cases q:x<v.2
       .exact .inl (.inr (by omega))
       .exact .inr (by omega)
     .rintro ((h|h)|h)
      .exact .inl h
      .exact .inr (by omega)
      .exact .inr (by omega)
    .rcases Af.1 B with h|h
     .obtain ⟨z,Q,e⟩:=g w (Ak _ h);exact ⟨z,by rw [d];exact Ak _ Q,e⟩
     .rw [Ae.1 h];exact ⟨M,by rw [d];exact Ak _ E,ev⟩
   .rw [BA (by rw [KY];exact B0 O),GI (by omega) (by omega)];refine ⟨_,rfl,_,rfl,fresh rfl λw B=>?_⟩;rcases Af.1 B with h|h
    .have:=N3 w h;omega
    .rw [Ae.1 h];omega
 .rintro s ⟨out,rfl,N,hN,f,g⟩;unfold uz;dsimp only;rw [J2 (by omega)];rw [Ad] at f;exact ⟨_,rfl,hN,f⟩
theorem Wd(l:AG Run)(hl:l.length<=1000000000)(f:∀u∈l,u.1<u.2)(d:l.Pairwise λa b=>a.1<=b.1):∃r,@uQ wv l=AC r/\Ic r/\∀x,Jl r x↔Jl l x:=by obtain ⟨e,h,g⟩:=J8i l hl f d;refine ⟨e.e,?_,g⟩;unfold uQ;exact BN h
theorem fV{α:Type}{l r:AG (AI×AI)}(h:@uQ wv l=AC r)(k:AG (AI×AI)->AH α):@W.call wv α cK l k=k r:=BM (c:=cK) h
theorem WM{l:AG Run}(hl:l.length<=1000000000)(m:∀u∈l,-4611686018427387904<u.1/\u.1<4611686018427387904):∃r:AG Run,(∀ {α:Type} (k:AG (AI×AI)->AH α),@W.call wv α Jmi l k=k r)/\r.Perm l/\r.Pairwise λa b=>a.1<=b.1:=by have d:∀x∈l,aB x=AE:=λx hx=>AW (m x hx);obtain ⟨r,y,g,w⟩:=Jnn (t:=.p I I) pF (eq:=qV) (d0:=zR) (l:=l) (show l.length<_ by omega) d;refine ⟨r,λk=>BM (c:=Jmi) (a:=l) (r:=r) y,g,?_⟩;refine List.Pairwise.imp_of_mem (λ{a b} v f h=>?_) w;have qa:=d a (g.mem_iff.1 v);have qb:=d b (g.mem_iff.1 f);simp only [Go.Proofs.ltOf,decide_eq_false_iff_not,bS qb qa] at h;omega
theorem YI(l:AG Run)(hl:l.length<=1000000000)(d:∀u∈l,u.1<u.2/\-1048576<=u.1/\u.2<=1048576):∃r,@uW wv l=AC (r,0)/\Ic r/\∀x,Jl r x↔Jl l x:=by
 have f:=Kc (b:=@Jcr wv) (e:=.inr ⟨l,()⟩) (λi=>⟨l,(l.length:AI),(i:AI),l.take i,()⟩) l.length (by omega) (λi hi=>by have hx:=Aa hi;generalize l[i]=u at hx;have a:=d u (Ac hx);unfold Jcr;dsimp only;rw [Ky (by omega),BH (fg hx),BA (by rw [KY];exact B0 (by omega)),Jqg,BA (by simp [BO];omega),AZ,BZ,GI (by rw [Ah];omega) (by omega),J6,wr (by omega) (by omega),DL,Ki hx];rfl) (by unfold Jcr;dsimp only;rw [J2 (by omega),Ad])
 obtain ⟨r,hr,g,m⟩:=WM hl (λu a=>by have:=d u a;omega);obtain ⟨j,w,hN,v⟩:=Wd r (by rw [g.length_eq];exact hl) (λu a=>(d u (g.mem_iff.1 a)).1) m;refine ⟨j,?_,hN,λx=>(v x).trans ?_⟩
 .unfold uW;refine (BN f).trans ?_;dsimp only;rw [hr,fV w]
 .unfold Jl;exact ⟨λ⟨u,a,h⟩=>⟨u,g.mem_iff.1 a,h⟩,λ⟨u,a,h⟩=>⟨u,g.mem_iff.2 a,h⟩⟩
def dst(a b:Cell):AI:=max (max (a.1 - b.1) (b.1 - a.1)) (max (a.2 - b.2) (b.2 - a.2))
theorem rM{a b:Cell}{k:AI}:dst a b<=k↔(a.1 - b.1<=k/\b.1 - a.1<=k)/\(a.2 - b.2<=k/\b.2 - a.2<=k):=by unfold dst;omega
def wide(k:AI)(u:Run):Run:=(max (u.1 - k) (-4096),min (u.2+k) 4096)
def FC(c:AQ)(k:AI)(p:Cell):Prop:=∃d,J1 c d/\dst d p<=k
def DT(y k:AI)(w:Row):AG Run:=if w.1<y - k\/w.1 > y+k then [] else w.2.map (wide k)
theorem J16{c:AQ}(h:AJ c){y k:AI}(B:0<=k){x:AI}(hx:-4096<=x/\x<4096):Jl (c.flatMap (DT y k)) x↔FC c k (x,y):=by
 constructor
 .rintro ⟨v,r,m,l⟩;obtain ⟨w,a,g⟩:=Bb.1 r;unfold DT at g;split at g
  .cases g
  .rename_i A;obtain ⟨u,f,rfl⟩:=Ag.1 g;have E:=(h.rs w a).bd u f;simp only [wide] at m l;refine ⟨(max u.1 (min x (u.2 - 1)),w.1),⟨w,a,rfl,u,f,by dsimp only;omega,by dsimp only;omega⟩,rM.2 ⟨by dsimp only;omega,by dsimp only;omega⟩⟩
 .rintro ⟨d,⟨w,a,e,u,f,m,l⟩,hd⟩;have hd:=rM.1 hd;dsimp only at hd;refine ⟨wide k u,Bb.2 ⟨w,a,?_⟩,by simp only [wide];omega,by simp only [wide];omega⟩;unfold DT;rw [AR (by omega)];exact Ag.2 ⟨u,f,rfl⟩
theorem OL(y k:AI)(w:Row):(DT y k w).length<=w.2.length:=by unfold DT;split<;>simp
theorem Jhn(c:AQ)(y k:AI)(i:AM):((c.take i).flatMap (DT y k)).length<=(c.flatMap λw=>w.2).length:=by
 have a:∀l:AQ,(l.flatMap (DT y k)).length<=(l.flatMap λw=>w.2).length:=by
  intro l
  induction l with
  | nil=>simp
  | cons w l d=>have:=OL y k w;simp only [Aj,Ab];omega
 have:=a (c.take i);have:=Jng (λw:Row=>w.2) c i;omega
theorem J50{c:AQ}(h:AJ c):(c.flatMap λw=>w.2).length<=(Jq c).length:=by
 unfold Jq;have:∀l:AQ,(∀w∈l,w∈c)->(l.flatMap λw=>w.2).length<=(l.flatMap CV).length:=by
  intro l
  induction l with
  | nil=>intro _;simp
  | cons w l d=>
   intro a;have r:=d λv g=>a v (Ai _ g);have m:=Jdk h (a w (Am ..)) w.2.length;rw [Ad] at m;simp only [Aj,Ab];unfold CV at *
   omega
 exact this c λw f=>f
theorem gF{α:Type}{l r:AG Run}(h:@uW wv l=AC (r,0))(k:AG (AI×AI)×AI->AH α):@W.call wv α kE l k=k (r,0):=BM (c:=kE) h
theorem J8f(c:AQ)(y k:AI)(hl:DJ c)(h:AJ c)(R:(Jq c).length<=1000000)(H:0<=k/\k<=100000)(Q:-4096<=y/\y<4096):∃r,@vE wv (c,(y,k))=AC r/\Ic r/\∀x,Jl r x↔(-4096<=x/\x<4096)/\FC c k (x,y):=by
 have hL:=hl.1;have K:=J50 h;have m:=Kc (b:=@zj wv) (e:=⟨c.flatMap (DT y k),()⟩) (λi=>⟨y,k,c,(c.length:AI),(i:AI),(c.take i).flatMap (DT y k),()⟩) c.length (by omega) (λi hi=>by
  have l:=Aa hi;generalize c[i]=w at l;have g:=Ac l;have hLw:=hl.2 w g;have O:=Jhn c y k i;have P:=h.y w g;unfold zj;dsimp only;rw [Ky (by omega),BH (fg l),Yc,J6,J6,wr (n:=y - k) (by omega) (by omega),wr (n:=y+k) (by omega) (by omega),wr (n:=(i:AI)+1) (by omega) (by omega),ZP l];by_cases F:w.1<y - k
  .rw [Ky F,DT,AS (.inl F),Ba];rfl
  rw [J2 F];by_cases E:w.1 > y+k
  .rw [BF (by rw [jm];exact AW E),DT,AS (.inr E),Ba];rfl
  rw [BA (by rw [jm];exact B0 E),DT,AR (by omega)];have d:=Kc (b:=@zk wv) (e:=⟨y,k,c,(c.length:AI),(i:AI),(c.take i).flatMap (DT y k)++w.2.map (wide k),()⟩)
   (λj=>⟨y,k,c,(c.length:AI),(i:AI),w.2,(w.2.length:AI),(j:AI),(c.take i).flatMap (DT y k)++(w.2.take j).map (wide k),()⟩) w.2.length (by omega) (λj L=>by
   have a:=Aa L;generalize w.2[j]=u at a;have B:=(h.rs w g).bd u (Ac a);have N:=Yv (λw:Row=>w.2) l;have M:((c.take i).flatMap (DT y k)).length<=((c.take i).flatMap λw=>w.2).length:=by have:=Jhn (c.take i) y k i;rwa [List.take_take,Nat.min_self] at this
   unfold zk;dsimp only;rw [Ky (by omega),BH (fg a),AZ,BZ,GI (by simp only [Ab,Ap,Ah];omega) (by omega),J6,J6,Yc,wr (n:=(j:AI)+1) (by omega) (by omega),wr (n:=u.1 - k) (by omega) (by omega),wr (n:=u.2+k) (by omega) (by omega),DL,Q9 a,<-Bh,dG,om];have e:((if -4096 > u.1 - k then -4096 else u.1 - k),(if 4096<u.2+k then 4096 else u.2+k))=wide k u:=by unfold wide;rw [Prod.mk.injEq];omega
   rw [e];rfl) (by unfold zk;dsimp only;rw [J2 (by omega),Ad])
  simp only [Dc,Dj,Ba] at d;refine (BN d).trans ?_;dsimp only;rw [J6,wr (by omega) (by omega)];rfl) (by unfold zj;dsimp only;rw [J2 (by omega),Ad])
 have f:∀u∈c.flatMap (DT y k),u.1<u.2/\-4096<=u.1/\u.2<=4096:=λv J=>by
  obtain ⟨w,l,A⟩:=Bb.1 J;unfold DT at A;split at A
  .cases A
  .obtain ⟨u,a,rfl⟩:=Ag.1 A;have B:=(h.rs w l).bd u a;simp only [wide];omega
 have G:(c.flatMap (DT y k)).length<=1000000:=by have:=Jhn c y k c.length;rw [Ad] at this;omega
 obtain ⟨r,hr,hN,d⟩:=YI (c.flatMap (DT y k)) (by omega) (λu a=>by have:=f u a;omega);refine ⟨r,?_,hN,λx=>(d x).trans ?_⟩
 .unfold vE;refine (BN m).trans ?_;dsimp only;rw [gF hr]
 .constructor
  .intro hx;have B:-4096<=x/\x<4096:=by obtain ⟨u,a,F,E⟩:=hx;have:=f u a;omega
   exact ⟨B,(J16 h H.1 B).1 hx⟩
  .exact λhx=>(J16 h H.1 hx.1).2 hx.2
theorem QB{α:Type}{c:AQ}{y k:AI}{r:AG Run}(h:@vE wv (c,(y,k))=AC r)(k':AG (AI×AI)->AH α):@W.call wv α Zx ((c,(y,k)):AG (AI×AG (AI×AI))×(AI×AI)) k'=k' r:=BM (c:=Zx) h
theorem fP{α:Type}{a b r:AG Run}(h:@j8 wv (a,b)=AC r)(k:AG (AI×AI)->AH α):@W.call wv α J4 ((a,b):AG (AI×AI)×AG (AI×AI)) k=k r:=BM (c:=J4) h
theorem J2l{l:AG Run}(h:Ic l)(r:∀x,Jl l x->-4096<=x/\x<4096):l.length<=8192:=by
 have hV:=nH h r;have key:∀(m:AG Run) (lo:AI),AO lo 4096 m->lo<=4096->(m.length:AI)<=4096 - lo:=by
  intro m
  induction m with
  | nil=>intro lo _ d;simp;omega
  | cons u m g=>
   intro lo a d;have w:=a.bd u (Am ..);have:=g (lo+1) ⟨λv f=>by have A:=a.bd v (Ai _ f);have y:=(List.pairwise_cons.1 a.pw).1 v f;omega,(List.pairwise_cons.1 a.pw).2⟩ (by omega)
   simp only [Av];omega
 have:=key l (-4096) hV (by omega);omega
theorem Jzh(r c:AQ)(k:AI)(hl:DJ r)(h:AJ r)(Q:DJ c)(hV:AJ c)(hr:(Jq r).length<=1000000)(hc:(Jq c).length<=1000000)(hk:0<=k/\k<=100000) :
  ∃T,@Zy wv (r,(c,k))=AC T/\AJ T/\∀p,J1 T p↔J1 r p/\¬FC c k p:=by
 have hL:=hl.1;have H:∃e,Qm (@Ze wv) CK ⟨k,r,(r.length:AI),0,c,[],()⟩=AC e/\AJ e.e/\∀p,J1 e.e p↔J1 r p/\¬FC c k p:=by
  refine jh (b:=@Ze wv) (λi s=>∃out:AQ,s=⟨k,r,(r.length:AI),(i:AI),c,out,()⟩/\out.length<=i/\AJ out/\(∀p,J1 out p↔J1 (r.take i) p/\¬FC c k p)/\∀w∈out,∃v∈r.take i,v.1=w.1) _ r.length (by omega) ⟨[],rfl,by simp,⟨by simp,.nil,by simp,by simp⟩,λp=>by simp [J1],by simp⟩ ?_ ?_
  .rintro i s hi ⟨out,rfl,ho,hO,m,y⟩;have L:=Aa hi;generalize r[i]=w at L;have B:=Ac L;have hLw:=hl.2 w B;have R:=h.y w B;have f:=h.rs w B;have l:=Ki L;have P:∀v∈r.take i,v.1<w.1:=λv E=>by have J:(r.take (i+1)).Pairwise λa b=>a.1<b.1:=List.Pairwise.sublist (List.take_sublist _ _) h.pw;rw [l] at J;exact (De.1 J).2.2 v E w (by simp)
   obtain ⟨sp,O,hspN,d⟩:=J8f c w.1 k Q hV hc hk R;have hspB:AO (-4096) 4096 sp:=nH hspN λx hx=>((d x).1 hx).1;have X:=J2l hspN λx hx=>((d x).1 hx).1;have hwl:=J2l (AO.norm f) λx ⟨u,g,J,M⟩=>by have:=f.bd u g;omega
   obtain ⟨su,N,hsuN,F⟩:=Jkd w.2 sp (by omega) (by omega) ⟨λu g=>by have:=f.bd u g;omega,f.pw⟩ ⟨λu g=>by have:=hspB.bd u g;omega,hspB.pw⟩;have hD:∀x,Jl su x↔Jl w.2 x/\¬FC c k (x,w.1):=λx=>by
    rw [F,d];constructor
    .rintro ⟨a,b⟩;have hb:-4096<=x/\x<4096:=by obtain ⟨u,g,J,M⟩:=a;have:=f.bd u g;omega
     exact ⟨a,λq=>b ⟨hb,q⟩⟩
    .rintro ⟨a,b⟩;exact ⟨a,λq=>b q.2⟩
   have hsuB:AO (-4096) 4096 su:=nH hsuN λx hx=>by obtain ⟨u,g,J,M⟩:=((hD x).1 hx).1;have:=f.bd u g;omega
   unfold Ze;dsimp only;rw [Ky (by omega),BH (fg L),QB O,fP N,J6,wr (by omega) (by omega)];have A:∀p,J1 (r.take (i+1)) p↔J1 (r.take i) p\/(w.1=p.2/\Jl w.2 p.1):=λp=>by rw [l,dB]
   by_cases G:su=[]
   .subst G;rw [BA (by rfl)];refine ⟨_,rfl,out,rfl,by omega,hO,λp=>?_,λv E=>?_⟩
    .rw [m,A];constructor
     .rintro ⟨a,b⟩;exact ⟨.inl a,b⟩
     .rintro ⟨a|⟨e,a⟩,b⟩
      .exact ⟨a,b⟩
      .have:=(hD p.1).2 ⟨a,by rw [e];exact b⟩;obtain ⟨u,g,-⟩:=this;cases g
    .obtain ⟨z,K,e⟩:=y v E;exact ⟨z,by rw [l];exact Ak _ K,e⟩
   .have Y:=Aq.2 G;rw [BF (by rw [AZ,jm];exact AW (by omega)),AZ,BZ,aZ (by omega) (by omega),DL];refine ⟨_,rfl,out++[(w.1,su)],rfl,by simp;omega,uG.2 ⟨hO,R,G,hsuB,λv E=>?_⟩,λp=>?_,λv E=>?_⟩
    .obtain ⟨z,K,e⟩:=y v E;have:=P z K;dsimp only;omega
    .rw [dB,m,A];dsimp only;constructor
     .rintro (⟨a,b⟩|⟨e,a⟩)
      .exact ⟨.inl a,b⟩
      .obtain ⟨a1,Z⟩:=(hD p.1).1 a;exact ⟨.inr ⟨e,a1⟩,by rw [e] at Z;exact Z⟩
     .rintro ⟨a|⟨e,a⟩,b⟩
      .exact .inl ⟨a,b⟩
      .exact .inr ⟨e,(hD p.1).2 ⟨a,by rw [e];exact b⟩⟩
    .rcases Af.1 E with q|q
     .obtain ⟨z,K,e⟩:=y v q;exact ⟨z,by rw [l];exact Ak _ K,e⟩
     .rw [Ae.1 q];exact ⟨w,by rw [l];simp,rfl⟩
  .rintro s ⟨out,rfl,ho,hO,m,y⟩;unfold Ze;dsimp only;rw [J2 (by omega)];rw [Ad] at m;exact ⟨_,rfl,hO,m⟩
 obtain ⟨e,he,J,M⟩:=H;refine ⟨e.e,?_,J,M⟩;unfold Zy;exact BN he
theorem J2a{α:Type}{r c T:AQ}{k:AI}(h:@Zy wv (r,(c,k))=AC T)(k':AG (AI×AG (AI×AI))->AH α):@W.call wv α Kt ((r,(c,k)):AG (AI×AG (AI×AI))×(AG (AI×AG (AI×AI))×AI)) k'=k' T:=BM (c:=Kt) h
noncomputable def oQ(a b:Cell):AN:=(@uh wv (a,b)).getD AF
theorem J4r(a b:Cell):@uh wv (a,b)=AC (oQ a b):=rfl
theorem fQ{α:Type}{a b:Cell}(k:AN->AH α):@W.call wv α Xs (((a.1,a.2),(b.1,b.2)):(AI×AI)×(AI×AI)) k=k (oQ a b):=BM (c:=Xs) (J4r a b)
abbrev Zs:=AH (AG Jk×AG Cell)
def zT:Zs->AG Jk
 | none=>[]
 | some (O,C)=>O++[(3,(AF,C))]
def zA:Zs->AG Jk
 | none=>[]
 | some (O,_)=>O++[(3,(AF,[]))]
def zC:Zs->AG Cell
 | none=>[]
 | some (_,C)=>C
noncomputable def rH(C l:AG Cell):AN:=oQ (C.getD (C.length - 1) (0,0)) (l.getD 0 (0,0))&&decide ((C.length:AI)+(l.length:AI)<=65536)
noncomputable def EO:Zs->AG Cell->Zs
 | none,l=>AC ([],l)
 | some (O,C),l=>if rH C l=AE then AC (O,C++l) else AC (O++[(3,(AF,C))],l)
def Yo(z:Zs):AG Cell:=(zT z).flatMap λt=>t.2.2
def Iu(z:Zs):Prop:=∀t∈zT z,t.2.2≠[]
theorem J5v(z:Zs)(l:AG Cell):Yo (EO z l)=Yo z++l:=by
 rcases z with _|⟨O,C⟩
 .simp [Yo,EO,zT]
 .simp only [EO];split<;>simp [Yo,zT]
theorem Tj{z:Zs}{l:AG Cell}(h:Iu z)(hl:l≠[]):Iu (EO z l):=by
 rcases z with _|⟨O,C⟩
 .intro t a;simp only [EO,zT,List.nil_append,Ae] at a;rw [a];exact hl
 .have hO:∀t∈O,t.2.2≠[]:=λt a=>h t (Ak _ a);have hC:C≠[]:=h (3,(AF,C)) (Aw _ (Bg _));simp only [EO];split
  .intro t a;rcases Af.1 a with q|q
   .exact hO t q
   .rw [Ae.1 q];intro e;exact hC (By.1 e).1
  .intro t a;rcases Af.1 a with q|q
   .rcases Af.1 q with q|q
    .exact hO t q
    .rw [Ae.1 q];exact hC
   .rw [Ae.1 q];exact hl
theorem xQ:∀ {T:AG Jk},(∀t∈T,t.2.2≠[])->T.length<=(T.flatMap λt=>t.2.2).length/\∀t∈T,t.2.2.length<=(T.flatMap λt=>t.2.2).length
 | [],_=>⟨by simp,λt a=>by cases a⟩
 | t::T,h=>by
  obtain ⟨g,d⟩:=xQ (T:=T) λs hs=>h s (Ai _ hs);have f:=Aq.2 (h t (Am ..));simp only [Aj,Ab,Av];refine ⟨by omega,λs hs=>?_⟩;rcases Dh.1 hs with rfl|hs
  .omega
  .have:=d s hs;omega
theorem Iu.le{z:Zs}(h:Iu z):(zT z).length<=(Yo z).length/\∀t∈zT z,t.2.2.length<=(Yo z).length:=xQ h
theorem Joe:∀(ls:AG (AG Cell)) {z:Zs},Iu z->(∀l∈ls,l≠[])->Iu (ls.foldl EO z)
 | [],_,h,_=>h
 | l::ls,z,h,hl=>Joe ls (Tj h (hl l (Am ..))) λm a=>hl m (Ai _ a)
theorem uO:∀(ls:AG (AG Cell)) (z:Zs),Yo (ls.foldl EO z)=Yo z++ls.flatten
 | [],z=>by simp
 | l::ls,z=>by rw [Bk,uO ls,J5v,List.flatten_cons,Bh]
def Sk(w:Row):AG (AG Cell):=if w.1 % 2=0 then w.2.map (Q6 w.1) else w.2.reverse.map λu=>(Q6 w.1 u).reverse
noncomputable def DY(z:Zs)(w:Row):Zs:=(Sk w).foldl EO z
theorem nA{lo hi:AI}{w:Row}(h:AO lo hi w.2){u:Run}(a:u∈w.2):Q6 w.1 u≠[]:=by have:=h.bd u a;intro e;have d:=Za w.1 u;rw [e,Bl] at d;omega
theorem Jh6{α β:Type}(f:α->AG β):∀l:AG α,((l.reverse.map λu=>(f u).reverse).flatten).length=(l.flatMap f).length
 | []=>rfl
 | x::l=>by have:=Jh6 f l;simp only [List.reverse_cons,Bw,List.flatten_append,Ab,Dg,Dj,List.flatten_cons,List.flatten_nil,Ba,Bf,Aj,Bl] at this ⊢;omega
theorem Jxb{w:Row}{lo hi:AI}(h:AO lo hi w.2):∀l∈Sk w,l≠[]:=by
 intro l hl;unfold Sk at hl;split at hl
 .obtain ⟨u,a,rfl⟩:=Ag.1 hl;exact nA h a
 .obtain ⟨u,a,rfl⟩:=Ag.1 hl;intro e;exact nA h (Ax.1 a) (Bn.1 e)
theorem J4m(w:Row):(Sk w).flatten.length=(CV w).length:=by
 unfold Sk CV;split
 .rw [Bq]
 .exact Jh6 (Q6 w.1) w.2
theorem Ti{w:Row}{lo hi:AI}(h:AO lo hi w.2){z:Zs}(a:Iu z):Iu (DY z w):=Joe _ a (Jxb h)
theorem NU(z:Zs)(w:Row):(Yo (DY z w)).length=(Yo z).length+(CV w).length:=by rw [DY,uO,Ab,J4m]
theorem Jvt:∀(l:AQ) {z:Zs},(∀w∈l,AO (-4096) 4096 w.2)->Iu z->Iu (l.foldl DY z)
 | [],_,_,a=>a
 | w::l,z,h,a=>Jvt l (λv d=>h v (Ai _ d)) (Ti (h w (Am ..)) a)
theorem xW:∀(l:AQ) (z:Zs),(Yo (l.foldl DY z)).length=(Yo z).length+(l.flatMap CV).length
 | [],z=>by simp
 | w::l,z=>by rw [Bk,xW l,NU,Aj,Ab];omega
noncomputable abbrev Oo [W] {α:Type} (A:AG Jk) (C l:AG Cell) (mk:AG Jk->AG Cell->AH α):AH α:=
 br (cm .geq (ar .sub .i64 (ln A) 1) 0) (gd (ib (ar .sub .i64 (ln A) 1) (ln A)) <|
 ge A (ar .sub .i64 (ln A) 1) λv5=>
 gd (cm .eql (pl (ar .sub .i64 (ln A) 1) 1) (ln A)) <|
 ge A (ar .sub .i64 (ln A) 1) λv6=>
 gd (cm .eql (pl (ar .sub .i64 (ln A) 1) 1) (ln A)) <|
 gd (ib (ar .sub .i64 (ln C) 1) (ln C)) <|
 ge C (ar .sub .i64 (ln C) 1) λv7=>
 gd (ib 0 (ln l)) <|
 ge l 0 λv8=>
 call Xs (((v7.1,v7.2),(v8.1,v8.2)):((AI×AI)×(AI×AI))) λ(v9:AN)=>
 br v9 (ge A (ar .sub .i64 (ln A) 1) λv10=>
 gd (cm .eql (pl (ar .sub .i64 (ln A) 1) 1) (ln A)) <|
 br (cm .leq (ar .add .i64 (ln C) (ln l)) 65536) (ge A (ar .sub .i64 (ln A) 1) λv11=>
 gd (cm .eql (pl (ar .sub .i64 (ln A) 1) 1) (ln A)) <|
 gd (ft 16 (pl (ln C) (ln l))) <|
 ge A (ar .sub .i64 (ln A) 1) λv12=>
 gd (cm .eql (pl (ar .sub .i64 (ln A) 1) 1) (ln A)) <|
 mk (st A (ar .sub .i64 (ln A) 1) (v12.1,(v12.2.1,v12.2.2))) (ap C l))
 (gd (ft 40 (pl (ln A) 1)) <|
 mk (ap (ml A λy=>(y.1,(y.2.1,C))) ((3,(AF,[]))::[])) l))
 (gd (ft 40 (pl (ln A) 1)) <|
 mk (ap (ml A λy=>(y.1,(y.2.1,C))) ((3,(AF,[]))::[])) l))
 (gd (ft 40 (pl (ln A) 1)) <|
 mk (ap (ml A λy=>(y.1,(y.2.1,C))) ((3,(AF,[]))::[])) l)
theorem J0x{C:AG Cell}(h:C≠[]):C[C.length - 1]?=AC (C.getD (C.length - 1) (0,0)):=by have:=Aq.2 h;rw [Bd,Aa (by omega)];rfl
theorem Jz6{l:AG Cell}(h:l≠[]):l[0]?=AC (l.getD 0 (0,0)):=by have:=Aq.2 h;rw [Bd,Aa (by omega)];rfl
theorem Kbq{α:Type}{z:Zs}{l:AG Cell}(v:Iu z)(hl:l≠[])(F:(Yo z).length+l.length<=1000000000)(mk:AG Jk->AG Cell->AH α) :
  @Oo wv α (zA z) (zC z) l mk=mk (zA (EO z l)) (zC (EO z l)):=by
 have d:=v.le;have w:=Aq.2 hl;rcases z with _|⟨O,C⟩
 .unfold Oo;dsimp only [zA,zC,EO];have e:@W.cm wv .geq (@W.ar wv .sub .i64 (@W.ln wv Jk []) 1) 0=AF:=by decide
  rw [BA e,TQ (by rw [BZ,AZ];simp) (by rw [BZ,AZ];simp)];rfl
 .have hC:C≠[]:=v (3,(AF,C)) (Aw _ (Bg _));have hCp:=Aq.2 hC;have hT:O.length+1<=(Yo (AC (O,C))).length:=by have:=d.1;simpa only [zT,Ab,As] using this
  have hCl:C.length<=(Yo (AC (O,C))).length:=d.2 (3,(AF,C)) (Aw _ (Bg _));unfold Oo;dsimp only [zA,zC];have B:@W.ar wv .sub .i64 ((O.length:AI)+1) 1=(O.length:AI):=by rw [Yc,wr (by omega) (by omega)];omega
  have E:@W.ln wv _ (O++[((3,(AF,[])):Jk)])=(O.length:AI)+1:=by rw [AZ,Ab,As];omega
  have A:@W.ar wv .sub .i64 (@W.ln wv _ C) 1=((C.length - 1:AM):AI):=by rw [AZ,Yc,wr (by omega) (by omega)];omega
  simp only [E,B,A];have f:Fb (O++[((3,(AF,[])):Jk)]) (O.length:AI)=AC (3,(AF,[])):=fg (ZN O _);have a:@W.cm wv .eql (@W.pl wv (O.length:AI) 1) ((O.length:AI)+1)=AE:=by rw [Q3,BZ];simp
  rw [BF (by rw [MR];exact AW (by omega)),Fj (by omega),BH f,Cy a,BH f,Cy a,AZ,Fj (by omega),BH (fg (J0x hC)),AZ,Fj (by omega),BH (lG (Jz6 hl)),fQ];have g:∀ {β:Type} (x:AH β),@W.gd wv β (@W.ft wv 40 (@W.pl wv ((O.length:AI)+1) 1)) x=x:=λx=>TQ (by rw [BZ];omega) (by rw [BZ];omega);have h:@W.ap wv _ (@W.ml wv _ (O++[((3,(AF,[])):Jk)]) λy=>(y.1,(y.2.1,C))) ((3,(AF,[]))::[])=(O++[(3,(AF,C))])++[(3,(AF,[]))]:=by rw [DL,Nc,Qi]
  cases r:oQ (C.getD (C.length - 1) (0,0)) (l.getD 0 (0,0)) with
  | false=>
   rw [BA rfl,g,h];simp only [EO,rH,r,Bool.false_and,Bool.false_eq_true,if_false,zA,zC]
  | true=>
   rw [BF rfl,BH f,Cy a,J6,wr (by omega) (by omega)];by_cases m:(C.length:AI)+(l.length:AI)<=65536
   .rw [BF (by rw [KY];exact AW m),BH f,Cy a,GI (by rw [BZ];omega) (by rw [BZ];omega),BH f,Cy a,FM,Au,jN];simp only [EO,rH,r,Bool.true_and,AW m,if_true,zA,zC];rfl
   .rw [BA (by rw [KY];exact B0 m),g,h];simp only [EO,rH,r,Bool.true_and,B0 m,Bool.false_eq_true,if_false,zA,zC]
theorem NR(y a b:AI)(w:-4611686018427387904<=a)(v:b<=4611686018427387904)(r:b - a<=1000000000)(l:AQ)(h g:AI)(s5:AG Run)(s6 f s8 s10:AI)(s11:AG Run)(s12:AG Jk)(s13:AG Cell) :
  Qm (@Zb wv) CK ⟨y,a,l,h,g,s5,s6,f,s8,b,s10,s11,s12,s13,[],()⟩=AC ⟨l,h,g,s5,s6,f,Q6 y (a,b),s10,s11,s12,s13,()⟩:=by
 have d:=Kc (b:=@Zb wv) (e:=⟨l,h,g,s5,s6,f,Q6 y (a,b),s10,s11,s12,s13,()⟩) (λi=>⟨y,a+(i:AI),l,h,g,s5,s6,f,s8,b,s10,s11,s12,s13,(rng a i).map λx=>(x,y),()⟩) (b - a).toNat (by omega) (λi hi=>by unfold Zb;dsimp only;rw [Ky (by omega),AZ,BZ,GI (by rw [Ap,sD];omega) (by omega),J6,wr (by omega) (by omega),DL,yT,show a+(i:AI)+1=a+((i+1:AM):AI) by omega]) (by unfold Zb;dsimp only;rw [J2 (by omega)];rfl)
 have m:a+((0:AM):AI)=a:=by omega
 simp only [m] at d;exact d
theorem NQ(y a b:AI)(v:-4611686018427387904<=a)(r:b<=4611686018427387904)(m:b - a<=1000000000)(h:AI)(g:AQ)(f s5 s6:AI)(s8:AG Run)(s9:AI)(s10:AG Run)(s11:AG Jk)(s12:AG Cell) :
  Qm (@Y8 wv) CK ⟨y,a,h,g,f,s5,s6,b,s8,s9,s10,s11,s12,[],()⟩=AC ⟨h,g,f,s5,Q6 y (a,b),s8,s9,s10,s11,s12,()⟩:=by
 have d:=Kc (b:=@Y8 wv) (e:=⟨h,g,f,s5,Q6 y (a,b),s8,s9,s10,s11,s12,()⟩) (λi=>⟨y,a+(i:AI),h,g,f,s5,s6,b,s8,s9,s10,s11,s12,(rng a i).map λx=>(x,y),()⟩) (b - a).toNat (by omega) (λi hi=>by unfold Y8;dsimp only;rw [Ky (by omega),AZ,BZ,GI (by rw [Ap,sD];omega) (by omega),J6,wr (by omega) (by omega),DL,yT,show a+(i:AI)+1=a+((i+1:AM):AI) by omega]) (by unfold Y8;dsimp only;rw [J2 (by omega)];rfl)
 have l:a+((0:AM):AI)=a:=by omega
 simp only [l] at d;exact d
def M8(l:AG Cell)(m:AM):AG Cell:=(List.range l.length).map λt=>l.getD (if t<m\/l.length - m<=t then l.length - 1 - t else t) (0,0)
theorem bY(l:AG Cell)(m:AM):(M8 l m).length=l.length:=by simp [M8]
theorem mR(l:AG Cell)(m:AM){t:AM}(h:t<l.length):(M8 l m)[t]?=AC (l.getD (if t<m\/l.length - m<=t then l.length - 1 - t else t) (0,0)):=by simp only [M8,List.getElem?_map,List.getElem?_range h,Option.map_some]
theorem Jt5{l:AG Cell}{t:AM}(h:t<l.length):l[t]?=AC (l.getD t (0,0)):=by rw [Bd,Aa h];rfl
theorem OG(l:AG Cell):M8 l 0=l:=by
 refine Bt λt=>?_;by_cases h:t<l.length
 .rw [mR l 0 h,AR (by omega),Jt5 h]
 .rw [Ay (by rw [bY];omega),Ay (by omega)]
theorem UR(l:AG Cell):M8 l (l.length / 2)=l.reverse:=by
 refine Bt λt=>?_;by_cases h:t<l.length
 .rw [mR l _ h,Br h,Jt5 (by omega)];split
  .rfl
  .rw [show l.length - 1 - t=t by omega]
 .rw [Ay (by rw [bY];omega),Ay (by rw [Bf];omega)]
theorem OH(l:AG Cell)(m:AM)(h:2 * m+1<l.length):((M8 l m).set m (l.getD (l.length - 1 - m) (0,0))).set (l.length - 1 - m) (l.getD m (0,0))=M8 l (m+1):=by
 refine Bt λt=>?_;by_cases d:t<l.length
 .rw [mR l (m+1) d,List.getElem?_set,List.getElem?_set,Bm,bY,mR l m d];by_cases g:l.length - 1 - m=t
  .rw [AS g,AS (by omega),AS (by omega),show l.length - 1 - t=m by omega]
  .rw [AR g];by_cases a:m=t
   .rw [AS a,AS (by omega),AS (by omega),a]
   .rw [AR a]
    congr 2
    by_cases f:t<m\/l.length - m<=t
    .rw [AS f,AS (by omega)]
    .rw [AR f,AR (by omega)]
 .rw [Ay (by rw [Bm,Bm,bY];omega),Ay (by rw [bY];omega)]
theorem Td(l:AG Cell)(hl:l.length<=1000000000)(h:AI)(g:AQ)(f s5:AI)(d:AG Run)(s8:AI)(s9:AG Run)(s10:AG Jk)(s11:AG Cell) :
  Qm (@Y6 wv) CK ⟨0,(l.length:AI) - 1,h,g,f,s5,l,d,s8,s9,s10,s11,()⟩=AC ⟨h,g,f,s5,l.reverse,d,s8,s9,s10,s11,()⟩:=by
 have a:=Kc (b:=@Y6 wv) (e:=⟨h,g,f,s5,l.reverse,d,s8,s9,s10,s11,()⟩) (λm=>⟨(m:AI),(l.length:AI) - 1 - (m:AI),h,g,f,s5,M8 l m,d,s8,s9,s10,s11,()⟩) (l.length / 2) (by omega) (λm B=>by
  have r:2 * m+1<l.length:=by omega
  have ej:(l.length:AI) - 1 - (m:AI)=((l.length - 1 - m:AM):AI):=by omega
  have y:Fb (M8 l m) ((l.length - 1 - m:AM):AI)=AC (l.getD (l.length - 1 - m) (0,0)):=fg (by rw [mR l m (by omega),AR (by omega)]);have v:Fb (M8 l m) (m:AI)=AC (l.getD m (0,0)):=fg (by rw [mR l m (by omega),AR (by omega)]);unfold Y6;dsimp only;rw [ej,Ky (by omega),AZ,bY,Fj (by omega),BH y,Fj (by omega),BH v,Fj (by omega),BH v];rw [FM,Au,AZ,Bm,bY,Fj (by omega)];have w:∃x,Fb ((M8 l m).set m ((l.getD (l.length - 1 - m) (0,0)).1,(l.getD (l.length - 1 - m) (0,0)).2)) ((l.length - 1 - m:AM):AI)=AC x:=⟨_,fg (Jt5 (by rw [Bm,bY];omega))⟩;obtain ⟨x,hx⟩:=w;rw [BH hx,FM,Au,J6,wr (by omega) (by omega),Yc,wr (by omega) (by omega),show (((l.getD (l.length - 1 - m) (0,0)).1,(l.getD (l.length - 1 - m) (0,0)).2):Cell)=l.getD (l.length - 1 - m) (0,0) from rfl,show (((l.getD m (0,0)).1,(l.getD m (0,0)).2):Cell)=l.getD m (0,0) from rfl,OH l m r,show ((l.length - 1 - m:AM):AI) - 1=(l.length:AI) - 1 - ((m+1:AM):AI) by omega];rfl) (by unfold Y6;dsimp only;rw [J2 (by omega),UR])
 have A:(l.length:AI) - 1 - ((0:AM):AI)=(l.length:AI) - 1:=by omega
 simp only [A,OG] at a;exact a
noncomputable def FL(w:Row)(z:Zs)(k:AM):Zs:=((w.2.take k).map (Q6 w.1)).foldl EO z
noncomputable def Ho(w:Row)(z:Zs)(k:AM):Zs:=((w.2.reverse.take k).map λu=>(Q6 w.1 u).reverse).foldl EO z
theorem J7v{w:Row}(z:Zs){k:AM}{u:Run}(h:w.2[k]?=AC u):FL w z (k+1)=EO (FL w z k) (Q6 w.1 u):=by rw [FL,Q9 h,Az];rfl
theorem J9w{w:Row}(z:Zs){k:AM}{u:Run}(h:w.2.reverse[k]?=AC u):Ho w z (k+1)=EO (Ho w z k) (Q6 w.1 u).reverse:=by rw [Ho,Q9 h,Az];rfl
theorem Tk{w:Row}{lo hi:AI}(h:AO lo hi w.2){z:Zs}(a:Iu z)(k:AM):Iu (FL w z k):=Joe _ a λl hl=>by obtain ⟨u,d,rfl⟩:=Ag.1 hl;exact nA h (Bj d)
theorem Tm{w:Row}{lo hi:AI}(h:AO lo hi w.2){z:Zs}(a:Iu z)(k:AM):Iu (Ho w z k):=Joe _ a λl hl=>by obtain ⟨u,d,rfl⟩:=Ag.1 hl;intro e;exact nA h (Ax.1 (Bj d)) (Bn.1 e)
theorem NW{w:Row}(z:Zs){k:AM}{u:Run}(h:w.2[k]?=AC u):(Yo (FL w z k)).length+(Q6 w.1 u).length<=(Yo z).length+(CV w).length:=by have:=Yv (Q6 w.1) h;rw [FL,uO,Ab,<-Bq];unfold CV;omega
theorem Jy5{α β:Type}(f:α->AG β)(l:AG α):(l.reverse.flatMap λu=>(f u).reverse).length=(l.flatMap f).length:=by rw [Bq];exact Jh6 f l
theorem NY{w:Row}(z:Zs){k:AM}{u:Run}(h:w.2.reverse[k]?=AC u):(Yo (Ho w z k)).length+(Q6 w.1 u).reverse.length<=(Yo z).length+(CV w).length:=by have:=Yv (λu=>(Q6 w.1 u).reverse) h;rw [Jy5] at this;rw [Ho,uO,Ab,<-Bq];unfold CV;omega
theorem NS{w:Row}(h:AO (-4096) 4096 w.2)(m:w.1 % 2=0)(B:w.2.length<=1000000000){z:Zs}(l:Iu z)(E:(Yo z).length+(CV w).length<=1000000000)(r:AQ)(n i:AI) :
  Qm (@Y7 wv) CK ⟨r,n,i,w.2,(w.2.length:AI),0,w.1,w.2,zA z,zC z,()⟩=AC ⟨r,n,i,zA (DY z w),zC (DY z w),()⟩:=by
 have a:=Kc (b:=@Y7 wv) (e:=⟨r,n,i,zA (FL w z w.2.length),zC (FL w z w.2.length),()⟩) (λk=>⟨r,n,i,w.2,(w.2.length:AI),(k:AI),w.1,w.2,zA (FL w z k),zC (FL w z k),()⟩) w.2.length (by omega) (λk v=>by
  have f:=Aa v;generalize w.2[k]=u at f;have d:=Ac f;have F:=h.bd u d;have hl:=NW z f;have hJ:@Jb6 wv ⟨r,n,i,w.2,(w.2.length:AI),(k:AI),w.1,w.2,zA (FL w z k),zC (FL w z k),()⟩=AC ⟨r,n,i,w.2,(w.2.length:AI),(k:AI),w.1,w.2,zA (FL w z (k+1)),zC (FL w z (k+1)),()⟩:=by unfold Jb6;dsimp only;rw [BH (fg f)];refine (BN (NR w.1 u.1 u.2 (by omega) (by omega) (by omega) ..)).trans ?_;have g:=Kbq (Tk h l k) (nA h d) (by omega) λ(A:AG Jk) (C:AG Cell)=>AC (⟨r,n,i,w.2,(w.2.length:AI),(k:AI),w.1,w.2,A,C,()⟩:HP AQ (HP AI (HP AI (HP (AG Run) (HP AI (HP AI (HP AI (HP (AG Run) (HP (AG Jk) (HP (AG Cell) Unit))))))))));dsimp only [Oo] at g ⊢;rw [J7v z f,show ((u.1,u.2):Run)=u from rfl];exact g
  unfold Y7;dsimp only;rw [Ky (by omega)];refine (HV hJ).trans ?_;dsimp only;rw [J6,wr (by omega) (by omega)];rfl) (by unfold Y7;dsimp only;rw [J2 (by omega)])
 have y:FL w z w.2.length=DY z w:=by rw [FL,Ad,DY,Sk,AS m]
 rw [y] at a;exact a
theorem Te{w:Row}(h:AO (-4096) 4096 w.2)(y:¬w.1 % 2=0)(H:w.2.length<=1000000000){z:Zs}(v:Iu z)(J:(Yo z).length+(CV w).length<=1000000000)(r:AQ)(n i:AI) :
  Qm (@Zf wv) CK ⟨(w.2.length:AI) - 1,r,n,i,w.2,w.1,w.2,zA z,zC z,()⟩=AC ⟨r,n,i,w.1,w.2,zA (DY z w),zC (DY z w),()⟩:=by
 have a:=Kc (b:=@Zf wv) (e:=⟨r,n,i,w.1,w.2,zA (Ho w z w.2.length),zC (Ho w z w.2.length),()⟩) (λk=>⟨(w.2.length:AI) - 1 - (k:AI),r,n,i,w.2,w.1,w.2,zA (Ho w z k),zC (Ho w z k),()⟩) w.2.length (by omega) (λk E=>by
  have d:w.2.reverse[k]?=AC w.2[w.2.length - 1 - k]:=by rw [Br E,Aa]
  have g:w.2[w.2.length - 1 - k]?=AC w.2[w.2.length - 1 - k]:=Aa _;generalize w.2[w.2.length - 1 - k]=u at g d;have f:=Ac g;have K:=h.bd u f;have hl:=NY z d;have m:=Za w.1 u;have ek:(w.2.length:AI) - 1 - (k:AI)=((w.2.length - 1 - k:AM):AI):=by omega
  unfold Zf;dsimp only;rw [BF (by rw [MR];exact AW (by omega)),ek,BH (fg g)];refine (BN (NQ w.1 u.1 u.2 (by omega) (by omega) (by omega) ..)).trans ?_;dsimp only;rw [show ((u.1,u.2):Run)=u from rfl,AZ,Yc,wr (by omega) (by omega)];refine (BN (Td (Q6 w.1 u) (by omega) ..)).trans ?_;have l:=Kbq (Tm h v k) (λe=>nA h f (Bn.1 e)) (by omega) λ(A:AG Jk) (C:AG Cell)=>AC (Nx.go (B:=HP AQ (HP AI (HP AI (HP AI (HP (AG Run) (HP (AG Jk) (HP (AG Cell) Unit))))))) (⟨@W.ar wv .sub .i64 ((w.2.length - 1 - k:AM):AI) 1,r,n,i,w.2,w.1,w.2,A,C,()⟩:HP AI (HP AQ (HP AI (HP AI (HP (AG Run) (HP AI (HP (AG Run) (HP (AG Jk) (HP (AG Cell) Unit))))))))));dsimp only [Oo] at l ⊢;rw [J9w z d];refine l.trans ?_;rw [Yc,wr (by omega) (by omega),show ((w.2.length - 1 - k:AM):AI) - 1=(w.2.length:AI) - 1 - ((k+1:AM):AI) by omega]) (by unfold Zf;dsimp only;rw [BA (by rw [MR];exact B0 (by omega))])
 have G:(w.2.length:AI) - 1 - ((0:AM):AI)=(w.2.length:AI) - 1:=by omega
 have F:Ho w z w.2.length=DY z w:=by rw [Ho,Bo (by rw [Bf];omega),DY,Sk,AR y]
 simp only [G,F] at a;exact a
noncomputable def GL(r:AQ):AG Jk:=zT (r.foldl DY AD)
theorem Kac:Iu AD:=λt a=>by cases a
theorem Tg(z:Zs):@W.ml wv _ (zA z) (λy=>(y.1,(y.2.1,zC z)))=zT z:=by
 rcases z with _|⟨O,C⟩
 .rfl
 .rw [Nc];exact Qi _ _ O
open Classical in
theorem J8s(r:AQ)(hl:DJ r)(m:AJ r->(Jq r).length<=1000000000):@Zt wv r=AC (if AJ r then GL r else []):=by
 unfold Zt;rw [Kg hl];by_cases h:AJ r
 case neg=>rw [BF (by simp [BO,h]),AR h]
 rw [BA (by simp [BO,h]),AS h];have hL:=hl.1;have m:=m h;have f:=Kc (b:=@zp wv) (e:=⟨zA (r.foldl DY AD),zC (r.foldl DY AD),()⟩) (λi=>⟨r,(r.length:AI),(i:AI),zA ((r.take i).foldl DY AD),zC ((r.take i).foldl DY AD),()⟩) r.length (by omega) (λi hi=>by
  have g:=Aa hi;generalize r[i]=w at g;have d:=Ac g;have hLw:=hl.2 w d;have y:Iu ((r.take i).foldl DY AD):=Jvt _ (λv A=>h.rs v (Bj A)) Kac;have a:(Yo ((r.take i).foldl DY AD)).length+(CV w).length<=1000000000:=by rw [xW];have:=Yv CV g;unfold Jq at m;simp only [Yo,zT,Bp,Bl];omega
  have hs:(r.take (i+1)).foldl DY AD=DY ((r.take i).foldl DY AD) w:=by rw [Ki g,Az];rfl
  unfold zp;dsimp only;rw [Ky (by omega),BH (fg g),lU (by omega) (by omega),hs];by_cases l:w.1 % 2=0
  .rw [BF (by rw [Q3];simp [l])];refine (BN (NS (h.rs w d) l hLw y a r (r.length:AI) (i:AI))).trans ?_;dsimp only;rw [J6,wr (by omega) (by omega)];rfl
  .rw [BA (by rw [Q3];simp [l]),AZ,Yc,wr (by omega) (by omega)];refine (BN (Te (h.rs w d) l hLw y a r (r.length:AI) (i:AI))).trans ?_;dsimp only;rw [J6,wr (by omega) (by omega)];rfl) (by unfold zp;dsimp only;rw [J2 (by omega),Ad])
 refine (BN f).trans ?_;exact AT AC (Tg _)
open Classical in
theorem QG{α:Type}{r:AQ}(hl:DJ r)(a:AJ r->(Jq r).length<=1000000000)(k:AG (AI×(AN×AG (AI×AI)))->AH α):@W.call wv α K3 r k=k (if AJ r then GL r else []):=BM (c:=K3) (J8s r hl a)
theorem nQ{y:AI}{u:Run}{i:AM}{c:Cell}(h:(Q6 y u)[i]?=AC c):c=(u.1+(i:AI),y)/\i<(u.2 - u.1).toNat:=by have hi:=(Be.1 h).1;rw [Za] at hi;refine ⟨?_,hi⟩;simp only [Q6,rng,List.getElem?_map,Option.map_eq_some_iff] at h;obtain ⟨x,⟨j,d,rfl⟩,rfl⟩:=h;have:=Be.1 d;obtain ⟨f,a⟩:=this;rw [List.getElem_range] at a;subst a;rfl
structure Walk (l:AG Cell):Prop where
 gr:∀c∈l,grid c
 nx:∀i a b,l[i]?=AC a->l[i+1]?=AC b->nb a b
theorem WA{a b:Cell}(h:nb a b):nb b a:=by
 unfold nb at *
 rw [show b.1 - a.1=-(a.1 - b.1) by omega,show b.2 - a.2=-(a.2 - b.2) by omega,Int.neg_mul_neg,Int.neg_mul_neg];exact h
theorem VZ{a b:Cell}(g:grid a)(f:grid b):oQ a b=decide (nb a b):=by unfold grid at g f;have l:=Lv (d:=a.1 - b.1) (by omega) (by omega);have h:=Lv (d:=a.2 - b.2) (by omega) (by omega);unfold oQ uh;dsimp only [Option.getD_some];simp only [J6,vI,Yc,Q3];rw [wr (n:=a.1 - b.1) (by omega) (by omega),wr (n:=a.2 - b.2) (by omega) (by omega),wr (n:=(a.1 - b.1) * (a.1 - b.1)) (by omega) (by omega),wr (n:=(a.2 - b.2) * (a.2 - b.2)) (by omega) (by omega),wr (by omega) (by omega)];rfl
theorem Na{C l:AG Cell}(hC:Walk C)(hl:Walk l)(h:∀a b,C[C.length - 1]?=AC a->l[0]?=AC b->nb a b):Walk (C++l):=by
 refine ⟨λc g=>?_,λi a b f d=>?_⟩
 .rcases Af.1 g with q|q
  .exact hC.gr c q
  .exact hl.gr c q
 .by_cases m:i+1<C.length
  .rw [Ao (by omega)] at f;rw [Ao m] at d;exact hC.nx i a b f d
  .by_cases r:i+1=C.length
   .rw [Ao (by omega)] at f;rw [Ar (by omega),show i+1 - C.length=0 by omega] at d;exact h a b (by rw [show C.length - 1=i by omega];exact f) d
   .rw [Ar (by omega)] at f;rw [Ar (by omega),show i+1 - C.length=i - C.length+1 by omega] at d;exact hl.nx _ a b f d
theorem NZ{l:AG Cell}(h:Walk l):Walk l.reverse:=by refine ⟨λc g=>h.gr c (Ax.1 g),λi a b f d=>?_⟩;have m:=(Be.1 d).1;rw [Bf] at m;rw [Br (by omega)] at f d;refine WA (h.nx (l.length - 1 - (i+1)) b a d ?_);rw [show l.length - 1 - (i+1)+1=l.length - 1 - i by omega];exact f
theorem Jzo{r:AQ}(h:AJ r){w:Row}(f:w∈r){u:Run}(g:u∈w.2):Walk (Q6 w.1 u):=by
 have A:=(h.rs w f).bd u g;have y:=h.y w f;refine ⟨λc l=>?_,λi a b m d=>?_⟩
 .obtain ⟨e,v⟩:=bg.1 l;unfold grid;omega
 .obtain ⟨rfl,v⟩:=nQ m;obtain ⟨rfl,B⟩:=nQ d;unfold nb;dsimp only;rw [show u.1+(i:AI) - (u.1+((i+1:AM):AI))=-1 by omega,Int.sub_self];rfl
theorem YD{l:AG Cell}(h:Walk l)(g:l≠[])(hl:l.length<=65536):VT (3,(AF,l)):=by have:=Aq.2 g;refine ⟨by dsimp only;omega,⟨by dsimp only;omega,hl⟩,λi hi c a=>⟨h.gr c (Ac a),λp d f=>?_⟩,λq=>by cases q⟩;exact h.nx (i - 1) p c f (by rw [show i - 1+1=i by omega];exact a)
def zV(z:Zs):Prop:=∀t∈zT z,t.1=3/\t.2.1=AF/\t.2.2≠[]/\t.2.2.length<=65536/\Walk t.2.2
theorem dF{z:Zs}{l:AG Cell}(h:zV z)(m:l≠[])(hl:l.length<=65536)(g:Walk l):zV (EO z l):=by
 have r:(3:AI)=3/\AF=AF/\l≠[]/\l.length<=65536/\Walk l:=⟨rfl,rfl,m,hl,g⟩;rcases z with _|⟨O,C⟩
 .intro t d;simp only [EO,zT,List.nil_append,Ae] at d;rw [d];exact r
 .have hO:∀t∈O,t.1=3/\t.2.1=AF/\t.2.2≠[]/\t.2.2.length<=65536/\Walk t.2.2:=λt d=>h t (Ak _ d);obtain ⟨-,-,hC0,hCl,hCw⟩:=h (3,(AF,C)) (Aw _ (Bg _));dsimp only at hC0 hCl hCw;simp only [EO];split
  .rename_i f;unfold rH at f;rw [Bool.and_eq_true,decide_eq_true_eq] at f;intro t d;rcases Af.1 d with q|q
   .exact hO t q
   .rw [Ae.1 q];refine ⟨rfl,rfl,λe=>hC0 (By.1 e).1,by rw [Ab];omega,Na hCw g λa b w v=>?_⟩;rw [J0x hC0] at w;rw [Jz6 m] at v;injection w with A;injection v with y;rw [A,y] at f;have ga:grid a:=hCw.gr a (by rw [<-A];exact Ac (J0x hC0));have gb:grid b:=g.gr b (by rw [<-y];exact Ac (Jz6 m));have:=f.1;rw [VZ ga gb] at this;exact of_decide_eq_true this
  .intro t d;rcases Af.1 d with q|q
   .rcases Af.1 q with q|q
    .exact hO t q
    .rw [Ae.1 q];exact ⟨rfl,rfl,hC0,hCl,hCw⟩
   .rw [Ae.1 q];exact r
theorem J9v:∀(ls:AG (AG Cell)) {z:Zs},zV z->(∀l∈ls,l≠[]/\l.length<=65536/\Walk l)->zV (ls.foldl EO z)
 | [],_,h,_=>h
 | l::ls,z,h,hl=>by obtain ⟨g,f,d⟩:=hl l (Am ..);exact J9v ls (dF h g f d) λm a=>hl m (Ai _ a)
theorem NV{r:AQ}(h:AJ r){w:Row}(f:w∈r):∀l∈Sk w,l≠[]/\l.length<=65536/\Walk l:=by
 intro l hl;have d:∀u∈w.2,(Q6 w.1 u).length<=65536:=λu a=>by have:=(h.rs w f).bd u a;rw [Za];omega
 refine ⟨Jxb (h.rs w f) l hl,?_⟩;unfold Sk at hl;split at hl
 .obtain ⟨u,a,rfl⟩:=Ag.1 hl;exact ⟨d u a,Jzo h f a⟩
 .obtain ⟨u,a,rfl⟩:=Ag.1 hl;have a:=Ax.1 a;exact ⟨by rw [Bf];exact d u a,NZ (Jzo h f a)⟩
theorem J81{r:AQ}(h:AJ r):∀(l:AQ) {z:Zs},(∀w∈l,w∈r)->zV z->zV (l.foldl DY z)
 | [],_,_,a=>a
 | w::l,z,d,a=>J81 h l (λv f=>d v (Ai _ f)) (J9v _ a (NV h (d w (Am ..))))
theorem Kbe{r:AQ}(h:AJ r){t:Jk}(d:t∈GL r):VT t/\t.1=3:=by obtain ⟨v,m,l,g,f⟩:=J81 h r (λ_ w=>w) (z:=AD) (λt d=>by cases d) t d;obtain ⟨a,b,c⟩:=t;dsimp only at v m l g f;subst v;subst m;exact ⟨YD f l g,rfl⟩
theorem J6e{w:Row}{c:Cell}:c∈(Sk w).flatten↔c∈CV w:=by
 unfold Sk CV;rw [List.mem_flatten,Bb];split
 .constructor
  .rintro ⟨l,hl,d⟩;obtain ⟨u,a,rfl⟩:=Ag.1 hl;exact ⟨u,a,d⟩
  .rintro ⟨u,a,d⟩;exact ⟨_,Ag.2 ⟨u,a,rfl⟩,d⟩
 .constructor
  .rintro ⟨l,hl,d⟩;obtain ⟨u,a,rfl⟩:=Ag.1 hl;exact ⟨u,Ax.1 a,Ax.1 d⟩
  .rintro ⟨u,a,d⟩;exact ⟨_,Ag.2 ⟨u,Ax.2 a,rfl⟩,Ax.2 d⟩
theorem Jzd{c:Cell}:∀(l:AQ) (z:Zs),c∈Yo (l.foldl DY z)↔c∈Yo z\/c∈l.flatMap CV
 | [],z=>by simp
 | w::l,z=>by rw [Bk,Jzd l,DY,uO,Af,J6e,Aj,Af,or_assoc]
theorem J7u{r:AQ}(h:AJ r)(c:Cell):(∃t∈GL r,VT t/\c∈t.2.2)↔J1 r c:=by
 have e:=Jzd (c:=c) r AD;rw [<-Q5];constructor
 .rintro ⟨t,d,-,a⟩;rcases e.1 (Bb.2 ⟨t,d,a⟩) with q|q
  .simp only [Yo,zT,Bp] at q;cases q
  .exact q
 .intro a;obtain ⟨t,d,a⟩:=Bb.1 (e.2 (.inr a));exact ⟨t,d,(Kbe h d).1,a⟩
theorem Tf(r:AQ):((GL r).flatMap λt=>t.2.2).length=(Jq r).length:=by have:=xW r AD;simp only [Yo,zT,Bp,Bl,Nat.zero_add] at this;exact this
def mJ(l:AG Run):AM:=(l.flatMap (Q6 0)).length
theorem J1l(w:Row):(CV w).length=mJ w.2:=by
 unfold CV mJ;generalize w.2=l
 induction l with
 | nil=>rfl
 | cons u l a=>rw [Aj,Aj,Ab,Ab,a,Za,Za]
theorem Jrz(l:AG Run)(h:AO (-1048576) 1048576 l)(hl:l.length<=1000000000)(f:mJ l<=1000000000):@zY wv l=AC ((mJ l:AM):AI):=by
 have a:=Kc (b:=@Jaq wv) (e:=⟨((mJ l:AM):AI),()⟩) (λi=>⟨((((l.take i).flatMap (Q6 0)).length:AM):AI),l,(l.length:AI),(i:AI),()⟩) l.length (by omega) (λi hi=>by
  have d:=Aa hi;generalize l[i]=u at d;have r:=h.bd u (Ac d);have m:=Yv (Q6 0) d;have g:=Za 0 u;unfold mJ at f;unfold Jaq;dsimp only;rw [Ky (by omega),BH (fg d),Yc,J6,J6,wr (n:=u.2 - u.1) (by omega) (by omega),wr (by omega) (by omega),wr (n:=(i:AI)+1) (by omega) (by omega),ZP d,Ab,show ((((l.take i).flatMap (Q6 0)).length:AM):AI)+(u.2 - u.1)=((((l.take i).flatMap (Q6 0)).length+(Q6 0 u).length:AM):AI) by omega];rfl) (by unfold Jaq;dsimp only;rw [J2 (by omega),Ad];rfl)
 unfold zY;rw [ze hl,BA (by simp [BO,h])];exact BN a
theorem TD(r:AQ)(hl:DJ r)(h:AJ r)(v:(Jq r).length<=1000000000):@vD wv r=AC (((Jq r).length:AM):AI):=by
 have hL:=hl.1;have d:=Kc (b:=@zg wv) (e:=⟨(((Jq r).length:AM):AI),()⟩) (λi=>⟨((((r.take i).flatMap CV).length:AM):AI),r,(r.length:AI),(i:AI),()⟩) r.length (by omega) (λi hi=>by
  have f:=Aa hi;generalize r[i]=w at f;have a:=Ac f;have m:=Yv CV f;have g:=J1l w;unfold Jq at v;have l:AO (-1048576) 1048576 w.2:=⟨λx hx=>by have:=(h.rs w a).bd x hx;omega,(h.rs w a).pw⟩;unfold zg;dsimp only;rw [Ky (by omega),BH (fg f)];refine (BM (c:=nk) (Jrz w.2 l (hl.2 w a) (by omega))).trans ?_;rw [J6,J6,wr (by omega) (by omega),wr (n:=(i:AI)+1) (by omega) (by omega),ZP f,Ab,g];rfl) (by unfold zg;dsimp only;rw [J2 (by omega),Ad];rfl)
 unfold vD;rw [Kg hl,BA (by simp [BO,h])];exact BN d
def SN(w:AI)(c:Cell):Cell:=if (c.1+c.2) % w=0 then (c.1+1,c.2) else (c.1,c.2 - 1)
theorem iN(w:AI)(c:Cell):nb c (SN w c):=by
 unfold nb SN;split
 .show (c.1 - (c.1+1)) * (c.1 - (c.1+1))+(c.2 - c.2) * (c.2 - c.2)=1;rw [show c.1 - (c.1+1)=-1 by omega,show c.2 - c.2=0 by omega];rfl
 .show (c.1 - c.1) * (c.1 - c.1)+(c.2 - (c.2 - 1)) * (c.2 - (c.2 - 1))=1;rw [show c.1 - c.1=0 by omega,show c.2 - (c.2 - 1)=1 by omega];rfl
def sT:Zs->AG Jk
 | none=>[]
 | some (O,C)=>O++[(4,(AF,C))]
def TP(C:AG Cell):Cell:=C.getD (C.length - 1) (0,0)
def F3(w:AI):Zs->Cell->Zs
 | none,c=>AC ([],[c])
 | some (O,C),c=>if SN w (TP C)=c then AC (O,C++[c]) else AC (O++[(4,(AF,C))],[c])
def dw(w:AI)(l:AG Jk):Prop:=∀t∈l,t.1=4/\t.2.1=AF/\t.2.2≠[]/\∀i a b,t.2.2[i]?=AC a->t.2.2[i+1]?=AC b->b=SN w a
theorem J5l(w:AI)(z:Zs)(c:Cell):((sT (F3 w z c)).flatMap λt=>t.2.2)=((sT z).flatMap λt=>t.2.2)++[c]:=by
 match z with
 | none=>rfl
 | some (O,C)=>
  unfold F3;dsimp only;split<;>simp [sT]
theorem UQ{w:AI}{z:Zs}(h:dw w (sT z))(c:Cell):dw w (sT (F3 w z c)):=by
 have one:dw w [(4,(AF,[c]))]:=λt d=>by have:=Ae.1 d;subst this;exact ⟨rfl,rfl,by simp,λi a b g f=>by cases i<;>simp at f⟩
 match z,h with
 | none,h=>exact one
 | some (O,C),h=>
  unfold F3;dsimp only;split
  .rename_i e;intro t d;rcases Af.1 d with d|d
   .exact h t (Ak _ d)
   .have:=Ae.1 d;subst this;obtain ⟨B,A,y,l⟩:=h (4,(AF,C)) (Aw _ (Ae.2 rfl));refine ⟨rfl,rfl,by simp,λi a b g f=>?_⟩;dsimp only at g f y l;by_cases v:i+1<C.length
    .rw [Ao (by omega)] at g;rw [Ao v] at f;exact l i a b g f
    .have r:=(Be.1 f).1;simp only [Ab,As] at r;rw [Ar (by omega),show i+1 - C.length=0 by omega] at f;rw [Ao (by omega)] at g;have m:TP C=a:=by unfold TP;rw [Bd,show C.length - 1=i by omega,g];rfl
     injection f with f;rw [<-f,<-e,m]
  .intro t d;rcases Af.1 d with d|d
   .exact h t d
   .exact one t d
def Hq(w:AI)(L:AG Cell):Zs:=L.foldl (F3 w) AD
theorem Jxm{w:AI}{L:AG Cell}{i:AM}{c:Cell}(h:L[i]?=AC c):Hq w (L.take (i+1))=F3 w (Hq w (L.take i)) c:=by rw [Ki h,Hq,Az];rfl
theorem J2r{w:AI}:∀(L:AG Cell) (z:Zs),dw w (sT z)->dw w (sT (L.foldl (F3 w) z))/\((sT (L.foldl (F3 w) z)).flatMap λt=>t.2.2)=((sT z).flatMap λt=>t.2.2)++L
 | [],z,h=>⟨h,by simp⟩
 | c::L,z,h=>by obtain ⟨d,a⟩:=J2r L (F3 w z c) (UQ h c);refine ⟨d,?_⟩;show ((sT (L.foldl (F3 w) (F3 w z c))).flatMap λt=>t.2.2)=_;rw [a,J5l];simp
theorem J0g(w:AI)(L:AG Cell):dw w (sT (Hq w L))/\((sT (Hq w L)).flatMap λt=>t.2.2)=L:=J2r L AD λt a=>by cases a
theorem J83{w:AI}{L:AG Cell}{i:AM}(hi:i<L.length):∃O C,Hq w (L.take (i+1))=AC (O,C)/\C≠[]/\AC (TP C)=L[i]?:=by
 have hx:=Aa hi;rw [Jxm hx,hx];unfold F3;split
 .exact ⟨_,_,rfl,by simp,rfl⟩
 .split
  .refine ⟨_,_,rfl,by simp,?_⟩;simp [TP]
  .exact ⟨_,_,rfl,by simp,rfl⟩
theorem dh{w:AI}{l:AG Jk}(h:dw w l)(hl:(l.flatMap λt=>t.2.2).length<=65536)(m:∀c∈l.flatMap (λt=>t.2.2),grid c){t:Jk}(d:t∈l):VT t:=by
 obtain ⟨F,A,y,v⟩:=h t d;have a:∀c∈t.2.2,grid c:=λc f=>m c (Bb.2 ⟨t,d,f⟩);have E:t.2.2.length<=(l.flatMap λt=>t.2.2).length:=by
  clear F A y v a m hl h
  induction l with
  | nil=>cases d
  | cons u r B=>
   rw [Aj,Ab];rcases Dh.1 d with e|e
   .subst e;omega
   .have:=B e;omega
 have g:0<t.2.2.length:=Aq.2 y;refine ⟨by omega,⟨g,by omega⟩,λi hi c f=>⟨a c (Ac f),λp G g=>?_⟩,λq=>by rw [A] at q;cases q⟩;have:=v (i - 1) p c g (by rw [show i - 1+1=i by omega];exact f);rw [this];exact iN w p
def pJ(r:AQ)(w:AI):AG Cell:=(Jq r).filter λc=>decide ((c.1+c.2) % w<2)
theorem J9x(L:AG Cell)(hL:L.length<=1000000)(d:∀c∈L,grid c)(r:AQ)(s y w:AI)(l:1<=w)(g:w<=1000000) :
  Qm (@Qk wv) CK ⟨L,(L.length:AI),0,r,s,y,w,[],()⟩=AC ⟨r,s,y,w,L.filter λc=>decide ((c.1+c.2) % w<2),()⟩:=
 Kc (b:=@Qk wv) (λi=>⟨L,(L.length:AI),(i:AI),r,s,y,w,(L.take i).filter λc=>decide ((c.1+c.2) % w<2),()⟩) L.length (by omega) (λi hi=>by
  have hx:=Aa hi;generalize L[i]=c at hx;have f:=d c (Ac hx);unfold grid at f;have a:((L.take i).filter λc=>decide ((c.1+c.2) % w<2)).length<=i:=Di (Db _ _) (by rw [Ah];omega);unfold Qk;dsimp only;rw [Ky (by omega),BH (fg hx),J6,wr (n:=c.1+c.2) (by omega) (by omega),lU l g,J6,wr (n:=(i:AI)+1) (by omega) (by omega),Ki hx,List.filter_append];by_cases h:(c.1+c.2) % w<2
  .rw [Ky h,GI (by rw [BZ,AZ];exact Int.le_trans (Int.add_le_add_right (Int.ofNat_le.2 a) 1) (by omega)) (by rw [BZ,AZ];exact Int.add_nonneg (Int.natCast_nonneg _) (by decide)),DL,List.filter_cons_of_pos (by exact AW h)];rfl
  .rw [J2 h,List.filter_cons_of_neg (by rw [B0 h];exact Bool.false_ne_true),List.filter_nil,Ba];rfl) (by unfold Qk;dsimp only;rw [J2 (by omega),Ad])
theorem UO(r:AQ)(s y:AI)(hs:1<=s/\s<=64)(c:Cell)(a:grid c):@Y0 wv ((r,(s,y)),c)=AC (SN (2 * s) c):=by unfold grid at a;unfold Y0 SN;dsimp only;rw [J6,wr (n:=c.1+c.2) (by omega) (by omega),vI,wr (by omega) (by omega),lU (by omega) (by omega),J6,wr (n:=c.1+1) (by omega) (by omega),Yc,wr (n:=c.2 - 1) (by omega) (by omega),ET,Q3];simp only [beq_iff_eq];split<;>rfl
theorem fO{α:Type}{r:AQ}{s y:AI}(hs:1<=s/\s<=64){c:Cell}(a:grid c)(k:AI×AI->AH α):@W.call wv α Q1 (((r,(s,y)),(c.1,c.2)):(AG (AI×AG (AI×AI))×(AI×AI))×(AI×AI)) k=k (SN (2 * s) c):=BM (c:=Q1) (UO r s y hs c a)
def sA:Zs->AG Jk
 | none=>[]
 | some (O,C)=>O++[(4,(AF,[]))]
theorem pQ(z:Zs):@W.ml wv _ (sA z) (λy=>(y.1,(y.2.1,zC z)))=sT z:=by
 match z with
 | none=>rfl
 | some (O,C)=>show Qf (O++[(4,(AF,[]))]) _=_;rw [Qi];rfl
noncomputable abbrev newX [W] {α:Type} (X:AG Jk) (n:AI) (mk:AG Jk->AH α):AH α:=
 gd (ib (ar .sub .i64 (ln X) 1) (ln X)) <|
 ge X (ar .sub .i64 (ln X) 1) λv6=>
 gd (cm .eql (pl (ar .sub .i64 (ln X) 1) 1) (ln X)) <|
 gd (ft 16 n) <|
 ge X (ar .sub .i64 (ln X) 1) λv7=>
 gd (cm .eql (pl (ar .sub .i64 (ln X) 1) 1) (ln X)) <|
 mk (st X (ar .sub .i64 (ln X) 1) (v7.1,(v7.2.1,v7.2.2)))
theorem J0a{α:Type}(M:AG Jk)(t:Jk)(hM:M.length<=1000000000)(n:AI)(h:0<=n/\n<=1000000000)(mk:AG Jk->AH α):@newX wv α (M++[t]) n mk=mk (M++[t]):=by
 unfold newX;have f:@W.ar wv .sub .i64 ((M.length:AI)+1) 1=(M.length:AI):=by rw [Yc,wr (by omega) (by omega)];omega
 have g:@W.ln wv _ (M++[t])=(M.length:AI)+1:=by rw [AZ,Ab,As];omega
 simp only [g,f];have d:Fb (M++[t]) (M.length:AI)=AC t:=fg (ZN M _);have a:@W.cm wv .eql (@W.pl wv (M.length:AI) 1) ((M.length:AI)+1)=AE:=by rw [Q3,BZ];simp
 rw [Fj (by omega),BH d,Cy a,GI (by omega) (by omega),BH d,Cy a,FM,Au,jN]
abbrev StT:=HP AI (HP AI (HP (AG (AI×(AG (AI×AI)))) (HP AI (HP AI (HP (AG (AI×AI)) (HP (AG (AI×(AN×(AG (AI×AI))))) (HP (AG (AI×AI)) Unit)))))))
abbrev mkS(r:AQ)(s y:AI)(L:AG Cell)(i:AI)(C:AG Cell)(l:AG Jk):AH (Nx StT (HP (AG (AI×(AN×(AG (AI×AI))))) (HP (AG (AI×AI)) Unit))):=AC (.go ⟨(L.length:AI),i,r,s,y,L,l,C,()⟩)
abbrev pI(r:AQ)(s y:AI)(L:AG Cell)(i:AM):StT:=
 ⟨(L.length:AI),(i:AI),r,s,y,L,sA (Hq (2 * s) (L.take i)),zC (Hq (2 * s) (L.take i)),()⟩
theorem J5x(r:AQ)(s y:AI)(hs:1<=s/\s<=64)(L:AG Cell)(hL:L.length<=1000000)(E:∀c∈L,grid c)(i:AM)(hi:i<L.length) :
  @Qj wv (pI r s y L i)=AC (.go (pI r s y L (i+1))):=by
 have hx:=Aa hi;unfold pI;rw [Jxm hx];generalize L[i]=c at hx;unfold Qj;dsimp only;rw [Ky (by omega),AZ,Fj (by omega),BH (fg hx),J6,wr (n:=(i:AI)+1) (by omega) (by omega)];cases i with
 | zero=>
  rw [BF (by rfl),Dc];dsimp only [Hq,List.foldl_nil,sA,zC,F3];rw [TQ (by rw [BZ,AZ];simp) (by rw [BZ,AZ];simp)];exact J0a [] ((4,(AF,[])):Jk) (by simp) 1 (by omega) (mkS r s y L (((0:AM):AI)+1) [c])
 | succ j=>
  have B:j<L.length:=by omega
  obtain ⟨O,C,l,hC,a⟩:=J83 (w:=2 * s) B;have m:L[j]?=AC (TP C):=a.symm;have f:=E _ (Ac m);have g:=xQ λt A=>((J0g (2 * s) (L.take (j+1))).1 t A).2.2.1;rw [(J0g (2 * s) (L.take (j+1))).2,l,Ah] at g;have hO:O.length+1<=1000000:=by have:=g.1;simp only [sT,Ab,As] at this;omega
  have hCl:C.length<=1000000:=by have:=g.2 (4,(AF,C)) (Aw _ (Ae.2 rfl));dsimp only at this;omega
  rw [l,BA (by rw [Q3];simp;omega),Yc,wr (n:=((j+1:AM):AI) - 1) (by omega) (by omega),show ((j+1:AM):AI) - 1=(j:AI) by omega,Fj (by omega),BH (fg m),fO hs f];dsimp only [sA,zC,F3];have h:@W.ap wv _ (@W.ml wv _ (O++[((4,(AF,[])):Jk)]) λy=>(y.1,(y.2.1,C))) ((4,(AF,[]))::[])=(O++[(4,(AF,C))])++[(4,(AF,[]))]:=by rw [DL,Nc,Qi]
  by_cases e:SN (2 * s) (TP C)=c
  .rw [BA (by rw [BO,Nf,Q3,Q3,e];simp),AS e];exact J0a O ((4,(AF,[])):Jk) (by omega) (@W.pl wv (@W.ln wv _ C) 1) (by rw [BZ,AZ];omega) (mkS r s y L (((j+1:AM):AI)+1) (C++[c]))
  .have d:@W.nt wv (@W.an wv (@W.cm wv .eql (SN (2 * s) (TP C)).1 c.1) (@W.cm wv .eql (SN (2 * s) (TP C)).2 c.2))=AE:=by
    rw [BO,Nf,Q3,Q3];simp only [Bool.not_eq_true',Bool.and_eq_false_iff,beq_eq_false_iff_ne];by_cases v:(SN (2 * s) (TP C)).1=c.1
    .exact .inr λF=>e (Prod.ext v F)
    .exact .inl v
   rw [BF d,AR e,TQ (by rw [BZ,AZ,Ab,As];omega) (by rw [BZ,AZ];omega),h];exact J0a (O++[(4,(AF,C))]) ((4,(AF,[])):Jk) (by rw [Ab,As];omega) 1 (by omega) (mkS r s y L (((j+1:AM):AI)+1) [c])
theorem QA{L M:AG Cell}{w:AI}(h:J30 (L,w)=AC M){α:Type}(k:AG (AI×AI)->AH α):@W.call wv α Jv2 ((L,w):AG (AI×AI)×AI) k=k M:=BM (c:=Jv2) h
theorem J95(r:AQ)(s:AI)(hl:DJ r)(h:AJ r)(v:(Jq r).length<=60000)(hs:1<=s/\s<=64) :
  ∃L:AG Cell,L.Perm (pJ r (2 * s))/\∀y:AI,@K0 wv (r,(s,y))=AC (sT (Hq (2 * s) L)):=by
 have g:∀c∈Jq r,grid c:=λc a=>h.bd (Q5.1 a);have m:(pJ r (2 * s)).length<=60000:=Di (Db _ _) v;have f:∀c∈pJ r (2 * s),grid c:=λc a=>g c ((List.mem_filter.1 a).1);obtain ⟨L,hF,hP⟩:=J5j (cf:=KM) (okw:=kY) (ok:=VL) (d0:=zS) (λn _=>pE n) (l:=pJ r (2 * s)) (n:=2 * s) (by omega) (by unfold kY;exact AW (by omega)) (λc a=>by have:=f c a;unfold grid at this;unfold VL;exact AW (by omega))
 have hF:J30 (pJ r (2 * s),2 * s)=AC L:=hF;have hLl:=hP.length_eq;have hgL:∀c∈L,grid c:=λc a=>f c (hP.mem_iff.1 a);refine ⟨L,hP,λy=>?_⟩;unfold K0;dsimp only;rw [Jjt hl (λ_=>by omega),AS h,vI,wr (by omega) (by omega)];refine (BN (J9x (Jq r) (by omega) g r s y (2 * s) (by omega) (by omega))).trans ?_;dsimp only;refine (QA hF _).trans ?_;have d:=Kc (b:=@Qj wv) (e:=⟨sA (Hq (2 * s) L),zC (Hq (2 * s) L),()⟩) (pI r s y L) L.length (by omega) (λi hi=>J5x r s y hs L (by omega) hgL i hi) (by unfold Qj pI;dsimp only;rw [J2 (by omega),Ad])
 refine (BN d).trans ?_;exact AT AC (pQ _)
theorem P9{α:Type}{a:(AG (AI×AG (AI×AI)))×(AI×AI)}{l:AG Jk}(h:@K0 wv a=AC l)(k:AG (AI×(AN×AG (AI×AI)))->AH α):@W.call wv α jt a k=k l:=BM (c:=jt) h
theorem J3f{r:AQ}(h:AJ r):(GL r).length<=(Jq r).length/\∀t∈GL r,t.2.2.length<=(Jq r).length:=by
 have a:Iu (r.foldl DY AD):=Jvt _ h.rs Kac;have d:(Yo (r.foldl DY AD)).length=(Jq r).length:=by rw [xW];simp [Yo,zT,Jq]
 rw [<-d];exact a.le
def KX(t:Jk):Jk:=(4,t.2)
end Go.Proofs.YtmfagdfkpjgeiaaGreat
