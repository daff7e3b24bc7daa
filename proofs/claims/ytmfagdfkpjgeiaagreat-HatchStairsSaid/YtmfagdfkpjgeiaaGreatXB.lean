/- The typed texts of functions, and that they are right. Conditions: none. -/
import Derived.Test.YtmfagdfkpjgeiaaGreatXA
set_option linter.unusedVariables false
set_option linter.unusedSimpArgs false
set_option maxRecDepth 100000
namespace Go.Proofs.YtmfagdfkpjgeiaaGreat
open Go Go.Vv Go.Dn Go.Dn.W
abbrev Vb:=List (Int×Int)
abbrev Vc:=HP Int Unit
abbrev Vd:=HP Int (HP (List Int) (HP Int Vc))
abbrev Ve:=HP Int (HP (List (Int×Vb)) Unit)
noncomputable def Kq[W](s:(HP Vb Vc)):Option (Nx (HP Vb Vc) (Unit⊕(HP Vb Unit))):=br (cm .lss s.j.e (ln s.e)) (ge s.e s.j.e λv0=>br (cm .lss v0.1 (-4096)) (some (.out (.inl ()))) (ge s.e s.j.e λv1=>ge s.e s.j.e λv2=>br (cm .geq v1.1 v2.2) (some (.out (.inl ()))) (ge s.e s.j.e λv3=>br (cm .gtr v3.2 4096) (some (.out (.inl ()))) (br (cm .gtr s.j.e 0) (ge s.e s.j.e λv4=>ge s.e (ar .sub .i64 s.j.e 1) λv5=>br (cm .leq v4.1 v5.2) (some (.out (.inl ()))) (some (.go ⟨s.e,(ar .add .i64 s.j.e 1),()⟩))) (some (.go ⟨s.e,(ar .add .i64 s.j.e 1),()⟩)))))) (some (.out (.inr ⟨s.e,()⟩)))
noncomputable def Xh[W](a:Vb):Option Bool:=loop Kq ⟨a,0,()⟩ λe=>match e with|.inl f=>(some false)|.inr d=>(some (cm .gtr (ln d.e) 0))
noncomputable def Kc:Ctr:=⟨61,[(.one,(.ls (.p I I)))],[(false,.bool)],@Xh wv⟩
theorem Jee(w:W)(a):fnD (dW w) (V1 []) 8 61 Kc.as Kc.rs a=@Xh w a:=by kernel_rfl
theorem Jed:V3 Kc:=V2 Jl (Jk (by kernel_rfl)) rfl rfl rfl (Jee wv)
noncomputable def Kk[W](s:Ve):Option (Nx Ve (Unit⊕Unit)):=br (cm .lss s.e (ln s.j.e)) (ge s.j.e s.e λv0=>br (cm .lss v0.1 (-4096)) (some (.out (.inl ()))) (br (cm .geq v0.1 4096) (some (.out (.inl ()))) (br (cm .gtr s.e 0) (ge s.j.e (ar .sub .i64 s.e 1) λv1=>br (cm .leq v0.1 v1.1) (some (.out (.inl ()))) (ge s.j.e s.e λv2=>call Kc (v2.2:Vb) λ(v3:Bool)=>br (nt v3) (some (.out (.inl ()))) (some (.go ⟨(ar .add .i64 s.e 1),s.j⟩)))) (ge s.j.e s.e λv4=>call Kc (v4.2:Vb) λ(v5:Bool)=>br (nt v5) (some (.out (.inl ()))) (some (.go ⟨(ar .add .i64 s.e 1),s.j⟩)))))) (some (.out (.inr ())))
noncomputable def Q8[W](a:(List (Int×Vb))):Option Bool:=loop Kk ⟨0,a,()⟩ λd=>match d with|.inl f=>(some false)|.inr e=>(some true)
noncomputable def Ko:Ctr:=⟨17,[(.ag,(.ls (.p I (.ls (.p I I)))))],[(false,.bool)],@Q8 wv⟩
theorem Jc9(w:W)(a):fnD (dW w) (V1 [(61,Kc)]) 8 17 Ko.as Ko.rs a=@Q8 w a:=by kernel_rfl
theorem Jc4:V3 Ko:=V2 (Jb Jed Jl) (Jk (by kernel_rfl)) rfl rfl rfl (Jc9 wv)
noncomputable def Jac[W](a:Int):Option Bool:=some (cm .neq a a)
noncomputable def Jaf:Ctr:=⟨168,[(.one,I)],[(false,.bool)],@Jac wv⟩
theorem Jse(w:W)(a):fnD (dW w) (V1 []) 8 168 Jaf.as Jaf.rs a=@Jac w a:=by kernel_rfl
theorem Jsr:V3 Jaf:=V2 Jl (Jk (by kernel_rfl)) rfl rfl rfl (Jse wv)
noncomputable def ja[W](a:(Int×Int)):Option Int:=call Jaf (a.1:Int) λ(v0:Bool)=>call Jaf (a.2:Int) λ(v1:Bool)=>br v0 (br v1 (some 0) (some (-1))) (br v1 (some 1) (br (cm .lss a.1 a.2) (some (-1)) (br (cm .gtr a.1 a.2) (some 1) (some 0))))
noncomputable def Kv:Ctr:=⟨125,[(.one,I),(.one,I)],[(false,I)],@ja wv⟩
theorem Jmy(w:W)(a):fnD (dW w) (V1 [(168,Jaf)]) 8 125 Kv.as Kv.rs a=@ja w a:=by kernel_rfl
theorem Jfg:V3 Kv:=V2 (Jb Jsr Jl) (Jk (by kernel_rfl)) rfl rfl rfl (Jmy wv)
noncomputable def Jai[W](s:Vd):Option (Nx Vd (Vc⊕Vc)):=br (cm .lss s.j.j.j.e s.j.j.e) (ge s.j.e s.j.j.j.e λv0=>br (cm .neq v0 s.e) (some (.out (.inl ⟨v0,()⟩))) (some (.go ⟨s.e,s.j.e,s.j.j.e,(ar .add .i64 s.j.j.j.e 1),()⟩))) (some (.out (.inr ⟨s.e,()⟩)))
noncomputable def Jf7[W](a:(List Int)):Option Int:=loop Jai ⟨0,a,(ln a),0,()⟩ λv1=>match v1 with|.inl v2=>(some v2.e)|.inr v3=>(some v3.e)
noncomputable def Jhw:Ctr:=⟨128,[(.one,(.ls I))],[(false,I)],@Jf7 wv⟩
theorem e_cmp_Or(w:W)(a):fnD (dW w) (V1 []) 8 128 Jhw.as Jhw.rs a=@Jf7 w a:=by kernel_rfl
theorem g_cmp_Or:V3 Jhw:=V2 Jl (Jk (by kernel_rfl)) rfl rfl rfl (e_cmp_Or wv)
noncomputable def z6[W](a:((Int×Int)×(Int×Int))):Option Int:=call Kv ((a.1.2,a.2.2):(Int×Int)) λ(v0:Int)=>call Kv ((a.1.1,a.2.1):(Int×Int)) λ(v1:Int)=>call Jhw ((v0::(v1::[])):(List Int)) λ(v2:Int)=>some v2
noncomputable def Jn5:Ctr:=⟨127,[(.ag,(.p I I)),(.ag,(.p I I))],[(false,I)],@z6 wv⟩
theorem Jnl(w:W)(a):fnD (dW w) (V1 [(125,Kv),(128,Jhw)]) 8 127 Jn5.as Jn5.rs a=@z6 w a:=by kernel_rfl
theorem Jno:V3 Jn5:=V2 (Jb Jfg (Jb g_cmp_Or Jl)) (Jk (by kernel_rfl)) rfl rfl rfl (Jnl wv)
end Go.Proofs.YtmfagdfkpjgeiaaGreat
namespace Go.Proofs.YtmfagdfkpjgeiaaGreat
open Go Go.Vv Go.Dn
def cmpI(a b:Int):Int:=if a<b then -1 else if a > b then 1 else 0
def orI(a b:Int):Int:=if a≠0 then a else b
theorem Jt0(a:Int):@Jac wv a=some false:=by show some (icm .neq a a)=_;simp [icm]
theorem Joj{α β:Type}(x:α)(k:α->Option β):Jam (some x) k=k x:=rfl
theorem Jgx(a b:Int):@ja wv (a,b)=some (cmpI a b):=by
 show Jam (@Jac wv a) (λv0=>Jam (@Jac wv b) λv1=>if v0=true then (if v1=true then some 0 else some (-1)) else if v1=true then some 1 else if icm .lss a b=true then some (-1) else if icm .gtr a b=true then some 1 else some 0)=_;rw [Jt0,Jt0,Joj,Joj];simp only [icm,decide_eq_true_eq,Bool.false_eq_true,if_false,cmpI];split
 ·rfl
 ·split<;>rfl
theorem or_ok(a b:Int):@Jf7 wv [a,b]=some (orI a b):=by
 unfold Jf7;show Jam (Xu (@Jai wv) (18446744073709551613+1+1+1) ⟨0,[a,b],(2:Int),0,()⟩) _=_;have d:@Jai wv ⟨0,[a,b],(2:Int),0,()⟩=if icm .neq a 0=true then some (.out (.inl ⟨a,()⟩)) else some (.go ⟨0,[a,b],(2:Int),1,()⟩):=rfl;have l:@Jai wv ⟨0,[a,b],(2:Int),1,()⟩=if icm .neq b 0=true then some (.out (.inl ⟨b,()⟩)) else some (.go ⟨0,[a,b],(2:Int),2,()⟩):=rfl;have m:@Jai wv ⟨0,[a,b],(2:Int),2,()⟩=some (.out (.inr ⟨0,()⟩)):=rfl;by_cases g:a=0
 ·subst g;by_cases h:b=0
  ·subst h;rfl
  ·have e:icm .neq b 0=true:=by simp [icm,h]
   rw [if_neg (by simp [icm])] at d;rw [if_pos e] at l;simp only [Xu,d,l,orI];rfl
 ·have f:icm .neq a 0=true:=by simp [icm,g]
  rw [if_pos f] at d;simp only [Xu,d,orI,if_pos g];rfl
def cmpC(x y:Int×Int):Int:=orI (cmpI x.2 y.2) (cmpI x.1 y.1)
theorem of1_ok(x y:Int×Int):@z6 wv (x,y)=some (cmpC x y):=by show Jam (@ja wv (x.2,y.2)) (λv0=>Jam (@ja wv (x.1,y.1)) λv1=>Jam (@Jf7 wv [v0,v1]) λv2=>some v2)=_;rw [Jgx,Jgx,Joj,Joj,or_ok];rfl
theorem Jjb(x y:Int×Int):cmpC x y<0↔x.2<y.2\/(x.2=y.2/\x.1<y.1):=by
 unfold cmpC orI cmpI;constructor
 ·intro h;split at h<;>(repeat' split at h)<;>omega
 ·intro h;split<;>(repeat' split)<;>omega
end Go.Proofs.YtmfagdfkpjgeiaaGreat
