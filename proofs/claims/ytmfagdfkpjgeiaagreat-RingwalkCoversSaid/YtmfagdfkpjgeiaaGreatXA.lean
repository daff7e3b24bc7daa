/- The typed texts of functions, and that they are right. Conditions: none. -/
import Derived.Test.YtmfagdfkpjgeiaaGreatOB
import Derived.Test.YtmfagdfkpjgeiaaGreatProg
import Derived.Test.YtmfagdfkpjgeiaaGreatFB
import Derived.Test.YtmfagdfkpjgeiaaGreatTT
set_option linter.unusedVariables false
set_option linter.unusedSimpArgs false
set_option maxRecDepth 100000
namespace Go.Proofs.YtmfagdfkpjgeiaaGreat
open Go Go.Vv Go.Dn Go.Dn.W
noncomputable abbrev PG:Program:=Tryz.prog
noncomputable def cxO (Γ:FuncId→Option Ctr) (kp nc:List Nat) (so:List SCt) (jn:List Nat) (bi:List (Nat×Bi)) (mo:List Nat):Cx:=⟨Γ,tyM PG mo,fun f=>match memN f nc with|true=>none|false=>compF PG f,fun k=>memN k kp,[],false,soL so,fun k=>memN k jn,fun f=>lookB f bi⟩
noncomputable def gam (l:List (Nat×Ctr)) (f:FuncId):Option Ctr:=Go.Dn.look f l
theorem J15 (Γ:FuncId→Option Ctr) (kp nc:List Nat) (so:List SCt) (jn:List Nat) (bi:List (Nat×Bi)) (mo:List Nat):Jqx PG (cxO Γ kp nc so jn bi mo):=fun f lf h=>by
 have h:(match memN f nc with|true=>none|false=>compF PG f)=some lf:=h
 split at h
 ·cases h
 ·exact h
theorem Kj {P:Program}:∀x∈([]:List SCt),Jcr P x:=fun x h=>by cases h
theorem Jt4 {P:Program} {x:SCt} {l:List SCt} (h:Jcr P x) (t:∀x∈l,Jcr P x):∀y∈x::l,Jcr P y:=fun y hy=>by
 rcases List.mem_cons.1 hy with rfl|hy
 ·exact h
 ·exact t y hy
def fnB (P : Program) (f : FuncId) : Bool := match P.funcs[f]? with | some fn => fn.body.isSome && !(fn.name == "runtime.NumGoroutine") | none => false
theorem Jv {f:FuncId} (h:fnB PG f=true):FnOK PG f:=by
 unfold fnB at h
 split at h
 ·rename_i fn hf
  simp only [Bool.and_eq_true,Bool.not_eq_true'] at h
  exact ⟨fn,hf,h.1,h.2⟩
 ·cases h
theorem mixed:PG.follows .mixedOrders=true:=by kernel_rfl
theorem Jx:Jpa PG (gam []):=fun f c h=>by cases h
theorem Jk {c:Ctr} {l:List (Nat×Ctr)} (h:Go.Dn.Good PG c) (t:Jpa PG (gam l)):Jpa PG (gam ((c.id,c)::l)):=fun f x hx=>by
 have hx:Go.Dn.look f ((c.id,c)::l)=some x:=hx
 rw [J9] at hx
 split at hx
 ·rename_i e
  injection hx with hx
  subst hx
  exact ⟨e,h⟩
 ·exact t f x hx
def BiL (P:Program) (l:List (Nat×Bi)):Prop:=∀f B,lookB f l=some B→Je1 P f B
theorem Kl:BiL PG []:=fun f B h=>by cases h
theorem Jk2 {f:Nat} {B:Bi} {l:List (Nat×Bi)} (h:Je1 PG f B) (t:BiL PG l):BiL PG ((f,B)::l):=fun g C hc=>by
 unfold lookB at hc
 split at hc
 ·rename_i e
  injection hc with hc
  subst hc
  exact Nat.eq_of_beq_eq_true e▸h
 ·exact t g C hc
theorem good (Γ:FuncId→Option Ctr) (kp nc:List Nat) (so:List SCt) (jn:List Nat) (bi:List (Nat×Bi)) (mo:List Nat) (n:Nat) {c:Ctr} (hΓ:Jpa PG Γ) (hso:∀x∈so,Jcr PG x) (hbi:BiL PG bi) (hfn:FnOK PG c.id) (hok:c.ok=true) (hrk:c.rs.all rkOK=true) (hf:∀x,fnD val (cxO Γ kp nc so jn bi mo) n c.id c.as c.rs x=c.fn x):Go.Dn.Good PG c :=
 good_of (cx:=cxO Γ kp nc so jn bi mo) rfl hΓ mixed (soL_ok hso) hbi (J15 Γ kp nc so jn bi mo) rfl rfl hok hrk hfn fun x r h=>(hf x).trans h
theorem own (Γ:FuncId→Option Ctr) (kp nc:List Nat) (so:List SCt) (jn:List Nat) (bi:List (Nat×Bi)) (mo:List Nat) (n:Nat) {c:OCt} (hΓ:Jpa PG Γ) (hso:∀x∈so,Jcr PG x) (hbi:BiL PG bi) (hfn:FnOK PG c.id) (hok:c.as.all akOK=true) (hpos:0<c.t.sz) (hlt:Nat.ble yB c.id=false) (hf:∀x,fnO val (cxO Γ kp nc so jn bi mo) n c.id c.as c.t c.el x=c.fn x):OGood PG c :=
 own_of (cx:=cxO Γ kp nc so jn bi mo) rfl hΓ mixed (soL_ok hso) hbi (J15 Γ kp nc so jn bi mo) rfl rfl hok hpos hfn hlt fun x r h=>(hf x).trans h
noncomputable def Jc6 [W] (a:(Int×Int)):Option Bool :=
 br (cm .geq a.1 (-1048576)) (br (cm .leq a.1 1048576) (br (cm .geq a.2 (-1048576)) (some (cm .leq a.2 1048576))
 (some false))
 (some false))
 (some false)
noncomputable def j7:Ctr:=⟨129,[(.ag,(.p I I))],[(false,.bool)],@Jc6 wv⟩
theorem Js6 (w:W) (a):fnD (dW w) (cxO (gam []) [] [] [] [] [] []) 8 129 [(.ag,(.p I I))] [(false,.bool)] a=@Jc6 w a:=by kernel_rfl
theorem Juj:Go.Dn.Good PG j7:=good (gam []) [] [] [] [] [] [] 8 Jx Kj Kl (Jv (by kernel_rfl)) rfl rfl (Js6 wv)
noncomputable def Xx [W] (a:((List (Int×Int))×Int)):Option Bool :=
 gd (cm .neq 2 0) <|
 some (cm .eql (ar .rem .i64 a.2 2) 1)
noncomputable def Jm:Ctr:=⟨191,[(.rp,(.p (.ls (.p I I)) I))],[(false,.bool)],@Xx wv⟩
theorem Jeq (w:W) (a):fnD (dW w) (cxO (gam []) [] [] [] [] [] []) 8 191 [(.rp,(.p (.ls (.p I I)) I))] [(false,.bool)] a=@Xx w a:=by kernel_rfl
theorem Za:Go.Dn.Good PG Jm:=good (gam []) [] [] [] [] [] [] 8 Jx Kj Kl (Jv (by kernel_rfl)) rfl rfl (Jeq wv)
noncomputable def Jcu [W] (a:Int):Option Bool :=
 br (cm .geq a (-4096)) (some (cm .lss a 4096))
 (some false)
noncomputable def Kq:Ctr:=⟨67,[(.one,I)],[(false,.bool)],@Jcu wv⟩
theorem Jsq (w:W) (a):fnD (dW w) (cxO (gam []) [] [] [] [] [] []) 8 67 [(.one,I)] [(false,.bool)] a=@Jcu w a:=by kernel_rfl
theorem Ji7:Go.Dn.Good PG Kq:=good (gam []) [] [] [] [] [] [] 8 Jx Kj Kl (Jv (by kernel_rfl)) rfl rfl (Jsq wv)
noncomputable def Yu [W] (s:(HP (List (Int×Int)) (HP (List (Int×Int)) (HP Int (HP Int Unit))))):Option (Nx (HP (List (Int×Int)) (HP (List (Int×Int)) (HP Int (HP Int Unit)))) (Unit ⊕ Unit)) :=
 br (cm .lss s.tl.tl.tl.hd s.tl.tl.hd) (ge s.tl.hd s.tl.tl.tl.hd fun v0 =>
 br (cm .geq v0.1 v0.2) (some (.out (.inl ())))
 (call j7 ((v0.1,v0.2):(Int×Int)) fun (v1:Bool) =>
 br (nt v1) (some (.out (.inl ())))
 (br (cm .gtr s.tl.tl.tl.hd 0) (ge s.hd (ar .sub .i64 s.tl.tl.tl.hd 1) fun v2 =>
 br (cm .leq v0.1 v2.2) (some (.out (.inl ())))
 (some (.go ⟨s.hd,⟨s.tl.hd,⟨s.tl.tl.hd,⟨(ar .add .i64 s.tl.tl.tl.hd 1),()⟩⟩⟩⟩)))
 (some (.go ⟨s.hd,⟨s.tl.hd,⟨s.tl.tl.hd,⟨(ar .add .i64 s.tl.tl.tl.hd 1),()⟩⟩⟩⟩)))))
 (some (.out (.inr ())))
noncomputable def Jd3 [W] (a:(List (Int×Int))):Option Bool :=
 loop Yu ⟨a,⟨a,⟨(ln a),⟨0,()⟩⟩⟩⟩ fun v3 =>
 match v3 with
 | .inl v4=>(some false)
 | .inr v5=>(some true)
noncomputable def J7:Ctr:=⟨68,[(.one,(.ls (.p I I)))],[(false,.bool)],@Jd3 wv⟩
theorem Jr9 (w:W) (a):fnD (dW w) (cxO (gam [(129,j7)]) [] [] [] [] [] []) 8 68 [(.one,(.ls (.p I I)))] [(false,.bool)] a=@Jd3 w a:=by kernel_rfl
theorem Jbp:Go.Dn.Good PG J7:=good (gam [(129,j7)]) [] [] [] [] [] [] 8 (Jk Juj Jx) Kj Kl (Jv (by kernel_rfl)) rfl rfl (Jr9 wv)
noncomputable def X3 [W] (s:(HP (List (Int×(List (Int×Int)))) (HP Int (HP Int (HP (List (Int×(List (Int×Int)))) Unit))))):Option (Nx (HP (List (Int×(List (Int×Int)))) (HP Int (HP Int (HP (List (Int×(List (Int×Int)))) Unit)))) (Unit ⊕ Unit)) :=
 br (cm .lss s.tl.tl.hd s.tl.hd) (ge s.hd s.tl.tl.hd fun v0 =>
 call Kq (v0.1:Int) fun (v1:Bool) =>
 br (nt v1) (some (.out (.inl ())))
 (br (cm .gtr s.tl.tl.hd 0) (ge s.tl.tl.tl.hd (ar .sub .i64 s.tl.tl.hd 1) fun v2 =>
 br (cm .leq v0.1 v2.1) (some (.out (.inl ())))
 (br (cm .eql (ln v0.2) 0) (some (.out (.inl ())))
 (call J7 (v0.2:(List (Int×Int))) fun (v3:Bool) =>
 br (nt v3) (some (.out (.inl ())))
 (ge v0.2 0 fun v4 =>
 call Kq (v4.1:Int) fun (v5:Bool) =>
 br (nt v5) (some (.out (.inl ())))
 (ge v0.2 (ar .sub .i64 (ln v0.2) 1) fun v6 =>
 call Kq ((ar .sub .i64 v6.2 1):Int) fun (v7:Bool) =>
 br (nt v7) (some (.out (.inl ())))
 (some (.go ⟨s.hd,⟨s.tl.hd,⟨(ar .add .i64 s.tl.tl.hd 1),⟨s.tl.tl.tl.hd,()⟩⟩⟩⟩)))))))
 (br (cm .eql (ln v0.2) 0) (some (.out (.inl ())))
 (call J7 (v0.2:(List (Int×Int))) fun (v8:Bool) =>
 br (nt v8) (some (.out (.inl ())))
 (ge v0.2 0 fun v9 =>
 call Kq (v9.1:Int) fun (v10:Bool) =>
 br (nt v10) (some (.out (.inl ())))
 (ge v0.2 (ar .sub .i64 (ln v0.2) 1) fun v11 =>
 call Kq ((ar .sub .i64 v11.2 1):Int) fun (v12:Bool) =>
 br (nt v12) (some (.out (.inl ())))
 (some (.go ⟨s.hd,⟨s.tl.hd,⟨(ar .add .i64 s.tl.tl.hd 1),⟨s.tl.tl.tl.hd,()⟩⟩⟩⟩))))))))
 (some (.out (.inr ())))
noncomputable def zl [W] (a:(List (Int×(List (Int×Int))))):Option Bool :=
 loop X3 ⟨a,⟨(ln a),⟨0,⟨a,()⟩⟩⟩⟩ fun v13 =>
 match v13 with
 | .inl v14=>(some false)
 | .inr v15=>(some true)
noncomputable def J2:Ctr:=⟨23,[(.ag,(.ls (.p I (.ls (.p I I)))))],[(false,.bool)],@zl wv⟩
theorem Jlj (w:W) (a):fnD (dW w) (cxO (gam [(67,Kq),(68,J7)]) [] [] [] [] [] []) 8 23 [(.ag,(.ls (.p I (.ls (.p I I)))))] [(false,.bool)] a=@zl w a:=by kernel_rfl
theorem zo:Go.Dn.Good PG J2:=good (gam [(67,Kq),(68,J7)]) [] [] [] [] [] [] 8 (Jk Ji7 (Jk Jbp Jx)) Kj Kl (Jv (by kernel_rfl)) rfl rfl (Jlj wv)
noncomputable def Ym [W] (a:((List (Int×Int))×Int)):Option Bool :=
 some (cm .eql a.2 (ar .mul .i64 2 (ln a.1)))
noncomputable def Js:Ctr:=⟨188,[(.rp,(.p (.ls (.p I I)) I))],[(false,.bool)],@Ym wv⟩
theorem Jf0 (w:W) (a):fnD (dW w) (cxO (gam []) [] [] [] [] [] []) 8 188 [(.rp,(.p (.ls (.p I I)) I))] [(false,.bool)] a=@Ym w a:=by kernel_rfl
theorem jt:Go.Dn.Good PG Js:=good (gam []) [] [] [] [] [] [] 8 Jx Kj Kl (Jv (by kernel_rfl)) rfl rfl (Jf0 wv)
noncomputable def Yp [W] (a:((List (Int×Int))×Int)):Option Int :=
 call Js (a:((List (Int×Int))×Int)) fun (v0:Bool) =>
 br v0 (some 1048577)
 (call Jm (a:((List (Int×Int))×Int)) fun (v1:Bool) =>
 br v1 (gd (cm .neq 2 0) <|
 ge a.1 (ar .quo .i64 a.2 2) fun v2 =>
 some v2.2)
 (gd (cm .neq 2 0) <|
 ge a.1 (ar .quo .i64 a.2 2) fun v3 =>
 some v3.1))
noncomputable def Jq:Ctr:=⟨189,[(.rp,(.p (.ls (.p I I)) I))],[(false,I)],@Yp wv⟩
theorem Jf2 (w:W) (a):fnD (dW w) (cxO (gam [(188,Js),(191,Jm)]) [] [] [] [] [] []) 8 189 [(.rp,(.p (.ls (.p I I)) I))] [(false,I)] a=@Yp w a:=by kernel_rfl
theorem Jbt:Go.Dn.Good PG Jq:=good (gam [(188,Js),(191,Jm)]) [] [] [] [] [] [] 8 (Jk jt (Jk Za Jx)) Kj Kl (Jv (by kernel_rfl)) rfl rfl (Jf2 wv)
noncomputable def Xg [W] (s:(HP Bool (HP (List (Int×Int)) (HP Int (HP (List (Int×Int)) (HP Int (HP (List (Int×Int)) Unit))))))):Option ((HP Bool (HP (List (Int×Int)) (HP Int (HP (List (Int×Int)) (HP Int (HP (List (Int×Int)) Unit)))))) ⊕ (HP (List (Int×Int)) Unit)) :=
 call Js ((s.tl.hd,s.tl.tl.hd):((List (Int×Int))×Int)) fun (v2:Bool) =>
 br (nt v2) (some ((.inl ⟨s.hd,⟨s.tl.hd,⟨s.tl.tl.hd,⟨s.tl.tl.tl.hd,⟨s.tl.tl.tl.tl.hd,⟨s.tl.tl.tl.tl.tl.hd,()⟩⟩⟩⟩⟩⟩)))
 (call Js ((s.tl.tl.tl.hd,s.tl.tl.tl.tl.hd):((List (Int×Int))×Int)) fun (v3:Bool) =>
 br (nt v3) (some ((.inl ⟨s.hd,⟨s.tl.hd,⟨s.tl.tl.hd,⟨s.tl.tl.tl.hd,⟨s.tl.tl.tl.tl.hd,⟨s.tl.tl.tl.tl.tl.hd,()⟩⟩⟩⟩⟩⟩)))
 (some ((.inr ⟨s.tl.tl.tl.tl.tl.hd,()⟩))))
noncomputable def jc [W] (v5:(HP Bool (HP (List (Int×Int)) (HP Int (HP (List (Int×Int)) (HP Int (HP (List (Int×Int)) Unit))))))) (v6:Int) (v7:Int):Option (HP Bool (HP Int (HP (List (Int×Int)) (HP Int (HP (List (Int×Int)) (HP Int (HP (List (Int×Int)) Unit))))))) :=
 call Jq ((v5.tl.hd,v5.tl.tl.hd):((List (Int×Int))×Int)) fun (v8:Int) =>
 br (cm .eql v8 (mn v6 v7)) (some (⟨v5.hd,⟨(mn v6 v7),⟨v5.tl.hd,⟨(ar .add .i64 v5.tl.tl.hd 1),⟨v5.tl.tl.tl.hd,⟨v5.tl.tl.tl.tl.hd,⟨v5.tl.tl.tl.tl.tl.hd,()⟩⟩⟩⟩⟩⟩⟩))
 (some (⟨v5.hd,⟨(mn v6 v7),⟨v5.tl.hd,⟨v5.tl.tl.hd,⟨v5.tl.tl.tl.hd,⟨v5.tl.tl.tl.tl.hd,⟨v5.tl.tl.tl.tl.tl.hd,()⟩⟩⟩⟩⟩⟩⟩))
noncomputable def jj [W] (v9:(HP Bool (HP Int (HP (List (Int×Int)) (HP Int (HP (List (Int×Int)) (HP Int (HP (List (Int×Int)) Unit)))))))):Option (HP Bool (HP Int (HP (List (Int×Int)) (HP Int (HP (List (Int×Int)) (HP Int (HP (List (Int×Int)) Unit))))))) :=
 call Jq ((v9.tl.tl.tl.tl.hd,v9.tl.tl.tl.tl.tl.hd):((List (Int×Int))×Int)) fun (v10:Int) =>
 br (cm .eql v10 v9.tl.hd) (some (⟨v9.hd,⟨v9.tl.hd,⟨v9.tl.tl.hd,⟨v9.tl.tl.tl.hd,⟨v9.tl.tl.tl.tl.hd,⟨(ar .add .i64 v9.tl.tl.tl.tl.tl.hd 1),⟨v9.tl.tl.tl.tl.tl.tl.hd,()⟩⟩⟩⟩⟩⟩⟩))
 (some (⟨v9.hd,⟨v9.tl.hd,⟨v9.tl.tl.hd,⟨v9.tl.tl.tl.hd,⟨v9.tl.tl.tl.tl.hd,⟨v9.tl.tl.tl.tl.tl.hd,⟨v9.tl.tl.tl.tl.tl.tl.hd,()⟩⟩⟩⟩⟩⟩⟩))
noncomputable def jm [W] (v11:(HP Bool (HP Int (HP (List (Int×Int)) (HP Int (HP (List (Int×Int)) (HP Int (HP (List (Int×Int)) Unit)))))))):Option (HP Bool (HP Int (HP Bool (HP (List (Int×Int)) (HP Int (HP (List (Int×Int)) (HP Int (HP (List (Int×Int)) Unit)))))))) :=
 call Jm ((v11.tl.tl.hd,v11.tl.tl.tl.hd):((List (Int×Int))×Int)) fun (v12:Bool) =>
 call Jm ((v11.tl.tl.tl.tl.hd,v11.tl.tl.tl.tl.tl.hd):((List (Int×Int))×Int)) fun (v13:Bool) =>
 br v12 (some (⟨v11.hd,⟨v11.tl.hd,⟨(nt v13),⟨v11.tl.tl.hd,⟨v11.tl.tl.tl.hd,⟨v11.tl.tl.tl.tl.hd,⟨v11.tl.tl.tl.tl.tl.hd,⟨v11.tl.tl.tl.tl.tl.tl.hd,()⟩⟩⟩⟩⟩⟩⟩⟩))
 (some (⟨v11.hd,⟨v11.tl.hd,⟨false,⟨v11.tl.tl.hd,⟨v11.tl.tl.tl.hd,⟨v11.tl.tl.tl.tl.hd,⟨v11.tl.tl.tl.tl.tl.hd,⟨v11.tl.tl.tl.tl.tl.tl.hd,()⟩⟩⟩⟩⟩⟩⟩⟩))
noncomputable def Zz [W] (v14:(HP Bool (HP Int (HP Bool (HP (List (Int×Int)) (HP Int (HP (List (Int×Int)) (HP Int (HP (List (Int×Int)) Unit))))))))):Option (HP Bool (HP (List (Int×Int)) (HP Int (HP (List (Int×Int)) (HP Int (HP (List (Int×Int)) Unit)))))) :=
 br v14.tl.tl.hd (br (nt v14.hd) (gd (ft 16 (pl (ln v14.tl.tl.tl.tl.tl.tl.tl.hd) 1)) <|
 some (⟨v14.tl.tl.hd,⟨v14.tl.tl.tl.hd,⟨v14.tl.tl.tl.tl.hd,⟨v14.tl.tl.tl.tl.tl.hd,⟨v14.tl.tl.tl.tl.tl.tl.hd,⟨(ap v14.tl.tl.tl.tl.tl.tl.tl.hd ((v14.tl.hd,0)::[])),()⟩⟩⟩⟩⟩⟩))
 (br (nt v14.tl.tl.hd) (br v14.hd (gd (ib (ar .sub .i64 (ln v14.tl.tl.tl.tl.tl.tl.tl.hd) 1) (ln v14.tl.tl.tl.tl.tl.tl.tl.hd)) <|
 ge v14.tl.tl.tl.tl.tl.tl.tl.hd (ar .sub .i64 (ln v14.tl.tl.tl.tl.tl.tl.tl.hd) 1) fun v15 =>
 some (⟨v14.tl.tl.hd,⟨v14.tl.tl.tl.hd,⟨v14.tl.tl.tl.tl.hd,⟨v14.tl.tl.tl.tl.tl.hd,⟨v14.tl.tl.tl.tl.tl.tl.hd,⟨(st v14.tl.tl.tl.tl.tl.tl.tl.hd (ar .sub .i64 (ln v14.tl.tl.tl.tl.tl.tl.tl.hd) 1) (v15.1,v14.tl.hd)),()⟩⟩⟩⟩⟩⟩))
 (some (⟨v14.tl.tl.hd,⟨v14.tl.tl.tl.hd,⟨v14.tl.tl.tl.tl.hd,⟨v14.tl.tl.tl.tl.tl.hd,⟨v14.tl.tl.tl.tl.tl.tl.hd,⟨v14.tl.tl.tl.tl.tl.tl.tl.hd,()⟩⟩⟩⟩⟩⟩)))
 (some (⟨v14.tl.tl.hd,⟨v14.tl.tl.tl.hd,⟨v14.tl.tl.tl.tl.hd,⟨v14.tl.tl.tl.tl.tl.hd,⟨v14.tl.tl.tl.tl.tl.tl.hd,⟨v14.tl.tl.tl.tl.tl.tl.tl.hd,()⟩⟩⟩⟩⟩⟩))))
 (br (nt v14.tl.tl.hd) (br v14.hd (gd (ib (ar .sub .i64 (ln v14.tl.tl.tl.tl.tl.tl.tl.hd) 1) (ln v14.tl.tl.tl.tl.tl.tl.tl.hd)) <|
 ge v14.tl.tl.tl.tl.tl.tl.tl.hd (ar .sub .i64 (ln v14.tl.tl.tl.tl.tl.tl.tl.hd) 1) fun v16 =>
 some (⟨v14.tl.tl.hd,⟨v14.tl.tl.tl.hd,⟨v14.tl.tl.tl.tl.hd,⟨v14.tl.tl.tl.tl.tl.hd,⟨v14.tl.tl.tl.tl.tl.tl.hd,⟨(st v14.tl.tl.tl.tl.tl.tl.tl.hd (ar .sub .i64 (ln v14.tl.tl.tl.tl.tl.tl.tl.hd) 1) (v16.1,v14.tl.hd)),()⟩⟩⟩⟩⟩⟩))
 (some (⟨v14.tl.tl.hd,⟨v14.tl.tl.tl.hd,⟨v14.tl.tl.tl.tl.hd,⟨v14.tl.tl.tl.tl.tl.hd,⟨v14.tl.tl.tl.tl.tl.tl.hd,⟨v14.tl.tl.tl.tl.tl.tl.tl.hd,()⟩⟩⟩⟩⟩⟩)))
 (some (⟨v14.tl.tl.hd,⟨v14.tl.tl.tl.hd,⟨v14.tl.tl.tl.tl.hd,⟨v14.tl.tl.tl.tl.tl.hd,⟨v14.tl.tl.tl.tl.tl.tl.hd,⟨v14.tl.tl.tl.tl.tl.tl.tl.hd,()⟩⟩⟩⟩⟩⟩)))
noncomputable def Qi [W] (s:(HP Bool (HP (List (Int×Int)) (HP Int (HP (List (Int×Int)) (HP Int (HP (List (Int×Int)) Unit))))))):Option (Nx (HP Bool (HP (List (Int×Int)) (HP Int (HP (List (Int×Int)) (HP Int (HP (List (Int×Int)) Unit)))))) (HP (List (Int×Int)) Unit)) :=
 join (Xg s) fun v4 =>
 match v4 with
 | .inl v5=>(call Jq ((v5.tl.hd,v5.tl.tl.hd):((List (Int×Int))×Int)) fun (v6:Int) =>
 call Jq ((v5.tl.tl.tl.hd,v5.tl.tl.tl.tl.hd):((List (Int×Int))×Int)) fun (v7:Int) =>
 join (jc v5 v6 v7) fun v9 =>
 join (jj v9) fun v11 =>
 join (jm v11) fun v14 =>
 join (Zz v14) fun v17 =>
 some (.go ⟨v17.hd,⟨v17.tl.hd,⟨v17.tl.tl.hd,⟨v17.tl.tl.tl.hd,⟨v17.tl.tl.tl.tl.hd,⟨v17.tl.tl.tl.tl.tl.hd,()⟩⟩⟩⟩⟩⟩))
 | .inr v18=>(some (.out ⟨v18.hd,()⟩))
noncomputable def jb [W] (a:((List (Int×Int))×(List (Int×Int)))):Option (List (Int×Int)) :=
 call J7 (a.1:(List (Int×Int))) fun (v0:Bool) =>
 br (nt v0) (some [])
 (call J7 (a.2:(List (Int×Int))) fun (v1:Bool) =>
 br (nt v1) (some [])
 (loop Qi ⟨false,⟨a.1,⟨0,⟨a.2,⟨0,⟨[],()⟩⟩⟩⟩⟩⟩ fun v19 =>
 some v19.hd))
noncomputable def Kh:Ctr:=⟨91,[(.one,(.ls (.p I I))),(.one,(.ls (.p I I)))],[(false,(.ls (.p I I)))],@jb wv⟩
theorem Jju (w:W) (a):fnD (dW w) (cxO (gam [(188,Js),(189,Jq),(191,Jm),(68,J7)]) [] [] [] [32768007,32768009,32768010,32768011,32768015] [] []) 8 91 [(.one,(.ls (.p I I))),(.one,(.ls (.p I I)))] [(false,(.ls (.p I I)))] a=@jb w a:=by kernel_rfl
theorem Jd2:Go.Dn.Good PG Kh:=good (gam [(188,Js),(189,Jq),(191,Jm),(68,J7)]) [] [] [] [32768007,32768009,32768010,32768011,32768015] [] [] 8 (Jk jt (Jk Jbt (Jk Za (Jk Jbp Jx)))) Kj Kl (Jv (by kernel_rfl)) rfl rfl (Jju wv)
noncomputable def Y4 [W] (a:((List (Int×(List (Int×Int))))×Int)):Option ((List (Int×Int))×(List (Int×Int))) :=
 ge a.1 a.2 fun v0 =>
 br (cm .gtr a.2 0) (ge a.1 (ar .sub .i64 a.2 1) fun v1 =>
 br (cm .eql v1.1 (ar .sub .i64 v0.1 1)) (ge a.1 (ar .sub .i64 a.2 1) fun v2 =>
 br (cm .lss (ar .add .i64 a.2 1) (ln a.1)) (ge a.1 (ar .add .i64 a.2 1) fun v3 =>
 br (cm .eql v3.1 (ar .add .i64 v0.1 1)) (ge a.1 (ar .add .i64 a.2 1) fun v4 =>
 some (v2.2,v4.2))
 (some (v2.2,[])))
 (some (v2.2,[])))
 (br (cm .lss (ar .add .i64 a.2 1) (ln a.1)) (ge a.1 (ar .add .i64 a.2 1) fun v5 =>
 br (cm .eql v5.1 (ar .add .i64 v0.1 1)) (ge a.1 (ar .add .i64 a.2 1) fun v6 =>
 some ([],v6.2))
 (some ([],[])))
 (some ([],[]))))
 (br (cm .lss (ar .add .i64 a.2 1) (ln a.1)) (ge a.1 (ar .add .i64 a.2 1) fun v7 =>
 br (cm .eql v7.1 (ar .add .i64 v0.1 1)) (ge a.1 (ar .add .i64 a.2 1) fun v8 =>
 some ([],v8.2))
 (some ([],[])))
 (some ([],[])))
noncomputable def Qv:Ctr:=⟨169,[(.ag,(.ls (.p I (.ls (.p I I))))),(.one,I)],[(false,(.ls (.p I I))),(false,(.ls (.p I I)))],@Y4 wv⟩
theorem Jhb (w:W) (a):fnD (dW w) (cxO (gam []) [] [] [] [] [] []) 8 169 [(.ag,(.ls (.p I (.ls (.p I I))))),(.one,I)] [(false,(.ls (.p I I))),(false,(.ls (.p I I)))] a=@Y4 w a:=by kernel_rfl
theorem Jhr:Go.Dn.Good PG Qv:=good (gam []) [] [] [] [] [] [] 8 Jx Kj Kl (Jv (by kernel_rfl)) rfl rfl (Jhb wv)
noncomputable def Jr [W] (s:(HP (List Int) (HP Int (HP Int (HP Int Unit))))):Option (Nx (HP (List Int) (HP Int (HP Int (HP Int Unit)))) ((HP Int Unit) ⊕ Unit)) :=
 br (cm .lss s.tl.tl.tl.hd s.tl.tl.hd) (ge s.hd s.tl.tl.tl.hd fun v0 =>
 br (cm .eql s.tl.hd v0) (some (.out (.inl ⟨s.tl.tl.tl.hd,()⟩)))
 (some (.go ⟨s.hd,⟨s.tl.hd,⟨s.tl.tl.hd,⟨(ar .add .i64 s.tl.tl.tl.hd 1),()⟩⟩⟩⟩)))
 (some (.out (.inr ())))
noncomputable def Jl [W] (a:((List Int)×Int)):Option Int :=
 loop Jr ⟨a.1,⟨a.2,⟨(ln a.1),⟨0,()⟩⟩⟩⟩ fun v1 =>
 match v1 with
 | .inl v2=>(some v2.hd)
 | .inr v3=>(some (-1))
noncomputable def Jd:Ctr:=⟨220,[(.one,(.ls I)),(.one,I)],[(false,I)],@Jl wv⟩
theorem Xr (w:W) (a):fnD (dW w) (cxO (gam []) [] [] [] [] [] []) 8 220 [(.one,(.ls I)),(.one,I)] [(false,I)] a=@Jl w a:=by kernel_rfl
theorem J4:Go.Dn.Good PG Jd:=good (gam []) [] [] [] [] [] [] 8 Jx Kj Kl (Jv (by kernel_rfl)) rfl rfl (Xr wv)
noncomputable def Jp [W] (a:((List Int)×Int)):Option Bool :=
 call Jd ((a.1,a.2):((List Int)×Int)) fun (v0:Int) =>
 some (cm .geq v0 0)
noncomputable def Jb:Ctr:=⟨176,[(.one,(.ls I)),(.one,I)],[(false,.bool)],@Jp wv⟩
theorem Qy (w:W) (a):fnD (dW w) (cxO (gam [(220,Jd)]) [] [] [] [] [] []) 8 176 [(.one,(.ls I)),(.one,I)] [(false,.bool)] a=@Jp w a:=by kernel_rfl
theorem Qx:Go.Dn.Good PG Jb:=good (gam [(220,Jd)]) [] [] [] [] [] [] 8 (Jk J4 Jx) Kj Kl (Jv (by kernel_rfl)) rfl rfl (Qy wv)
noncomputable def Qr [W] (a:(Int×(Int×Int))):Option (Int×Int) :=
 br (cm .eql a.1 0) (some ((ar .add .i64 a.2.1 1),a.2.2))
 (br (cm .eql a.1 1) (some (a.2.1,(ar .add .i64 a.2.2 1)))
 (br (cm .eql a.1 2) (some ((ar .sub .i64 a.2.1 1),a.2.2))
 (some (a.2.1,(ar .sub .i64 a.2.2 1)))))
noncomputable def J8:Ctr:=⟨173,[(.one,I),(.ag,(.p I I))],[(true,(.p I I))],@Qr wv⟩
theorem Jc2 (w:W) (a):fnD (dW w) (cxO (gam []) [] [] [] [] [] []) 8 173 [(.one,I),(.ag,(.p I I))] [(true,(.p I I))] a=@Qr w a:=by kernel_rfl
theorem Jci:Go.Dn.Good PG J8:=good (gam []) [] [] [] [] [] [] 8 Jx Kj Kl (Jv (by kernel_rfl)) rfl rfl (Jc2 wv)
noncomputable def Qt [W] (a:Int):Option Int :=
 gd (cm .neq 4 0) <|
 some (ar .rem .i64 (ar .add .i64 a 1) 4)
noncomputable def J5:Ctr:=⟨174,[(.one,I)],[(false,I)],@Qt wv⟩
theorem Jck (w:W) (a):fnD (dW w) (cxO (gam []) [] [] [] [] [] []) 8 174 [(.one,I)] [(false,I)] a=@Qt w a:=by kernel_rfl
theorem Jcq:Go.Dn.Good PG J5:=good (gam []) [] [] [] [] [] [] 8 Jx Kj Kl (Jv (by kernel_rfl)) rfl rfl (Jck wv)
noncomputable def Ql [W] (a:Int):Option Int :=
 gd (cm .neq 4 0) <|
 some (ar .rem .i64 (ar .add .i64 a 3) 4)
noncomputable def J1:Ctr:=⟨175,[(.one,I)],[(false,I)],@Ql wv⟩
theorem Jb9 (w:W) (a):fnD (dW w) (cxO (gam []) [] [] [] [] [] []) 8 175 [(.one,I)] [(false,I)] a=@Ql w a:=by kernel_rfl
theorem Jb7:Go.Dn.Good PG J1:=good (gam []) [] [] [] [] [] [] 8 Jx Kj Kl (Jv (by kernel_rfl)) rfl rfl (Jb9 wv)
noncomputable def Y2 [W] (a:((Int×Int)×(Int×Int))):Option Int :=
 br (cm .neq a.1.2 a.2.2) (some (ar .sub .i64 a.1.2 a.2.2))
 (some (ar .sub .i64 a.1.1 a.2.1))
noncomputable def Jg3:Ctr:=⟨132,[(.ag,(.p I I)),(.ag,(.p I I))],[(false,I)],@Y2 wv⟩
theorem Jg6 (w:W) (a):fnD (dW w) (cxO (gam []) [] [] [] [] [] []) 8 132 [(.ag,(.p I I)),(.ag,(.p I I))] [(false,I)] a=@Y2 w a:=by kernel_rfl
theorem Jhv:Go.Dn.Good PG Jg3:=good (gam []) [] [] [] [] [] [] 8 Jx Kj Kl (Jv (by kernel_rfl)) rfl rfl (Jg6 wv)
noncomputable def J6 [W] (a:(List Int)):Option (List Int) :=
 nq (ln a) fun v0 =>
 br v0 (some [])
 (gd (ft 8 (pl 0 (ln a))) <|
 some a)
noncomputable def Xt:OCt:=⟨222,[(.one,(.ls I))],167,I,@J6 wv⟩
theorem Xb (w:W) (a):fnO (dW w) (cxO (gam []) [] [] [] [] [] []) 8 222 [(.one,(.ls I))] I 167 a=@J6 w a:=by kernel_rfl
theorem Xe:OGood PG Xt:=own (gam []) [] [] [] [] [] [] 8 Jx Kj Kl (Jv (by kernel_rfl)) rfl (by decide) rfl (Xb wv)
end Go.Proofs.YtmfagdfkpjgeiaaGreat
namespace Go.Proofs.YtmfagdfkpjgeiaaGreat
open Go Go.Vv Go.Dn
def cmpB (x y:Int×Int):Int:=if x.2≠y.2 then IntKind.wrap .i64 (x.2 - y.2) else IntKind.wrap .i64 (x.1 - y.1)
def okB (x:Int×Int):Bool:=decide (-4611686018427387904<x.1∧x.1<4611686018427387904∧-4611686018427387904<x.2∧x.2<4611686018427387904)
theorem J18 {n:Int} (h:-9223372036854775808≤n∧n≤9223372036854775807):IntKind.wrap .i64 n=n:=by
 simp only [IntKind.wrap,IntKind.bits,IntKind.signed]
 simp
 omega
theorem Jd4 {x y:Int×Int} (hx:okB x=true) (hy:okB y=true):cmpB x y<0↔x.2<y.2∨x.2=y.2∧x.1<y.1:=by
 simp only [okB,decide_eq_true_eq] at hx hy
 unfold cmpB
 split
 ·rw [J18 (by omega)];omega
 ·rw [J18 (by omega)];omega
theorem swoB:Go.Sort.SWO (Go.Proofs.ltOf fun x y:{x:Int×Int // okB x=true}=>cmpB x.1 y.1):=by
 refine ⟨fun x=>?_,fun x y z h1 h2=>?_,fun x y z h1 h2=>?_⟩
 ·simp only [Go.Proofs.ltOf,decide_eq_false_iff_not,Jd4 x.2 x.2];omega
 ·simp only [Go.Proofs.ltOf,decide_eq_true_eq,Jd4 x.2 y.2,Jd4 y.2 z.2,Jd4 x.2 z.2] at *;omega
 ·simp only [Go.Proofs.ltOf,decide_eq_false_iff_not,Jd4 x.2 y.2,Jd4 y.2 z.2,Jd4 x.2 z.2] at *;omega
def eqB (x y:Int×Int):Bool:=x.1==y.1&&x.2==y.2
theorem eqB_eq (x y:Int×Int) (h:eqB x y=true):x=y:=by
 simp only [eqB,Bool.and_eq_true,beq_iff_eq] at h
 exact Prod.ext h.1 h.2
def zB:{x:Int×Int // okB x=true}:=⟨(0,0),by decide⟩
theorem J1d (x y:Int×Int):@Y2 wv (x,y)=some (cmpB x y):=by
 show (if icm .neq x.2 y.2=true then some (iar .sub .i64 x.2 y.2) else some (iar .sub .i64 x.1 y.1))=_
 unfold cmpB
 by_cases h:x.2=y.2
 ·rw [if_neg (by simp [icm,h]),if_neg (by simp [h])];rfl
 ·rw [if_pos (by simp [icm,h]),if_pos h];rfl
noncomputable def Jis:SCt:=⟨131,132,true,.p I I,Je7 (t:=.p I I) cmpB okB eqB zB⟩
noncomputable def Jm7:Ctr:=Jis.ctr
theorem Jxq:Jcr PG Jis :=
 J0c (P:=PG) (ρ:=Tryz.sortL131_ren) (t:=.p I I) Tryz.sortL131 rfl (fun w=>by kernel_rfl) (fun w=>by kernel_rfl) (g:=132) (fn:=@Y2 wv) Jhv cmpB J1d okB swoB eqB eqB_eq zB (by decide) (Jv (by kernel_rfl))
theorem addT:AddT PG 128 130 167 133 8 :=
 ⟨by kernel_rfl,by kernel_rfl,by kernel_rfl,by kernel_rfl,⟨(PG.info? 167).getD default,by kernel_rfl,by kernel_rfl,by kernel_rfl,by kernel_rfl⟩,by kernel_rfl,by kernel_rfl,by kernel_rfl⟩
def fnAt (P:Program) (f:Nat):Func:=(P.funcs[f]?).getD default
def bodyAt (P:Program) (f:Nat):Code:=((fnAt P f).body).getD .skip
theorem addF:AddF PG 170 128 130 167 133:=⟨rfl,fnAt PG 170,bodyAt PG 170,by kernel_rfl,by kernel_rfl,by kernel_rfl,by kernel_rfl,by kernel_rfl,by kernel_rfl⟩
def Jff:Bi:=addB 167 8
theorem Jrz:Je1 PG 170 Jff:=add_good addF addT
theorem takeF:TakeF PG 172 220 222 221 128 130 167 133 3 4:=⟨rfl,fnAt PG 172,bodyAt PG 172,by kernel_rfl,by kernel_rfl,by kernel_rfl,by kernel_rfl,by kernel_rfl,by kernel_rfl⟩
noncomputable def Jdo:Bi:=takeB 8 220 (@Jl wv)
theorem clone_ok (l:List Int) (h:((l.length:Nat):Int) * (8:Nat)≤room∧((l.length:Nat):Int)≤9223372036854775807):@J6 wv l=some l:=by
 have hf:decide ((0+((l.length:Nat):Int)) * (8:Nat)≤room∧(0+((l.length:Nat):Int))≤9223372036854775807)=true:=by
  rw [decide_eq_true_eq]
  simpa using h
 show nlv ((l.length:Nat):Int) (fun v0=>if v0=true then some [] else if decide ((0+((l.length:Nat):Int)) * (8:Nat)≤room∧(0+((l.length:Nat):Int))≤9223372036854775807)=true then some l else none)=some l
 rw [hf]
 unfold nlv
 split
 ·rename_i h0
  have:l=[]:=List.eq_nil_of_length_eq_zero (by omega)
  subst this
  simp
 ·simp
theorem Jnt:Je1 PG 172 Jdo :=
 J2k (ρ:=Tryz.del221_ren) Tryz.del221 (fun w=>by kernel_rfl) (i0:=(PG.info? 167).getD default) (by kernel_rfl) (by kernel_rfl) (Jv (by kernel_rfl)) takeF addT mixed (by kernel_rfl) J4 Xe clone_ok
end Go.Proofs.YtmfagdfkpjgeiaaGreat
