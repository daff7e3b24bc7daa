/- The typed texts of functions, and that they are right. Conditions: none. -/
import Derived.Test.YtmfagdfkpjgeiaaOA
import Derived.Test.YtmfagdfkpjgeiaaProg
import Derived.Test.YtmfagdfkpjgeiaaFB
import Derived.Test.YtmfagdfkpjgeiaaTT
namespace Go.Proofs.Ytmfagdfkpjgeiaa
open Go Go.Vv Go.Dn Go.Dn.W
set_option linter.unusedVariables false
set_option maxRecDepth 100000
noncomputable abbrev PG:Program:=Try.prog
noncomputable def cxO (Γ:FuncId→Option Ctr) (kp nc:List Nat) (so:List SCt) (jn:List Nat) (bi:List (Nat×Bi)) (mo:List Nat):Cx:=⟨Γ,tyM PG mo,fun f=>match memN f nc with|true=>none|false=>compF PG f,fun k=>memN k kp,[],false,soL so,fun k=>memN k jn,fun f=>lookB f bi⟩
noncomputable def gam (l:List (Nat×Ctr)) (f:FuncId):Option Ctr:=Go.Dn.look f l
theorem Jvu (Γ:FuncId→Option Ctr) (kp nc:List Nat) (so:List SCt) (jn:List Nat) (bi:List (Nat×Bi)) (mo:List Nat):Jmi PG (cxO Γ kp nc so jn bi mo):=fun f lf h=>by
 have h:(match memN f nc with|true=>none|false=>compF PG f)=some lf:=h
 split at h
 ·cases h
 ·exact h
theorem Kg {P:Program}:∀x∈([]:List SCt),Jar P x:=fun x h=>by cases h
theorem so_cons {P:Program} {x:SCt} {l:List SCt} (h:Jar P x) (t:∀x∈l,Jar P x):∀y∈x::l,Jar P y:=fun y hy=>by
 rcases List.mem_cons.1 hy with rfl|hy
 ·exact h
 ·exact t y hy
def fnB (P : Program) (f : FuncId) : Bool := match P.funcs[f]? with | some fn => fn.body.isSome && !(fn.name == "runtime.NumGoroutine") | none => false
theorem Jw {f:FuncId} (h:fnB PG f=true):FnOK PG f:=by
 unfold fnB at h
 split at h
 ·rename_i fn hf
  simp only [Bool.and_eq_true,Bool.not_eq_true'] at h
  exact ⟨fn,hf,h.1,h.2⟩
 ·cases h
theorem mixed:PG.follows .mixedOrders=true:=by kernel_rfl
theorem Jz:Ji4 PG (gam []):=fun f c h=>by cases h
theorem Jm {c:Ctr} {l:List (Nat×Ctr)} (h:Go.Dn.Good PG c) (t:Ji4 PG (gam l)):Ji4 PG (gam ((c.id,c)::l)):=fun f x hx=>by
 have hx:Go.Dn.look f ((c.id,c)::l)=some x:=hx
 rw [Ju] at hx
 split at hx
 ·rename_i e
  injection hx with hx
  subst hx
  exact ⟨e,h⟩
 ·exact t f x hx
def BiL (P:Program) (l:List (Nat×Bi)):Prop:=∀f B,lookB f l=some B→Jey P f B
theorem Ke:BiL PG []:=fun f B h=>by cases h
theorem Js5 {f:Nat} {B:Bi} {l:List (Nat×Bi)} (h:Jey PG f B) (t:BiL PG l):BiL PG ((f,B)::l):=fun g C hc=>by
 unfold lookB at hc
 split at hc
 ·rename_i e
  injection hc with hc
  subst hc
  exact Nat.eq_of_beq_eq_true e▸h
 ·exact t g C hc
theorem good (Γ:FuncId→Option Ctr) (kp nc:List Nat) (so:List SCt) (jn:List Nat) (bi:List (Nat×Bi)) (mo:List Nat) (n:Nat) {c:Ctr} (hΓ:Ji4 PG Γ) (hso:∀x∈so,Jar PG x) (hbi:BiL PG bi) (hfn:FnOK PG c.id) (hok:c.ok=true) (hrk:c.rs.all rkOK=true) (hf:∀x,fnD val (cxO Γ kp nc so jn bi mo) n c.id c.as c.rs x=c.fn x):Go.Dn.Good PG c :=
 good_of (cx:=cxO Γ kp nc so jn bi mo) rfl hΓ mixed (soL_ok hso) hbi (Jvu Γ kp nc so jn bi mo) rfl rfl hok hrk hfn fun x r h=>(hf x).trans h
theorem own (Γ:FuncId→Option Ctr) (kp nc:List Nat) (so:List SCt) (jn:List Nat) (bi:List (Nat×Bi)) (mo:List Nat) (n:Nat) {c:OCt} (hΓ:Ji4 PG Γ) (hso:∀x∈so,Jar PG x) (hbi:BiL PG bi) (hfn:FnOK PG c.id) (hok:c.as.all akOK=true) (hpos:0<c.t.sz) (hlt:Nat.ble yB c.id=false) (hf:∀x,fnO val (cxO Γ kp nc so jn bi mo) n c.id c.as c.t c.el x=c.fn x):OGood PG c :=
 own_of (cx:=cxO Γ kp nc so jn bi mo) rfl hΓ mixed (soL_ok hso) hbi (Jvu Γ kp nc so jn bi mo) rfl rfl hok hpos hfn hlt fun x r h=>(hf x).trans h
noncomputable def t_runs_fits [W] (a:(Int×Int)):Option Bool :=
 br (cm .geq a.1 (-1048576)) (br (cm .leq a.1 1048576) (br (cm .geq a.2 (-1048576)) (some (cm .leq a.2 1048576))
 (some false))
 (some false))
 (some false)
noncomputable def c_runs_fits:Ctr:=⟨60,[(.ag,(.p I I))],[(false,.bool)],@t_runs_fits wv⟩
theorem Jnu (w:W) (a):fnD (dW w) (cxO (gam []) [] [] [] [] [] []) 8 60 [(.ag,(.p I I))] [(false,.bool)] a=@t_runs_fits w a:=by kernel_rfl
theorem Jmq:Go.Dn.Good PG c_runs_fits:=good (gam []) [] [] [] [] [] [] 8 Jz Kg Ke (Jw (by kernel_rfl)) rfl rfl (Jnu wv)
noncomputable def t_runs_bounds_inside [W] (a:((List (Int×Int))×Int)):Option Bool :=
 gd (cm .neq 2 0) <|
 some (cm .eql (ar .rem .i64 a.2 2) 1)
noncomputable def c_runs_bounds_inside:Ctr:=⟨81,[(.rp,(.p (.ls (.p I I)) I))],[(false,.bool)],@t_runs_bounds_inside wv⟩
theorem zx (w:W) (a):fnD (dW w) (cxO (gam []) [] [] [] [] [] []) 8 81 [(.rp,(.p (.ls (.p I I)) I))] [(false,.bool)] a=@t_runs_bounds_inside w a:=by kernel_rfl
theorem Xv:Go.Dn.Good PG c_runs_bounds_inside:=good (gam []) [] [] [] [] [] [] 8 Jz Kg Ke (Jw (by kernel_rfl)) rfl rfl (zx wv)
noncomputable def t_region_ok [W] (a:Int):Option Bool :=
 br (cm .geq a (-4096)) (some (cm .lss a 4096))
 (some false)
noncomputable def c_region_ok:Ctr:=⟨31,[(.one,I)],[(false,.bool)],@t_region_ok wv⟩
theorem Jnt (w:W) (a):fnD (dW w) (cxO (gam []) [] [] [] [] [] []) 8 31 [(.one,I)] [(false,.bool)] a=@t_region_ok w a:=by kernel_rfl
theorem Jep:Go.Dn.Good PG c_region_ok:=good (gam []) [] [] [] [] [] [] 8 Jz Kg Ke (Jw (by kernel_rfl)) rfl rfl (Jnt wv)
noncomputable def t_runs_Valid_L0 [W] (s:(HP (List (Int×Int)) (HP (List (Int×Int)) (HP Int (HP Int Unit))))):Option (Nx (HP (List (Int×Int)) (HP (List (Int×Int)) (HP Int (HP Int Unit)))) (Unit ⊕ Unit)) :=
 br (cm .lss s.tl.tl.tl.hd s.tl.tl.hd) (ge s.tl.hd s.tl.tl.tl.hd fun v0 =>
 br (cm .geq v0.1 v0.2) (some (.out (.inl ())))
 (call c_runs_fits ((v0.1,v0.2):(Int×Int)) fun (v1:Bool) =>
 br (nt v1) (some (.out (.inl ())))
 (br (cm .gtr s.tl.tl.tl.hd 0) (ge s.hd (ar .sub .i64 s.tl.tl.tl.hd 1) fun v2 =>
 br (cm .leq v0.1 v2.2) (some (.out (.inl ())))
 (some (.go ⟨s.hd,⟨s.tl.hd,⟨s.tl.tl.hd,⟨(ar .add .i64 s.tl.tl.tl.hd 1),()⟩⟩⟩⟩)))
 (some (.go ⟨s.hd,⟨s.tl.hd,⟨s.tl.tl.hd,⟨(ar .add .i64 s.tl.tl.tl.hd 1),()⟩⟩⟩⟩)))))
 (some (.out (.inr ())))
noncomputable def t_runs_Valid [W] (a:(List (Int×Int))):Option Bool :=
 loop t_runs_Valid_L0 ⟨a,⟨a,⟨(ln a),⟨0,()⟩⟩⟩⟩ fun v3 =>
 match v3 with
 | .inl v4=>(some false)
 | .inr v5=>(some true)
noncomputable def c_runs_Valid:Ctr:=⟨43,[(.one,(.ls (.p I I)))],[(false,.bool)],@t_runs_Valid wv⟩
theorem Jj6 (w:W) (a):fnD (dW w) (cxO (gam [(60,c_runs_fits)]) [] [] [] [] [] []) 8 43 [(.one,(.ls (.p I I)))] [(false,.bool)] a=@t_runs_Valid w a:=by kernel_rfl
theorem jw:Go.Dn.Good PG c_runs_Valid:=good (gam [(60,c_runs_fits)]) [] [] [] [] [] [] 8 (Jm Jmq Jz) Kg Ke (Jw (by kernel_rfl)) rfl rfl (Jj6 wv)
noncomputable def t_region_Valid_L0 [W] (s:(HP (List (Int×(List (Int×Int)))) (HP Int (HP Int (HP (List (Int×(List (Int×Int)))) Unit))))):Option (Nx (HP (List (Int×(List (Int×Int)))) (HP Int (HP Int (HP (List (Int×(List (Int×Int)))) Unit)))) (Unit ⊕ Unit)) :=
 br (cm .lss s.tl.tl.hd s.tl.hd) (ge s.hd s.tl.tl.hd fun v0 =>
 call c_region_ok (v0.1:Int) fun (v1:Bool) =>
 br (nt v1) (some (.out (.inl ())))
 (br (cm .gtr s.tl.tl.hd 0) (ge s.tl.tl.tl.hd (ar .sub .i64 s.tl.tl.hd 1) fun v2 =>
 br (cm .leq v0.1 v2.1) (some (.out (.inl ())))
 (br (cm .eql (ln v0.2) 0) (some (.out (.inl ())))
 (call c_runs_Valid (v0.2:(List (Int×Int))) fun (v3:Bool) =>
 br (nt v3) (some (.out (.inl ())))
 (ge v0.2 0 fun v4 =>
 call c_region_ok (v4.1:Int) fun (v5:Bool) =>
 br (nt v5) (some (.out (.inl ())))
 (ge v0.2 (ar .sub .i64 (ln v0.2) 1) fun v6 =>
 call c_region_ok ((ar .sub .i64 v6.2 1):Int) fun (v7:Bool) =>
 br (nt v7) (some (.out (.inl ())))
 (some (.go ⟨s.hd,⟨s.tl.hd,⟨(ar .add .i64 s.tl.tl.hd 1),⟨s.tl.tl.tl.hd,()⟩⟩⟩⟩)))))))
 (br (cm .eql (ln v0.2) 0) (some (.out (.inl ())))
 (call c_runs_Valid (v0.2:(List (Int×Int))) fun (v8:Bool) =>
 br (nt v8) (some (.out (.inl ())))
 (ge v0.2 0 fun v9 =>
 call c_region_ok (v9.1:Int) fun (v10:Bool) =>
 br (nt v10) (some (.out (.inl ())))
 (ge v0.2 (ar .sub .i64 (ln v0.2) 1) fun v11 =>
 call c_region_ok ((ar .sub .i64 v11.2 1):Int) fun (v12:Bool) =>
 br (nt v12) (some (.out (.inl ())))
 (some (.go ⟨s.hd,⟨s.tl.hd,⟨(ar .add .i64 s.tl.tl.hd 1),⟨s.tl.tl.tl.hd,()⟩⟩⟩⟩))))))))
 (some (.out (.inr ())))
noncomputable def t_region_Valid [W] (a:(List (Int×(List (Int×Int))))):Option Bool :=
 loop t_region_Valid_L0 ⟨a,⟨(ln a),⟨0,⟨a,()⟩⟩⟩⟩ fun v13 =>
 match v13 with
 | .inl v14=>(some false)
 | .inr v15=>(some true)
noncomputable def c_region_Valid:Ctr:=⟨24,[(.ag,(.ls (.p I (.ls (.p I I)))))],[(false,.bool)],@t_region_Valid wv⟩
theorem Jf7 (w:W) (a):fnD (dW w) (cxO (gam [(31,c_region_ok),(43,c_runs_Valid)]) [] [] [] [] [] []) 8 24 [(.ag,(.ls (.p I (.ls (.p I I)))))] [(false,.bool)] a=@t_region_Valid w a:=by kernel_rfl
theorem Yy:Go.Dn.Good PG c_region_Valid:=good (gam [(31,c_region_ok),(43,c_runs_Valid)]) [] [] [] [] [] [] 8 (Jm Jep (Jm jw Jz)) Kg Ke (Jw (by kernel_rfl)) rfl rfl (Jf7 wv)
noncomputable def t_runs_bounds_over [W] (a:((List (Int×Int))×Int)):Option Bool :=
 some (cm .eql a.2 (ar .mul .i64 2 (ln a.1)))
noncomputable def c_runs_bounds_over:Ctr:=⟨78,[(.rp,(.p (.ls (.p I I)) I))],[(false,.bool)],@t_runs_bounds_over wv⟩
theorem Jbq (w:W) (a):fnD (dW w) (cxO (gam []) [] [] [] [] [] []) 8 78 [(.rp,(.p (.ls (.p I I)) I))] [(false,.bool)] a=@t_runs_bounds_over w a:=by kernel_rfl
theorem Ym:Go.Dn.Good PG c_runs_bounds_over:=good (gam []) [] [] [] [] [] [] 8 Jz Kg Ke (Jw (by kernel_rfl)) rfl rfl (Jbq wv)
noncomputable def t_runs_bounds_next [W] (a:((List (Int×Int))×Int)):Option Int :=
 call c_runs_bounds_over (a:((List (Int×Int))×Int)) fun (v0:Bool) =>
 br v0 (some 1048577)
 (call c_runs_bounds_inside (a:((List (Int×Int))×Int)) fun (v1:Bool) =>
 br v1 (gd (cm .neq 2 0) <|
 ge a.1 (ar .quo .i64 a.2 2) fun v2 =>
 some v2.2)
 (gd (cm .neq 2 0) <|
 ge a.1 (ar .quo .i64 a.2 2) fun v3 =>
 some v3.1))
noncomputable def c_runs_bounds_next:Ctr:=⟨79,[(.rp,(.p (.ls (.p I I)) I))],[(false,I)],@t_runs_bounds_next wv⟩
theorem Jba (w:W) (a):fnD (dW w) (cxO (gam [(78,c_runs_bounds_over),(81,c_runs_bounds_inside)]) [] [] [] [] [] []) 8 79 [(.rp,(.p (.ls (.p I I)) I))] [(false,I)] a=@t_runs_bounds_next w a:=by kernel_rfl
theorem Jbb:Go.Dn.Good PG c_runs_bounds_next:=good (gam [(78,c_runs_bounds_over),(81,c_runs_bounds_inside)]) [] [] [] [] [] [] 8 (Jm Ym (Jm Xv Jz)) Kg Ke (Jw (by kernel_rfl)) rfl rfl (Jba wv)
noncomputable def t_runs_Subtract_J1 [W] (s:(HP Bool (HP (List (Int×Int)) (HP Int (HP (List (Int×Int)) (HP Int (HP (List (Int×Int)) Unit))))))):Option ((HP Bool (HP (List (Int×Int)) (HP Int (HP (List (Int×Int)) (HP Int (HP (List (Int×Int)) Unit)))))) ⊕ (HP (List (Int×Int)) Unit)) :=
 call c_runs_bounds_over ((s.tl.hd,s.tl.tl.hd):((List (Int×Int))×Int)) fun (v2:Bool) =>
 br (nt v2) (some ((.inl ⟨s.hd,⟨s.tl.hd,⟨s.tl.tl.hd,⟨s.tl.tl.tl.hd,⟨s.tl.tl.tl.tl.hd,⟨s.tl.tl.tl.tl.tl.hd,()⟩⟩⟩⟩⟩⟩)))
 (call c_runs_bounds_over ((s.tl.tl.tl.hd,s.tl.tl.tl.tl.hd):((List (Int×Int))×Int)) fun (v3:Bool) =>
 br (nt v3) (some ((.inl ⟨s.hd,⟨s.tl.hd,⟨s.tl.tl.hd,⟨s.tl.tl.tl.hd,⟨s.tl.tl.tl.tl.hd,⟨s.tl.tl.tl.tl.tl.hd,()⟩⟩⟩⟩⟩⟩)))
 (some ((.inr ⟨s.tl.tl.tl.tl.tl.hd,()⟩))))
noncomputable def t_runs_Subtract_J2 [W] (v5:(HP Bool (HP (List (Int×Int)) (HP Int (HP (List (Int×Int)) (HP Int (HP (List (Int×Int)) Unit))))))) (v6:Int) (v7:Int):Option (HP Bool (HP Int (HP (List (Int×Int)) (HP Int (HP (List (Int×Int)) (HP Int (HP (List (Int×Int)) Unit))))))) :=
 call c_runs_bounds_next ((v5.tl.hd,v5.tl.tl.hd):((List (Int×Int))×Int)) fun (v8:Int) =>
 br (cm .eql v8 (mn v6 v7)) (some (⟨v5.hd,⟨(mn v6 v7),⟨v5.tl.hd,⟨(ar .add .i64 v5.tl.tl.hd 1),⟨v5.tl.tl.tl.hd,⟨v5.tl.tl.tl.tl.hd,⟨v5.tl.tl.tl.tl.tl.hd,()⟩⟩⟩⟩⟩⟩⟩))
 (some (⟨v5.hd,⟨(mn v6 v7),⟨v5.tl.hd,⟨v5.tl.tl.hd,⟨v5.tl.tl.tl.hd,⟨v5.tl.tl.tl.tl.hd,⟨v5.tl.tl.tl.tl.tl.hd,()⟩⟩⟩⟩⟩⟩⟩))
noncomputable def t_runs_Subtract_J3 [W] (v9:(HP Bool (HP Int (HP (List (Int×Int)) (HP Int (HP (List (Int×Int)) (HP Int (HP (List (Int×Int)) Unit)))))))):Option (HP Bool (HP Int (HP (List (Int×Int)) (HP Int (HP (List (Int×Int)) (HP Int (HP (List (Int×Int)) Unit))))))) :=
 call c_runs_bounds_next ((v9.tl.tl.tl.tl.hd,v9.tl.tl.tl.tl.tl.hd):((List (Int×Int))×Int)) fun (v10:Int) =>
 br (cm .eql v10 v9.tl.hd) (some (⟨v9.hd,⟨v9.tl.hd,⟨v9.tl.tl.hd,⟨v9.tl.tl.tl.hd,⟨v9.tl.tl.tl.tl.hd,⟨(ar .add .i64 v9.tl.tl.tl.tl.tl.hd 1),⟨v9.tl.tl.tl.tl.tl.tl.hd,()⟩⟩⟩⟩⟩⟩⟩))
 (some (⟨v9.hd,⟨v9.tl.hd,⟨v9.tl.tl.hd,⟨v9.tl.tl.tl.hd,⟨v9.tl.tl.tl.tl.hd,⟨v9.tl.tl.tl.tl.tl.hd,⟨v9.tl.tl.tl.tl.tl.tl.hd,()⟩⟩⟩⟩⟩⟩⟩))
noncomputable def t_runs_Subtract_J4 [W] (v11:(HP Bool (HP Int (HP (List (Int×Int)) (HP Int (HP (List (Int×Int)) (HP Int (HP (List (Int×Int)) Unit)))))))):Option (HP Bool (HP Int (HP Bool (HP (List (Int×Int)) (HP Int (HP (List (Int×Int)) (HP Int (HP (List (Int×Int)) Unit)))))))) :=
 call c_runs_bounds_inside ((v11.tl.tl.hd,v11.tl.tl.tl.hd):((List (Int×Int))×Int)) fun (v12:Bool) =>
 call c_runs_bounds_inside ((v11.tl.tl.tl.tl.hd,v11.tl.tl.tl.tl.tl.hd):((List (Int×Int))×Int)) fun (v13:Bool) =>
 br v12 (some (⟨v11.hd,⟨v11.tl.hd,⟨(nt v13),⟨v11.tl.tl.hd,⟨v11.tl.tl.tl.hd,⟨v11.tl.tl.tl.tl.hd,⟨v11.tl.tl.tl.tl.tl.hd,⟨v11.tl.tl.tl.tl.tl.tl.hd,()⟩⟩⟩⟩⟩⟩⟩⟩))
 (some (⟨v11.hd,⟨v11.tl.hd,⟨false,⟨v11.tl.tl.hd,⟨v11.tl.tl.tl.hd,⟨v11.tl.tl.tl.tl.hd,⟨v11.tl.tl.tl.tl.tl.hd,⟨v11.tl.tl.tl.tl.tl.tl.hd,()⟩⟩⟩⟩⟩⟩⟩⟩))
noncomputable def t_runs_Subtract_J5 [W] (v14:(HP Bool (HP Int (HP Bool (HP (List (Int×Int)) (HP Int (HP (List (Int×Int)) (HP Int (HP (List (Int×Int)) Unit))))))))):Option (HP Bool (HP (List (Int×Int)) (HP Int (HP (List (Int×Int)) (HP Int (HP (List (Int×Int)) Unit)))))) :=
 br v14.tl.tl.hd (br (nt v14.hd) (gd (ft 16 (pl (ln v14.tl.tl.tl.tl.tl.tl.tl.hd) 1)) <|
 some (⟨v14.tl.tl.hd,⟨v14.tl.tl.tl.hd,⟨v14.tl.tl.tl.tl.hd,⟨v14.tl.tl.tl.tl.tl.hd,⟨v14.tl.tl.tl.tl.tl.tl.hd,⟨(ap v14.tl.tl.tl.tl.tl.tl.tl.hd ((v14.tl.hd,0)::[])),()⟩⟩⟩⟩⟩⟩))
 (br (nt v14.tl.tl.hd) (br v14.hd (gd (ib (ar .sub .i64 (ln v14.tl.tl.tl.tl.tl.tl.tl.hd) 1) (ln v14.tl.tl.tl.tl.tl.tl.tl.hd)) <|
 ge v14.tl.tl.tl.tl.tl.tl.tl.hd (ar .sub .i64 (ln v14.tl.tl.tl.tl.tl.tl.tl.hd) 1) fun v15 =>
 some (⟨v14.tl.tl.hd,⟨v14.tl.tl.tl.hd,⟨v14.tl.tl.tl.tl.hd,⟨v14.tl.tl.tl.tl.tl.hd,⟨v14.tl.tl.tl.tl.tl.tl.hd,⟨(st v14.tl.tl.tl.tl.tl.tl.tl.hd (ar .sub .i64 (ln v14.tl.tl.tl.tl.tl.tl.tl.hd) 1) (v15.1,v14.tl.hd)),()⟩⟩⟩⟩⟩⟩))
 (some (⟨v14.tl.tl.hd,⟨v14.tl.tl.tl.hd,⟨v14.tl.tl.tl.tl.hd,⟨v14.tl.tl.tl.tl.tl.hd,⟨v14.tl.tl.tl.tl.tl.tl.hd,⟨v14.tl.tl.tl.tl.tl.tl.tl.hd,()⟩⟩⟩⟩⟩⟩)))
 (some (⟨v14.tl.tl.hd,⟨v14.tl.tl.tl.hd,⟨v14.tl.tl.tl.tl.hd,⟨v14.tl.tl.tl.tl.tl.hd,⟨v14.tl.tl.tl.tl.tl.tl.hd,⟨v14.tl.tl.tl.tl.tl.tl.tl.hd,()⟩⟩⟩⟩⟩⟩))))
 (br (nt v14.tl.tl.hd) (br v14.hd (gd (ib (ar .sub .i64 (ln v14.tl.tl.tl.tl.tl.tl.tl.hd) 1) (ln v14.tl.tl.tl.tl.tl.tl.tl.hd)) <|
 ge v14.tl.tl.tl.tl.tl.tl.tl.hd (ar .sub .i64 (ln v14.tl.tl.tl.tl.tl.tl.tl.hd) 1) fun v16 =>
 some (⟨v14.tl.tl.hd,⟨v14.tl.tl.tl.hd,⟨v14.tl.tl.tl.tl.hd,⟨v14.tl.tl.tl.tl.tl.hd,⟨v14.tl.tl.tl.tl.tl.tl.hd,⟨(st v14.tl.tl.tl.tl.tl.tl.tl.hd (ar .sub .i64 (ln v14.tl.tl.tl.tl.tl.tl.tl.hd) 1) (v16.1,v14.tl.hd)),()⟩⟩⟩⟩⟩⟩))
 (some (⟨v14.tl.tl.hd,⟨v14.tl.tl.tl.hd,⟨v14.tl.tl.tl.tl.hd,⟨v14.tl.tl.tl.tl.tl.hd,⟨v14.tl.tl.tl.tl.tl.tl.hd,⟨v14.tl.tl.tl.tl.tl.tl.tl.hd,()⟩⟩⟩⟩⟩⟩)))
 (some (⟨v14.tl.tl.hd,⟨v14.tl.tl.tl.hd,⟨v14.tl.tl.tl.tl.hd,⟨v14.tl.tl.tl.tl.tl.hd,⟨v14.tl.tl.tl.tl.tl.tl.hd,⟨v14.tl.tl.tl.tl.tl.tl.tl.hd,()⟩⟩⟩⟩⟩⟩)))
noncomputable def t_runs_Subtract_L0 [W] (s:(HP Bool (HP (List (Int×Int)) (HP Int (HP (List (Int×Int)) (HP Int (HP (List (Int×Int)) Unit))))))):Option (Nx (HP Bool (HP (List (Int×Int)) (HP Int (HP (List (Int×Int)) (HP Int (HP (List (Int×Int)) Unit)))))) (HP (List (Int×Int)) Unit)) :=
 join (t_runs_Subtract_J1 s) fun v4 =>
 match v4 with
 | .inl v5=>(call c_runs_bounds_next ((v5.tl.hd,v5.tl.tl.hd):((List (Int×Int))×Int)) fun (v6:Int) =>
 call c_runs_bounds_next ((v5.tl.tl.tl.hd,v5.tl.tl.tl.tl.hd):((List (Int×Int))×Int)) fun (v7:Int) =>
 join (t_runs_Subtract_J2 v5 v6 v7) fun v9 =>
 join (t_runs_Subtract_J3 v9) fun v11 =>
 join (t_runs_Subtract_J4 v11) fun v14 =>
 join (t_runs_Subtract_J5 v14) fun v17 =>
 some (.go ⟨v17.hd,⟨v17.tl.hd,⟨v17.tl.tl.hd,⟨v17.tl.tl.tl.hd,⟨v17.tl.tl.tl.tl.hd,⟨v17.tl.tl.tl.tl.tl.hd,()⟩⟩⟩⟩⟩⟩))
 | .inr v18=>(some (.out ⟨v18.hd,()⟩))
noncomputable def t_runs_Subtract [W] (a:((List (Int×Int))×(List (Int×Int)))):Option (List (Int×Int)) :=
 call c_runs_Valid (a.1:(List (Int×Int))) fun (v0:Bool) =>
 br (nt v0) (some [])
 (call c_runs_Valid (a.2:(List (Int×Int))) fun (v1:Bool) =>
 br (nt v1) (some [])
 (loop t_runs_Subtract_L0 ⟨false,⟨a.1,⟨0,⟨a.2,⟨0,⟨[],()⟩⟩⟩⟩⟩⟩ fun v19 =>
 some v19.hd))
noncomputable def c_runs_Subtract:Ctr:=⟨45,[(.one,(.ls (.p I I))),(.one,(.ls (.p I I)))],[(false,(.ls (.p I I)))],@t_runs_Subtract wv⟩
theorem Jeu (w:W) (a):fnD (dW w) (cxO (gam [(78,c_runs_bounds_over),(79,c_runs_bounds_next),(81,c_runs_bounds_inside),(43,c_runs_Valid)]) [] [] [] [32768007,32768009,32768010,32768011,32768015] [] []) 8 45 [(.one,(.ls (.p I I))),(.one,(.ls (.p I I)))] [(false,(.ls (.p I I)))] a=@t_runs_Subtract w a:=by kernel_rfl
theorem Jei:Go.Dn.Good PG c_runs_Subtract:=good (gam [(78,c_runs_bounds_over),(79,c_runs_bounds_next),(81,c_runs_bounds_inside),(43,c_runs_Valid)]) [] [] [] [32768007,32768009,32768010,32768011,32768015] [] [] 8 (Jm Ym (Jm Jbb (Jm Xv (Jm jw Jz)))) Kg Ke (Jw (by kernel_rfl)) rfl rfl (Jeu wv)
noncomputable def t_boundary_around [W] (a:((List (Int×(List (Int×Int))))×Int)):Option ((List (Int×Int))×(List (Int×Int))) :=
 ge a.1 a.2 fun v0 =>
 br (cm .gtr a.2 0) (ge a.1 (ar .sub .i64 a.2 1) fun v1 =>
 br (cm .eql v1.1 (ar .sub .i64 v0.1 1)) (ge a.1 (ar .sub .i64 a.2 1) fun v2 =>
 br (cm .lss (ar .add .i64 a.2 1) (ln a.1)) (ge a.1 (ar .add .i64 a.2 1) fun v3 =>
 br (cm .eql v3.1 (ar .add .i64 v0.1 1)) (ge a.1 (ar .add .i64 a.2 1) fun v4 =>
 some (v2.2,v4.2))
 (some (v2.2,[])))
 (some (v2.2,[])))
 (br (cm .lss (ar .add .i64 a.2 1) (ln a.1)) (ge a.1 (ar .add .i64 a.2 1) fun v5 =>
 br (cm .eql v5.1 (ar .add .i64 v0.1 1)) (ge a.1 (ar .add .i64 a.2 1) fun v6 =>
 some ([],v6.2))
 (some ([],[])))
 (some ([],[]))))
 (br (cm .lss (ar .add .i64 a.2 1) (ln a.1)) (ge a.1 (ar .add .i64 a.2 1) fun v7 =>
 br (cm .eql v7.1 (ar .add .i64 v0.1 1)) (ge a.1 (ar .add .i64 a.2 1) fun v8 =>
 some ([],v8.2))
 (some ([],[])))
 (some ([],[])))
noncomputable def c_boundary_around:Ctr:=⟨44,[(.ag,(.ls (.p I (.ls (.p I I))))),(.one,I)],[(false,(.ls (.p I I))),(false,(.ls (.p I I)))],@t_boundary_around wv⟩
theorem Jcj (w:W) (a):fnD (dW w) (cxO (gam []) [] [] [] [] [] []) 8 44 [(.ag,(.ls (.p I (.ls (.p I I))))),(.one,I)] [(false,(.ls (.p I I))),(false,(.ls (.p I I)))] a=@t_boundary_around w a:=by kernel_rfl
theorem Jcp:Go.Dn.Good PG c_boundary_around:=good (gam []) [] [] [] [] [] [] 8 Jz Kg Ke (Jw (by kernel_rfl)) rfl rfl (Jcj wv)
noncomputable def t_slices_Indexboundary_heading_boundary_heading__L0 [W] (s:(HP (List Int) (HP Int (HP Int (HP Int Unit))))):Option (Nx (HP (List Int) (HP Int (HP Int (HP Int Unit)))) ((HP Int Unit) ⊕ Unit)) :=
 br (cm .lss s.tl.tl.tl.hd s.tl.tl.hd) (ge s.hd s.tl.tl.tl.hd fun v0 =>
 br (cm .eql s.tl.hd v0) (some (.out (.inl ⟨s.tl.tl.tl.hd,()⟩)))
 (some (.go ⟨s.hd,⟨s.tl.hd,⟨s.tl.tl.hd,⟨(ar .add .i64 s.tl.tl.tl.hd 1),()⟩⟩⟩⟩)))
 (some (.out (.inr ())))
noncomputable def t_slices_Indexboundary_heading_boundary_heading_ [W] (a:((List Int)×Int)):Option Int :=
 loop t_slices_Indexboundary_heading_boundary_heading__L0 ⟨a.1,⟨a.2,⟨(ln a.1),⟨0,()⟩⟩⟩⟩ fun v1 =>
 match v1 with
 | .inl v2=>(some v2.hd)
 | .inr v3=>(some (-1))
noncomputable def c_slices_Indexboundary_heading_boundary_heading_:Ctr:=⟨73,[(.one,(.ls I)),(.one,I)],[(false,I)],@t_slices_Indexboundary_heading_boundary_heading_ wv⟩
theorem Kt (w:W) (a):fnD (dW w) (cxO (gam []) [] [] [] [] [] []) 8 73 [(.one,(.ls I)),(.one,I)] [(false,I)] a=@t_slices_Indexboundary_heading_boundary_heading_ w a:=by kernel_rfl
theorem Jr:Go.Dn.Good PG c_slices_Indexboundary_heading_boundary_heading_:=good (gam []) [] [] [] [] [] [] 8 Jz Kg Ke (Jw (by kernel_rfl)) rfl rfl (Kt wv)
noncomputable def t_slices_Containsboundary_heading_boundary_heading_ [W] (a:((List Int)×Int)):Option Bool :=
 call c_slices_Indexboundary_heading_boundary_heading_ ((a.1,a.2):((List Int)×Int)) fun (v0:Int) =>
 some (cm .geq v0 0)
noncomputable def c_slices_Containsboundary_heading_boundary_heading_:Ctr:=⟨53,[(.one,(.ls I)),(.one,I)],[(false,.bool)],@t_slices_Containsboundary_heading_boundary_heading_ wv⟩
theorem Kn (w:W) (a):fnD (dW w) (cxO (gam [(73,c_slices_Indexboundary_heading_boundary_heading_)]) [] [] [] [] [] []) 8 53 [(.one,(.ls I)),(.one,I)] [(false,.bool)] a=@t_slices_Containsboundary_heading_boundary_heading_ w a:=by kernel_rfl
theorem Kk:Go.Dn.Good PG c_slices_Containsboundary_heading_boundary_heading_:=good (gam [(73,c_slices_Indexboundary_heading_boundary_heading_)]) [] [] [] [] [] [] 8 (Jm Jr Jz) Kg Ke (Jw (by kernel_rfl)) rfl rfl (Kn wv)
noncomputable def t_boundary_heading_from [W] (a:(Int×(Int×Int))):Option (Int×Int) :=
 br (cm .eql a.1 0) (some ((ar .add .i64 a.2.1 1),a.2.2))
 (br (cm .eql a.1 1) (some (a.2.1,(ar .add .i64 a.2.2 1)))
 (br (cm .eql a.1 2) (some ((ar .sub .i64 a.2.1 1),a.2.2))
 (some (a.2.1,(ar .sub .i64 a.2.2 1)))))
noncomputable def c_boundary_heading_from:Ctr:=⟨50,[(.one,I),(.ag,(.p I I))],[(true,(.p I I))],@t_boundary_heading_from wv⟩
theorem Zo (w:W) (a):fnD (dW w) (cxO (gam []) [] [] [] [] [] []) 8 50 [(.one,I),(.ag,(.p I I))] [(true,(.p I I))] a=@t_boundary_heading_from w a:=by kernel_rfl
theorem Zk:Go.Dn.Good PG c_boundary_heading_from:=good (gam []) [] [] [] [] [] [] 8 Jz Kg Ke (Jw (by kernel_rfl)) rfl rfl (Zo wv)
noncomputable def t_boundary_heading_left [W] (a:Int):Option Int :=
 gd (cm .neq 4 0) <|
 some (ar .rem .i64 (ar .add .i64 a 1) 4)
noncomputable def c_boundary_heading_left:Ctr:=⟨51,[(.one,I)],[(false,I)],@t_boundary_heading_left wv⟩
theorem Zd (w:W) (a):fnD (dW w) (cxO (gam []) [] [] [] [] [] []) 8 51 [(.one,I)] [(false,I)] a=@t_boundary_heading_left w a:=by kernel_rfl
theorem Zx:Go.Dn.Good PG c_boundary_heading_left:=good (gam []) [] [] [] [] [] [] 8 Jz Kg Ke (Jw (by kernel_rfl)) rfl rfl (Zd wv)
noncomputable def t_boundary_heading_right [W] (a:Int):Option Int :=
 gd (cm .neq 4 0) <|
 some (ar .rem .i64 (ar .add .i64 a 3) 4)
noncomputable def c_boundary_heading_right:Ctr:=⟨52,[(.one,I)],[(false,I)],@t_boundary_heading_right wv⟩
theorem Y0 (w:W) (a):fnD (dW w) (cxO (gam []) [] [] [] [] [] []) 8 52 [(.one,I)] [(false,I)] a=@t_boundary_heading_right w a:=by kernel_rfl
theorem Y3:Go.Dn.Good PG c_boundary_heading_right:=good (gam []) [] [] [] [] [] [] 8 Jz Kg Ke (Jw (by kernel_rfl)) rfl rfl (Y0 wv)
noncomputable def t_boundary_before [W] (a:((Int×Int)×(Int×Int))):Option Int :=
 br (cm .neq a.1.2 a.2.2) (some (ar .sub .i64 a.1.2 a.2.2))
 (some (ar .sub .i64 a.1.1 a.2.1))
noncomputable def c_boundary_before:Ctr:=⟨27,[(.ag,(.p I I)),(.ag,(.p I I))],[(false,I)],@t_boundary_before wv⟩
theorem Jb1 (w:W) (a):fnD (dW w) (cxO (gam []) [] [] [] [] [] []) 8 27 [(.ag,(.p I I)),(.ag,(.p I I))] [(false,I)] a=@t_boundary_before w a:=by kernel_rfl
theorem Jcc:Go.Dn.Good PG c_boundary_before:=good (gam []) [] [] [] [] [] [] 8 Jz Kg Ke (Jw (by kernel_rfl)) rfl rfl (Jb1 wv)
noncomputable def t_slices_Cloneboundary_heading_boundary_heading_ [W] (a:(List Int)):Option (List Int) :=
 nq (ln a) fun v0 =>
 br v0 (some [])
 (gd (ft 8 (pl 0 (ln a))) <|
 some a)
noncomputable def c_slices_Cloneboundary_heading_boundary_heading_:Ctr:=⟨75,[(.one,(.ls I))],[(false,(.ls I))],@t_slices_Cloneboundary_heading_boundary_heading_ wv⟩
noncomputable def o_slices_Cloneboundary_heading_boundary_heading_:OCt:=⟨75,[(.one,(.ls I))],89,I,@t_slices_Cloneboundary_heading_boundary_heading_ wv⟩
theorem Kr (w:W) (a):fnO (dW w) (cxO (gam []) [] [] [] [] [] []) 8 75 [(.one,(.ls I))] I 89 a=@t_slices_Cloneboundary_heading_boundary_heading_ w a:=by kernel_rfl
theorem Kp:OGood PG o_slices_Cloneboundary_heading_boundary_heading_:=own (gam []) [] [] [] [] [] [] 8 Jz Kg Ke (Jw (by kernel_rfl)) rfl (by decide) rfl (Kr wv)
end Go.Proofs.Ytmfagdfkpjgeiaa
namespace Go.Proofs.Ytmfagdfkpjgeiaa
open Go Go.Vv Go.Dn
set_option linter.unusedVariables false
set_option linter.unusedSimpArgs false
set_option maxRecDepth 100000
def cmpB (x y:Int×Int):Int:=if x.2≠y.2 then IntKind.wrap .i64 (x.2 - y.2) else IntKind.wrap .i64 (x.1 - y.1)
def okB (x:Int×Int):Bool:=decide (-4611686018427387904<x.1∧x.1<4611686018427387904∧-4611686018427387904<x.2∧x.2<4611686018427387904)
theorem Jsb {n:Int} (h:-9223372036854775808≤n∧n≤9223372036854775807):IntKind.wrap .i64 n=n:=by
 simp only [IntKind.wrap,IntKind.bits,IntKind.signed]
 simp
 omega
theorem jx {x y:Int×Int} (hx:okB x=true) (hy:okB y=true):cmpB x y<0↔x.2<y.2∨x.2=y.2∧x.1<y.1:=by
 simp only [okB,decide_eq_true_eq] at hx hy
 unfold cmpB
 split
 ·rw [Jsb (by omega)];omega
 ·rw [Jsb (by omega)];omega
theorem swoB:Go.Sort.SWO (Go.Proofs.ltOf fun x y:{x:Int×Int // okB x=true}=>cmpB x.1 y.1):=by
 refine ⟨fun x=>?_,fun x y z h1 h2=>?_,fun x y z h1 h2=>?_⟩
 ·simp only [Go.Proofs.ltOf,decide_eq_false_iff_not,jx x.2 x.2];omega
 ·simp only [Go.Proofs.ltOf,decide_eq_true_eq,jx x.2 y.2,jx y.2 z.2,jx x.2 z.2] at *;omega
 ·simp only [Go.Proofs.ltOf,decide_eq_false_iff_not,jx x.2 y.2,jx y.2 z.2,jx x.2 z.2] at *;omega
def eqB (x y:Int×Int):Bool:=x.1==y.1&&x.2==y.2
theorem eqB_eq (x y:Int×Int) (h:eqB x y=true):x=y:=by
 simp only [eqB,Bool.and_eq_true,beq_iff_eq] at h
 exact Prod.ext h.1 h.2
def zB:{x:Int×Int // okB x=true}:=⟨(0,0),by decide⟩
theorem Js3 (x y:Int×Int):@t_boundary_before wv (x,y)=some (cmpB x y):=by
 show (if icm .neq x.2 y.2=true then some (iar .sub .i64 x.2 y.2) else some (iar .sub .i64 x.1 y.1))=_
 unfold cmpB
 by_cases h:x.2=y.2
 ·rw [if_neg (by simp [icm,h]),if_neg (by simp [h])];rfl
 ·rw [if_pos (by simp [icm,h]),if_pos h];rfl
noncomputable def s26_27:SCt:=⟨26,27,true,.p I I,sortAny (t:=.p I I) cmpB okB eqB zB⟩
noncomputable def c_s26_27:Ctr:=s26_27.ctr
theorem g_s26_27:Jar PG s26_27 :=
 Jui (P:=PG) (ρ:=Try.sortL26_ren) (t:=.p I I) Try.sortL26 rfl (fun w=>by kernel_rfl) (fun w=>by kernel_rfl) (g:=27) (fn:=@t_boundary_before wv) Jcc cmpB Js3 okB swoB eqB eqB_eq zB (by decide) (Jw (by kernel_rfl))
theorem addT:AddT PG 61 63 89 66 8 :=
 ⟨by kernel_rfl,by kernel_rfl,by kernel_rfl,by kernel_rfl,⟨(PG.info? 89).getD default,by kernel_rfl,by kernel_rfl,by kernel_rfl,by kernel_rfl⟩,by kernel_rfl,by kernel_rfl,by kernel_rfl⟩
def fnAt (P:Program) (f:Nat):Func:=(P.funcs[f]?).getD default
def bodyAt (P:Program) (f:Nat):Code:=((fnAt P f).body).getD .skip
theorem addF:AddF PG 46 61 63 89 66:=⟨rfl,fnAt PG 46,bodyAt PG 46,by kernel_rfl,by kernel_rfl,by kernel_rfl,by kernel_rfl,by kernel_rfl,by kernel_rfl⟩
def Jcq:Bi:=addB 89 8
theorem Jnz:Jey PG 46 Jcq:=add_good addF addT
theorem takeF:TakeF PG 49 73 75 74 61 63 89 66 3 4:=⟨rfl,fnAt PG 49,bodyAt PG 49,by kernel_rfl,by kernel_rfl,by kernel_rfl,by kernel_rfl,by kernel_rfl,by kernel_rfl⟩
noncomputable def b_take_8_73:Bi:=takeB 8 73 (@t_slices_Indexboundary_heading_boundary_heading_ wv)
theorem clone_ok (l:List Int) (h:((l.length:Nat):Int) * (8:Nat)≤room∧((l.length:Nat):Int)≤9223372036854775807):@t_slices_Cloneboundary_heading_boundary_heading_ wv l=some l:=by
 have hf:decide ((0+((l.length:Nat):Int)) * (8:Nat)≤room∧(0+((l.length:Nat):Int))≤9223372036854775807)=true:=by
  rw [decide_eq_true_eq]
  simpa using h
 show nlv ((l.length:Nat):Int) (fun v0=>if v0=true then some [] else if decide ((0+((l.length:Nat):Int)) * (8:Nat)≤room∧(0+((l.length:Nat):Int))≤9223372036854775807)=true then some l else none)=some l
 rw [hf]
 unfold nlv
 split
 ·rename_i h0
  have:l=[]:=List.eq_nil_of_length_eq_zero (by omega)
  subst this
  simp
 ·simp
theorem Jj7:Jey PG 49 b_take_8_73 :=
 Juk (ρ:=Try.del74_ren) Try.del74 (fun w=>by kernel_rfl) (i0:=(PG.info? 89).getD default) (by kernel_rfl) (by kernel_rfl) (Jw (by kernel_rfl)) takeF addT mixed (by kernel_rfl) Jr Kp clone_ok
end Go.Proofs.Ytmfagdfkpjgeiaa
