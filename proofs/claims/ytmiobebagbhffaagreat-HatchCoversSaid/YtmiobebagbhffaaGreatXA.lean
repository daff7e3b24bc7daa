/- The typed texts of functions, and that they are right. Conditions: none. -/
import Derived.Test.YtmiobebagbhffaaGreatFA
import Derived.Test.YtmiobebagbhffaaGreatProg
namespace Go.Proofs.YtmiobebagbhffaaGreat
open Go Go.Vv Go.Dn Go.Dn.W
set_option linter.unusedVariables false
set_option maxRecDepth 100000
noncomputable abbrev PG : Program := Tryz.prog
noncomputable def cxO (Γ : FuncId → Option Ctr) (kp nc : List Nat) (so : List SCt) (jn : List Nat) : Cx := ⟨Γ, tyOf PG 8, fun f => match memN f nc with | true => none | false => compF PG f, fun k => memN k kp, [], false, soL so, fun k => memN k jn⟩
noncomputable def gam (l : List (Nat × Ctr)) (f : FuncId) : Option Ctr := Go.Dn.look f l
theorem code_ok (Γ : FuncId → Option Ctr) (kp nc : List Nat) (so : List SCt) (jn : List Nat) : CodeOK PG (cxO Γ kp nc so jn) := fun f lf h => by
  have h : (match memN f nc with | true => none | false => compF PG f) = some lf := h
  split at h
  · cases h
  · exact h
theorem so_nil {P : Program} : ∀ x ∈ ([] : List SCt), SGood P x := fun x h => by cases h
theorem so_cons {P : Program} {x : SCt} {l : List SCt} (h : SGood P x) (t : ∀ x ∈ l, SGood P x) : ∀ y ∈ x :: l, SGood P y := fun y hy => by
  rcases List.mem_cons.1 hy with rfl | hy
  · exact h
  · exact t y hy
def fnB (P : Program) (f : FuncId) : Bool := match P.funcs[f]? with | some fn => fn.body.isSome && !(fn.name == "runtime.NumGoroutine") | none => false
theorem fnOK_of {f : FuncId} (h : fnB PG f = true) : FnOK PG f := by
  unfold fnB at h
  split at h
  · rename_i fn hf
    simp only [Bool.and_eq_true, Bool.not_eq_true'] at h
    exact ⟨fn, hf, h.1, h.2⟩
  · cases h
theorem mixed : PG.follows .mixedOrders = true := by kernel_rfl
theorem gam_nil : GoodL PG (gam []) := fun f c h => by cases h
theorem gam_cons {c : Ctr} {l : List (Nat × Ctr)} (h : Go.Dn.Good PG c) (t : GoodL PG (gam l)) : GoodL PG (gam ((c.id, c) :: l)) := fun f x hx => by
  have hx : Go.Dn.look f ((c.id, c) :: l) = some x := hx
  rw [look_cons] at hx
  split at hx
  · rename_i e
    injection hx with hx
    subst hx
    exact ⟨e, h⟩
  · exact t f x hx
theorem good (Γ : FuncId → Option Ctr) (kp nc : List Nat) (so : List SCt) (jn : List Nat) (n : Nat) {c : Ctr} (hΓ : GoodL PG Γ) (hso : ∀ x ∈ so, SGood PG x) (hfn : FnOK PG c.id) (hok : c.ok = true) (hrk : c.rs.all rkOK = true) (hf : ∀ x, fnD val (cxO Γ kp nc so jn) n c.id c.as c.rs x = c.fn x) : Go.Dn.Good PG c :=
  good_of (cx := cxO Γ kp nc so jn) rfl hΓ mixed (soL_ok hso) (code_ok Γ kp nc so jn) rfl rfl hok hrk hfn fun x r h => (hf x).trans h
noncomputable def t_additivelaw29_few_L1 [W] (s : (HP Int (HP Int (HP (List (Int × (List (Int × Int)))) (HP Int (HP (List (Int × Int)) (HP (List (Int × (List (Int × Int)))) (HP (List (Int × Int)) Unit)))))))) : Option (Nx (HP Int (HP Int (HP (List (Int × (List (Int × Int)))) (HP Int (HP (List (Int × Int)) (HP (List (Int × (List (Int × Int)))) (HP (List (Int × Int)) Unit))))))) (HP Int (HP (List (Int × (List (Int × Int)))) (HP Int (HP (List (Int × Int)) (HP (List (Int × Int)) (HP (List (Int × (List (Int × Int)))) Unit))))))) :=
  br (cm .lss s.tl.hd (ln s.tl.tl.tl.tl.hd)) (ge s.tl.tl.tl.tl.hd s.tl.hd fun v1 =>
  br (cm .lss v1.1 v1.2) (br (cm .gtr v1.1 (-4097)) (br (cm .lss v1.2 4097) (br (cm .gtr (ar .sub .i64 v1.2 20) v1.1) (gd (ft 16 (pl (ln s.tl.tl.tl.tl.tl.tl.hd) 1)) <|
  some (.go ⟨s.hd, ⟨(ar .add .i64 s.tl.hd 1), ⟨s.tl.tl.hd, ⟨s.tl.tl.tl.hd, ⟨s.tl.tl.tl.tl.hd, ⟨s.tl.tl.tl.tl.tl.hd, ⟨(ap s.tl.tl.tl.tl.tl.tl.hd ((v1.1, (ar .add .i64 v1.1 20)) :: [])), ()⟩⟩⟩⟩⟩⟩⟩))
  (gd (ft 16 (pl (ln s.tl.tl.tl.tl.tl.tl.hd) 1)) <|
  some (.go ⟨s.hd, ⟨(ar .add .i64 s.tl.hd 1), ⟨s.tl.tl.hd, ⟨s.tl.tl.tl.hd, ⟨s.tl.tl.tl.tl.hd, ⟨s.tl.tl.tl.tl.tl.hd, ⟨(ap s.tl.tl.tl.tl.tl.tl.hd ((v1.1, v1.2) :: [])), ()⟩⟩⟩⟩⟩⟩⟩)))
  (gd (ft 16 (pl (ln s.tl.tl.tl.tl.tl.tl.hd) 1)) <|
  some (.go ⟨s.hd, ⟨(ar .add .i64 s.tl.hd 1), ⟨s.tl.tl.hd, ⟨s.tl.tl.tl.hd, ⟨s.tl.tl.tl.tl.hd, ⟨s.tl.tl.tl.tl.tl.hd, ⟨(ap s.tl.tl.tl.tl.tl.tl.hd ((v1.1, v1.2) :: [])), ()⟩⟩⟩⟩⟩⟩⟩)))
  (gd (ft 16 (pl (ln s.tl.tl.tl.tl.tl.tl.hd) 1)) <|
  some (.go ⟨s.hd, ⟨(ar .add .i64 s.tl.hd 1), ⟨s.tl.tl.hd, ⟨s.tl.tl.tl.hd, ⟨s.tl.tl.tl.tl.hd, ⟨s.tl.tl.tl.tl.tl.hd, ⟨(ap s.tl.tl.tl.tl.tl.tl.hd ((v1.1, v1.2) :: [])), ()⟩⟩⟩⟩⟩⟩⟩)))
  (gd (ft 16 (pl (ln s.tl.tl.tl.tl.tl.tl.hd) 1)) <|
  some (.go ⟨s.hd, ⟨(ar .add .i64 s.tl.hd 1), ⟨s.tl.tl.hd, ⟨s.tl.tl.tl.hd, ⟨s.tl.tl.tl.tl.hd, ⟨s.tl.tl.tl.tl.tl.hd, ⟨(ap s.tl.tl.tl.tl.tl.tl.hd ((v1.1, v1.2) :: [])), ()⟩⟩⟩⟩⟩⟩⟩)))
  (some (.out ⟨s.hd, ⟨s.tl.tl.hd, ⟨s.tl.tl.tl.hd, ⟨s.tl.tl.tl.tl.hd, ⟨s.tl.tl.tl.tl.tl.tl.hd, ⟨s.tl.tl.tl.tl.tl.hd, ()⟩⟩⟩⟩⟩⟩))
noncomputable def t_additivelaw29_few_L2 [W] (s : (HP Int (HP Int (HP (List (Int × (List (Int × Int)))) (HP Int (HP (List (Int × Int)) (HP (List (Int × (List (Int × Int)))) (HP (List (Int × Int)) Unit)))))))) : Option (Nx (HP Int (HP Int (HP (List (Int × (List (Int × Int)))) (HP Int (HP (List (Int × Int)) (HP (List (Int × (List (Int × Int)))) (HP (List (Int × Int)) Unit))))))) (HP Int (HP (List (Int × (List (Int × Int)))) (HP Int (HP (List (Int × Int)) (HP (List (Int × Int)) (HP (List (Int × (List (Int × Int)))) Unit))))))) :=
  br (cm .lss s.tl.hd (ln s.tl.tl.tl.tl.hd)) (ge s.tl.tl.tl.tl.hd s.tl.hd fun v3 =>
  br (cm .lss v3.1 v3.2) (br (cm .gtr v3.1 (-4097)) (br (cm .lss v3.2 4097) (br (cm .gtr (ar .sub .i64 v3.2 20) v3.1) (gd (ft 16 (pl (ln s.tl.tl.tl.tl.tl.tl.hd) 1)) <|
  some (.go ⟨s.hd, ⟨(ar .add .i64 s.tl.hd 1), ⟨s.tl.tl.hd, ⟨s.tl.tl.tl.hd, ⟨s.tl.tl.tl.tl.hd, ⟨s.tl.tl.tl.tl.tl.hd, ⟨(ap s.tl.tl.tl.tl.tl.tl.hd ((v3.1, (ar .add .i64 v3.1 20)) :: [])), ()⟩⟩⟩⟩⟩⟩⟩))
  (gd (ft 16 (pl (ln s.tl.tl.tl.tl.tl.tl.hd) 1)) <|
  some (.go ⟨s.hd, ⟨(ar .add .i64 s.tl.hd 1), ⟨s.tl.tl.hd, ⟨s.tl.tl.tl.hd, ⟨s.tl.tl.tl.tl.hd, ⟨s.tl.tl.tl.tl.tl.hd, ⟨(ap s.tl.tl.tl.tl.tl.tl.hd ((v3.1, v3.2) :: [])), ()⟩⟩⟩⟩⟩⟩⟩)))
  (gd (ft 16 (pl (ln s.tl.tl.tl.tl.tl.tl.hd) 1)) <|
  some (.go ⟨s.hd, ⟨(ar .add .i64 s.tl.hd 1), ⟨s.tl.tl.hd, ⟨s.tl.tl.tl.hd, ⟨s.tl.tl.tl.tl.hd, ⟨s.tl.tl.tl.tl.tl.hd, ⟨(ap s.tl.tl.tl.tl.tl.tl.hd ((v3.1, v3.2) :: [])), ()⟩⟩⟩⟩⟩⟩⟩)))
  (gd (ft 16 (pl (ln s.tl.tl.tl.tl.tl.tl.hd) 1)) <|
  some (.go ⟨s.hd, ⟨(ar .add .i64 s.tl.hd 1), ⟨s.tl.tl.hd, ⟨s.tl.tl.tl.hd, ⟨s.tl.tl.tl.tl.hd, ⟨s.tl.tl.tl.tl.tl.hd, ⟨(ap s.tl.tl.tl.tl.tl.tl.hd ((v3.1, v3.2) :: [])), ()⟩⟩⟩⟩⟩⟩⟩)))
  (gd (ft 16 (pl (ln s.tl.tl.tl.tl.tl.tl.hd) 1)) <|
  some (.go ⟨s.hd, ⟨(ar .add .i64 s.tl.hd 1), ⟨s.tl.tl.hd, ⟨s.tl.tl.tl.hd, ⟨s.tl.tl.tl.tl.hd, ⟨s.tl.tl.tl.tl.tl.hd, ⟨(ap s.tl.tl.tl.tl.tl.tl.hd ((v3.1, v3.2) :: [])), ()⟩⟩⟩⟩⟩⟩⟩)))
  (some (.out ⟨s.hd, ⟨s.tl.tl.hd, ⟨s.tl.tl.tl.hd, ⟨s.tl.tl.tl.tl.hd, ⟨s.tl.tl.tl.tl.tl.tl.hd, ⟨s.tl.tl.tl.tl.tl.hd, ()⟩⟩⟩⟩⟩⟩))
noncomputable def t_additivelaw29_few_L0 [W] (s : (HP Int (HP (List (Int × (List (Int × Int)))) (HP (List (Int × (List (Int × Int)))) Unit)))) : Option (Nx (HP Int (HP (List (Int × (List (Int × Int)))) (HP (List (Int × (List (Int × Int)))) Unit))) (HP (List (Int × (List (Int × Int)))) Unit)) :=
  br (cm .lss s.hd (ln s.tl.hd)) (br (cm .lss s.hd 12) (ge s.tl.hd s.hd fun v0 =>
  br (cm .gtr (ln v0.2) 4) (gd (le 0 4) <|
  gd (le 4 (ln v0.2)) <|
  loop t_additivelaw29_few_L1 ⟨s.hd, ⟨0, ⟨s.tl.hd, ⟨v0.1, ⟨(ct v0.2 0 4), ⟨s.tl.tl.hd, ⟨[], ()⟩⟩⟩⟩⟩⟩⟩ fun v2 =>
  gd (ft 32 (pl (ln v2.tl.tl.tl.tl.tl.hd) 1)) <|
  some (.go ⟨(ar .add .i64 v2.hd 1), ⟨v2.tl.hd, ⟨(ap v2.tl.tl.tl.tl.tl.hd ((v2.tl.tl.hd, v2.tl.tl.tl.tl.hd) :: [])), ()⟩⟩⟩))
  (loop t_additivelaw29_few_L2 ⟨s.hd, ⟨0, ⟨s.tl.hd, ⟨v0.1, ⟨v0.2, ⟨s.tl.tl.hd, ⟨[], ()⟩⟩⟩⟩⟩⟩⟩ fun v4 =>
  gd (ft 32 (pl (ln v4.tl.tl.tl.tl.tl.hd) 1)) <|
  some (.go ⟨(ar .add .i64 v4.hd 1), ⟨v4.tl.hd, ⟨(ap v4.tl.tl.tl.tl.tl.hd ((v4.tl.tl.hd, v4.tl.tl.tl.tl.hd) :: [])), ()⟩⟩⟩)))
  (some (.out ⟨s.tl.tl.hd, ()⟩)))
  (some (.out ⟨s.tl.tl.hd, ()⟩))
noncomputable def t_additivelaw29_few [W] (a : (List (Int × (List (Int × Int))))) : Option (List (Int × (List (Int × Int)))) :=
  loop t_additivelaw29_few_L0 ⟨0, ⟨a, ⟨[], ()⟩⟩⟩ fun v5 =>
  some v5.hd
noncomputable def c_additivelaw29_few : Ctr := ⟨8, [(.ag, (.ls (.p I (.ls (.p I I)))))], [(true, (.ls (.p I (.ls (.p I I)))))], @t_additivelaw29_few wv⟩
theorem e_additivelaw29_few (w : W) (a) : fnD (dW w) (cxO (gam []) [] [] [] []) 8 8 [(.ag, (.ls (.p I (.ls (.p I I)))))] [(true, (.ls (.p I (.ls (.p I I)))))] a = @t_additivelaw29_few w a := by kernel_rfl
theorem g_additivelaw29_few : Go.Dn.Good PG c_additivelaw29_few := good (gam []) [] [] [] [] 8 gam_nil so_nil (fnOK_of (by kernel_rfl)) rfl rfl (e_additivelaw29_few wv)
noncomputable def t_hatch_line_L0 [W] (s : (HP Int (HP Int (HP Int (HP Int (HP (List (Int × Int)) Unit)))))) : Option (Nx (HP Int (HP Int (HP Int (HP Int (HP (List (Int × Int)) Unit))))) (HP (List (Int × Int)) Unit)) :=
  br (cm .lss s.tl.hd s.tl.tl.tl.hd) (gd (ft 16 (pl (ln s.tl.tl.tl.tl.hd) 1)) <|
  some (.go ⟨s.hd, ⟨(ar .add .i64 s.tl.hd 1), ⟨s.tl.tl.hd, ⟨s.tl.tl.tl.hd, ⟨(ap s.tl.tl.tl.tl.hd ((s.tl.hd, s.hd) :: [])), ()⟩⟩⟩⟩⟩))
  (some (.out ⟨s.tl.tl.tl.tl.hd, ()⟩))
noncomputable def t_hatch_line [W] (a : (Int × (Int × Int))) : Option (List (Int × Int)) :=
  loop t_hatch_line_L0 ⟨a.1, ⟨a.2.1, ⟨a.2.1, ⟨a.2.2, ⟨[], ()⟩⟩⟩⟩⟩ fun v0 =>
  some v0.hd
noncomputable def c_hatch_line : Ctr := ⟨29, [(.one, I), (.ag, (.p I I))], [(false, (.ls (.p I I)))], @t_hatch_line wv⟩
theorem e_hatch_line (w : W) (a) : fnD (dW w) (cxO (gam []) [] [] [] []) 8 29 [(.one, I), (.ag, (.p I I))] [(false, (.ls (.p I I)))] a = @t_hatch_line w a := by kernel_rfl
theorem g_hatch_line : Go.Dn.Good PG c_hatch_line := good (gam []) [] [] [] [] 8 gam_nil so_nil (fnOK_of (by kernel_rfl)) rfl rfl (e_hatch_line wv)
noncomputable def t_hatch_rest [W] (a : (Int × Int)) : Option Int :=
  gd (cm .neq a.2 0) <|
  gd (cm .neq a.2 0) <|
  some (ar .rem .i64 (ar .add .i64 (ar .rem .i64 a.1 a.2) a.2) a.2)
noncomputable def c_hatch_rest : Ctr := ⟨40, [(.one, I), (.one, I)], [(false, I)], @t_hatch_rest wv⟩
theorem e_hatch_rest (w : W) (a) : fnD (dW w) (cxO (gam []) [] [] [] []) 8 40 [(.one, I), (.one, I)] [(false, I)] a = @t_hatch_rest w a := by kernel_rfl
theorem g_hatch_rest : Go.Dn.Good PG c_hatch_rest := good (gam []) [] [] [] [] 8 gam_nil so_nil (fnOK_of (by kernel_rfl)) rfl rfl (e_hatch_rest wv)
noncomputable def t_hatch_hits [W] (a : (Int × (Int × Int))) : Option Bool :=
  call c_hatch_rest ((a.1, a.2.1) : (Int × Int)) fun (v0 : Int) =>
  call c_hatch_rest ((a.2.2, a.2.1) : (Int × Int)) fun (v1 : Int) =>
  some (cm .eql v0 v1)
noncomputable def c_hatch_hits : Ctr := ⟨28, [(.one, I), (.one, I), (.one, I)], [(false, .bool)], @t_hatch_hits wv⟩
theorem e_hatch_hits (w : W) (a) : fnD (dW w) (cxO (gam [(40, c_hatch_rest)]) [] [] [] []) 8 28 [(.one, I), (.one, I), (.one, I)] [(false, .bool)] a = @t_hatch_hits w a := by kernel_rfl
theorem g_hatch_hits : Go.Dn.Good PG c_hatch_hits := good (gam [(40, c_hatch_rest)]) [] [] [] [] 8 (gam_cons g_hatch_rest gam_nil) so_nil (fnOK_of (by kernel_rfl)) rfl rfl (e_hatch_hits wv)
noncomputable def t_region_ok [W] (a : Int) : Option Bool :=
  br (cm .geq a (-4096)) (some (cm .lss a 4096))
  (some false)
noncomputable def c_region_ok : Ctr := ⟨52, [(.one, I)], [(false, .bool)], @t_region_ok wv⟩
theorem e_region_ok (w : W) (a) : fnD (dW w) (cxO (gam []) [] [] [] []) 8 52 [(.one, I)] [(false, .bool)] a = @t_region_ok w a := by kernel_rfl
theorem g_region_ok : Go.Dn.Good PG c_region_ok := good (gam []) [] [] [] [] 8 gam_nil so_nil (fnOK_of (by kernel_rfl)) rfl rfl (e_region_ok wv)
noncomputable def t_runs_fits [W] (a : (Int × Int)) : Option Bool :=
  br (cm .geq a.1 (-1048576)) (br (cm .leq a.1 1048576) (br (cm .geq a.2 (-1048576)) (some (cm .leq a.2 1048576))
  (some false))
  (some false))
  (some false)
noncomputable def c_runs_fits : Ctr := ⟨79, [(.ag, (.p I I))], [(false, .bool)], @t_runs_fits wv⟩
theorem e_runs_fits (w : W) (a) : fnD (dW w) (cxO (gam []) [] [] [] []) 8 79 [(.ag, (.p I I))] [(false, .bool)] a = @t_runs_fits w a := by kernel_rfl
theorem g_runs_fits : Go.Dn.Good PG c_runs_fits := good (gam []) [] [] [] [] 8 gam_nil so_nil (fnOK_of (by kernel_rfl)) rfl rfl (e_runs_fits wv)
noncomputable def t_runs_Valid_L0 [W] (s : (HP (List (Int × Int)) (HP (List (Int × Int)) (HP Int (HP Int Unit))))) : Option (Nx (HP (List (Int × Int)) (HP (List (Int × Int)) (HP Int (HP Int Unit)))) (Unit ⊕ Unit)) :=
  br (cm .lss s.tl.tl.tl.hd s.tl.tl.hd) (ge s.tl.hd s.tl.tl.tl.hd fun v0 =>
  br (cm .geq v0.1 v0.2) (some (.out (.inl ())))
  (call c_runs_fits ((v0.1, v0.2) : (Int × Int)) fun (v1 : Bool) =>
  br (nt v1) (some (.out (.inl ())))
  (br (cm .gtr s.tl.tl.tl.hd 0) (ge s.hd (ar .sub .i64 s.tl.tl.tl.hd 1) fun v2 =>
  br (cm .leq v0.1 v2.2) (some (.out (.inl ())))
  (some (.go ⟨s.hd, ⟨s.tl.hd, ⟨s.tl.tl.hd, ⟨(ar .add .i64 s.tl.tl.tl.hd 1), ()⟩⟩⟩⟩)))
  (some (.go ⟨s.hd, ⟨s.tl.hd, ⟨s.tl.tl.hd, ⟨(ar .add .i64 s.tl.tl.tl.hd 1), ()⟩⟩⟩⟩)))))
  (some (.out (.inr ())))
noncomputable def t_runs_Valid [W] (a : (List (Int × Int))) : Option Bool :=
  loop t_runs_Valid_L0 ⟨a, ⟨a, ⟨(ln a), ⟨0, ()⟩⟩⟩⟩ fun v3 =>
  match v3 with
  | .inl v4 => (some false)
  | .inr v5 => (some true)
noncomputable def c_runs_Valid : Ctr := ⟨53, [(.one, (.ls (.p I I)))], [(false, .bool)], @t_runs_Valid wv⟩
theorem e_runs_Valid (w : W) (a) : fnD (dW w) (cxO (gam [(79, c_runs_fits)]) [] [] [] []) 8 53 [(.one, (.ls (.p I I)))] [(false, .bool)] a = @t_runs_Valid w a := by kernel_rfl
theorem g_runs_Valid : Go.Dn.Good PG c_runs_Valid := good (gam [(79, c_runs_fits)]) [] [] [] [] 8 (gam_cons g_runs_fits gam_nil) so_nil (fnOK_of (by kernel_rfl)) rfl rfl (e_runs_Valid wv)
noncomputable def t_region_Valid_L0 [W] (s : (HP (List (Int × (List (Int × Int)))) (HP Int (HP Int (HP (List (Int × (List (Int × Int)))) Unit))))) : Option (Nx (HP (List (Int × (List (Int × Int)))) (HP Int (HP Int (HP (List (Int × (List (Int × Int)))) Unit)))) (Unit ⊕ Unit)) :=
  br (cm .lss s.tl.tl.hd s.tl.hd) (ge s.hd s.tl.tl.hd fun v0 =>
  call c_region_ok (v0.1 : Int) fun (v1 : Bool) =>
  br (nt v1) (some (.out (.inl ())))
  (br (cm .gtr s.tl.tl.hd 0) (ge s.tl.tl.tl.hd (ar .sub .i64 s.tl.tl.hd 1) fun v2 =>
  br (cm .leq v0.1 v2.1) (some (.out (.inl ())))
  (br (cm .eql (ln v0.2) 0) (some (.out (.inl ())))
  (call c_runs_Valid (v0.2 : (List (Int × Int))) fun (v3 : Bool) =>
  br (nt v3) (some (.out (.inl ())))
  (ge v0.2 0 fun v4 =>
  call c_region_ok (v4.1 : Int) fun (v5 : Bool) =>
  br (nt v5) (some (.out (.inl ())))
  (ge v0.2 (ar .sub .i64 (ln v0.2) 1) fun v6 =>
  call c_region_ok ((ar .sub .i64 v6.2 1) : Int) fun (v7 : Bool) =>
  br (nt v7) (some (.out (.inl ())))
  (some (.go ⟨s.hd, ⟨s.tl.hd, ⟨(ar .add .i64 s.tl.tl.hd 1), ⟨s.tl.tl.tl.hd, ()⟩⟩⟩⟩)))))))
  (br (cm .eql (ln v0.2) 0) (some (.out (.inl ())))
  (call c_runs_Valid (v0.2 : (List (Int × Int))) fun (v8 : Bool) =>
  br (nt v8) (some (.out (.inl ())))
  (ge v0.2 0 fun v9 =>
  call c_region_ok (v9.1 : Int) fun (v10 : Bool) =>
  br (nt v10) (some (.out (.inl ())))
  (ge v0.2 (ar .sub .i64 (ln v0.2) 1) fun v11 =>
  call c_region_ok ((ar .sub .i64 v11.2 1) : Int) fun (v12 : Bool) =>
  br (nt v12) (some (.out (.inl ())))
  (some (.go ⟨s.hd, ⟨s.tl.hd, ⟨(ar .add .i64 s.tl.tl.hd 1), ⟨s.tl.tl.tl.hd, ()⟩⟩⟩⟩))))))))
  (some (.out (.inr ())))
noncomputable def t_region_Valid [W] (a : (List (Int × (List (Int × Int))))) : Option Bool :=
  loop t_region_Valid_L0 ⟨a, ⟨(ln a), ⟨0, ⟨a, ()⟩⟩⟩⟩ fun v13 =>
  match v13 with
  | .inl v14 => (some false)
  | .inr v15 => (some true)
noncomputable def c_region_Valid : Ctr := ⟨26, [(.ag, (.ls (.p I (.ls (.p I I)))))], [(false, .bool)], @t_region_Valid wv⟩
theorem e_region_Valid (w : W) (a) : fnD (dW w) (cxO (gam [(52, c_region_ok), (53, c_runs_Valid)]) [] [] [] []) 8 26 [(.ag, (.ls (.p I (.ls (.p I I)))))] [(false, .bool)] a = @t_region_Valid w a := by kernel_rfl
theorem g_region_Valid : Go.Dn.Good PG c_region_Valid := good (gam [(52, c_region_ok), (53, c_runs_Valid)]) [] [] [] [] 8 (gam_cons g_region_ok (gam_cons g_runs_Valid gam_nil)) so_nil (fnOK_of (by kernel_rfl)) rfl rfl (e_region_Valid wv)
noncomputable def t_hatch_spaced [W] (a : Int) : Option Bool :=
  br (cm .geq a 1) (some (cm .leq a 64))
  (some false)
noncomputable def c_hatch_spaced : Ctr := ⟨27, [(.one, I)], [(false, .bool)], @t_hatch_spaced wv⟩
theorem e_hatch_spaced (w : W) (a) : fnD (dW w) (cxO (gam []) [] [] [] []) 8 27 [(.one, I)] [(false, .bool)] a = @t_hatch_spaced w a := by kernel_rfl
theorem g_hatch_spaced : Go.Dn.Good PG c_hatch_spaced := good (gam []) [] [] [] [] 8 gam_nil so_nil (fnOK_of (by kernel_rfl)) rfl rfl (e_hatch_spaced wv)
noncomputable def t_hatch_Rows_L1 [W] (s : (HP Int (HP Int (HP (List (Int × (List (Int × Int)))) (HP Int (HP Int (HP (List (Int × Int)) (HP Int (HP Int (HP (List (Int × (Bool × (List (Int × Int))))) (HP Int (HP (List (Int × Int)) Unit)))))))))))) : Option (Nx (HP Int (HP Int (HP (List (Int × (List (Int × Int)))) (HP Int (HP Int (HP (List (Int × Int)) (HP Int (HP Int (HP (List (Int × (Bool × (List (Int × Int))))) (HP Int (HP (List (Int × Int)) Unit))))))))))) (HP Int (HP Int (HP (List (Int × (List (Int × Int)))) (HP Int (HP Int (HP (List (Int × (Bool × (List (Int × Int))))) Unit))))))) :=
  br (cm .lss s.tl.tl.tl.tl.tl.tl.tl.hd s.tl.tl.tl.tl.tl.tl.hd) (ge s.tl.tl.tl.tl.tl.hd s.tl.tl.tl.tl.tl.tl.tl.hd fun v4 =>
  call c_hatch_line ((s.tl.tl.tl.tl.tl.tl.tl.tl.tl.hd, (v4.1, v4.2)) : (Int × (Int × Int))) fun (v5 : (List (Int × Int))) =>
  gd (ft 40 (pl (ln s.tl.tl.tl.tl.tl.tl.tl.tl.hd) 1)) <|
  some (.go ⟨s.hd, ⟨s.tl.hd, ⟨s.tl.tl.hd, ⟨s.tl.tl.tl.hd, ⟨s.tl.tl.tl.tl.hd, ⟨s.tl.tl.tl.tl.tl.hd, ⟨s.tl.tl.tl.tl.tl.tl.hd, ⟨(ar .add .i64 s.tl.tl.tl.tl.tl.tl.tl.hd 1), ⟨(ap s.tl.tl.tl.tl.tl.tl.tl.tl.hd ((4, (false, v5)) :: [])), ⟨s.tl.tl.tl.tl.tl.tl.tl.tl.tl.hd, ⟨s.tl.tl.tl.tl.tl.tl.tl.tl.tl.tl.hd, ()⟩⟩⟩⟩⟩⟩⟩⟩⟩⟩⟩))
  (some (.out ⟨s.hd, ⟨s.tl.hd, ⟨s.tl.tl.hd, ⟨s.tl.tl.tl.hd, ⟨s.tl.tl.tl.tl.hd, ⟨s.tl.tl.tl.tl.tl.tl.tl.tl.hd, ()⟩⟩⟩⟩⟩⟩))
noncomputable def t_hatch_Rows_L0 [W] (s : (HP Int (HP Int (HP (List (Int × (List (Int × Int)))) (HP Int (HP Int (HP (List (Int × (Bool × (List (Int × Int))))) Unit))))))) : Option (Nx (HP Int (HP Int (HP (List (Int × (List (Int × Int)))) (HP Int (HP Int (HP (List (Int × (Bool × (List (Int × Int))))) Unit)))))) (HP (List (Int × (Bool × (List (Int × Int))))) Unit)) :=
  br (cm .lss s.tl.tl.tl.tl.hd s.tl.tl.tl.hd) (ge s.tl.tl.hd s.tl.tl.tl.tl.hd fun v2 =>
  call c_hatch_hits ((v2.1, (s.hd, s.tl.hd)) : (Int × (Int × Int))) fun (v3 : Bool) =>
  br (nt v3) (some (.go ⟨s.hd, ⟨s.tl.hd, ⟨s.tl.tl.hd, ⟨s.tl.tl.tl.hd, ⟨(ar .add .i64 s.tl.tl.tl.tl.hd 1), ⟨s.tl.tl.tl.tl.tl.hd, ()⟩⟩⟩⟩⟩⟩))
  (loop t_hatch_Rows_L1 ⟨s.hd, ⟨s.tl.hd, ⟨s.tl.tl.hd, ⟨s.tl.tl.tl.hd, ⟨s.tl.tl.tl.tl.hd, ⟨v2.2, ⟨(ln v2.2), ⟨0, ⟨s.tl.tl.tl.tl.tl.hd, ⟨v2.1, ⟨v2.2, ()⟩⟩⟩⟩⟩⟩⟩⟩⟩⟩⟩ fun v6 =>
  some (.go ⟨v6.hd, ⟨v6.tl.hd, ⟨v6.tl.tl.hd, ⟨v6.tl.tl.tl.hd, ⟨(ar .add .i64 v6.tl.tl.tl.tl.hd 1), ⟨v6.tl.tl.tl.tl.tl.hd, ()⟩⟩⟩⟩⟩⟩)))
  (some (.out ⟨s.tl.tl.tl.tl.tl.hd, ()⟩))
noncomputable def t_hatch_Rows [W] (a : ((List (Int × (List (Int × Int)))) × (Int × Int))) : Option (List (Int × (Bool × (List (Int × Int))))) :=
  call c_region_Valid (a.1 : (List (Int × (List (Int × Int))))) fun (v0 : Bool) =>
  br (nt v0) (some [])
  (call c_hatch_spaced (a.2.1 : Int) fun (v1 : Bool) =>
  br (nt v1) (some [])
  (loop t_hatch_Rows_L0 ⟨a.2.1, ⟨a.2.2, ⟨a.1, ⟨(ln a.1), ⟨0, ⟨[], ()⟩⟩⟩⟩⟩⟩ fun v7 =>
  some v7.hd))
noncomputable def c_hatch_Rows : Ctr := ⟨10, [(.ag, (.ls (.p I (.ls (.p I I))))), (.one, I), (.one, I)], [(false, (.ls (.p I (.p .bool (.ls (.p I I))))))], @t_hatch_Rows wv⟩
theorem e_hatch_Rows (w : W) (a) : fnD (dW w) (cxO (gam [(29, c_hatch_line), (28, c_hatch_hits), (26, c_region_Valid), (27, c_hatch_spaced)]) [] [] [] []) 8 10 [(.ag, (.ls (.p I (.ls (.p I I))))), (.one, I), (.one, I)] [(false, (.ls (.p I (.p .bool (.ls (.p I I))))))] a = @t_hatch_Rows w a := by kernel_rfl
theorem g_hatch_Rows : Go.Dn.Good PG c_hatch_Rows := good (gam [(29, c_hatch_line), (28, c_hatch_hits), (26, c_region_Valid), (27, c_hatch_spaced)]) [] [] [] [] 8 (gam_cons g_hatch_line (gam_cons g_hatch_hits (gam_cons g_region_Valid (gam_cons g_hatch_spaced gam_nil)))) so_nil (fnOK_of (by kernel_rfl)) rfl rfl (e_hatch_Rows wv)
noncomputable def t_additiveref29_mod [W] (a : (Int × Int)) : Option Int :=
  gd (cm .neq a.2 0) <|
  br (cm .lss (ar .rem .i64 a.1 a.2) 0) (some (ar .add .i64 (ar .rem .i64 a.1 a.2) a.2))
  (some (ar .rem .i64 a.1 a.2))
noncomputable def c_additiveref29_mod : Ctr := ⟨32, [(.one, I), (.one, I)], [(false, I)], @t_additiveref29_mod wv⟩
noncomputable def t_additiveref18_fine_L0 [W] (s : (HP (List (Int × Int)) (HP Int Unit))) : Option (Nx (HP (List (Int × Int)) (HP Int Unit)) (Unit ⊕ (HP (List (Int × Int)) Unit))) :=
  br (cm .lss s.tl.hd (ln s.hd)) (ge s.hd s.tl.hd fun v0 =>
  br (cm .lss v0.1 (-4096)) (some (.out (.inl ())))
  (ge s.hd s.tl.hd fun v1 =>
  ge s.hd s.tl.hd fun v2 =>
  br (cm .geq v1.1 v2.2) (some (.out (.inl ())))
  (ge s.hd s.tl.hd fun v3 =>
  br (cm .gtr v3.2 4096) (some (.out (.inl ())))
  (br (cm .gtr s.tl.hd 0) (ge s.hd s.tl.hd fun v4 =>
  ge s.hd (ar .sub .i64 s.tl.hd 1) fun v5 =>
  br (cm .leq v4.1 v5.2) (some (.out (.inl ())))
  (some (.go ⟨s.hd, ⟨(ar .add .i64 s.tl.hd 1), ()⟩⟩)))
  (some (.go ⟨s.hd, ⟨(ar .add .i64 s.tl.hd 1), ()⟩⟩))))))
  (some (.out (.inr ⟨s.hd, ()⟩)))
noncomputable def t_additiveref18_fine [W] (a : (List (Int × Int))) : Option Bool :=
  loop t_additiveref18_fine_L0 ⟨a, ⟨0, ()⟩⟩ fun v6 =>
  match v6 with
  | .inl v7 => (some false)
  | .inr v8 => (some (cm .gtr (ln v8.hd) 0))
noncomputable def c_additiveref18_fine : Ctr := ⟨47, [(.one, (.ls (.p I I)))], [(false, .bool)], @t_additiveref18_fine wv⟩
theorem e_additiveref18_fine (w : W) (a) : fnD (dW w) (cxO (gam []) [] [] [] []) 8 47 [(.one, (.ls (.p I I)))] [(false, .bool)] a = @t_additiveref18_fine w a := by kernel_rfl
theorem g_additiveref18_fine : Go.Dn.Good PG c_additiveref18_fine := good (gam []) [] [] [] [] 8 gam_nil so_nil (fnOK_of (by kernel_rfl)) rfl rfl (e_additiveref18_fine wv)
noncomputable def t_additiveref18_Valid_L0 [W] (s : (HP Int (HP (List (Int × (List (Int × Int)))) Unit))) : Option (Nx (HP Int (HP (List (Int × (List (Int × Int)))) Unit)) (Unit ⊕ Unit)) :=
  br (cm .lss s.hd (ln s.tl.hd)) (ge s.tl.hd s.hd fun v0 =>
  br (cm .lss v0.1 (-4096)) (some (.out (.inl ())))
  (br (cm .geq v0.1 4096) (some (.out (.inl ())))
  (br (cm .gtr s.hd 0) (ge s.tl.hd (ar .sub .i64 s.hd 1) fun v1 =>
  br (cm .leq v0.1 v1.1) (some (.out (.inl ())))
  (ge s.tl.hd s.hd fun v2 =>
  call c_additiveref18_fine (v2.2 : (List (Int × Int))) fun (v3 : Bool) =>
  br (nt v3) (some (.out (.inl ())))
  (some (.go ⟨(ar .add .i64 s.hd 1), ⟨s.tl.hd, ()⟩⟩))))
  (ge s.tl.hd s.hd fun v4 =>
  call c_additiveref18_fine (v4.2 : (List (Int × Int))) fun (v5 : Bool) =>
  br (nt v5) (some (.out (.inl ())))
  (some (.go ⟨(ar .add .i64 s.hd 1), ⟨s.tl.hd, ()⟩⟩))))))
  (some (.out (.inr ())))
noncomputable def t_additiveref18_Valid [W] (a : (List (Int × (List (Int × Int))))) : Option Bool :=
  loop t_additiveref18_Valid_L0 ⟨0, ⟨a, ()⟩⟩ fun v6 =>
  match v6 with
  | .inl v7 => (some false)
  | .inr v8 => (some true)
noncomputable def c_additiveref18_Valid : Ctr := ⟨19, [(.ag, (.ls (.p I (.ls (.p I I)))))], [(false, .bool)], @t_additiveref18_Valid wv⟩
theorem e_additiveref18_Valid (w : W) (a) : fnD (dW w) (cxO (gam [(47, c_additiveref18_fine)]) [] [] [] []) 8 19 [(.ag, (.ls (.p I (.ls (.p I I)))))] [(false, .bool)] a = @t_additiveref18_Valid w a := by kernel_rfl
theorem g_additiveref18_Valid : Go.Dn.Good PG c_additiveref18_Valid := good (gam [(47, c_additiveref18_fine)]) [] [] [] [] 8 (gam_cons g_additiveref18_fine gam_nil) so_nil (fnOK_of (by kernel_rfl)) rfl rfl (e_additiveref18_Valid wv)
noncomputable def t_additiveref18_Row_L0 [W] (s : (HP Int (HP Int (HP (List (Int × (List (Int × Int)))) Unit)))) : Option (Nx (HP Int (HP Int (HP (List (Int × (List (Int × Int)))) Unit))) ((HP (List (Int × Int)) Unit) ⊕ Unit)) :=
  br (cm .lss s.tl.hd (ln s.tl.tl.hd)) (ge s.tl.tl.hd s.tl.hd fun v0 =>
  br (cm .eql v0.1 s.hd) (ge s.tl.tl.hd s.tl.hd fun v1 =>
  some (.out (.inl ⟨v1.2, ()⟩)))
  (some (.go ⟨s.hd, ⟨(ar .add .i64 s.tl.hd 1), ⟨s.tl.tl.hd, ()⟩⟩⟩)))
  (some (.out (.inr ())))
noncomputable def t_additiveref18_Row [W] (a : ((List (Int × (List (Int × Int)))) × Int)) : Option (List (Int × Int)) :=
  loop t_additiveref18_Row_L0 ⟨a.2, ⟨0, ⟨a.1, ()⟩⟩⟩ fun v2 =>
  match v2 with
  | .inl v3 => (some v3.hd)
  | .inr v4 => (some [])
noncomputable def c_additiveref18_Row : Ctr := ⟨55, [(.ag, (.ls (.p I (.ls (.p I I))))), (.one, I)], [(false, (.ls (.p I I)))], @t_additiveref18_Row wv⟩
noncomputable def t_additiveref18_inside_L0 [W] (s : (HP (List (Int × Int)) (HP Int (HP Int Unit)))) : Option (Nx (HP (List (Int × Int)) (HP Int (HP Int Unit))) (Unit ⊕ Unit)) :=
  br (cm .lss s.tl.tl.hd (ln s.hd)) (ge s.hd s.tl.tl.hd fun v0 =>
  br (cm .leq v0.1 s.tl.hd) (ge s.hd s.tl.tl.hd fun v1 =>
  br (cm .lss s.tl.hd v1.2) (some (.out (.inl ())))
  (some (.go ⟨s.hd, ⟨s.tl.hd, ⟨(ar .add .i64 s.tl.tl.hd 1), ()⟩⟩⟩)))
  (some (.go ⟨s.hd, ⟨s.tl.hd, ⟨(ar .add .i64 s.tl.tl.hd 1), ()⟩⟩⟩)))
  (some (.out (.inr ())))
noncomputable def t_additiveref18_inside [W] (a : ((List (Int × Int)) × Int)) : Option Bool :=
  loop t_additiveref18_inside_L0 ⟨a.1, ⟨a.2, ⟨0, ()⟩⟩⟩ fun v2 =>
  match v2 with
  | .inl v3 => (some true)
  | .inr v4 => (some false)
noncomputable def c_additiveref18_inside : Ctr := ⟨54, [(.one, (.ls (.p I I))), (.one, I)], [(false, .bool)], @t_additiveref18_inside wv⟩
noncomputable def t_additiveref18_Contains [W] (a : ((List (Int × (List (Int × Int)))) × (Int × Int))) : Option Bool :=
  call c_additiveref18_Valid (a.1 : (List (Int × (List (Int × Int))))) fun (v0 : Bool) =>
  br v0 (call c_additiveref18_Row ((a.1, a.2.2) : ((List (Int × (List (Int × Int)))) × Int)) fun (v1 : (List (Int × Int))) =>
  call c_additiveref18_inside ((v1, a.2.1) : ((List (Int × Int)) × Int)) fun (v2 : Bool) =>
  some v2)
  (some false)
noncomputable def c_additiveref18_Contains : Ctr := ⟨33, [(.ag, (.ls (.p I (.ls (.p I I))))), (.ag, (.p I I))], [(false, .bool)], @t_additiveref18_Contains wv⟩
noncomputable def t_additiveref29_run_L0 [W] (s : (HP Int (HP Int (HP (List (Int × (List (Int × Int)))) (HP Int (HP Int (HP (List (Int × Int)) Unit))))))) : Option (Nx (HP Int (HP Int (HP (List (Int × (List (Int × Int)))) (HP Int (HP Int (HP (List (Int × Int)) Unit)))))) (HP (List (Int × Int)) Unit)) :=
  call c_additiveref18_Contains ((s.tl.tl.hd, (s.tl.tl.tl.hd, s.tl.tl.tl.tl.hd)) : ((List (Int × (List (Int × Int)))) × (Int × Int))) fun (v0 : Bool) =>
  br v0 (gd (ft 16 (pl (ln s.tl.tl.tl.tl.tl.hd) 1)) <|
  some (.go ⟨s.hd, ⟨s.tl.hd, ⟨s.tl.tl.hd, ⟨(ar .add .i64 s.tl.tl.tl.hd s.hd), ⟨(ar .add .i64 s.tl.tl.tl.tl.hd s.tl.hd), ⟨(ap s.tl.tl.tl.tl.tl.hd ((s.tl.tl.tl.hd, s.tl.tl.tl.tl.hd) :: [])), ()⟩⟩⟩⟩⟩⟩))
  (some (.out ⟨s.tl.tl.tl.tl.tl.hd, ()⟩))
noncomputable def t_additiveref29_run [W] (a : ((List (Int × (List (Int × Int)))) × ((Int × Int) × (Int × Int)))) : Option (List (Int × Int)) :=
  loop t_additiveref29_run_L0 ⟨a.2.2.1, ⟨a.2.2.2, ⟨a.1, ⟨a.2.1.1, ⟨a.2.1.2, ⟨[], ()⟩⟩⟩⟩⟩⟩ fun v1 =>
  some v1.hd
noncomputable def c_additiveref29_run : Ctr := ⟨34, [(.ag, (.ls (.p I (.ls (.p I I))))), (.ag, (.p I I)), (.one, I), (.one, I)], [(false, (.ls (.p I I)))], @t_additiveref29_run wv⟩
noncomputable def t_additiveref29_ok [W] (a : ((List (Int × (List (Int × Int)))) × Int)) : Option Bool :=
  call c_additiveref18_Valid (a.1 : (List (Int × (List (Int × Int))))) fun (v0 : Bool) =>
  br v0 (br (cm .geq a.2 1) (some (cm .leq a.2 64))
  (some false))
  (some false)
noncomputable def c_additiveref29_ok : Ctr := ⟨30, [(.ag, (.ls (.p I (.ls (.p I I))))), (.one, I)], [(false, .bool)], @t_additiveref29_ok wv⟩
noncomputable def t_additiveref18_Cells_L2 [W] (s : (HP Int (HP Int (HP Int (HP (List (Int × (List (Int × Int)))) (HP (List (Int × Int)) Unit)))))) : Option (Nx (HP Int (HP Int (HP Int (HP (List (Int × (List (Int × Int)))) (HP (List (Int × Int)) Unit))))) (HP Int (HP Int (HP (List (Int × (List (Int × Int)))) (HP (List (Int × Int)) Unit))))) :=
  ge s.tl.tl.tl.hd s.hd fun v4 =>
  ge v4.2 s.tl.hd fun v5 =>
  br (cm .lss s.tl.tl.hd v5.2) (ge s.tl.tl.tl.hd s.hd fun v6 =>
  gd (ft 16 (pl (ln s.tl.tl.tl.tl.hd) 1)) <|
  some (.go ⟨s.hd, ⟨s.tl.hd, ⟨(ar .add .i64 s.tl.tl.hd 1), ⟨s.tl.tl.tl.hd, ⟨(ap s.tl.tl.tl.tl.hd ((s.tl.tl.hd, v6.1) :: [])), ()⟩⟩⟩⟩⟩))
  (some (.out ⟨s.hd, ⟨s.tl.hd, ⟨s.tl.tl.tl.hd, ⟨s.tl.tl.tl.tl.hd, ()⟩⟩⟩⟩))
noncomputable def t_additiveref18_Cells_L1 [W] (s : (HP Int (HP Int (HP (List (Int × (List (Int × Int)))) (HP (List (Int × Int)) Unit))))) : Option (Nx (HP Int (HP Int (HP (List (Int × (List (Int × Int)))) (HP (List (Int × Int)) Unit)))) (HP Int (HP (List (Int × (List (Int × Int)))) (HP (List (Int × Int)) Unit)))) :=
  ge s.tl.tl.hd s.hd fun v1 =>
  br (cm .lss s.tl.hd (ln v1.2)) (ge s.tl.tl.hd s.hd fun v2 =>
  ge v2.2 s.tl.hd fun v3 =>
  loop t_additiveref18_Cells_L2 ⟨s.hd, ⟨s.tl.hd, ⟨v3.1, ⟨s.tl.tl.hd, ⟨s.tl.tl.tl.hd, ()⟩⟩⟩⟩⟩ fun v7 =>
  some (.go ⟨v7.hd, ⟨(ar .add .i64 v7.tl.hd 1), ⟨v7.tl.tl.hd, ⟨v7.tl.tl.tl.hd, ()⟩⟩⟩⟩))
  (some (.out ⟨s.hd, ⟨s.tl.tl.hd, ⟨s.tl.tl.tl.hd, ()⟩⟩⟩))
noncomputable def t_additiveref18_Cells_L0 [W] (s : (HP Int (HP (List (Int × (List (Int × Int)))) (HP (List (Int × Int)) Unit)))) : Option (Nx (HP Int (HP (List (Int × (List (Int × Int)))) (HP (List (Int × Int)) Unit))) (HP (List (Int × Int)) Unit)) :=
  br (cm .lss s.hd (ln s.tl.hd)) (loop t_additiveref18_Cells_L1 ⟨s.hd, ⟨0, ⟨s.tl.hd, ⟨s.tl.tl.hd, ()⟩⟩⟩⟩ fun v8 =>
  some (.go ⟨(ar .add .i64 v8.hd 1), ⟨v8.tl.hd, ⟨v8.tl.tl.hd, ()⟩⟩⟩))
  (some (.out ⟨s.tl.tl.hd, ()⟩))
noncomputable def t_additiveref18_Cells [W] (a : (List (Int × (List (Int × Int))))) : Option (List (Int × Int)) :=
  call c_additiveref18_Valid (a : (List (Int × (List (Int × Int))))) fun (v0 : Bool) =>
  br (nt v0) (some [])
  (loop t_additiveref18_Cells_L0 ⟨0, ⟨a, ⟨[], ()⟩⟩⟩ fun v9 =>
  some v9.hd)
noncomputable def c_additiveref18_Cells : Ctr := ⟨31, [(.ag, (.ls (.p I (.ls (.p I I)))))], [(false, (.ls (.p I I)))], @t_additiveref18_Cells wv⟩
noncomputable def t_additiveref29_Rows_L0 [W] (s : (HP Int (HP Int (HP (List (Int × Int)) (HP Int (HP (List (Int × (List (Int × Int)))) (HP (List (Int × (Bool × (List (Int × Int))))) Unit))))))) : Option (Nx (HP Int (HP Int (HP (List (Int × Int)) (HP Int (HP (List (Int × (List (Int × Int)))) (HP (List (Int × (Bool × (List (Int × Int))))) Unit)))))) (HP (List (Int × (Bool × (List (Int × Int))))) Unit)) :=
  br (cm .lss s.tl.tl.tl.hd (ln s.tl.tl.hd)) (ge s.tl.tl.hd s.tl.tl.tl.hd fun v2 =>
  call c_additiveref29_mod ((v2.2, s.hd) : (Int × Int)) fun (v3 : Int) =>
  call c_additiveref29_mod ((s.tl.hd, s.hd) : (Int × Int)) fun (v4 : Int) =>
  br (cm .eql v3 v4) (ge s.tl.tl.hd s.tl.tl.tl.hd fun v5 =>
  ge s.tl.tl.hd s.tl.tl.tl.hd fun v6 =>
  call c_additiveref18_Contains ((s.tl.tl.tl.tl.hd, ((ar .sub .i64 v5.1 1), v6.2)) : ((List (Int × (List (Int × Int)))) × (Int × Int))) fun (v7 : Bool) =>
  br (nt v7) (ge s.tl.tl.hd s.tl.tl.tl.hd fun v8 =>
  call c_additiveref29_run ((s.tl.tl.tl.tl.hd, ((v8.1, v8.2), (1, 0))) : ((List (Int × (List (Int × Int)))) × ((Int × Int) × (Int × Int)))) fun (v9 : (List (Int × Int))) =>
  gd (ft 40 (pl (ln s.tl.tl.tl.tl.tl.hd) 1)) <|
  some (.go ⟨s.hd, ⟨s.tl.hd, ⟨s.tl.tl.hd, ⟨(ar .add .i64 s.tl.tl.tl.hd 1), ⟨s.tl.tl.tl.tl.hd, ⟨(ap s.tl.tl.tl.tl.tl.hd ((4, (false, v9)) :: [])), ()⟩⟩⟩⟩⟩⟩))
  (some (.go ⟨s.hd, ⟨s.tl.hd, ⟨s.tl.tl.hd, ⟨(ar .add .i64 s.tl.tl.tl.hd 1), ⟨s.tl.tl.tl.tl.hd, ⟨s.tl.tl.tl.tl.tl.hd, ()⟩⟩⟩⟩⟩⟩)))
  (some (.go ⟨s.hd, ⟨s.tl.hd, ⟨s.tl.tl.hd, ⟨(ar .add .i64 s.tl.tl.tl.hd 1), ⟨s.tl.tl.tl.tl.hd, ⟨s.tl.tl.tl.tl.tl.hd, ()⟩⟩⟩⟩⟩⟩)))
  (some (.out ⟨s.tl.tl.tl.tl.tl.hd, ()⟩))
noncomputable def t_additiveref29_Rows [W] (a : ((List (Int × (List (Int × Int)))) × (Int × Int))) : Option (List (Int × (Bool × (List (Int × Int))))) :=
  call c_additiveref29_ok ((a.1, a.2.1) : ((List (Int × (List (Int × Int)))) × Int)) fun (v0 : Bool) =>
  br (nt v0) (some [])
  (call c_additiveref18_Cells (a.1 : (List (Int × (List (Int × Int))))) fun (v1 : (List (Int × Int))) =>
  loop t_additiveref29_Rows_L0 ⟨a.2.1, ⟨a.2.2, ⟨v1, ⟨0, ⟨a.1, ⟨[], ()⟩⟩⟩⟩⟩⟩ fun v10 =>
  some v10.hd)
noncomputable def c_additiveref29_Rows : Ctr := ⟨11, [(.ag, (.ls (.p I (.ls (.p I I))))), (.one, I), (.one, I)], [(false, (.ls (.p I (.p .bool (.ls (.p I I))))))], @t_additiveref29_Rows wv⟩
noncomputable def t_additiveref23_Same_L0 [W] (s : (HP Int (HP Int (HP Int (HP Bool (HP (List (Int × Int)) (HP Int (HP Bool (HP (List (Int × Int)) Unit))))))))) : Option (Nx (HP Int (HP Int (HP Int (HP Bool (HP (List (Int × Int)) (HP Int (HP Bool (HP (List (Int × Int)) Unit)))))))) (Unit ⊕ Unit)) :=
  br (cm .lss s.tl.hd s.hd) (ge s.tl.tl.tl.tl.hd s.tl.hd fun v0 =>
  ge s.tl.tl.tl.tl.tl.tl.tl.hd s.tl.hd fun v1 =>
  br (nt (an (cm .eql v0.1 v1.1) (cm .eql v0.2 v1.2))) (some (.out (.inl ())))
  (some (.go ⟨s.hd, ⟨(ar .add .i64 s.tl.hd 1), ⟨s.tl.tl.hd, ⟨s.tl.tl.tl.hd, ⟨s.tl.tl.tl.tl.hd, ⟨s.tl.tl.tl.tl.tl.hd, ⟨s.tl.tl.tl.tl.tl.tl.hd, ⟨s.tl.tl.tl.tl.tl.tl.tl.hd, ()⟩⟩⟩⟩⟩⟩⟩⟩)))
  (some (.out (.inr ())))
noncomputable def t_additiveref23_Same [W] (a : ((Int × (Bool × (List (Int × Int)))) × (Int × (Bool × (List (Int × Int)))))) : Option Bool :=
  br (cm .neq a.1.1 a.2.1) (some false)
  (br (nt (be a.1.2.1 a.2.2.1)) (some false)
  (br (cm .neq (ln a.1.2.2) (ln a.2.2.2)) (some false)
  (loop t_additiveref23_Same_L0 ⟨(ln a.1.2.2), ⟨0, ⟨a.1.1, ⟨a.1.2.1, ⟨a.1.2.2, ⟨a.2.1, ⟨a.2.2.1, ⟨a.2.2.2, ()⟩⟩⟩⟩⟩⟩⟩⟩ fun v2 =>
  match v2 with
  | .inl v3 => (some false)
  | .inr v4 => (some true))))
noncomputable def c_additiveref23_Same : Ctr := ⟨25, [(.ag, (.p I (.p .bool (.ls (.p I I))))), (.ag, (.p I (.p .bool (.ls (.p I I)))))], [(false, .bool)], @t_additiveref23_Same wv⟩
noncomputable def t_additiveref23_SameAll_L0 [W] (s : (HP (List (Int × (Bool × (List (Int × Int))))) (HP (List (Int × (Bool × (List (Int × Int))))) (HP Int (HP Int Unit))))) : Option (Nx (HP (List (Int × (Bool × (List (Int × Int))))) (HP (List (Int × (Bool × (List (Int × Int))))) (HP Int (HP Int Unit)))) (Unit ⊕ Unit)) :=
  br (cm .lss s.tl.tl.tl.hd s.tl.tl.hd) (ge s.hd s.tl.tl.tl.hd fun v0 =>
  ge s.tl.hd s.tl.tl.tl.hd fun v1 =>
  call c_additiveref23_Same (((v0.1, (v0.2.1, v0.2.2)), (v1.1, (v1.2.1, v1.2.2))) : ((Int × (Bool × (List (Int × Int)))) × (Int × (Bool × (List (Int × Int)))))) fun (v2 : Bool) =>
  br (nt v2) (some (.out (.inl ())))
  (some (.go ⟨s.hd, ⟨s.tl.hd, ⟨s.tl.tl.hd, ⟨(ar .add .i64 s.tl.tl.tl.hd 1), ()⟩⟩⟩⟩)))
  (some (.out (.inr ())))
noncomputable def t_additiveref23_SameAll [W] (a : ((List (Int × (Bool × (List (Int × Int))))) × (List (Int × (Bool × (List (Int × Int))))))) : Option Bool :=
  br (cm .neq (ln a.1) (ln a.2)) (some false)
  (loop t_additiveref23_SameAll_L0 ⟨a.1, ⟨a.2, ⟨(ln a.1), ⟨0, ()⟩⟩⟩⟩ fun v3 =>
  match v3 with
  | .inl v4 => (some false)
  | .inr v5 => (some true))
noncomputable def c_additiveref23_SameAll : Ctr := ⟨9, [(.one, (.ls (.p I (.p .bool (.ls (.p I I)))))), (.one, (.ls (.p I (.p .bool (.ls (.p I I))))))], [(false, .bool)], @t_additiveref23_SameAll wv⟩
noncomputable def t_hatch_flip_L0 [W] (s : (HP (List (Int × Int)) (HP Int (HP Int (HP (List (Int × Int)) Unit))))) : Option (Nx (HP (List (Int × Int)) (HP Int (HP Int (HP (List (Int × Int)) Unit)))) (HP (List (Int × Int)) Unit)) :=
  br (cm .lss s.tl.tl.hd s.tl.hd) (ge s.hd s.tl.tl.hd fun v0 =>
  gd (ib s.tl.tl.hd (ln s.tl.tl.tl.hd)) <|
  ge s.tl.tl.tl.hd s.tl.tl.hd fun v1 =>
  some (.go ⟨s.hd, ⟨s.tl.hd, ⟨(ar .add .i64 s.tl.tl.hd 1), ⟨(st s.tl.tl.tl.hd s.tl.tl.hd (v0.2, v0.1)), ()⟩⟩⟩⟩))
  (some (.out ⟨s.tl.tl.tl.hd, ()⟩))
noncomputable def t_hatch_flip [W] (a : (List (Int × Int))) : Option (List (Int × Int)) :=
  gd (le 0 (ln a)) <|
  gd (ft 16 (ln a)) <|
  loop t_hatch_flip_L0 ⟨a, ⟨(ln a), ⟨0, ⟨(rp (0, 0) (ln a)), ()⟩⟩⟩⟩ fun v2 =>
  some v2.hd
noncomputable def c_hatch_flip : Ctr := ⟨36, [(.one, (.ls (.p I I)))], [(false, (.ls (.p I I)))], @t_hatch_flip wv⟩
theorem e_hatch_flip (w : W) (a) : fnD (dW w) (cxO (gam []) [] [] [] []) 8 36 [(.one, (.ls (.p I I)))] [(false, (.ls (.p I I)))] a = @t_hatch_flip w a := by kernel_rfl
theorem g_hatch_flip : Go.Dn.Good PG c_hatch_flip := good (gam []) [] [] [] [] 8 gam_nil so_nil (fnOK_of (by kernel_rfl)) rfl rfl (e_hatch_flip wv)
noncomputable def t_region_Cells_L2 [W] (s : (HP Int (HP (List (Int × (List (Int × Int)))) (HP Int (HP Int (HP (List (Int × Int)) (HP Int (HP Int (HP Int (HP (List (Int × Int)) (HP Int (HP Int (HP (List (Int × Int)) Unit))))))))))))) : Option (Nx (HP Int (HP (List (Int × (List (Int × Int)))) (HP Int (HP Int (HP (List (Int × Int)) (HP Int (HP Int (HP Int (HP (List (Int × Int)) (HP Int (HP Int (HP (List (Int × Int)) Unit)))))))))))) (HP (List (Int × (List (Int × Int)))) (HP Int (HP Int (HP (List (Int × Int)) (HP Int (HP Int (HP Int (HP (List (Int × Int)) (HP (List (Int × Int)) Unit)))))))))) :=
  br (cm .lss s.hd s.tl.tl.tl.tl.tl.tl.tl.tl.tl.tl.hd) (gd (ft 16 (pl (ln s.tl.tl.tl.tl.tl.tl.tl.tl.tl.tl.tl.hd) 1)) <|
  some (.go ⟨(ar .add .i64 s.hd 1), ⟨s.tl.hd, ⟨s.tl.tl.hd, ⟨s.tl.tl.tl.hd, ⟨s.tl.tl.tl.tl.hd, ⟨s.tl.tl.tl.tl.tl.hd, ⟨s.tl.tl.tl.tl.tl.tl.hd, ⟨s.tl.tl.tl.tl.tl.tl.tl.hd, ⟨s.tl.tl.tl.tl.tl.tl.tl.tl.hd, ⟨s.tl.tl.tl.tl.tl.tl.tl.tl.tl.hd, ⟨s.tl.tl.tl.tl.tl.tl.tl.tl.tl.tl.hd, ⟨(ap s.tl.tl.tl.tl.tl.tl.tl.tl.tl.tl.tl.hd ((s.hd, s.tl.tl.tl.tl.tl.tl.tl.hd) :: [])), ()⟩⟩⟩⟩⟩⟩⟩⟩⟩⟩⟩⟩))
  (some (.out ⟨s.tl.hd, ⟨s.tl.tl.hd, ⟨s.tl.tl.tl.hd, ⟨s.tl.tl.tl.tl.hd, ⟨s.tl.tl.tl.tl.tl.hd, ⟨s.tl.tl.tl.tl.tl.tl.hd, ⟨s.tl.tl.tl.tl.tl.tl.tl.hd, ⟨s.tl.tl.tl.tl.tl.tl.tl.tl.hd, ⟨s.tl.tl.tl.tl.tl.tl.tl.tl.tl.tl.tl.hd, ()⟩⟩⟩⟩⟩⟩⟩⟩⟩))
noncomputable def t_region_Cells_L1 [W] (s : (HP (List (Int × (List (Int × Int)))) (HP Int (HP Int (HP (List (Int × Int)) (HP Int (HP Int (HP Int (HP (List (Int × Int)) (HP (List (Int × Int)) Unit)))))))))) : Option (Nx (HP (List (Int × (List (Int × Int)))) (HP Int (HP Int (HP (List (Int × Int)) (HP Int (HP Int (HP Int (HP (List (Int × Int)) (HP (List (Int × Int)) Unit))))))))) (HP (List (Int × (List (Int × Int)))) (HP Int (HP Int (HP (List (Int × Int)) Unit))))) :=
  br (cm .lss s.tl.tl.tl.tl.tl.hd s.tl.tl.tl.tl.hd) (ge s.tl.tl.tl.hd s.tl.tl.tl.tl.tl.hd fun v2 =>
  loop t_region_Cells_L2 ⟨v2.1, ⟨s.hd, ⟨s.tl.hd, ⟨s.tl.tl.hd, ⟨s.tl.tl.tl.hd, ⟨s.tl.tl.tl.tl.hd, ⟨s.tl.tl.tl.tl.tl.hd, ⟨s.tl.tl.tl.tl.tl.tl.hd, ⟨s.tl.tl.tl.tl.tl.tl.tl.hd, ⟨v2.1, ⟨v2.2, ⟨s.tl.tl.tl.tl.tl.tl.tl.tl.hd, ()⟩⟩⟩⟩⟩⟩⟩⟩⟩⟩⟩⟩ fun v3 =>
  some (.go ⟨v3.hd, ⟨v3.tl.hd, ⟨v3.tl.tl.hd, ⟨v3.tl.tl.tl.hd, ⟨v3.tl.tl.tl.tl.hd, ⟨(ar .add .i64 v3.tl.tl.tl.tl.tl.hd 1), ⟨v3.tl.tl.tl.tl.tl.tl.hd, ⟨v3.tl.tl.tl.tl.tl.tl.tl.hd, ⟨v3.tl.tl.tl.tl.tl.tl.tl.tl.hd, ()⟩⟩⟩⟩⟩⟩⟩⟩⟩))
  (some (.out ⟨s.hd, ⟨s.tl.hd, ⟨s.tl.tl.hd, ⟨s.tl.tl.tl.tl.tl.tl.tl.tl.hd, ()⟩⟩⟩⟩))
noncomputable def t_region_Cells_L0 [W] (s : (HP (List (Int × (List (Int × Int)))) (HP Int (HP Int (HP (List (Int × Int)) Unit))))) : Option (Nx (HP (List (Int × (List (Int × Int)))) (HP Int (HP Int (HP (List (Int × Int)) Unit)))) (HP (List (Int × Int)) Unit)) :=
  br (cm .lss s.tl.tl.hd s.tl.hd) (ge s.hd s.tl.tl.hd fun v1 =>
  loop t_region_Cells_L1 ⟨s.hd, ⟨s.tl.hd, ⟨s.tl.tl.hd, ⟨v1.2, ⟨(ln v1.2), ⟨0, ⟨v1.1, ⟨v1.2, ⟨s.tl.tl.tl.hd, ()⟩⟩⟩⟩⟩⟩⟩⟩⟩ fun v4 =>
  some (.go ⟨v4.hd, ⟨v4.tl.hd, ⟨(ar .add .i64 v4.tl.tl.hd 1), ⟨v4.tl.tl.tl.hd, ()⟩⟩⟩⟩))
  (some (.out ⟨s.tl.tl.tl.hd, ()⟩))
noncomputable def t_region_Cells [W] (a : (List (Int × (List (Int × Int))))) : Option (List (Int × Int)) :=
  call c_region_Valid (a : (List (Int × (List (Int × Int))))) fun (v0 : Bool) =>
  br (nt v0) (some [])
  (loop t_region_Cells_L0 ⟨a, ⟨(ln a), ⟨0, ⟨[], ()⟩⟩⟩⟩ fun v5 =>
  some v5.hd)
noncomputable def c_region_Cells : Ctr := ⟨37, [(.ag, (.ls (.p I (.ls (.p I I)))))], [(false, (.ls (.p I I)))], @t_region_Cells wv⟩
theorem e_region_Cells (w : W) (a) : fnD (dW w) (cxO (gam [(26, c_region_Valid)]) [] [] [] []) 8 37 [(.ag, (.ls (.p I (.ls (.p I I)))))] [(false, (.ls (.p I I)))] a = @t_region_Cells w a := by kernel_rfl
theorem g_region_Cells : Go.Dn.Good PG c_region_Cells := good (gam [(26, c_region_Valid)]) [] [] [] [] 8 (gam_cons g_region_Valid gam_nil) so_nil (fnOK_of (by kernel_rfl)) rfl rfl (e_region_Cells wv)
noncomputable def t_additiveref29_before [W] (a : ((Int × Int) × (Int × Int))) : Option Bool :=
  br (cm .neq a.1.1 a.2.1) (some (cm .lss a.1.1 a.2.1))
  (some (cm .lss a.1.2 a.2.2))
noncomputable def c_additiveref29_before : Ctr := ⟨38, [(.ag, (.p I I)), (.ag, (.p I I))], [(false, .bool)], @t_additiveref29_before wv⟩
noncomputable def t_additiveref29_Columns_L1 [W] (s : (HP Int (HP Int (HP (List (Int × Int)) (HP Int (HP Int (HP (List (Int × (List (Int × Int)))) (HP (List (Int × (Bool × (List (Int × Int))))) (HP Int (HP (List (Int × Int)) Unit)))))))))) : Option (Nx (HP Int (HP Int (HP (List (Int × Int)) (HP Int (HP Int (HP (List (Int × (List (Int × Int)))) (HP (List (Int × (Bool × (List (Int × Int))))) (HP Int (HP (List (Int × Int)) Unit))))))))) (HP Int (HP Int (HP (List (Int × Int)) (HP Int (HP Int (HP (List (Int × (List (Int × Int)))) (HP (List (Int × (Bool × (List (Int × Int))))) (HP Int (HP (List (Int × Int)) Unit)))))))))) :=
  br (cm .lss s.tl.tl.tl.tl.hd (ln s.tl.tl.tl.tl.tl.tl.hd)) (gd (ib s.tl.tl.tl.tl.hd (ln s.tl.tl.tl.tl.tl.tl.hd)) <|
  ge s.tl.tl.tl.tl.tl.tl.hd s.tl.tl.tl.tl.hd fun v10 =>
  ge v10.2.2 0 fun v11 =>
  ge s.tl.tl.hd s.tl.tl.tl.hd fun v12 =>
  call c_additiveref29_before (((v11.1, v11.2), (v12.1, v12.2)) : ((Int × Int) × (Int × Int))) fun (v13 : Bool) =>
  br v13 (some (.go ⟨s.hd, ⟨s.tl.hd, ⟨s.tl.tl.hd, ⟨s.tl.tl.tl.hd, ⟨(ar .add .i64 s.tl.tl.tl.tl.hd 1), ⟨s.tl.tl.tl.tl.tl.hd, ⟨s.tl.tl.tl.tl.tl.tl.hd, ⟨s.tl.tl.tl.tl.tl.tl.tl.hd, ⟨s.tl.tl.tl.tl.tl.tl.tl.tl.hd, ()⟩⟩⟩⟩⟩⟩⟩⟩⟩))
  (some (.out ⟨s.hd, ⟨s.tl.hd, ⟨s.tl.tl.hd, ⟨s.tl.tl.tl.hd, ⟨s.tl.tl.tl.tl.hd, ⟨s.tl.tl.tl.tl.tl.hd, ⟨s.tl.tl.tl.tl.tl.tl.hd, ⟨s.tl.tl.tl.tl.tl.tl.tl.hd, ⟨s.tl.tl.tl.tl.tl.tl.tl.tl.hd, ()⟩⟩⟩⟩⟩⟩⟩⟩⟩)))
  (some (.out ⟨s.hd, ⟨s.tl.hd, ⟨s.tl.tl.hd, ⟨s.tl.tl.tl.hd, ⟨s.tl.tl.tl.tl.hd, ⟨s.tl.tl.tl.tl.tl.hd, ⟨s.tl.tl.tl.tl.tl.tl.hd, ⟨s.tl.tl.tl.tl.tl.tl.tl.hd, ⟨s.tl.tl.tl.tl.tl.tl.tl.tl.hd, ()⟩⟩⟩⟩⟩⟩⟩⟩⟩))
noncomputable def t_additiveref29_Columns_L0 [W] (s : (HP Int (HP Int (HP (List (Int × Int)) (HP Int (HP (List (Int × (List (Int × Int)))) (HP (List (Int × (Bool × (List (Int × Int))))) Unit))))))) : Option (Nx (HP Int (HP Int (HP (List (Int × Int)) (HP Int (HP (List (Int × (List (Int × Int)))) (HP (List (Int × (Bool × (List (Int × Int))))) Unit)))))) (HP (List (Int × (Bool × (List (Int × Int))))) Unit)) :=
  br (cm .lss s.tl.tl.tl.hd (ln s.tl.tl.hd)) (ge s.tl.tl.hd s.tl.tl.tl.hd fun v2 =>
  call c_additiveref29_mod ((v2.1, s.hd) : (Int × Int)) fun (v3 : Int) =>
  call c_additiveref29_mod ((s.tl.hd, s.hd) : (Int × Int)) fun (v4 : Int) =>
  br (cm .neq v3 v4) (some (.go ⟨s.hd, ⟨s.tl.hd, ⟨s.tl.tl.hd, ⟨(ar .add .i64 s.tl.tl.tl.hd 1), ⟨s.tl.tl.tl.tl.hd, ⟨s.tl.tl.tl.tl.tl.hd, ()⟩⟩⟩⟩⟩⟩))
  (ge s.tl.tl.hd s.tl.tl.tl.hd fun v5 =>
  ge s.tl.tl.hd s.tl.tl.tl.hd fun v6 =>
  call c_additiveref18_Contains ((s.tl.tl.tl.tl.hd, (v5.1, (ar .sub .i64 v6.2 1))) : ((List (Int × (List (Int × Int)))) × (Int × Int))) fun (v7 : Bool) =>
  br v7 (some (.go ⟨s.hd, ⟨s.tl.hd, ⟨s.tl.tl.hd, ⟨(ar .add .i64 s.tl.tl.tl.hd 1), ⟨s.tl.tl.tl.tl.hd, ⟨s.tl.tl.tl.tl.tl.hd, ()⟩⟩⟩⟩⟩⟩))
  (ge s.tl.tl.hd s.tl.tl.tl.hd fun v8 =>
  call c_additiveref29_run ((s.tl.tl.tl.tl.hd, ((v8.1, v8.2), (0, 1))) : ((List (Int × (List (Int × Int)))) × ((Int × Int) × (Int × Int)))) fun (v9 : (List (Int × Int))) =>
  loop t_additiveref29_Columns_L1 ⟨s.hd, ⟨s.tl.hd, ⟨s.tl.tl.hd, ⟨s.tl.tl.tl.hd, ⟨0, ⟨s.tl.tl.tl.tl.hd, ⟨s.tl.tl.tl.tl.tl.hd, ⟨4, ⟨v9, ()⟩⟩⟩⟩⟩⟩⟩⟩⟩ fun v14 =>
  gd (le 0 v14.tl.tl.tl.tl.hd) <|
  gd (le v14.tl.tl.tl.tl.hd (ln v14.tl.tl.tl.tl.tl.tl.hd)) <|
  gd (le 0 0) <|
  gd (le 0 v14.tl.tl.tl.tl.hd) <|
  gd (le (pl 0 v14.tl.tl.tl.tl.hd) (ln v14.tl.tl.tl.tl.tl.tl.hd)) <|
  gd (ft 40 (pl 0 (ln (ct v14.tl.tl.tl.tl.tl.tl.hd 0 v14.tl.tl.tl.tl.hd)))) <|
  gd (ft 40 (pl (ln (ct v14.tl.tl.tl.tl.tl.tl.hd 0 v14.tl.tl.tl.tl.hd)) 1)) <|
  gd (le 0 v14.tl.tl.tl.tl.hd) <|
  gd (le v14.tl.tl.tl.tl.hd (ln v14.tl.tl.tl.tl.tl.tl.hd)) <|
  gd (le 0 v14.tl.tl.tl.tl.hd) <|
  gd (le 0 (mi (ln v14.tl.tl.tl.tl.tl.tl.hd) v14.tl.tl.tl.tl.hd)) <|
  gd (le (pl v14.tl.tl.tl.tl.hd (mi (ln v14.tl.tl.tl.tl.tl.tl.hd) v14.tl.tl.tl.tl.hd)) (ln v14.tl.tl.tl.tl.tl.tl.hd)) <|
  gd (ft 40 (pl (ln (ap (ct v14.tl.tl.tl.tl.tl.tl.hd 0 v14.tl.tl.tl.tl.hd) ((v14.tl.tl.tl.tl.tl.tl.tl.hd, (false, v14.tl.tl.tl.tl.tl.tl.tl.tl.hd)) :: []))) (ln (ct v14.tl.tl.tl.tl.tl.tl.hd v14.tl.tl.tl.tl.hd (mi (ln v14.tl.tl.tl.tl.tl.tl.hd) v14.tl.tl.tl.tl.hd))))) <|
  some (.go ⟨v14.hd, ⟨v14.tl.hd, ⟨v14.tl.tl.hd, ⟨(ar .add .i64 v14.tl.tl.tl.hd 1), ⟨v14.tl.tl.tl.tl.tl.hd, ⟨(ap (ap (ct v14.tl.tl.tl.tl.tl.tl.hd 0 v14.tl.tl.tl.tl.hd) ((v14.tl.tl.tl.tl.tl.tl.tl.hd, (false, v14.tl.tl.tl.tl.tl.tl.tl.tl.hd)) :: [])) (ct v14.tl.tl.tl.tl.tl.tl.hd v14.tl.tl.tl.tl.hd (mi (ln v14.tl.tl.tl.tl.tl.tl.hd) v14.tl.tl.tl.tl.hd))), ()⟩⟩⟩⟩⟩⟩))))
  (some (.out ⟨s.tl.tl.tl.tl.tl.hd, ()⟩))
noncomputable def t_additiveref29_Columns [W] (a : ((List (Int × (List (Int × Int)))) × (Int × Int))) : Option (List (Int × (Bool × (List (Int × Int))))) :=
  call c_additiveref29_ok ((a.1, a.2.1) : ((List (Int × (List (Int × Int)))) × Int)) fun (v0 : Bool) =>
  br (nt v0) (some [])
  (call c_additiveref18_Cells (a.1 : (List (Int × (List (Int × Int))))) fun (v1 : (List (Int × Int))) =>
  loop t_additiveref29_Columns_L0 ⟨a.2.1, ⟨a.2.2, ⟨v1, ⟨0, ⟨a.1, ⟨[], ()⟩⟩⟩⟩⟩⟩ fun v15 =>
  some v15.hd)
noncomputable def c_additiveref29_Columns : Ctr := ⟨13, [(.ag, (.ls (.p I (.ls (.p I I))))), (.one, I), (.one, I)], [(false, (.ls (.p I (.p .bool (.ls (.p I I))))))], @t_additiveref29_Columns wv⟩
end Go.Proofs.YtmiobebagbhffaaGreat
namespace Go.Proofs.YtmiobebagbhffaaGreat
open Go Go.Vv Go.Dn Go.Dn.W
set_option linter.unusedVariables false
set_option maxRecDepth 100000
noncomputable def t_cmp_isNaN [W] (a : Int) : Option Bool :=
  some (cm .neq a a)
noncomputable def c_cmp_isNaN : Ctr := ⟨82, [(.one, I)], [(false, .bool)], @t_cmp_isNaN wv⟩
theorem e_cmp_isNaN (w : W) (a) : fnD (dW w) (cxO (gam []) [] [] [] []) 8 82 [(.one, I)] [(false, .bool)] a = @t_cmp_isNaN w a := by kernel_rfl
theorem g_cmp_isNaN : Go.Dn.Good PG c_cmp_isNaN := good (gam []) [] [] [] [] 8 gam_nil so_nil (fnOK_of (by kernel_rfl)) rfl rfl (e_cmp_isNaN wv)
noncomputable def t_cmp_Compare [W] (a : (Int × Int)) : Option Int :=
  call c_cmp_isNaN (a.1 : Int) fun (v0 : Bool) =>
  call c_cmp_isNaN (a.2 : Int) fun (v1 : Bool) =>
  br v0 (br v1 (some 0)
  (some (-1)))
  (br v1 (some 1)
  (br (cm .lss a.1 a.2) (some (-1))
  (br (cm .gtr a.1 a.2) (some 1)
  (some 0))))
noncomputable def c_cmp_Compare : Ctr := ⟨60, [(.one, I), (.one, I)], [(false, I)], @t_cmp_Compare wv⟩
theorem e_cmp_Compare (w : W) (a) : fnD (dW w) (cxO (gam [(82, c_cmp_isNaN)]) [] [] [] []) 8 60 [(.one, I), (.one, I)] [(false, I)] a = @t_cmp_Compare w a := by kernel_rfl
theorem g_cmp_Compare : Go.Dn.Good PG c_cmp_Compare := good (gam [(82, c_cmp_isNaN)]) [] [] [] [] 8 (gam_cons g_cmp_isNaN gam_nil) so_nil (fnOK_of (by kernel_rfl)) rfl rfl (e_cmp_Compare wv)
noncomputable def t_cmp_Or_L0 [W] (s : (HP Int (HP (List Int) (HP Int (HP Int Unit))))) : Option (Nx (HP Int (HP (List Int) (HP Int (HP Int Unit)))) ((HP Int Unit) ⊕ (HP Int Unit))) :=
  br (cm .lss s.tl.tl.tl.hd s.tl.tl.hd) (ge s.tl.hd s.tl.tl.tl.hd fun v0 =>
  br (cm .neq v0 s.hd) (some (.out (.inl ⟨v0, ()⟩)))
  (some (.go ⟨s.hd, ⟨s.tl.hd, ⟨s.tl.tl.hd, ⟨(ar .add .i64 s.tl.tl.tl.hd 1), ()⟩⟩⟩⟩)))
  (some (.out (.inr ⟨s.hd, ()⟩)))
noncomputable def t_cmp_Or [W] (a : (List Int)) : Option Int :=
  loop t_cmp_Or_L0 ⟨0, ⟨a, ⟨(ln a), ⟨0, ()⟩⟩⟩⟩ fun v1 =>
  match v1 with
  | .inl v2 => (some v2.hd)
  | .inr v3 => (some v3.hd)
noncomputable def c_cmp_Or : Ctr := ⟨59, [(.one, (.ls I))], [(false, I)], @t_cmp_Or wv⟩
theorem e_cmp_Or (w : W) (a) : fnD (dW w) (cxO (gam []) [] [] [] []) 8 59 [(.one, (.ls I))] [(false, I)] a = @t_cmp_Or w a := by kernel_rfl
theorem g_cmp_Or : Go.Dn.Good PG c_cmp_Or := good (gam []) [] [] [] [] 8 gam_nil so_nil (fnOK_of (by kernel_rfl)) rfl rfl (e_cmp_Or wv)
noncomputable def t_region_Of_1 [W] (a : ((Int × Int) × (Int × Int))) : Option Int :=
  call c_cmp_Compare ((a.1.2, a.2.2) : (Int × Int)) fun (v0 : Int) =>
  call c_cmp_Compare ((a.1.1, a.2.1) : (Int × Int)) fun (v1 : Int) =>
  call c_cmp_Or ((v0 :: (v1 :: [])) : (List Int)) fun (v2 : Int) =>
  some v2
noncomputable def c_region_Of_1 : Ctr := ⟨58, [(.ag, (.p I I)), (.ag, (.p I I))], [(false, I)], @t_region_Of_1 wv⟩
theorem e_region_Of_1 (w : W) (a) : fnD (dW w) (cxO (gam [(60, c_cmp_Compare), (59, c_cmp_Or)]) [] [] [] []) 8 58 [(.ag, (.p I I)), (.ag, (.p I I))] [(false, I)] a = @t_region_Of_1 w a := by kernel_rfl
theorem g_region_Of_1 : Go.Dn.Good PG c_region_Of_1 := good (gam [(60, c_cmp_Compare), (59, c_cmp_Or)]) [] [] [] [] 8 (gam_cons g_cmp_Compare (gam_cons g_cmp_Or gam_nil)) so_nil (fnOK_of (by kernel_rfl)) rfl rfl (e_region_Of_1 wv)
end Go.Proofs.YtmiobebagbhffaaGreat
namespace Go.Proofs.YtmiobebagbhffaaGreat
open Go Go.Vv Go.Dn
set_option linter.unusedVariables false
set_option linter.unusedSimpArgs false
set_option maxRecDepth 100000
def cmpI (a b : Int) : Int := if a < b then -1 else if a > b then 1 else 0
def orI (a b : Int) : Int := if a ≠ 0 then a else b
theorem isNaN_ok (a : Int) : @t_cmp_isNaN wv a = some false := by
 show some (icm .neq a a) = _
 simp [icm]
theorem obind_s {α β : Type} (x : α) (k : α → Option β) : obind (some x) k = k x := rfl
theorem compare_ok (a b : Int) : @t_cmp_Compare wv (a, b) = some (cmpI a b) := by
 show obind (@t_cmp_isNaN wv a) (fun v0 => obind (@t_cmp_isNaN wv b) fun v1 => if v0 = true then (if v1 = true then some 0 else some (-1)) else if v1 = true then some 1 else if icm .lss a b = true then some (-1) else if icm .gtr a b = true then some 1 else some 0) = _
 rw [isNaN_ok, isNaN_ok, obind_s, obind_s]
 simp only [icm, decide_eq_true_eq, Bool.false_eq_true, if_false, cmpI]
 split
 ·rfl
 ·split <;> rfl
theorem or_ok (a b : Int) : @t_cmp_Or wv [a, b] = some (orI a b) := by
 unfold t_cmp_Or
 show obind (loopN (@t_cmp_Or_L0 wv) (18446744073709551613 + 1 + 1 + 1) ⟨0, ⟨[a, b], ⟨(2 : Int), ⟨0, ()⟩⟩⟩⟩) _ = _
 have e0 : @t_cmp_Or_L0 wv ⟨0, ⟨[a, b], ⟨(2 : Int), ⟨0, ()⟩⟩⟩⟩ = if icm .neq a 0 = true then some (.out (.inl ⟨a, ()⟩)) else some (.go ⟨0, ⟨[a, b], ⟨(2 : Int), ⟨1, ()⟩⟩⟩⟩) := rfl
 have e1 : @t_cmp_Or_L0 wv ⟨0, ⟨[a, b], ⟨(2 : Int), ⟨1, ()⟩⟩⟩⟩ = if icm .neq b 0 = true then some (.out (.inl ⟨b, ()⟩)) else some (.go ⟨0, ⟨[a, b], ⟨(2 : Int), ⟨2, ()⟩⟩⟩⟩) := rfl
 have e2 : @t_cmp_Or_L0 wv ⟨0, ⟨[a, b], ⟨(2 : Int), ⟨2, ()⟩⟩⟩⟩ = some (.out (.inr ⟨0, ()⟩)) := rfl
 by_cases ha : a = 0
 ·subst ha
  by_cases hb : b = 0
  ·subst hb
   rfl
  ·have hb' : icm .neq b 0 = true := by simp [icm, hb]
   rw [if_neg (by simp [icm])] at e0
   rw [if_pos hb'] at e1
   simp only [loopN, e0, e1, orI]
   rfl
 ·have ha' : icm .neq a 0 = true := by simp [icm, ha]
  rw [if_pos ha'] at e0
  simp only [loopN, e0, orI, if_pos ha]
  rfl
def cmpC (x y : Int × Int) : Int := orI (cmpI x.2 y.2) (cmpI x.1 y.1)
theorem of1_ok (x y : Int × Int) : @t_region_Of_1 wv (x, y) = some (cmpC x y) := by
 show obind (@t_cmp_Compare wv (x.2, y.2)) (fun v0 => obind (@t_cmp_Compare wv (x.1, y.1)) fun v1 => obind (@t_cmp_Or wv [v0, v1]) fun v2 => some v2) = _
 rw [compare_ok, compare_ok, obind_s, obind_s, or_ok]
 rfl
theorem cmpC_lt (x y : Int × Int) : cmpC x y < 0 ↔ x.2 < y.2 ∨ (x.2 = y.2 ∧ x.1 < y.1) := by
 unfold cmpC orI cmpI
 constructor
 ·intro h
  split at h <;> (repeat' split at h) <;> omega
 ·intro h
  split <;> (repeat' split) <;> omega
end Go.Proofs.YtmiobebagbhffaaGreat
