/- Cells are sorted by the library's sort. Conditions: none. -/
import Derived.Test.YtmiobebagbhffaaGreatXA
import Derived.Test.YtmiobebagbhffaaGreatFB
import Derived.Test.YtmiobebagbhffaaGreatTK
namespace Go.Proofs.YtmiobebagbhffaaGreat
open Go Go.Vv Go.Dn
set_option linter.unusedVariables false
set_option linter.unusedSimpArgs false
set_option maxRecDepth 100000
theorem swoC : Go.Sort.SWO (Go.Proofs.ltOf cmpC) := by
 refine ⟨fun x => ?_, fun x y z h1 h2 => ?_, fun x y z h1 h2 => ?_⟩
 ·simp only [Go.Proofs.ltOf, decide_eq_false_iff_not, cmpC_lt]; omega
 ·simp only [Go.Proofs.ltOf, decide_eq_true_eq, cmpC_lt] at *; omega
 ·simp only [Go.Proofs.ltOf, decide_eq_false_iff_not, cmpC_lt] at *; omega
theorem totC (x y : Int × Int) (h1 : Go.Proofs.ltOf cmpC x y = false) (h2 : Go.Proofs.ltOf cmpC y x = false) : x = y := by
 simp only [Go.Proofs.ltOf, decide_eq_false_iff_not, cmpC_lt] at *
 obtain ⟨a, b⟩ := x
 obtain ⟨c, d⟩ := y
 simp only [Prod.mk.injEq] at *
 omega
noncomputable def s57_58 : SCt := ⟨57, 58, true, .p I I, fun l => if List.length (α := Int × Int) l < 4611686018427387904 then some (isort (α := Int × Int) (fun x y => !(Go.Proofs.ltOf cmpC) y x) l) else none⟩
noncomputable def c_s57_58 : Ctr := s57_58.ctr
instance : Inhabited (Ty.p I I).T := ⟨((0 : Int), (0 : Int))⟩
theorem g_s57_58 : SGood PG s57_58 :=
 sgood_cmp (P := PG) (ρ := Tryz.sortL57_ren) (t := .p I I) Tryz.sortL57 rfl (by decide) (fun w => by kernel_rfl) (fun w => by kernel_rfl) (g := 58) (fn := @t_region_Of_1 wv) g_region_Of_1 cmpC of1_ok swoC totC (by decide) (fnOK_of (by kernel_rfl))
end Go.Proofs.YtmiobebagbhffaaGreat
namespace Go.Proofs.YtmiobebagbhffaaGreat
open Go Go.Vv Go.Dn Go.Dn.W
set_option linter.unusedVariables false
set_option maxRecDepth 100000
noncomputable def t_region_Of_L0 [W] (s : (HP (List (Int × Int)) (HP (List (Int × Int)) (HP Int (HP Int Unit))))) : Option (Nx (HP (List (Int × Int)) (HP (List (Int × Int)) (HP Int (HP Int Unit)))) ((HP Int Unit) ⊕ (HP (List (Int × Int)) Unit))) :=
  br (cm .lss s.tl.tl.tl.hd s.tl.tl.hd) (ge s.tl.hd s.tl.tl.tl.hd fun v0 =>
  call c_region_ok (v0.1 : Int) fun (v1 : Bool) =>
  br (nt v1) (some (.out (.inl ⟨8, ()⟩)))
  (call c_region_ok (v0.2 : Int) fun (v2 : Bool) =>
  br (nt v2) (some (.out (.inl ⟨8, ()⟩)))
  (some (.go ⟨s.hd, ⟨s.tl.hd, ⟨s.tl.tl.hd, ⟨(ar .add .i64 s.tl.tl.tl.hd 1), ()⟩⟩⟩⟩))))
  (some (.out (.inr ⟨s.hd, ()⟩)))
noncomputable def t_region_Of_L1 [W] (s : (HP Int (HP Int Unit))) : Option (Nx (HP Int (HP Int Unit)) Unit) :=
  br (cm .lss s.tl.hd s.hd) (none)
  (some (.out ()))
noncomputable def t_region_Of_L2 [W] (s : (HP Int (HP Int (HP (List (Int × Int)) (HP (List (Int × (List (Int × Int)))) (HP (List (Int × Int)) Unit)))))) : Option (Nx (HP Int (HP Int (HP (List (Int × Int)) (HP (List (Int × (List (Int × Int)))) (HP (List (Int × Int)) Unit))))) (HP (List (Int × (List (Int × Int)))) (HP (List (Int × Int)) Unit))) :=
  br (cm .lss s.tl.hd s.hd) (gd (ib s.tl.hd (ln s.tl.tl.hd)) <|
  ge s.tl.tl.hd s.tl.hd fun v9 =>
  br (cm .eql (ln s.tl.tl.tl.hd) 0) (gd (ft 32 (pl (ln s.tl.tl.tl.hd) 1)) <|
  some (.go ⟨s.hd, ⟨(ar .add .i64 s.tl.hd 1), ⟨s.tl.tl.hd, ⟨(ap (ml s.tl.tl.tl.hd fun y => (y.1, s.tl.tl.tl.tl.hd)) ((v9.2, []) :: [])), ⟨((v9.1, (ar .add .i64 v9.1 1)) :: []), ()⟩⟩⟩⟩⟩))
  (gd (ib (ar .sub .i64 (ln s.tl.tl.tl.hd) 1) (ln s.tl.tl.tl.hd)) <|
  ge s.tl.tl.tl.hd (ar .sub .i64 (ln s.tl.tl.tl.hd) 1) fun v10 =>
  br (cm .neq v10.1 v9.2) (gd (ft 32 (pl (ln s.tl.tl.tl.hd) 1)) <|
  some (.go ⟨s.hd, ⟨(ar .add .i64 s.tl.hd 1), ⟨s.tl.tl.hd, ⟨(ap (ml s.tl.tl.tl.hd fun y => (y.1, s.tl.tl.tl.tl.hd)) ((v9.2, []) :: [])), ⟨((v9.1, (ar .add .i64 v9.1 1)) :: []), ()⟩⟩⟩⟩⟩))
  (gd (ib (ar .sub .i64 (ln s.tl.tl.tl.hd) 1) (ln s.tl.tl.tl.hd)) <|
  ge s.tl.tl.tl.hd (ar .sub .i64 (ln s.tl.tl.tl.hd) 1) fun v11 =>
  gd (cm .eql (pl (ar .sub .i64 (ln s.tl.tl.tl.hd) 1) 1) (ln s.tl.tl.tl.hd)) <|
  ge s.tl.tl.tl.hd (ar .sub .i64 (ln s.tl.tl.tl.hd) 1) fun v12 =>
  gd (cm .eql (pl (ar .sub .i64 (ln s.tl.tl.tl.hd) 1) 1) (ln s.tl.tl.tl.hd)) <|
  gd (ib (ar .sub .i64 (ln s.tl.tl.tl.tl.hd) 1) (ln s.tl.tl.tl.tl.hd)) <|
  ge s.tl.tl.tl.tl.hd (ar .sub .i64 (ln s.tl.tl.tl.tl.hd) 1) fun v13 =>
  br (cm .gtr v9.1 v13.2) (ge s.tl.tl.tl.hd (ar .sub .i64 (ln s.tl.tl.tl.hd) 1) fun v14 =>
  gd (cm .eql (pl (ar .sub .i64 (ln s.tl.tl.tl.hd) 1) 1) (ln s.tl.tl.tl.hd)) <|
  gd (ft 16 (pl (ln s.tl.tl.tl.tl.hd) 1)) <|
  ge s.tl.tl.tl.hd (ar .sub .i64 (ln s.tl.tl.tl.hd) 1) fun v15 =>
  gd (cm .eql (pl (ar .sub .i64 (ln s.tl.tl.tl.hd) 1) 1) (ln s.tl.tl.tl.hd)) <|
  some (.go ⟨s.hd, ⟨(ar .add .i64 s.tl.hd 1), ⟨s.tl.tl.hd, ⟨(st s.tl.tl.tl.hd (ar .sub .i64 (ln s.tl.tl.tl.hd) 1) (v15.1, v15.2)), ⟨(ap s.tl.tl.tl.tl.hd ((v9.1, (ar .add .i64 v9.1 1)) :: [])), ()⟩⟩⟩⟩⟩))
  (ge s.tl.tl.tl.tl.hd (ar .sub .i64 (ln s.tl.tl.tl.tl.hd) 1) fun v16 =>
  ge s.tl.tl.tl.tl.hd (ar .sub .i64 (ln s.tl.tl.tl.tl.hd) 1) fun v17 =>
  some (.go ⟨s.hd, ⟨(ar .add .i64 s.tl.hd 1), ⟨s.tl.tl.hd, ⟨s.tl.tl.tl.hd, ⟨(st s.tl.tl.tl.tl.hd (ar .sub .i64 (ln s.tl.tl.tl.tl.hd) 1) (v17.1, (mx v16.2 (ar .add .i64 v9.1 1)))), ()⟩⟩⟩⟩⟩)))))
  (some (.out ⟨s.tl.tl.tl.hd, ⟨s.tl.tl.tl.tl.hd, ()⟩⟩))
noncomputable def t_region_Of [W] (a : (List (Int × Int))) : Option ((List (Int × (List (Int × Int)))) × Int) :=
  loop t_region_Of_L0 ⟨a, ⟨a, ⟨(ln a), ⟨0, ()⟩⟩⟩⟩ fun v3 =>
  match v3 with
  | .inl v4 => (some ([], v4.hd))
  | .inr v5 => (nq (ln v5.hd) fun v6 =>
  br v6 (loop t_region_Of_L1 ⟨0, ⟨0, ()⟩⟩ fun v7 =>
  some ([], 0))
  (gd (ft 16 (pl 0 (ln v5.hd))) <|
  call c_s57_58 (v5.hd : (List (Int × Int))) fun (v8 : (List (Int × Int))) =>
  loop t_region_Of_L2 ⟨(ln v8), ⟨0, ⟨v8, ⟨[], ⟨[], ()⟩⟩⟩⟩⟩ fun v18 =>
  some ((ml v18.hd fun y => (y.1, v18.tl.hd)), 0)))
noncomputable def c_region_Of : Ctr := ⟨35, [(.one, (.ls (.p I I)))], [(true, (.ls (.p I (.ls (.p I I))))), (false, I)], @t_region_Of wv⟩
theorem e_region_Of (w : W) (a) : fnD (dW w) (cxO (gam [(52, c_region_ok)]) [11, 12, 13, 14, 15, 16, 17, 18, 19, 20, 21] [] [s57_58] []) 8 35 [(.one, (.ls (.p I I)))] [(true, (.ls (.p I (.ls (.p I I))))), (false, I)] a = @t_region_Of w a := by kernel_rfl
theorem g_region_Of : Go.Dn.Good PG c_region_Of := good (gam [(52, c_region_ok)]) [11, 12, 13, 14, 15, 16, 17, 18, 19, 20, 21] [] [s57_58] [] 8 (gam_cons g_region_ok gam_nil) (so_cons g_s57_58 so_nil) (fnOK_of (by kernel_rfl)) rfl rfl (e_region_Of wv)
noncomputable def t_hatch_Columns_L0 [W] (s : (HP Int (HP Int Unit))) : Option (Nx (HP Int (HP Int Unit)) Unit) :=
  br (cm .lss s.tl.hd s.hd) (none)
  (some (.out ()))
noncomputable def t_hatch_Columns_L1 [W] (s : (HP Int (HP Int Unit))) : Option (Nx (HP Int (HP Int Unit)) Unit) :=
  br (cm .lss s.tl.hd s.hd) (none)
  (some (.out ()))
noncomputable def t_hatch_Columns_L3 [W] (s : (HP Int (HP Int (HP (List (Int × (List (Int × Int)))) (HP Int (HP Int (HP (List (Int × Int)) (HP Int (HP Int (HP (List (Int × (Bool × (List (Int × Int))))) (HP Int (HP (List (Int × Int)) Unit)))))))))))) : Option (Nx (HP Int (HP Int (HP (List (Int × (List (Int × Int)))) (HP Int (HP Int (HP (List (Int × Int)) (HP Int (HP Int (HP (List (Int × (Bool × (List (Int × Int))))) (HP Int (HP (List (Int × Int)) Unit))))))))))) (HP Int (HP Int (HP (List (Int × (List (Int × Int)))) (HP Int (HP Int (HP (List (Int × (Bool × (List (Int × Int))))) Unit))))))) :=
  br (cm .lss s.tl.tl.tl.tl.tl.tl.tl.hd s.tl.tl.tl.tl.tl.tl.hd) (ge s.tl.tl.tl.tl.tl.hd s.tl.tl.tl.tl.tl.tl.tl.hd fun v9 =>
  call c_hatch_line ((s.tl.tl.tl.tl.tl.tl.tl.tl.tl.hd, (v9.1, v9.2)) : (Int × (Int × Int))) fun (v10 : (List (Int × Int))) =>
  gd (ft 40 (pl (ln s.tl.tl.tl.tl.tl.tl.tl.tl.hd) 1)) <|
  some (.go ⟨s.hd, ⟨s.tl.hd, ⟨s.tl.tl.hd, ⟨s.tl.tl.tl.hd, ⟨s.tl.tl.tl.tl.hd, ⟨s.tl.tl.tl.tl.tl.hd, ⟨s.tl.tl.tl.tl.tl.tl.hd, ⟨(ar .add .i64 s.tl.tl.tl.tl.tl.tl.tl.hd 1), ⟨(ap s.tl.tl.tl.tl.tl.tl.tl.tl.hd ((4, (false, v10)) :: [])), ⟨s.tl.tl.tl.tl.tl.tl.tl.tl.tl.hd, ⟨s.tl.tl.tl.tl.tl.tl.tl.tl.tl.tl.hd, ()⟩⟩⟩⟩⟩⟩⟩⟩⟩⟩⟩))
  (some (.out ⟨s.hd, ⟨s.tl.hd, ⟨s.tl.tl.hd, ⟨s.tl.tl.tl.hd, ⟨s.tl.tl.tl.tl.hd, ⟨s.tl.tl.tl.tl.tl.tl.tl.tl.hd, ()⟩⟩⟩⟩⟩⟩))
noncomputable def t_hatch_Columns_L2 [W] (s : (HP Int (HP Int (HP (List (Int × (List (Int × Int)))) (HP Int (HP Int (HP (List (Int × (Bool × (List (Int × Int))))) Unit))))))) : Option (Nx (HP Int (HP Int (HP (List (Int × (List (Int × Int)))) (HP Int (HP Int (HP (List (Int × (Bool × (List (Int × Int))))) Unit)))))) (HP (List (Int × (Bool × (List (Int × Int))))) Unit)) :=
  br (cm .lss s.tl.tl.tl.tl.hd s.tl.tl.tl.hd) (ge s.tl.tl.hd s.tl.tl.tl.tl.hd fun v7 =>
  call c_hatch_hits ((v7.1, (s.hd, s.tl.hd)) : (Int × (Int × Int))) fun (v8 : Bool) =>
  br (nt v8) (some (.go ⟨s.hd, ⟨s.tl.hd, ⟨s.tl.tl.hd, ⟨s.tl.tl.tl.hd, ⟨(ar .add .i64 s.tl.tl.tl.tl.hd 1), ⟨s.tl.tl.tl.tl.tl.hd, ()⟩⟩⟩⟩⟩⟩))
  (loop t_hatch_Columns_L3 ⟨s.hd, ⟨s.tl.hd, ⟨s.tl.tl.hd, ⟨s.tl.tl.tl.hd, ⟨s.tl.tl.tl.tl.hd, ⟨v7.2, ⟨(ln v7.2), ⟨0, ⟨s.tl.tl.tl.tl.tl.hd, ⟨v7.1, ⟨v7.2, ()⟩⟩⟩⟩⟩⟩⟩⟩⟩⟩⟩ fun v11 =>
  some (.go ⟨v11.hd, ⟨v11.tl.hd, ⟨v11.tl.tl.hd, ⟨v11.tl.tl.tl.hd, ⟨(ar .add .i64 v11.tl.tl.tl.tl.hd 1), ⟨v11.tl.tl.tl.tl.tl.hd, ()⟩⟩⟩⟩⟩⟩)))
  (some (.out ⟨s.tl.tl.tl.tl.tl.hd, ()⟩))
noncomputable def t_hatch_Columns_L4 [W] (s : (HP Int (HP Int (HP (List (Int × (Bool × (List (Int × Int))))) Unit)))) : Option (Nx (HP Int (HP Int (HP (List (Int × (Bool × (List (Int × Int))))) Unit))) (HP (List (Int × (Bool × (List (Int × Int))))) Unit)) :=
  br (cm .lss s.tl.hd s.hd) (gd (ib s.tl.hd (ln s.tl.tl.hd)) <|
  ge s.tl.tl.hd s.tl.hd fun v13 =>
  call c_hatch_flip (v13.2.2 : (List (Int × Int))) fun (v14 : (List (Int × Int))) =>
  gd (ib s.tl.hd (ln s.tl.tl.hd)) <|
  ge s.tl.tl.hd s.tl.hd fun v15 =>
  some (.go ⟨s.hd, ⟨(ar .add .i64 s.tl.hd 1), ⟨(st s.tl.tl.hd s.tl.hd (v15.1, (v15.2.1, v14))), ()⟩⟩⟩))
  (some (.out ⟨s.tl.tl.hd, ()⟩))
noncomputable def t_hatch_Columns [W] (a : ((List (Int × (List (Int × Int)))) × (Int × Int))) : Option (List (Int × (Bool × (List (Int × Int))))) :=
  call c_region_Cells (a.1 : (List (Int × (List (Int × Int))))) fun (v0 : (List (Int × Int))) =>
  call c_hatch_flip (v0 : (List (Int × Int))) fun (v1 : (List (Int × Int))) =>
  call c_region_Of (v1 : (List (Int × Int))) fun (v2 : ((List (Int × (List (Int × Int)))) × Int)) =>
  br (cm .neq v2.2 0) (some [])
  (call c_region_Valid (v2.1 : (List (Int × (List (Int × Int))))) fun (v3 : Bool) =>
  br (nt v3) (loop t_hatch_Columns_L0 ⟨0, ⟨0, ()⟩⟩ fun v4 =>
  some [])
  (call c_hatch_spaced (a.2.1 : Int) fun (v5 : Bool) =>
  br (nt v5) (loop t_hatch_Columns_L1 ⟨0, ⟨0, ()⟩⟩ fun v6 =>
  some [])
  (loop t_hatch_Columns_L2 ⟨a.2.1, ⟨a.2.2, ⟨v2.1, ⟨(ln v2.1), ⟨0, ⟨[], ()⟩⟩⟩⟩⟩⟩ fun v12 =>
  loop t_hatch_Columns_L4 ⟨(ln v12.hd), ⟨0, ⟨v12.hd, ()⟩⟩⟩ fun v16 =>
  some v16.hd)))
noncomputable def c_hatch_Columns : Ctr := ⟨12, [(.ag, (.ls (.p I (.ls (.p I I))))), (.one, I), (.one, I)], [(false, (.ls (.p I (.p .bool (.ls (.p I I))))))], @t_hatch_Columns wv⟩
theorem e_hatch_Columns (w : W) (a) : fnD (dW w) (cxO (gam [(29, c_hatch_line), (28, c_hatch_hits), (36, c_hatch_flip), (37, c_region_Cells), (35, c_region_Of), (26, c_region_Valid), (27, c_hatch_spaced)]) [] [] [] []) 8 12 [(.ag, (.ls (.p I (.ls (.p I I))))), (.one, I), (.one, I)] [(false, (.ls (.p I (.p .bool (.ls (.p I I))))))] a = @t_hatch_Columns w a := by kernel_rfl
theorem g_hatch_Columns : Go.Dn.Good PG c_hatch_Columns := good (gam [(29, c_hatch_line), (28, c_hatch_hits), (36, c_hatch_flip), (37, c_region_Cells), (35, c_region_Of), (26, c_region_Valid), (27, c_hatch_spaced)]) [] [] [] [] 8 (gam_cons g_hatch_line (gam_cons g_hatch_hits (gam_cons g_hatch_flip (gam_cons g_region_Cells (gam_cons g_region_Of (gam_cons g_region_Valid (gam_cons g_hatch_spaced gam_nil))))))) so_nil (fnOK_of (by kernel_rfl)) rfl rfl (e_hatch_Columns wv)
end Go.Proofs.YtmiobebagbhffaaGreat
namespace Go.Proofs.YtmiobebagbhffaaGreat
open Go Go.Vv Go.Dn Go.Dn.W
set_option linter.unusedVariables false
set_option maxRecDepth 100000
noncomputable def t_runs_Norm_1 [W] (a : ((Int × Int) × (Int × Int))) : Option Int :=
  some (ar .sub .i64 a.1.1 a.2.1)
noncomputable def c_runs_Norm_1 : Ctr := ⟨117, [(.ag, (.p I I)), (.ag, (.p I I))], [(false, I)], @t_runs_Norm_1 wv⟩
theorem e_runs_Norm_1 (w : W) (a) : fnD (dW w) (cxO (gam []) [] [] [] []) 8 117 [(.ag, (.p I I)), (.ag, (.p I I))] [(false, I)] a = @t_runs_Norm_1 w a := by kernel_rfl
theorem g_runs_Norm_1 : Go.Dn.Good PG c_runs_Norm_1 := good (gam []) [] [] [] [] 8 gam_nil so_nil (fnOK_of (by kernel_rfl)) rfl rfl (e_runs_Norm_1 wv)
end Go.Proofs.YtmiobebagbhffaaGreat
namespace Go.Proofs.YtmiobebagbhffaaGreat
open Go Go.Vv Go.Dn
set_option linter.unusedVariables false
set_option linter.unusedSimpArgs false
set_option maxRecDepth 100000
def cmpR (x y : Int × Int) : Int := IntKind.wrap .i64 (x.1 - y.1)
def okR (x : Int × Int) : Bool := decide (-4611686018427387904 < x.1 ∧ x.1 < 4611686018427387904)
theorem cmpR_lt {x y : Int × Int} (hx : okR x = true) (hy : okR y = true) : cmpR x y < 0 ↔ x.1 < y.1 := by
 simp only [okR, decide_eq_true_eq] at hx hy
 have : cmpR x y = x.1 - y.1 := by
  simp only [cmpR, IntKind.wrap, IntKind.bits, IntKind.signed]
  simp
  omega
 rw [this]
 omega
theorem swoR : Go.Sort.SWO (Go.Proofs.ltOf fun x y : {x : Int × Int // okR x = true} => cmpR x.1 y.1) := by
 refine ⟨fun x => ?_, fun x y z h1 h2 => ?_, fun x y z h1 h2 => ?_⟩
 ·simp only [Go.Proofs.ltOf, decide_eq_false_iff_not, cmpR_lt x.2 x.2]; omega
 ·simp only [Go.Proofs.ltOf, decide_eq_true_eq, cmpR_lt x.2 y.2, cmpR_lt y.2 z.2, cmpR_lt x.2 z.2] at *; omega
 ·simp only [Go.Proofs.ltOf, decide_eq_false_iff_not, cmpR_lt x.2 y.2, cmpR_lt y.2 z.2, cmpR_lt x.2 z.2] at *; omega
def eqR (x y : Int × Int) : Bool := x.1 == y.1 && x.2 == y.2
theorem eqR_eq (x y : Int × Int) (h : eqR x y = true) : x = y := by
 simp only [eqR, Bool.and_eq_true, beq_iff_eq] at h
 exact Prod.ext h.1 h.2
def zR : {x : Int × Int // okR x = true} := ⟨(0, 0), by decide⟩
noncomputable def s116_117 : SCt := ⟨116, 117, true, .p I I, sortAny (t := .p I I) cmpR okR eqR zR⟩
noncomputable def c_s116_117 : Ctr := s116_117.ctr
theorem norm1_ok (x y : Int × Int) : @t_runs_Norm_1 wv (x, y) = some (cmpR x y) := rfl
theorem g_s116_117 : SGood PG s116_117 :=
 sgood_any (P := PG) (ρ := Tryz.sortL116_ren) (t := .p I I) Tryz.sortL116 rfl (fun w => by kernel_rfl) (fun w => by kernel_rfl) (g := 117) (fn := @t_runs_Norm_1 wv) g_runs_Norm_1 cmpR norm1_ok okR swoR eqR eqR_eq zR (by decide) (fnOK_of (by kernel_rfl))
end Go.Proofs.YtmiobebagbhffaaGreat
