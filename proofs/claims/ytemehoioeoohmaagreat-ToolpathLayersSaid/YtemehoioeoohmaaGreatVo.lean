/- Rules for running the evaluator by rewriting. Conditions: none. -/
import Derived.Test.YtemehoioeoohmaaGreatVn
namespace Go.Vv
open Go
theorem J8z (h : Heap) (b : Bool) : snap h depth (.bool b) = some (.bool b, []) := rfl
theorem snap_int (h : Heap) (k : IntKind) (n : Int) : snap h depth (.int k n) = some (.int k n, []) := rfl
theorem snap_str (h : Heap) (s : ByteArray) : snap h depth (.str s) = some (.str s, []) := rfl
theorem snap_lst (h : Heap) (n : Nat) (l : List AV) : snap h depth (.lst n l) = some (.lst n l, []) := rfl
theorem J6z (h : Heap) : snap h depth .nils = some (.nils, []) := rfl
theorem J7d (h : Heap) (l : List AV) : snap h depth (.rptr l) = some (.rptr l, []) := rfl
theorem snap_fn0 (h : Heap) (f : FuncId) : snap h depth (.fn f []) = some (.fn f [], []) := by simp [snap, depth]
theorem Jsk (h : Heap) (l : List AV) (hl : l.all AV.flat = true) : snap h depth (.agg l) = some (.agg l, []) := by
 simp only [snap, depth]
 rw [if_pos hl]
theorem J80 (h : Heap) : Jjk h [] = some ([], []) := rfl
theorem Juo {α β : Type} (f : α → Option β) : [].mapM f = some [] := rfl
theorem Jnc {α β : Type} (f : α → Option β) (x : α) (l : List α) : (x :: l).mapM f = match f x, l.mapM f with | some y, some r => some (y :: r) | _, _ => none := by
 rw [List.mapM_cons]
 cases f x with
 | none => rfl
 | some y => cases l.mapM f <;> rfl
theorem J0b (h : Heap) (v : AV) (l : List AV) : Jjk h (v :: l) = match snap h depth v, Jjk h l with | some (u, ns), some (us, ms) => some (u :: us, ns ++ ms) | _, _ => none := by
 unfold Jjk
 rw [Jnc]
 cases snap h depth v with
 | none => rfl
 | some p => cases l.mapM (snap h depth) <;> rfl
def evF (F : Nat → AV) : LO → AV
 | .t n => F n
 | .c v => v
def evs (F : Nat → AV) : List LO → List AV
 | [] => []
 | x :: r => evF F x :: evs F r
def evO (F : Nat → AV) : Option LO → Option AV
 | none => none
 | some x => some (evF F x)
def Jks (F : Nat → AV) : List AV → List (Nat × Nat × LO) → Option (List AV)
 | z, [] => some z
 | z, (off, n, x) :: r =>
  match (evF F x).cells with
  | some c => if c.length = n ∧ off + n ≤ z.length then Jks F (paste z off c) r else none
  | none => none
theorem evF_t (F : Nat → AV) (n : Nat) : evF F (.t n) = F n := rfl
theorem evF_c (F : Nat → AV) (v : AV) : evF F (.c v) = v := rfl
theorem evs_nil (F : Nat → AV) : evs F [] = [] := rfl
theorem evs_cons (F : Nat → AV) (x : LO) (r : List LO) : evs F (x :: r) = evF F x :: evs F r := rfl
theorem evO_none (F : Nat → AV) : evO F none = none := rfl
theorem evO_some (F : Nat → AV) (x : LO) : evO F (some x) = some (evF F x) := rfl
theorem Jac (F : Nat → AV) (h : Heap) : St.ev ⟨F, h⟩ = evF F := by
 funext x
 cases x <;> rfl
theorem Jou (F : Nat → AV) (l : List LO) : l.map (evF F) = evs F l := by
 induction l with
 | nil => rfl
 | cons x r ih => simp only [List.map_cons, evs, ih]
theorem evO_eq (F : Nat → AV) (x : Option LO) : x.map (evF F) = evO F x := by cases x <;> rfl
theorem Jm2 (F : Nat → AV) : ∀ (ps : List (Nat × Nat × LO)) (z : List AV), Jm5 (evF F) z ps = Jks F z ps
 | [], z => rfl
 | (off, n, x) :: r, z => by
  simp only [Jm5, Jks]
  cases (evF F x).cells with
  | none => rfl
  | some c => simp only [Jm2 F r]
theorem J0m (F : Nat → AV) (z : List AV) : Jks F z [] = some z := rfl
theorem Ju2 (F : Nat → AV) (z : List AV) (off n : Nat) (x : LO) (r : List (Nat × Nat × LO)) : Jks F z ((off, n, x) :: r) =
  match (evF F x).cells with
  | some c => if c.length = n ∧ off + n ≤ z.length then Jks F (paste z off c) r else none
  | none => none := rfl
def putR (F : Nat → AV) (_ : Heap) : Option Nat → Option (AV × Heap) → Option St
 | some d, some (v, h) => some ⟨upd F d v, h⟩
 | none, some (_, h) => some ⟨F, h⟩
 | _, none => none
def Jof (call : Call) (base : Nat) (F : Nat → AV) (h : Heap) (d : Option Nat) (op : LOp) (w : Bool) : AV → Option St
 | .bool b => putR F h d (if b = w then Jz call base ⟨F, h⟩ (base + d.getD 0) op else some (.tup [], h))
 | .tup [] => putR F h d (some (.tup [], h))
 | _ => none
def Jzv (x : Option St) (k : St → Option St) : Option St := match x with | some σ => k σ | none => none
def Jyu : Option St → Option (LE × St)
 | some σ => some (.normal, σ)
 | none => none
noncomputable def condR (Γ : Env) (pins : List Nat) (base : Nat) (a b : LC) (F : Nat → AV) (h : Heap) : AV → Option (LE × St)
 | .bool t => if t = true then EC Γ pins base a ⟨F, h⟩ else EC Γ pins base b ⟨F, h⟩
 | _ => none
def retV (h : Heap) : Option AV → Option (AV × Heap)
 | some v => some (v, h)
 | none => none
def retI (h : Heap) : Option Int → Option (AV × Heap)
 | some n => some (.int .i64 n, h)
 | none => none
def pickV (h : Heap) (x y : AV) : AV → Option (AV × Heap)
 | .bool t => some (if t = true then x else y, h)
 | _ => none
def binV (h : Heap) (op : BinOp) : AV → AV → Option (AV × Heap)
 | .int k a, .int k' b => if k = k' then retV h (Jim op k a b) else none
 | _, _ => none
def unV (h : Heap) : UnOp → AV → Option (AV × Heap)
 | .not, .bool b => some (.bool !b, h)
 | .neg, .int k n => some (.int k (k.wrap (0 - n)), h)
 | _, _ => none
def convV (h : Heap) (k : IntKind) : AV → Option (AV × Heap)
 | .int _ n => some (.int k (k.wrap n), h)
 | _ => none
def eqR (h : Heap) (ne : Bool) : Option Bool → Option (AV × Heap)
 | some b => some (.bool (if ne then !b else b), h)
 | none => none
def boxV (h : Heap) (g0 : Nat) : Option (List AV) → Option (AV × Heap)
 | some c => some (.ptr g0 (Kj h g0) 0, upd h g0 (some (.box (Kj h g0) c)))
 | none => none
def aggV (h : Heap) : Option (List AV) → Option (AV × Heap)
 | some c => some (.agg c, h)
 | none => none
def bslV (h : Heap) (g0 n esz : Nat) (el : TypeId) : Option (List AV) → Option (AV × Heap)
 | some l => some (.arr g0 (Kj h g0) 0 n, upd h g0 (some (.arr (Kj h g0) esz el l false)))
 | none => none
def bszV (h : Heap) (g0 n esz : Nat) (el : TypeId) : Option (List AV) → Option (AV × Heap)
 | some l => if l.all AV.flat = true ∧ l.length = n * esz then some (.lst n l, upd h g0 (some (.arr (Kj h g0) esz el l true))) else none
 | none => none
def stoV : Option Heap → Option (AV × Heap)
 | some h => some (.any, h)
 | none => none
def fldV (h : Heap) (ag : Bool) (off n : Nat) : AV → Option (AV × Heap)
 | .agg l => retV h (pack ag l off n)
 | _ => none
def extV (h : Heap) (i : Nat) : AV → Option (AV × Heap)
 | .tup l => retV h l[i]?
 | _ => none
def nilV (h : Heap) : AV → Option (AV × Heap)
 | .ptr g v o => if cur h g v then some (.ptr g v o, h) else none
 | .rptr l => some (.rptr l, h)
 | .fn f caps => some (.fn f caps, h)
 | _ => none
def mkV (h : Heap) (g0 esz bytes : Nat) (el : TypeId) (z : List AV) : AV → AV → Option (AV × Heap)
 | .int _ n, .int _ m =>
   if 0 ≤ n ∧ n ≤ m ∧ m * bytes ≤ room ∧ m ≤ 9223372036854775807 then some (.arr g0 (Kj h g0) 0 n.toNat, upd h g0 (some (.arr (Kj h g0) esz el (Jc8 z n.toNat) false))) else none
 | _, _ => none
def retP (h : Heap) (ns : List Nat) : Option (AV × Heap) → Option (AV × Heap)
 | some (v, _) => if ns = [] ∨ v.scalar = true then some (v, h) else none
 | none => none
def retZ (h : Heap) (ns : List Nat) : Option (AV × Heap) → Option (AV × Heap)
 | some (v, _) => some (v, Kg h ns)
 | none => none
def calP (call : Call) (f : FuncId) (h : Heap) : Option (List AV × List Nat) → Option (AV × Heap)
 | some (vs, ns) => retP h ns (call f vs none)
 | none => none
def calZ (call : Call) (f : FuncId) (h : Heap) : Option (List AV × List Nat) → Option (AV × Heap)
 | some (vs, ns) => retZ h ns (call f vs none)
 | none => none
def calV (call : Call) (h : Heap) : Option (List AV × List Nat) → Option (AV × Heap)
 | some (.fn f caps :: vs, ns) => retP h ns (call f (vs ++ caps) none)
 | _ => none
def calW (call : Call) (h : Heap) (l : List AV) : AV → Option (AV × Heap)
 | .fn f caps => Jcc call f h (l ++ caps)
 | _ => none
def calU (call : Call) (h : Heap) (l : List AV) : AV → Option (AV × Heap)
 | .fn f caps => calQ call f h (Jmr h (l ++ caps))
 | _ => none
def frzV (h : Heap) : Option (AV × List Nat) → Option (AV × Heap)
 | some (v, ns) => some (v, Kg h ns)
 | none => none
def apzV : Option (AV × Heap) → Option (AV × Heap)
 | some (v, h) => frzV h (snap h depth v)
 | none => none
theorem J64 (v : AV) (h h' : Heap) : mskR h (some (v, h')) = some (v, h) := rfl
theorem maskH_at (base : Nat) (ds : List Nat) (h : Heap) (g : Nat) : Jdn base ds h g = if inNm base ds g = true then none else h g := rfl
theorem nwOK_arr (base : Nat) (ds : List Nat) (g0 g v o n : Nat) : nwOK base ds g0 (.arr g v o n) = inNm base ds g := rfl
theorem nwOK_ptr (base : Nat) (ds : List Nat) (g0 g v o : Nat) : nwOK base ds g0 (.ptr g v o) = inNm base ds g := rfl
theorem J02 (base : Nat) (ds : List Nat) (g0 : Nat) : nwOK base ds g0 .nils = inNm base ds g0 := rfl
theorem apnZ_t (base : Nat) (ds : List Nat) (v : AV) (h : Heap) : apnZ base ds true (some (v, h)) = apnF base ds h (snap h depth v) := rfl
theorem apnZ_f (base : Nat) (ds : List Nat) (v : AV) (h : Heap) : apnZ base ds false (some (v, h)) = some (v, h) := rfl
theorem J73 (base : Nat) (ds : List Nat) (h : Heap) (u : AV) (ns : List Nat) : apnF base ds h (some (u, ns)) = if ns.all (inNm base ds) = true then some (u, Kg h ns) else none := rfl
theorem J25 (v : AV) (h : Heap) : apzV (some (v, h)) = frzV h (snap h depth v) := rfl
def delR : Option Heap → Option (AV × Heap)
 | some h => some (.tup [], h)
 | none => none
def shfR (h : Heap) (op : BinOp) : AV → AV → Option (AV × Heap)
 | .int k a, .int _ b => retV h (shfV op k a b)
 | _, _ => none
def mmR (h : Heap) (mx : Bool) : AV → AV → Option (AV × Heap)
 | .int k a, .int _ b => some (.int k (mmV mx a b), h)
 | _, _ => none
section
variable (call : Call) (base : Nat) (F : Nat → AV) (h : Heap) (g0 : Nat)
theorem op_mov (x : LO) : Jz call base ⟨F, h⟩ g0 (.mov x) = some (evF F x, h) := by rw [Jz, Jac]
theorem op_pick (c a b : LO) : Jz call base ⟨F, h⟩ g0 (.pick c a b) = pickV h (evF F a) (evF F b) (evF F c) := by
 rw [Jz, Jac]; cases evF F c <;> rfl
theorem op_alloc (z : List AV) : Jz call base ⟨F, h⟩ g0 (.alloc z) = some (.ptr g0 (Kj h g0) 0, upd h g0 (some (.box (Kj h g0) z))) := rfl
theorem op_box (x : LO) : Jz call base ⟨F, h⟩ g0 (.box x) = boxV h g0 (evF F x).cells := by
 rw [Jz, Jac]; cases (evF F x).cells <;> rfl
theorem op_build (z : List AV) (ps : List (Nat × Nat × LO)) : Jz call base ⟨F, h⟩ g0 (.build z ps) = aggV h (Jks F z ps) := by
 rw [Jz, Jac, Jm2]; cases Jks F z ps <;> rfl
theorem J8f (n esz : Nat) (el : TypeId) (z : List AV) (ps : List (Nat × Nat × LO)) : Jz call base ⟨F, h⟩ g0 (.bslice n esz el z ps) = bslV h g0 n esz el (Jks F (Jc8 z n) ps) := by
 rw [Jz, Jac, Jm2]; cases Jks F (Jc8 z n) ps <;> rfl
theorem op_bslz (n esz : Nat) (el : TypeId) (z : List AV) (ps : List (Nat × Nat × LO)) : Jz call base ⟨F, h⟩ g0 (.bslz n esz el z ps) = bszV h g0 n esz el (Jks F (Jc8 z n) ps) := by
 rw [Jz, Jac, Jm2]; cases Jks F (Jc8 z n) ps <;> rfl
theorem op_load (ag : Bool) (n : Nat) (x : LO) : Jz call base ⟨F, h⟩ g0 (.load ag n x) = retV h (Jql h ag n (evF F x)) := by
 rw [Jz, Jac]; cases Jql h ag n (evF F x) <;> rfl
theorem op_store (n : Nat) (x y : LO) : Jz call base ⟨F, h⟩ g0 (.store n x y) = stoV (Jl3 h n (evF F x) (evF F y)) := by
 rw [Jz, Jac]; cases Jl3 h n (evF F x) (evF F y) <;> rfl
theorem op_ibin (op : BinOp) (x y : LO) : Jz call base ⟨F, h⟩ g0 (.ibin op x y) = binV h op (evF F x) (evF F y) := by
 rw [Jz, Jac]; unfold binV retV; rfl
theorem op_eqv (ne ag : Bool) (sh : List Bool) (x y : LO) : Jz call base ⟨F, h⟩ g0 (.eqv ne ag sh x y) = eqR h ne (eqV ag sh (evF F x) (evF F y)) := by
 rw [Jz, Jac]; cases eqV ag sh (evF F x) (evF F y) <;> rfl
theorem op_un (op : UnOp) (x : LO) : Jz call base ⟨F, h⟩ g0 (.un op x) = unV h op (evF F x) := by
 unfold Jz unV; simp only [Jac]; rfl
theorem op_conv (k : IntKind) (x : LO) : Jz call base ⟨F, h⟩ g0 (.conv k x) = convV h k (evF F x) := by
 rw [Jz, Jac]; unfold convV; rfl
theorem op_nilck (x : LO) : Jz call base ⟨F, h⟩ g0 (.nilck x) = nilV h (evF F x) := by
 rw [Jz, Jac]; unfold nilV; rfl
theorem op_mkfn (f : FuncId) (caps : List LO) : Jz call base ⟨F, h⟩ g0 (.mkfn f caps) = some (.fn f (evs F caps), h) := by
 rw [Jz, Jac, Jou]
theorem op_mkS (esz bytes : Nat) (el : TypeId) (z : List AV) (l c : LO) : Jz call base ⟨F, h⟩ g0 (.mkS esz bytes el z l c) = mkV h g0 esz bytes el z (evF F l) (evF F c) := by
 rw [Jz, Jac]; unfold mkV; rfl
theorem op_slc (esz : Nat) (x : LO) (lo hi : Option LO) : Jz call base ⟨F, h⟩ g0 (.slc esz x lo hi) = retV h (Jf2 h esz (evF F x) (evO F lo) (evO F hi)) := by
 rw [Jz, Jac, evO_eq, evO_eq]; cases Jf2 h esz (evF F x) (evO F lo) (evO F hi) <;> rfl
theorem op_faddr (off : Nat) (x : LO) : Jz call base ⟨F, h⟩ g0 (.faddr off x) = retV h (Jk5 h off (evF F x)) := by
 rw [Jz, Jac]; cases Jk5 h off (evF F x) <;> rfl
theorem op_fld (ag : Bool) (off n : Nat) (x : LO) : Jz call base ⟨F, h⟩ g0 (.fld ag off n x) = fldV h ag off n (evF F x) := by
 rw [Jz, Jac]; unfold fldV retV; rfl
theorem op_iaddr (esz : Nat) (x i : LO) : Jz call base ⟨F, h⟩ g0 (.iaddr esz x i) = retV h (Jij h esz (evF F x) (evF F i)) := by
 rw [Jz, Jac]; cases Jij h esz (evF F x) (evF F i) <;> rfl
theorem J12 (len esz : Nat) (x i : LO) : Jz call base ⟨F, h⟩ g0 (.iaddrA len esz x i) = retV h (Jgx h len esz (evF F x) (evF F i)) := by
 rw [Jz, Jac]; cases Jgx h len esz (evF F x) (evF F i) <;> rfl
theorem op_idx (len esz : Nat) (ag : Bool) (x i : LO) : Jz call base ⟨F, h⟩ g0 (.idx len esz ag x i) = retV h (idxV len esz ag (evF F x) (evF F i)) := by
 rw [Jz, Jac]; cases idxV len esz ag (evF F x) (evF F i) <;> rfl
theorem op_ext (x : LO) (i : Nat) : Jz call base ⟨F, h⟩ g0 (.ext x i) = extV h i (evF F x) := by
 rw [Jz, Jac]; unfold extV retV; rfl
theorem op_len (x : LO) : Jz call base ⟨F, h⟩ g0 (.len x) = retI h (lenV h (evF F x)) := by
 rw [Jz, Jac]; cases lenV h (evF F x) <;> rfl
theorem op_isnil (ne : Bool) (x : LO) : Jz call base ⟨F, h⟩ g0 (.isnil ne x) = eqR h ne (Jkq h (evF F x)) := by
 rw [Jz, Jac]; cases Jkq h (evF F x) <;> rfl
theorem J9h (esz : Nat) (t : TypeId) (z : List AV) : Jz call base ⟨F, h⟩ g0 (.allocA esz t z) = some (.ptr g0 (Kj h g0) 0, upd h g0 (some (.arr (Kj h g0) esz t z false))) := rfl
theorem op_slcA (n esz : Nat) (x : LO) : Jz call base ⟨F, h⟩ g0 (.slcA n esz x) = retV h (Jpo h n esz (evF F x)) := by
 rw [Jz, Jac]; cases Jpo h n esz (evF F x) <;> rfl
theorem op_lenM (x : LO) : Jz call base ⟨F, h⟩ g0 (.lenM x) = retI h (lenM h (evF F x)) := by
 rw [Jz, Jac]; cases lenM h (evF F x) <;> rfl
theorem op_lenS (x : LO) : Jz call base ⟨F, h⟩ g0 (.lenS x) = retI h (lenS (evF F x)) := by
 rw [Jz, Jac]; cases lenS (evF F x) <;> rfl
theorem op_app (esz bytes : Nat) (el : TypeId) (z : List AV) (x y : LO) : Jz call base ⟨F, h⟩ g0 (.app esz bytes el z x y) = appV h g0 esz bytes el (evF F x) (evF F y) := by
 rw [Jz, Jac]
theorem op_appz (esz bytes : Nat) (el : TypeId) (z : List AV) (x y : LO) : Jz call base ⟨F, h⟩ g0 (.appz esz bytes el z x y) = apzV (appV h g0 esz bytes el (evF F x) (evF F y)) := by
 rw [Jz, Jac]; unfold apzV frzV; rfl
theorem op_appn (z : Bool) (ds : List Nat) (esz bytes : Nat) (el : TypeId) (zz : List AV) (x y : LO) : Jz call base ⟨F, h⟩ g0 (.appn z ds esz bytes el zz x y) = apnV base ds z g0 (evF F x) (appV h g0 esz bytes el (evF F x) (evF F y)) := by
 rw [Jz, Jac]
theorem op_msk (ds : List Nat) (op : LOp) : Jz call base ⟨F, h⟩ g0 (.msk ds op) = if op.cls = 1 then mskR h (Jz call base ⟨F, Jdn base ds h⟩ g0 op) else none := by
 rw [Jz]
theorem op_ston (ds : List Nat) (n : Nat) (x y : LO) : Jz call base ⟨F, h⟩ g0 (.ston ds n x y) = if nwOK base ds g0 (evF F x) = true then stoV (Jl3 h n (evF F x) (evF F y)) else none := by
 rw [Jz, Jac]; cases Jl3 h n (evF F x) (evF F y) <;> rfl
theorem op_callp (f : FuncId) (args : List LO) : Jz call base ⟨F, h⟩ g0 (.callp f args) = calP call f h (Jjk h (evs F args)) := by
 rw [Jz, Jac, Jou]; unfold calP retP; rfl
theorem op_callz (f : FuncId) (args : List LO) : Jz call base ⟨F, h⟩ g0 (.callz f args) = calZ call f h (Jjk h (evs F args)) := by
 rw [Jz, Jac, Jou]; unfold calZ retZ; rfl
theorem op_callr (f : FuncId) (args : List LO) : Jz call base ⟨F, h⟩ g0 (.callr f args) = Jcc call f h (evs F args) := by
 rw [Jz, Jac, Jou]
theorem op_callw (x : LO) (args : List LO) : Jz call base ⟨F, h⟩ g0 (.callw x args) = calW call h (evs F args) (evF F x) := by
 rw [Jz, Jac, Jou]; unfold calW; rfl
theorem op_callu (x : LO) (args : List LO) : Jz call base ⟨F, h⟩ g0 (.callu x args) = calU call h (evs F args) (evF F x) := by
 rw [Jz, Jac, Jou]; unfold calU; rfl
theorem op_frz (x : LO) : Jz call base ⟨F, h⟩ g0 (.frz x) = frzV h (snap h depth (evF F x)) := by
 rw [Jz, Jac]; unfold frzV; rfl
theorem op_callq (f : FuncId) (args : List LO) : Jz call base ⟨F, h⟩ g0 (.callq f args) = calQ call f h (Jmr h (evs F args)) := by
 rw [Jz, Jac, Jou]
theorem op_mkM : Jz call base ⟨F, h⟩ g0 .mkM = some (.map g0 (Kj h g0), upd h g0 (some (.map (Kj h g0) [] false))) := rfl
theorem op_look (ok ag : Bool) (sh : List Bool) (z : AV) (x k : LO) : Jz call base ⟨F, h⟩ g0 (.look ok ag sh z x k) = retV h (Jsg ok ag sh z (evF F k) (esOf h (evF F x))) := by
 rw [Jz, Jac]; cases Jsg ok ag sh z (evF F k) (esOf h (evF F x)) <;> rfl
theorem op_setM (ag : Bool) (sh : List Bool) (x k v : LO) : Jz call base ⟨F, h⟩ g0 (.setM ag sh x k v) = stoV (setV h ag sh (evF F k) (evF F v) (evF F x)) := by
 rw [Jz, Jac]; cases setV h ag sh (evF F k) (evF F v) (evF F x) <;> rfl
theorem op_delM (ag : Bool) (sh : List Bool) (x k : LO) : Jz call base ⟨F, h⟩ g0 (.delM ag sh x k) = delR (delV h ag sh (evF F k) (evF F x)) := by
 rw [Jz, Jac]; cases delV h ag sh (evF F k) (evF F x) <;> rfl
theorem op_shf (op : BinOp) (x y : LO) : Jz call base ⟨F, h⟩ g0 (.shf op x y) = shfR h op (evF F x) (evF F y) := by
 rw [Jz, Jac]; unfold shfR retV; rfl
theorem op_mm (mx : Bool) (x y : LO) : Jz call base ⟨F, h⟩ g0 (.mm mx x y) = mmR h mx (evF F x) (evF F y) := by
 rw [Jz, Jac]; unfold mmR; rfl
theorem op_callv (x : LO) (args : List LO) : Jz call base ⟨F, h⟩ g0 (.callv x args) = calV call h (Jjk h (evF F x :: evs F args)) := by
 rw [Jz, Jac, Jou]; unfold calV retP; rfl
variable (d : Option Nat) (v : AV)
theorem J6h (k : Nat) (h1 : Heap) : putR F h (some k) (some (v, h1)) = some ⟨upd F k v, h1⟩ := rfl
theorem J1h (h1 : Heap) : putR F h none (some (v, h1)) = some ⟨F, h1⟩ := rfl
theorem putR_ite {c : Prop} [Decidable c] (x y : Option (AV × Heap)) : putR F h d (if c then x else y) = if c then putR F h d x else putR F h d y := by split <;> rfl
theorem J0t {c : Prop} [Decidable c] (v u : AV) (h k : Heap) : (if c then some (v, h) else some (u, k)) = some ((if c then v else u), (if c then h else k)) := by split <;> rfl
theorem J90 (op : LOp) : Jdh call base ⟨d, op, none⟩ ⟨F, h⟩ = putR F h d (Jz call base ⟨F, h⟩ (base + d.getD 0) op) := by
 unfold Jdh putR St.put
 cases d <;> cases Jz call base ⟨F, h⟩ _ op <;> rfl
theorem Jze (op : LOp) (g : Nat) (w : Bool) : Jdh call base ⟨d, op, some (g, w)⟩ ⟨F, h⟩ = Jof call base F h d op w (F g) := by
 unfold Jdh Jof putR St.put
 cases hb : F g with
 | bool b =>
  by_cases hw : b = w
  ·simp only [hb, if_pos hw]
   cases d <;> cases Jz call base ⟨F, h⟩ _ op <;> rfl
  ·simp only [hb, if_neg hw]
   cases d <;> rfl
 | tup l =>
  cases l with
  | nil => simp only [hb]; cases d <;> rfl
  | cons a r => simp only [hb]
 | _ => simp only [hb]
theorem Jn9 (op : LOp) (w b : Bool) : Jof call base F h d op w (.bool b) = putR F h d (if b = w then Jz call base ⟨F, h⟩ (base + d.getD 0) op else some (.tup [], h)) := rfl
theorem Jqy (op : LOp) (w : Bool) : Jof call base F h d op w (.tup []) = putR F h d (some (.tup [], h)) := rfl
theorem J87 {c : Prop} [Decidable c] (op : LOp) (w b : Bool) : Jof call base F h d op w (if c then .bool b else .tup []) = putR F h d (if c ∧ b = w then Jz call base ⟨F, h⟩ (base + d.getD 0) op else some (.tup [], h)) := by
 by_cases hc : c
 ·rw [if_pos hc, Jn9]
  by_cases hb : b = w
  ·rw [if_pos hb, if_pos ⟨hc, hb⟩]
  ·rw [if_neg hb, if_neg (fun hh => hb hh.2)]
 ·rw [if_neg hc, Jqy, if_neg (fun hh => hc hh.1)]
theorem Jzz {c : Prop} [Decidable c] (op : LOp) (w b : Bool) : Jof call base F h d op w (if c then .tup [] else .bool b) = putR F h d (if ¬c ∧ b = w then Jz call base ⟨F, h⟩ (base + d.getD 0) op else some (.tup [], h)) := by
 by_cases hc : c
 ·rw [if_pos hc, Jqy, if_neg (fun hh => hh.1 hc)]
 ·rw [if_neg hc, Jn9]
  by_cases hb : b = w
  ·rw [if_pos hb, if_pos ⟨hc, hb⟩]
  ·rw [if_neg hb, if_neg (fun hh => hb hh.2)]
variable (σ : St)
theorem ops_nil : Jep call base [] σ = some σ := rfl
theorem ops_cons (o : LOper) (r : List LOper) : Jep call base (o :: r) σ = Jzv (Jdh call base o σ) (Jep call base r) := rfl
theorem opsD_nil : zb call base [] σ = some σ := rfl
theorem J55 (o : LOper) (r : List LOper) : zb call base (o :: r) σ = Jzv (Jcs call base o σ) (zb call base r) := rfl
theorem stepD (d : Option Nat) (op : LOp) (g : Option (Nat × Bool)) : Jcs call base ⟨d, op, g⟩ ⟨F, h⟩ = if op.isNew = true ∧ (h (base + d.getD 0)).isSome = true then none else Jdh call base ⟨d, op, g⟩ ⟨F, h⟩ := rfl
theorem Jz6 (k : St → Option St) : Jzv (some σ) k = k σ := rfl
theorem J6y {c : Prop} [Decidable c] (x y : Option St) (k : St → Option St) : Jzv (if c then x else y) k = if c then Jzv x k else Jzv y k := by split <;> rfl
theorem J0d : Jyu (some σ) = some (.normal, σ) := rfl
theorem J8x {c : Prop} [Decidable c] (x y : Option St) : Jyu (if c then x else y) = if c then Jyu x else Jyu y := by split <;> rfl
theorem upd_at {α : Type} (f : Nat → α) (k : Nat) (v : α) (n : Nat) : upd f k v n = if n = k then v else f n := rfl
theorem fr_at (k : Nat) (v : AV) (r : List (Nat × AV)) (n : Nat) : fr ((k, v) :: r) n = if n = k then v else fr r n := rfl
theorem hl_at (k : Nat) (v : AObj) (r : List (Nat × AObj)) (n : Nat) : hl ((k, v) :: r) n = if n = k then some v else hl r n := rfl
theorem hl_nil (n : Nat) : hl [] n = none := rfl
end
section
variable {Γ : Env} {pins : List Nat} {base : Nat}
theorem RC_reg (ops : List LOper) (σ : St) : EC Γ pins base (.reg false ops) σ = Jyu (Jep (FC Γ) base ops σ) := by
 rw [EC_reg]
 cases Jep (FC Γ) base ops σ <;> rfl
theorem RC_regD (ops : List LOper) (σ : St) : EC Γ pins base (.reg true ops) σ = Jyu (zb (FC Γ) base ops σ) := by
 rw [EC_regD]
 cases zb (FC Γ) base ops σ <;> rfl
theorem RC_cond (c : LO) (a b : LC) (F : Nat → AV) (h : Heap) : EC Γ pins base (.cond c a b) ⟨F, h⟩ = condR Γ pins base a b F h (evF F c) := by
 rw [EC_cond, Jac]
 rfl
theorem J2p (a b : LC) (F : Nat → AV) (h : Heap) (t : Bool) : condR Γ pins base a b F h (.bool t) = if t = true then EC Γ pins base a ⟨F, h⟩ else EC Γ pins base b ⟨F, h⟩ := rfl
end
theorem Jvy (σ : St) (k : St → Option (LE × St)) : andThen (some (.normal, σ)) k = k σ := rfl
theorem J1u (i : Nat) (σ : St) (k : St → Option (LE × St)) : andThen (some (.exit i, σ)) k = some (.exit i, σ) := rfl
theorem then_ret (σ : St) (k : St → Option (LE × St)) : andThen (some (.ret, σ)) k = some (.ret, σ) := rfl
theorem then_ite {c : Prop} [Decidable c] (x y : Option (LE × St)) (k : St → Option (LE × St)) : andThen (if c then x else y) k = if c then andThen x k else andThen y k := by split <;> rfl
theorem Jz2 (i : Nat) (σ : St) : Jqp i (some (.normal, σ)) = some (.normal, σ) := rfl
theorem blk_ret (i : Nat) (σ : St) : Jqp i (some (.ret, σ)) = some (.ret, σ) := rfl
theorem blk_exit (i j : Nat) (σ : St) : Jqp i (some (.exit j, σ)) = if j = i then some (.normal, σ) else some (.exit j, σ) := rfl
theorem blk_ite {c : Prop} [Decidable c] (i : Nat) (x y : Option (LE × St)) : Jqp i (if c then x else y) = if c then Jqp i x else Jqp i y := by split <;> rfl
theorem fin_ret (lf : LFunc) (ps : List Nat) (σ : St) : Jhy lf ps (some (.ret, σ)) = if lf.pm = true then Jkz σ.h (resV σ lf.res) else if lf.res.any RV.isOwn = true then Jla ps σ.h lf.res (lf.res.mapM (RV.get σ)) else Jk4 ps σ.h (resV σ lf.res) := rfl
theorem Jzl (lf : LFunc) (ps : List Nat) (σ : St) : Jhy lf ps (some (.normal, σ)) = if lf.pm = true then Jkz σ.h (resV σ lf.res) else if lf.res.any RV.isOwn = true then Jla ps σ.h lf.res (lf.res.mapM (RV.get σ)) else Jk4 ps σ.h (resV σ lf.res) := rfl
theorem fin_ite {c : Prop} [Decidable c] (lf : LFunc) (ps : List Nat) (x y : Option (LE × St)) : Jhy lf ps (if c then x else y) = if c then Jhy lf ps x else Jhy lf ps y := by split <;> rfl
noncomputable def LK (Γ : Env) (pins : List Nat) (base : Nat) (ks : List Nat) (b : LC) : Option St → Option (LE × St)
 | some τ => andThen (EC Γ pins base b τ) (EC Γ pins base (.loop ks b))
 | none => none
def trimR : Option St → Option (LE × St)
 | some τ => some (.normal, τ)
 | none => none
section
variable {Γ : Env} {pins : List Nat} {base : Nat}
theorem loop_eq (ks : List Nat) (b : LC) (σ : St) : EC Γ pins base (.loop ks b) σ = LK Γ pins base ks b (norm pins ks σ) := by
 rw [EC_loop]
 cases norm pins ks σ <;> rfl
theorem Jm (ks : List Nat) (b : LC) (τ : St) : LK Γ pins base ks b (some τ) = andThen (EC Γ pins base b τ) (EC Γ pins base (.loop ks b)) := rfl
theorem trim_eq (ks : List Nat) (σ : St) : EC Γ pins base (.trim ks) σ = trimR (norm pins ks σ) := by
 rw [EC_trim]
 cases norm pins ks σ <;> rfl
theorem Jy0 (τ : St) : trimR (some τ) = some (.normal, τ) := rfl
end
end Go.Vv
