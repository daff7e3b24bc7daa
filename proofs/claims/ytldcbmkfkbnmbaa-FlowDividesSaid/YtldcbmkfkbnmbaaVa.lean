/- An evaluator over abstract values for a part of the language of the model: the values, the heap, the operations, the code. Definitions alone. -/
import Derived.Calls
import Derived.Laws.Entries
namespace Go.Vv

/-- A value without memory: slices are lists of cells. -/
inductive AV where
  | any
  | bool (b : Bool)
  | int (k : IntKind) (n : Int)
  | str (s : ByteArray)
  | nils
  | nilp
  | nilf
  | nilm
  | lst (n : Nat) (l : List AV)
  | rptr (l : List AV)
  | fn (f : FuncId) (caps : List AV)
  | agg (l : List AV)
  | tup (l : List AV)
  | arr (g ver off len : Nat)
  | ptr (g ver off : Nat)
  | map (g ver : Nat)
  deriving Inhabited

/-- What a name of the heap stands for. -/
inductive AObj where
  | box (ver : Nat) (cells : List AV)
  | arr (ver esz : Nat) (el : TypeId) (cells : List AV) (fz : Bool)
  | map (ver : Nat) (es : List (AV × AV))
  deriving Inhabited

def AObj.ver : AObj → Nat
  | .box v _ => v
  | .arr v _ _ _ _ => v
  | .map v _ => v
def AObj.fz : AObj → Bool
  | .arr _ _ _ _ z => z
  | _ => false

abbrev Heap := Nat → Option AObj
structure St where
  f : Nat → AV
  h : Heap

def upd {α : Type} (f : Nat → α) (d : Nat) (v : α) : Nat → α := fun n => if n = d then v else f n
def fr : List (Nat × AV) → Nat → AV
  | [] => fun _ => .any
  | (d, v) :: r => fun n => if n = d then v else fr r n
def hl : List (Nat × AObj) → Heap
  | [] => fun _ => none
  | (d, v) :: r => fun n => if n = d then some v else hl r n
def newVer (h : Heap) (g : Nat) : Nat := match h g with | none => 0 | some o => o.ver + 1
def St.put (σ : St) (d : Option Nat) (v : AV) (h : Heap) : St :=
  match d with
  | some d => ⟨upd σ.f d v, h⟩
  | none => ⟨σ.f, h⟩

/-- A value that takes one cell. -/
def AV.one : AV → Bool
  | .any | .agg _ | .tup _ => false
  | _ => true
/-- A cell that holds no name of the heap. -/
def AV.flat : AV → Bool
  | .bool _ | .int _ _ | .str _ | .nils | .nilp | .nilf | .nilm | .lst _ _ | .rptr _ => true
  | _ => false
def AV.cells : AV → Option (List AV)
  | .agg l => some l
  | v => if v.one then some [v] else none
/-- A value without slices. -/
def AV.scalar : AV → Bool
  | .bool _ | .int _ _ | .str _ => true
  | .agg l => l.all fun | .bool _ | .int _ _ | .str _ => true | _ => false
  | .tup l => l.all fun | .bool _ | .int _ _ | .str _ => true | .agg l => l.all (fun | .bool _ | .int _ _ | .str _ => true | _ => false) | _ => false
  | _ => false
def cut (l : List AV) (off n : Nat) : List AV := (l.drop off).take n
/-- A range of cells as one value. -/
def pack (ag : Bool) (l : List AV) (off n : Nat) : Option AV :=
  if off + n ≤ l.length then
    if ag then some (.agg (cut l off n)) else l[off]?
  else none

/-- The cells written over a range. -/
def paste (l : List AV) (off : Nat) (new : List AV) : List AV := l.take off ++ new ++ l.drop (off + new.length)

/-- A value read out of the heap: what it holds now, and the names that were read. -/
def snap (h : Heap) : Nat → AV → Option (AV × List Nat)
  | 0, _ => none
  | k + 1, v =>
    match v with
    | .any | .ptr .. | .map .. => none
    | .arr g ver off len =>
      match h g with
      | some (.arr ver' esz _ cells _) =>
        if ver = ver' ∧ (off + len) * esz ≤ cells.length then
          let l := cut cells (off * esz) (len * esz)
          if l.all AV.flat then some (.lst len l, [g]) else
          match l.mapM (snap h k) with
          | some ps => some (.lst len (ps.map (·.1)), g :: ps.flatMap (·.2))
          | none => none
        else none
      | _ => none
    | .fn f caps =>
      match caps.mapM (snap h k) with
      | some ps => some (.fn f (ps.map (·.1)), ps.flatMap (·.2))
      | none => none
    | .agg l =>
      if l.all AV.flat then some (.agg l, []) else
      match l.mapM (snap h k) with
      | some ps => some (.agg (ps.map (·.1)), ps.flatMap (·.2))
      | none => none
    | .tup l =>
      match l.mapM (snap h k) with
      | some ps => some (.tup (ps.map (·.1)), ps.flatMap (·.2))
      | none => none
    | v => some (v, [])
def depth : Nat := 8
def snaps (h : Heap) (l : List AV) : Option (List AV × List Nat) :=
  match l.mapM (snap h depth) with
  | some ps => some (ps.map (·.1), ps.flatMap (·.2))
  | none => none
def AObj.freeze : AObj → AObj
  | .arr v e t c _ => .arr v e t c true
  | o => o
def freezeAll (h : Heap) (ns : List Nat) : Heap := fun g => if g ∈ ns then (h g).map AObj.freeze else h g

/-- A slot of the frame. -/
def okDst (nt : Nat) : Option Nat → Bool
  | some d => decide (d < nt)
  | none => true
/-- An operand. -/
inductive LO where
  | t (n : Nat)
  | c (v : AV)
  deriving Inhabited
def St.ev (σ : St) : LO → AV
  | .t n => σ.f n
  | .c v => v

/-- An operation, its types looked up. -/
inductive LOp where
  | mov (x : LO)
  | pick (c a b : LO)
  | alloc (z : List AV)
  | box (x : LO)
  | build (z : List AV) (parts : List (Nat × Nat × LO))
  | bslice (n esz : Nat) (el : TypeId) (z : List AV) (parts : List (Nat × Nat × LO))
  | load (ag : Bool) (n : Nat) (x : LO)
  | store (n : Nat) (x y : LO)
  | ibin (op : BinOp) (x y : LO)
  | eqv (ne ag : Bool) (sh : List Bool) (x y : LO)
  | un (op : UnOp) (x : LO)
  | conv (k : IntKind) (x : LO)
  | nilck (x : LO)
  | mkfn (f : FuncId) (caps : List LO)
  | mkS (esz bytes : Nat) (el : TypeId) (z : List AV) (l c : LO)
  | slc (esz : Nat) (x : LO) (lo hi : Option LO)
  | faddr (off : Nat) (x : LO)
  | fld (ag : Bool) (off n : Nat) (x : LO)
  | iaddr (esz : Nat) (x i : LO)
  | iaddrA (len esz : Nat) (x i : LO)
  | idx (len esz : Nat) (ag : Bool) (x i : LO)
  | ext (x : LO) (i : Nat)
  | len (x : LO)
  | lenM (x : LO)
  | lenS (x : LO)
  | app (esz bytes : Nat) (el : TypeId) (z : List AV) (x y : LO)
  | callp (f : FuncId) (args : List LO)
  | callz (f : FuncId) (args : List LO)
  | callr (f : FuncId) (args : List LO) (b : Nat)
  | callv (x : LO) (args : List LO)
  deriving Inhabited
structure LOper where
  dst : Option Nat
  op : LOp
  guard : Option (Nat × Bool)
  deriving Inhabited

/-- A call: function, arguments; the heap and the base of the names, where it shares the caller's heap. -/
abbrev Call := FuncId → List AV → Option (Heap × Nat) → Option (AV × Heap)

def ibinV (op : BinOp) (k : IntKind) (a b : Int) : Option AV :=
  match op with
  | .add => some (.int k (k.wrap (a + b)))
  | .sub => some (.int k (k.wrap (a - b)))
  | .mul => some (.int k (k.wrap (a * b)))
  | .quo => if b = 0 then none else some (.int k (k.wrap (a.tdiv b)))
  | .rem => if b = 0 then none else some (.int k (a.tmod b))
  | .eql => some (.bool (a == b))
  | .neq => some (.bool (a != b))
  | .lss => some (.bool (a < b))
  | .leq => some (.bool (a ≤ b))
  | .gtr => some (.bool (a > b))
  | .geq => some (.bool (a ≥ b))
  | .and => some (.int k (bits .and k a b))
  | .or => some (.int k (bits .or k a b))
  | .xor => some (.int k (bits .xor k a b))
  | .andNot => some (.int k (bits .andNot k a b))
  | _ => none
/-- Are two cells equal? (true: bools, false: whole numbers) -/
def cellEq : Bool → AV → AV → Option Bool
  | false, .int k a, .int k' b => if k = k' then some (a == b) else none
  | true, .bool a, .bool b => some (a == b)
  | _, _, _ => none
def cellsEq : List Bool → List AV → List AV → Option Bool
  | [], [], [] => some true
  | s :: ss, x :: xs, y :: ys =>
    match cellEq s x y, cellsEq ss xs ys with
    | some a, some b => some (a && b)
    | _, _ => none
  | _, _, _ => none
def eqV (ag : Bool) (sh : List Bool) (x y : AV) : Option Bool :=
  if ag then (match x, y with | .agg l, .agg m => cellsEq sh l m | _, _ => none) else cellsEq sh [x] [y]
/-- The parts laid into the cells. -/
def fills (ev : LO → AV) : List AV → List (Nat × Nat × LO) → Option (List AV)
  | z, [] => some z
  | z, (off, n, x) :: r =>
    match (ev x).cells with
    | some c => if c.length = n ∧ off + n ≤ z.length then fills ev (paste z off c) r else none
    | none => none
/-- The cells behind a pointer: the list, and where in it. -/
def derefC (h : Heap) : AV → Option (List AV × Nat)
  | .rptr l => some (l, 0)
  | .ptr g ver off =>
    match h g with
    | some (.box ver' cells) => if ver = ver' then some (cells, off) else none
    | some (.arr ver' _ _ cells _) => if ver = ver' then some (cells, off) else none
    | _ => none
  | _ => none
def loadV (h : Heap) (ag : Bool) (n : Nat) (x : AV) : Option AV :=
  match derefC h x with
  | some (l, off) => pack ag l off n
  | none => none
def storeV (h : Heap) (n : Nat) (x y : AV) : Option Heap :=
  match x, y.cells with
  | .ptr g ver off, some c =>
    if c.length = n then
    match h g with
    | some (.box ver' cells) => if ver = ver' ∧ off + n ≤ cells.length then some (upd h g (some (.box ver' (paste cells off c)))) else none
    | some (.arr ver' esz el cells false) => if ver = ver' ∧ off + n ≤ cells.length then some (upd h g (some (.arr ver' esz el (paste cells off c) false))) else none
    | _ => none
    else none
  | _, _ => none
/-- Is this the name's version of today? -/
def cur (h : Heap) (g ver : Nat) : Bool := match h g with | some o => o.ver == ver | none => false
/-- Is it a row of elements of this size? -/
def curA (h : Heap) (g ver esz : Nat) : Bool := match h g with | some (.arr v e _ _ _) => v == ver && e == esz | _ => false
def curAny (h : Heap) (g ver : Nat) : Bool := match h g with | some (.arr v _ _ _ _) => v == ver | _ => false
def curM (h : Heap) (g ver : Nat) : Option (List (AV × AV)) := match h g with | some (.map v es) => if v = ver then some es else none | _ => none
def lenV (h : Heap) : AV → Option Int
  | .nils => some 0
  | .lst n _ => some n
  | .arr g ver _ len => if curAny h g ver then some len else none
  | _ => none
def lenM (h : Heap) : AV → Option Int
  | .nilm => some 0
  | .map g ver => match curM h g ver with
    | some es => some es.length
    | _ => none
  | _ => none
def lenS : AV → Option Int
  | .str s => some s.size
  | _ => none
def boundV (d : Int) : Option AV → Option Int
  | none => some d
  | some (.int _ n) => some n
  | _ => none
def sliceV (h : Heap) (esz : Nat) (x : AV) (lo hi : Option AV) : Option AV :=
  match x with
  | .lst n l =>
    match boundV 0 lo, boundV n hi with
    | some a, some b => if 0 ≤ a ∧ a ≤ b ∧ b ≤ n ∧ l.length = n * esz then some (.lst (b - a).toNat (cut l (a.toNat * esz) ((b - a).toNat * esz))) else none
    | _, _ => none
  | .arr g ver off len =>
    match boundV 0 lo, boundV len hi with
    | some a, some b => if 0 ≤ a ∧ a ≤ b ∧ b ≤ len ∧ curA h g ver esz = true then some (.arr g ver (off + a.toNat) (b - a).toNat) else none
    | _, _ => none
  | .nils =>
    match boundV 0 lo, boundV 0 hi with
    | some a, some b => if a = 0 ∧ b = 0 then some .nils else none
    | _, _ => none
  | _ => none
def faddrV (h : Heap) (off : Nat) : AV → Option AV
  | .ptr g ver o => if cur h g ver then some (.ptr g ver (o + off)) else none
  | .rptr l => some (.rptr (l.drop off))
  | _ => none
def iaddrV (h : Heap) (esz : Nat) (x i : AV) : Option AV :=
  match x, i with
  | .lst n l, .int _ i => if 0 ≤ i ∧ i < n then some (.rptr (l.drop (i.toNat * esz))) else none
  | .arr g ver off len, .int _ i => if 0 ≤ i ∧ i < len ∧ curA h g ver esz = true then some (.ptr g ver ((off + i.toNat) * esz)) else none
  | _, _ => none
def iaddrAV (h : Heap) (len esz : Nat) (x i : AV) : Option AV :=
  match x, i with
  | .ptr g ver o, .int _ i => if 0 ≤ i ∧ i < len ∧ cur h g ver = true then some (.ptr g ver (o + i.toNat * esz)) else none
  | .rptr l, .int _ i => if 0 ≤ i ∧ i < len then some (.rptr (l.drop (i.toNat * esz))) else none
  | _, _ => none
def idxV (len esz : Nat) (ag : Bool) (x i : AV) : Option AV :=
  match x, i with
  | .agg l, .int _ i => if 0 ≤ i ∧ i < len then pack ag l (i.toNat * esz) esz else none
  | _, _ => none
/-- The elements of a slice, as cells. -/
def elemsV (h : Heap) (esz : Nat) : AV → Option (List AV)
  | .nils => some []
  | .lst n l => if l.length = n * esz then some l else none
  | .arr g ver off len =>
    match h g with
    | some (.arr ver' esz' _ cells _) => if ver = ver' ∧ esz = esz' ∧ (off + len) * esz ≤ cells.length then some (cut cells (off * esz) (len * esz)) else none
    | _ => none
  | _ => none
def room : Nat := 140737488355328
def repeatL (z : List AV) : Nat → List AV
  | 0 => []
  | n + 1 => z ++ repeatL z n
def appV (h : Heap) (g0 : Nat) (esz bytes : Nat) (el : TypeId) (x y : AV) : Option (AV × Heap) :=
  match lenV h y, elemsV h esz y with
  | some m, some new =>
    match x with
    | .nils =>
      if new = [] then some (.nils, h)
      else if m * bytes ≤ room ∧ (m : Int) ≤ 9223372036854775807 then some (.arr g0 (newVer h g0 + 1) 0 m.toNat, upd h g0 (some (.arr (newVer h g0 + 1) esz el new false)))
      else none
    | .arr g ver off len =>
      match h g with
      | some (.arr ver' esz' el' cells false) =>
        if ver = ver' ∧ esz = esz' ∧ el = el' ∧ (off + len) * esz = cells.length then
          if new = [] then some (.arr g ver off len, h)
          else if (len + m) * bytes ≤ room ∧ (len + m : Int) ≤ 9223372036854775807 then
            some (.arr g (ver + 1) 0 (len + m.toNat), upd h g (some (.arr (ver + 1) esz el (cells.drop (off * esz) ++ new) false)))
          else none
        else none
      | _ => none
    | _ => none
  | _, _ => none

/-- What an operation leaves: its value, and the heap. g0: the name that it may give. -/
def evalOp (call : Call) (base : Nat) (σ : St) (g0 : Nat) : LOp → Option (AV × Heap)
  | .mov x => some (σ.ev x, σ.h)
  | .pick c a b => match σ.ev c with | .bool t => some (if t then σ.ev a else σ.ev b, σ.h) | _ => none
  | .alloc z => some (.ptr g0 (newVer σ.h g0) 0, upd σ.h g0 (some (.box (newVer σ.h g0) z)))
  | .box x => match (σ.ev x).cells with
    | some c => some (.ptr g0 (newVer σ.h g0) 0, upd σ.h g0 (some (.box (newVer σ.h g0) c)))
    | none => none
  | .build z ps => match fills σ.ev z ps with | some l => some (.agg l, σ.h) | none => none
  | .bslice n esz el z ps => match fills σ.ev (repeatL z n) ps with
    | some l => some (.arr g0 (newVer σ.h g0) 0 n, upd σ.h g0 (some (.arr (newVer σ.h g0) esz el l false)))
    | none => none
  | .load ag n x => match loadV σ.h ag n (σ.ev x) with | some v => some (v, σ.h) | none => none
  | .store n x y => match storeV σ.h n (σ.ev x) (σ.ev y) with | some h => some (.any, h) | none => none
  | .ibin op x y => match σ.ev x, σ.ev y with
    | .int k a, .int k' b => if k = k' then (match ibinV op k a b with | some v => some (v, σ.h) | none => none) else none
    | _, _ => none
  | .eqv ne ag sh x y => match eqV ag sh (σ.ev x) (σ.ev y) with | some b => some (.bool (if ne then !b else b), σ.h) | none => none
  | .un op x => match op, σ.ev x with
    | .not, .bool b => some (.bool !b, σ.h)
    | .neg, .int k n => some (.int k (k.wrap (0 - n)), σ.h)
    | _, _ => none
  | .conv k x => match σ.ev x with | .int _ n => some (.int k (k.wrap n), σ.h) | _ => none
  | .nilck x => match σ.ev x with
    | .ptr g v o => if cur σ.h g v then some (.ptr g v o, σ.h) else none
    | .rptr l => some (.rptr l, σ.h)
    | .fn f caps => some (.fn f caps, σ.h)
    | _ => none
  | .mkfn f caps => some (.fn f (caps.map σ.ev), σ.h)
  | .mkS esz bytes el z l c => match σ.ev l, σ.ev c with
    | .int _ n, .int _ m =>
      if 0 ≤ n ∧ n ≤ m ∧ m * bytes ≤ room ∧ m ≤ 9223372036854775807 then some (.arr g0 (newVer σ.h g0) 0 n.toNat, upd σ.h g0 (some (.arr (newVer σ.h g0) esz el (repeatL z n.toNat) false))) else none
    | _, _ => none
  | .slc esz x lo hi => match sliceV σ.h esz (σ.ev x) (lo.map σ.ev) (hi.map σ.ev) with | some v => some (v, σ.h) | none => none
  | .faddr off x => match faddrV σ.h off (σ.ev x) with | some v => some (v, σ.h) | none => none
  | .fld ag off n x => match σ.ev x with
    | .agg l => (match pack ag l off n with | some v => some (v, σ.h) | none => none)
    | _ => none
  | .iaddr esz x i => match iaddrV σ.h esz (σ.ev x) (σ.ev i) with | some v => some (v, σ.h) | none => none
  | .iaddrA len esz x i => match iaddrAV σ.h len esz (σ.ev x) (σ.ev i) with | some v => some (v, σ.h) | none => none
  | .idx len esz ag x i => match idxV len esz ag (σ.ev x) (σ.ev i) with | some v => some (v, σ.h) | none => none
  | .ext x i => match σ.ev x with
    | .tup l => (match l[i]? with | some v => some (v, σ.h) | none => none)
    | _ => none
  | .len x => match lenV σ.h (σ.ev x) with | some n => some (.int .i64 n, σ.h) | none => none
  | .lenM x => match lenM σ.h (σ.ev x) with | some n => some (.int .i64 n, σ.h) | none => none
  | .lenS x => match lenS (σ.ev x) with | some n => some (.int .i64 n, σ.h) | none => none
  | .app esz bytes el _ x y => appV σ.h g0 esz bytes el (σ.ev x) (σ.ev y)
  | .callp f args => match snaps σ.h (args.map σ.ev) with
    | some (vs, ns) =>
      (match call f vs none with
       | some (v, _) => if ns = [] ∨ v.scalar = true then some (v, σ.h) else none
       | none => none)
    | none => none
  | .callz f args => match snaps σ.h (args.map σ.ev) with
    | some (vs, ns) =>
      (match call f vs none with
       | some (v, _) => some (v, freezeAll σ.h ns)
       | none => none)
    | none => none
  | .callr f args b => call f (args.map σ.ev) (some (σ.h, base + b))
  | .callv x args => match snaps σ.h (σ.ev x :: args.map σ.ev) with
    | some (.fn f caps :: vs, ns) =>
      (match call f (vs ++ caps) none with
       | some (v, _) => if ns = [] ∨ v.scalar = true then some (v, σ.h) else none
       | none => none)
    | _ => none

def stepOp (call : Call) (base : Nat) (o : LOper) (σ : St) : Option St :=
  match o.guard with
  | none => (match evalOp call base σ (base + o.dst.getD 0) o.op with | some (v, h) => some (σ.put o.dst v h) | none => none)
  | some (g, want) =>
    match σ.f g with
    | .bool b => if b = want then (match evalOp call base σ (base + o.dst.getD 0) o.op with | some (v, h) => some (σ.put o.dst v h) | none => none) else some (σ.put o.dst (.tup []) σ.h)
    | .tup [] => some (σ.put o.dst (.tup []) σ.h)
    | _ => none
def evalOps (call : Call) (base : Nat) : List LOper → St → Option St
  | [], σ => some σ
  | o :: r, σ => match stepOp call base o σ with | some σ' => evalOps call base r σ' | none => none

/-- Does an operation give a name? -/
def LOp.isNew : LOp → Bool
  | .alloc _ | .box _ | .bslice .. | .mkS .. => true
  | _ => false
/-- In a region whose order is drawn: a name is given once. -/
def stepOpD (call : Call) (base : Nat) (o : LOper) (σ : St) : Option St :=
  if o.op.isNew = true ∧ (σ.h (base + o.dst.getD 0)).isSome = true then none else stepOp call base o σ
def evalOpsD (call : Call) (base : Nat) : List LOper → St → Option St
  | [], σ => some σ
  | o :: r, σ => match stepOpD call base o σ with | some σ' => evalOpsD call base r σ' | none => none

inductive LE where
  | normal
  | exit (id : Nat)
  | ret
  deriving DecidableEq, Inhabited
inductive LC where
  | skip
  | reg (draw : Bool) (ops : List LOper)
  | seq (a b : LC)
  | cond (c : LO) (a b : LC)
  | blk (id : Nat) (b : LC)
  | loop (ks ns : List Nat) (b : LC)
  | exit (id : Nat)
  | ret
  deriving Inhabited

mutual
def refsIn (ns : List Nat) : AV → Bool
  | .arr g _ _ _ | .ptr g _ _ | .map g _ => ns.contains g
  | .fn _ l | .agg l | .tup l => refsInL ns l
  | _ => true
def refsInL (ns : List Nat) : List AV → Bool
  | [] => true
  | v :: r => refsIn ns v && refsInL ns r
end
def refsInO (ns : List Nat) : AObj → Bool
  | .box _ l => refsInL ns l
  | .arr _ _ _ l _ => l.all AV.flat || refsInL ns l
  | .map _ es => refsInL ns (es.map (·.1)) && refsInL ns (es.map (·.2))
/-- Only these slots and names are kept. -/
def keep (pm : Bool) (ks ns : List Nat) (σ : St) : Option St :=
  if pm then
    if (ks.all fun k => refsIn ns (σ.f k)) ∧ (ns.all fun n => match σ.h n with | some o => refsInO ns o | none => true) then
      some ⟨fr (ks.map fun k => (k, σ.f k)), hl (ns.filterMap fun n => (σ.h n).map fun o => (n, o))⟩
    else none
  else some ⟨fr (ks.map fun k => (k, σ.f k)), σ.h⟩
def andThen (x : Option (LE × St)) (k : St → Option (LE × St)) : Option (LE × St) :=
  match x with
  | some (.normal, σ) => k σ
  | r => r
def inBlk (id : Nat) : Option (LE × St) → Option (LE × St)
  | some (.exit i, σ) => if i = id then some (.normal, σ) else some (.exit i, σ)
  | r => r
def loopF (body : St → Option (LE × St)) : Nat → St → Option (LE × St)
  | 0, _ => none
  | n + 1, σ => andThen (body σ) (loopF body n)
def evalL (n : Nat) (call : Call) (pm : Bool) (base : Nat) : LC → St → Option (LE × St)
  | .skip, σ => some (.normal, σ)
  | .reg false ops, σ => (evalOps call base ops σ).map fun σ' => (.normal, σ')
  | .reg true ops, σ => (evalOpsD call base ops σ).map fun σ' => (.normal, σ')
  | .seq a b, σ => andThen (evalL n call pm base a σ) (evalL n call pm base b)
  | .cond c a b, σ => match σ.ev c with
    | .bool t => if t then evalL n call pm base a σ else evalL n call pm base b σ
    | _ => none
  | .blk id b, σ => inBlk id (evalL n call pm base b σ)
  | .loop ks ns b, σ => loopF (fun σ => (keep pm ks ns σ).bind (evalL n call pm base b)) n σ
  | .exit id, σ => some (.exit id, σ)
  | .ret, σ => some (.ret, σ)

inductive RV where
  | tmp (t : Nat)
  | cell (t : Nat) (ag : Bool) (n : Nat)
  deriving Inhabited
structure LFunc where
  np : Nat
  res : List RV
  pm : Bool
  body : LC
  deriving Inhabited
def RV.get (σ : St) : RV → Option AV
  | .tmp t => some (σ.f t)
  | .cell t ag n => loadV σ.h ag n (σ.f t)
def resV (σ : St) (l : List RV) : Option AV :=
  match l.mapM (RV.get σ) with
  | some [v] => some v
  | some vs => some (.tup vs)
  | none => none
def argsF : Nat → List AV → List (Nat × AV)
  | _, [] => []
  | k, v :: r => (k, v) :: argsF (k + 1) r
/-- The functions: their code, or what they answer. -/
structure Env where
  code : FuncId → Option LFunc
  ext : Call
/-- The end of a call. -/
def finish (lf : LFunc) : Option (LE × St) → Option (AV × Heap)
  | some (.exit _, _) => none
  | some (_, σ) =>
    match resV σ lf.res with
    | some v => if lf.pm then (match snap σ.h depth v with | some (u, _) => some (u, fun _ => none) | none => none) else some (v, σ.h)
    | none => none
  | none => none
/-- A call, so deep at the most. -/
def evalF (Γ : Env) : Nat → Call
  | 0, _, _, _ => none
  | n + 1, f, args, m =>
    match Γ.code f with
    | none => Γ.ext f args m
    | some lf =>
      if args.length = lf.np then
        match lf.pm, m with
        | true, none => finish lf (evalL n (evalF Γ n) true 0 lf.body ⟨fr (argsF 0 args), fun _ => none⟩)
        | false, some (h, base) => finish lf (evalL n (evalF Γ n) false base lf.body ⟨fr (argsF 0 args), h⟩)
        | _, _ => none
      else none

/-- A record of a name and its value. -/
theorem upd_same {α : Type} (f : Nat → α) (d : Nat) (v : α) : upd f d v d = v := by simp [upd]
theorem upd_other {α : Type} (f : Nat → α) (d : Nat) (v : α) (n : Nat) (h : n ≠ d) : upd f d v n = f n := by simp [upd, h]
end Go.Vv
