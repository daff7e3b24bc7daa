/- An evaluator over abstract values for a part of the language of the model: the values, the heap, the operations, the code. Definitions alone. -/
import Derived.Calls
import Derived.Laws.Entries
namespace Go.Vv
inductive AV where
 | any
 | bool (b : Bool)
 | int (k : IntKind) (n : Int)
 | str (s : ByteArray)
 | nils
 | nilp
 | nilf
 | nilm
 | lst (n : Nat) (l : List AV)
 | rptr (l : List AV)
 | fn (f : FuncId) (caps : List AV)
 | agg (l : List AV)
 | tup (l : List AV)
 | arr (g ver off len : Nat)
 | ptr (g ver off : Nat)
 | map (g ver : Nat)
 | mpr (ks vs : List AV)
 deriving Inhabited
inductive AObj where
 | box (ver : Nat) (cells : List AV)
 | arr (ver esz : Nat) (el : TypeId) (cells : List AV) (fz : Bool)
 | map (ver : Nat) (es : List (AV × AV)) (fz : Bool)
 deriving Inhabited
def AObj.ver : AObj → Nat
 | .box v _ => v
 | .arr v _ _ _ _ => v
 | .map v _ _ => v
def AObj.fz : AObj → Bool
 | .arr _ _ _ _ z => z
 | .map _ _ z => z
 | _ => false
abbrev Heap := Nat → Option AObj
structure St where
 f : Nat → AV
 h : Heap
def upd {α : Type} (f : Nat → α) (d : Nat) (v : α) : Nat → α := fun n => if n = d then v else f n
def fr : List (Nat × AV) → Nat → AV
 | [] => fun _ => .any
 | (d, v) :: r => fun n => if n = d then v else fr r n
def hl : List (Nat × AObj) → Heap
 | [] => fun _ => none
 | (d, v) :: r => fun n => if n = d then some v else hl r n
def Kj (h : Heap) (g : Nat) : Nat := match h g with | none => 0 | some o => o.ver + 1
def St.put (σ : St) (d : Option Nat) (v : AV) (h : Heap) : St :=
 match d with
 | some d => ⟨upd σ.f d v, h⟩
 | none => ⟨σ.f, h⟩
def AV.one : AV → Bool
 | .any | .agg _ | .tup _ => false
 | _ => true
def AV.flat : AV → Bool
 | .bool _ | .int _ _ | .str _ | .nils | .nilp | .nilf | .nilm | .lst _ _ | .rptr _ | .mpr _ _ => true
 | _ => false
def AV.cells : AV → Option (List AV)
 | .agg l => some l
 | v => if v.one then some [v] else none
def AV.scalar : AV → Bool
 | .bool _ | .int _ _ | .str _ => true
 | .agg l => l.all fun | .bool _ | .int _ _ | .str _ => true | _ => false
 | .tup l => l.all fun | .bool _ | .int _ _ | .str _ => true | .agg l => l.all (fun | .bool _ | .int _ _ | .str _ => true | _ => false) | _ => false
 | _ => false
def cut (l : List AV) (off n : Nat) : List AV := (l.drop off).take n
def pack (ag : Bool) (l : List AV) (off n : Nat) : Option AV :=
 if off + n ≤ l.length then
  if ag then some (.agg (cut l off n)) else l[off]?
 else none
def paste (l : List AV) (off : Nat) (new : List AV) : List AV := l.take off ++ new ++ l.drop (off + new.length)
mutual
def AV.noNm : AV → Bool
 | .any | .arr .. | .ptr .. | .map .. => false
 | .fn _ l | .agg l | .tup l => Jtj l
 | _ => true
def Jtj : List AV → Bool
 | [] => true
 | v :: r => v.noNm && Jtj r
end
def snap (h : Heap) : Nat → AV → Option (AV × List Nat)
 | 0, _ => none
 | k + 1, v =>
  match v with
  | .any | .ptr .. => none
  | .map g ver =>
   match h g with
   | some (.map ver' es false) => if ver = ver' ∧ es.all (fun p => p.2.noNm) = true then some (.mpr (es.map (·.1)) (es.map (·.2)), [g]) else none
   | _ => none
  | .arr g ver off len =>
   match h g with
   | some (.arr ver' esz _ cells _) =>
    if ver = ver' ∧ (off + len) * esz ≤ cells.length then
     let l := cut cells (off * esz) (len * esz)
     if l.all AV.flat then some (.lst len l, [g]) else
     match l.mapM (snap h k) with
     | some ps => some (.lst len (ps.map (·.1)), g :: ps.flatMap (·.2))
     | none => none
    else none
   | _ => none
  | .fn f caps =>
   match caps.mapM (snap h k) with
   | some ps => some (.fn f (ps.map (·.1)), ps.flatMap (·.2))
   | none => none
  | .agg l =>
   if l.all AV.flat then some (.agg l, []) else
   match l.mapM (snap h k) with
   | some ps => some (.agg (ps.map (·.1)), ps.flatMap (·.2))
   | none => none
  | .tup l =>
   match l.mapM (snap h k) with
   | some ps => some (.tup (ps.map (·.1)), ps.flatMap (·.2))
   | none => none
  | v => some (v, [])
def depth : Nat := 8
def Jjk (h : Heap) (l : List AV) : Option (List AV × List Nat) :=
 match l.mapM (snap h depth) with
 | some ps => some (ps.map (·.1), ps.flatMap (·.2))
 | none => none
def AObj.freeze : AObj → AObj
 | .arr v e t c _ => .arr v e t c true
 | .map v es _ => .map v es true
 | o => o
def Kg (h : Heap) (ns : List Nat) : Heap := fun g => if g ∈ ns then (h g).map AObj.freeze else h g
def okDst (nt : Nat) : Option Nat → Bool
 | some d => decide (d < nt)
 | none => true
inductive LO where
 | t (n : Nat)
 | c (v : AV)
 deriving Inhabited
def St.ev (σ : St) : LO → AV
 | .t n => σ.f n
 | .c v => v
inductive LOp where
 | mov (x : LO)
 | frz (x : LO)
 | pick (c a b : LO)
 | alloc (z : List AV)
 | box (x : LO)
 | build (z : List AV) (parts : List (Nat × Nat × LO))
 | bslice (n esz : Nat) (el : TypeId) (z : List AV) (parts : List (Nat × Nat × LO))
 | bslz (n esz : Nat) (el : TypeId) (z : List AV) (parts : List (Nat × Nat × LO))
 | load (ag : Bool) (n : Nat) (x : LO)
 | store (n : Nat) (x y : LO)
 | ibin (op : BinOp) (x y : LO)
 | eqv (ne ag : Bool) (sh : List Bool) (x y : LO)
 | un (op : UnOp) (x : LO)
 | conv (k : IntKind) (x : LO)
 | nilck (x : LO)
 | mkfn (f : FuncId) (caps : List LO)
 | mkS (esz bytes : Nat) (el : TypeId) (z : List AV) (l c : LO)
 | slc (esz : Nat) (x : LO) (lo hi : Option LO)
 | faddr (off : Nat) (x : LO)
 | fld (ag : Bool) (off n : Nat) (x : LO)
 | iaddr (esz : Nat) (x i : LO)
 | iaddrA (len esz : Nat) (x i : LO)
 | idx (len esz : Nat) (ag : Bool) (x i : LO)
 | ext (x : LO) (i : Nat)
 | len (x : LO)
 | lenM (x : LO)
 | lenS (x : LO)
 | app (esz bytes : Nat) (el : TypeId) (z : List AV) (x y : LO)
 | callp (f : FuncId) (args : List LO)
 | callz (f : FuncId) (args : List LO)
 | callr (f : FuncId) (args : List LO)
 | callv (x : LO) (args : List LO)
 | callw (x : LO) (args : List LO)
 | callq (f : FuncId) (args : List LO)
 | mkM
 | look (ok ag : Bool) (sh : List Bool) (z : AV) (x k : LO)
 | setM (ag : Bool) (sh : List Bool) (x k v : LO)
 | delM (ag : Bool) (sh : List Bool) (x k : LO)
 | shf (op : BinOp) (x y : LO)
 | mm (mx : Bool) (x y : LO)
 | isnil (ne : Bool) (x : LO)
 | appz (esz bytes : Nat) (el : TypeId) (z : List AV) (x y : LO)
 | appn (z : Bool) (ds : List Nat) (esz bytes : Nat) (el : TypeId) (zz : List AV) (x y : LO)
 | callu (x : LO) (args : List LO)
 | ston (ds : List Nat) (n : Nat) (x y : LO)
 | msk (ds : List Nat) (op : LOp)
 | allocA (esz : Nat) (t : TypeId) (z : List AV)
 | slcA (n esz : Nat) (x : LO)
 deriving Inhabited
structure LOper where
 dst : Option Nat
 op : LOp
 guard : Option (Nat × Bool)
 deriving Inhabited
abbrev Call := FuncId → List AV → Option (Heap × Nat) → Option (AV × Heap)
def Jim (op : BinOp) (k : IntKind) (a b : Int) : Option AV :=
 match op with
 | .add => some (.int k (k.wrap (a + b)))
 | .sub => some (.int k (k.wrap (a - b)))
 | .mul => some (.int k (k.wrap (a * b)))
 | .quo => if b = 0 then none else some (.int k (k.wrap (a.tdiv b)))
 | .rem => if b = 0 then none else some (.int k (a.tmod b))
 | .eql => some (.bool (a == b))
 | .neq => some (.bool (a != b))
 | .lss => some (.bool (a < b))
 | .leq => some (.bool (a ≤ b))
 | .gtr => some (.bool (a > b))
 | .geq => some (.bool (a ≥ b))
 | .and => some (.int k (bits .and k a b))
 | .or => some (.int k (bits .or k a b))
 | .xor => some (.int k (bits .xor k a b))
 | .andNot => some (.int k (bits .andNot k a b))
 | _ => none
def Jg6 : Bool → AV → AV → Option Bool
 | false, .int k a, .int k' b => if k = k' then some (a == b) else none
 | true, .bool a, .bool b => some (a == b)
 | _, _, _ => none
def Zl : List Bool → List AV → List AV → Option Bool
 | [], [], [] => some true
 | s :: ss, x :: xs, y :: ys =>
  match Jg6 s x y, Zl ss xs ys with
  | some a, some b => some (a && b)
  | _, _ => none
 | _, _, _ => none
def eqV (ag : Bool) (sh : List Bool) (x y : AV) : Option Bool :=
 if ag then (match x, y with | .agg l, .agg m => Zl sh l m | _, _ => none) else Zl sh [x] [y]
def Juc (ag : Bool) (sh : List Bool) (k : AV) : Bool := (eqV ag sh k k).isSome
def posM (ag : Bool) (sh : List Bool) (k : AV) : Nat → List (AV × AV) → Option (Option Nat)
 | _, [] => some none
 | i, p :: r => match eqV ag sh k p.1 with
  | some true => some (some i)
  | some false => posM ag sh k (i + 1) r
  | none => none
def atM (es : List (AV × AV)) (z : AV) : Option Nat → AV
 | some j => match es[j]? with | some p => p.2 | none => z
 | none => z
def putM (es : List (AV × AV)) (k v : AV) : Option Nat → List (AV × AV)
 | some j => es.set j (k, v)
 | none => es ++ [(k, v)]
def outM (es : List (AV × AV)) : Option Nat → List (AV × AV)
 | some j => es.eraseIdx j
 | none => es
def Jm5 (ev : LO → AV) : List AV → List (Nat × Nat × LO) → Option (List AV)
 | z, [] => some z
 | z, (off, n, x) :: r =>
  match (ev x).cells with
  | some c => if c.length = n ∧ off + n ≤ z.length then Jm5 ev (paste z off c) r else none
  | none => none
def Jl4 (h : Heap) : AV → Option (List AV × Nat)
 | .rptr l => some (l, 0)
 | .ptr g ver off =>
  match h g with
  | some (.box ver' cells) => if ver = ver' then some (cells, off) else none
  | some (.arr ver' _ _ cells _) => if ver = ver' then some (cells, off) else none
  | _ => none
 | _ => none
def Jql (h : Heap) (ag : Bool) (n : Nat) (x : AV) : Option AV :=
 match Jl4 h x with
 | some (l, off) => pack ag l off n
 | none => none
def Jl3 (h : Heap) (n : Nat) (x y : AV) : Option Heap :=
 match x, y.cells with
 | .ptr g ver off, some c =>
  if c.length = n then
  match h g with
  | some (.box ver' cells) => if ver = ver' ∧ off + n ≤ cells.length then some (upd h g (some (.box ver' (paste cells off c)))) else none
  | some (.arr ver' esz el cells false) => if ver = ver' ∧ off + n ≤ cells.length then some (upd h g (some (.arr ver' esz el (paste cells off c) false))) else none
  | _ => none
  else none
 | _, _ => none
def cur (h : Heap) (g ver : Nat) : Bool := match h g with | some o => o.ver == ver | none => false
def curA (h : Heap) (g ver esz : Nat) : Bool := match h g with | some (.arr v e _ _ _) => v == ver && e == esz | _ => false
def Jek (h : Heap) (g ver : Nat) : Bool := match h g with | some (.arr v _ _ _ _) => v == ver | _ => false
def curM (h : Heap) (g ver : Nat) : Option (List (AV × AV)) := match h g with | some (.map v es false) => if v = ver then some es else none | _ => none
def esOf (h : Heap) : AV → Option (List (AV × AV))
 | .nilm => some []
 | .mpr ks vs => some (ks.zip vs)
 | .map g ver => curM h g ver
 | _ => none
def J8t (ok : Bool) (z : AV) (es : List (AV × AV)) : Option (Option Nat) → Option AV
 | some j => some (if ok = true then .tup [atM es z j, .bool j.isSome] else atM es z j)
 | none => none
def Jsg (ok ag : Bool) (sh : List Bool) (z k : AV) : Option (List (AV × AV)) → Option AV
 | some es => if Juc ag sh k = true then J8t ok z es (posM ag sh k 0 es) else none
 | none => none
def setE (h : Heap) (g ver : Nat) (es : List (AV × AV)) (k v : AV) : Option (Option Nat) → Option Heap
 | some j => some (upd h g (some (.map ver (putM es k v j) false)))
 | none => none
def setV (h : Heap) (ag : Bool) (sh : List Bool) (k v : AV) : AV → Option Heap
 | .map g ver => match curM h g ver with
  | some es => if Juc ag sh k = true then setE h g ver es k v (posM ag sh k 0 es) else none
  | none => none
 | _ => none
def delE (h : Heap) (g ver : Nat) (es : List (AV × AV)) : Option (Option Nat) → Option Heap
 | some j => some (upd h g (some (.map ver (outM es j) false)))
 | none => none
def delV (h : Heap) (ag : Bool) (sh : List Bool) (k : AV) : AV → Option Heap
 | .map g ver => match curM h g ver with
  | some es => if Juc ag sh k = true then delE h g ver es (posM ag sh k 0 es) else none
  | none => none
 | _ => none
def mmV (mx : Bool) (a b : Int) : Int := if mx = true then (if b > a then b else a) else (if b < a then b else a)
def shfV (op : BinOp) (k : IntKind) (a b : Int) : Option AV :=
 if b < 0 then none else
 match op with
 | .shl => some (.int k (k.wrap (a * 2 ^ (min b.toNat k.bits))))
 | .shr => some (.int k (a.fdiv (2 ^ (min b.toNat k.bits))))
 | _ => none
def lenV (h : Heap) : AV → Option Int
 | .nils => some 0
 | .lst n _ => some n
 | .arr g ver _ len => if Jek h g ver then some len else none
 | _ => none
def lenM (h : Heap) : AV → Option Int
 | .nilm => some 0
 | .mpr ks _ => some ks.length
 | .map g ver => match curM h g ver with
  | some es => some es.length
  | _ => none
 | _ => none
def lenS : AV → Option Int
 | .str s => some s.size
 | _ => none
def Jkq (h : Heap) : AV → Option Bool
 | .nils => some true
 | .lst 0 [] => none
 | .lst _ _ => some false
 | .arr g ver _ _ => if Jek h g ver = true then some false else none
 | _ => none
def Jyh (g ver n esz : Nat) : Option AObj → Option AV
 | some (.arr ver' esz' _ cells _) => if ver = ver' ∧ esz = esz' ∧ cells.length = n * esz then some (.arr g ver 0 n) else none
 | _ => none
def Jpo (h : Heap) (n esz : Nat) : AV → Option AV
 | .ptr g ver 0 => Jyh g ver n esz (h g)
 | _ => none
def Jf8 (d : Int) : Option AV → Option Int
 | none => some d
 | some (.int _ n) => some n
 | _ => none
def Jf2 (h : Heap) (esz : Nat) (x : AV) (lo hi : Option AV) : Option AV :=
 match x with
 | .lst n l =>
  match Jf8 0 lo, Jf8 n hi with
  | some a, some b => if 0 ≤ a ∧ a ≤ b ∧ b ≤ n ∧ l.length = n * esz then some (.lst (b - a).toNat (cut l (a.toNat * esz) ((b - a).toNat * esz))) else none
  | _, _ => none
 | .arr g ver off len =>
  match Jf8 0 lo, Jf8 len hi with
  | some a, some b => if 0 ≤ a ∧ a ≤ b ∧ b ≤ len ∧ curA h g ver esz = true then some (.arr g ver (off + a.toNat) (b - a).toNat) else none
  | _, _ => none
 | .nils =>
  match Jf8 0 lo, Jf8 0 hi with
  | some a, some b => if a = 0 ∧ b = 0 then some .nils else none
  | _, _ => none
 | _ => none
def Jk5 (h : Heap) (off : Nat) : AV → Option AV
 | .ptr g ver o => if cur h g ver then some (.ptr g ver (o + off)) else none
 | .rptr l => some (.rptr (l.drop off))
 | _ => none
def Jij (h : Heap) (esz : Nat) (x i : AV) : Option AV :=
 match x, i with
 | .lst n l, .int _ i => if 0 ≤ i ∧ i < n then some (.rptr (l.drop (i.toNat * esz))) else none
 | .arr g ver off len, .int _ i => if 0 ≤ i ∧ i < len ∧ curA h g ver esz = true then some (.ptr g ver ((off + i.toNat) * esz)) else none
 | _, _ => none
def Jgx (h : Heap) (len esz : Nat) (x i : AV) : Option AV :=
 match x, i with
 | .ptr g ver o, .int _ i => if 0 ≤ i ∧ i < len ∧ cur h g ver = true then some (.ptr g ver (o + i.toNat * esz)) else none
 | .rptr l, .int _ i => if 0 ≤ i ∧ i < len then some (.rptr (l.drop (i.toNat * esz))) else none
 | _, _ => none
def idxV (len esz : Nat) (ag : Bool) (x i : AV) : Option AV :=
 match x, i with
 | .agg l, .int _ i => if 0 ≤ i ∧ i < len then pack ag l (i.toNat * esz) esz else none
 | _, _ => none
def Jfr (h : Heap) (esz : Nat) : AV → Option (List AV)
 | .nils => some []
 | .lst n l => if l.length = n * esz then some l else none
 | .arr g ver off len =>
  match h g with
  | some (.arr ver' esz' _ cells _) => if ver = ver' ∧ esz = esz' ∧ (off + len) * esz ≤ cells.length then some (cut cells (off * esz) (len * esz)) else none
  | _ => none
 | _ => none
def room : Nat := 140737488355328
def Jc8 (z : List AV) : Nat → List AV
 | 0 => []
 | n + 1 => z ++ Jc8 z n
def appV (h : Heap) (g0 : Nat) (esz bytes : Nat) (el : TypeId) (x y : AV) : Option (AV × Heap) :=
 match lenV h y, Jfr h esz y with
 | some m, some new =>
  match x with
  | .nils =>
   if new = [] then some (.nils, h)
   else if m * bytes ≤ room ∧ (m : Int) ≤ 9223372036854775807 then some (.arr g0 (Kj h g0 + 1) 0 m.toNat, upd h g0 (some (.arr (Kj h g0 + 1) esz el new false)))
   else none
  | .arr g ver off len =>
   match h g with
   | some (.arr ver' esz' el' cells false) =>
    if ver = ver' ∧ esz = esz' ∧ el = el' ∧ (off + len) * esz = cells.length then
     if new = [] then some (.arr g ver off len, h)
     else if (len + m) * bytes ≤ room ∧ (len + m : Int) ≤ 9223372036854775807 then
      some (.arr g (ver + 1) 0 (len + m.toNat), upd h g (some (.arr (ver + 1) esz el (cells.drop (off * esz) ++ new) false)))
     else none
    else if ver = ver' ∧ esz = esz' ∧ el = el' ∧ (off + len) * esz ≤ cells.length then
     if new = [] then some (.arr g ver off len, h)
     else if (len + m) * bytes ≤ room ∧ (len + m : Int) ≤ 9223372036854775807 then
      some (.arr g (ver + 1) 0 (len + m.toNat), upd h g (some (.arr (ver + 1) esz el (cut cells (off * esz) (len * esz) ++ new) false)))
     else none
    else none
   | _ => none
  | _ => none
 | _, _ => none
structure Win where
 g : Nat
 nn : Nat
 v : Nat
 off : Nat
 len : Nat
def Jgg : List Win → Nat → Option Win
 | [], _ => none
 | w :: r, g => if w.g = g then some w else Jgg r g
def Jp0 (g j : Nat) : Nat := 1000000 + g * 1000 + j
def Jux (h : Heap) (g ver : Nat) : Bool := match h g with | some (.box v _) => v == ver | _ => false
def curW (h : Heap) (g ver off : Nat) : Bool := match h g with | some (.arr v e _ c _) => v == ver && decide (off * e ≤ c.length) | _ => false
def Jor (h : Heap) (g ver : Nat) : Bool := match h g with | some (.map v _ _) => v == ver | _ => false
mutual
def ren (h : Heap) (tb : List Win) : AV → AV
 | .arr g ver off len => match Jgg tb g with
  | some w => if Jek h g ver = true ∧ off = w.off ∧ len = w.len then .arr w.nn w.v 0 len else .any
  | none => .any
 | .ptr g ver off => match Jgg tb g with
  | some w => if Jux h g ver = true then .ptr w.nn w.v off else .any
  | none => .any
 | .map g ver => match Jgg tb g with
  | some w => if Jor h g ver = true then .map w.nn w.v else .any
  | none => .any
 | .fn f l => .fn f (renL h tb l)
 | .agg l => .agg (renL h tb l)
 | .tup l => .tup (renL h tb l)
 | .any => .any
 | .bool b => .bool b
 | .int k n => .int k n
 | .str s => .str s
 | .nils => .nils
 | .nilp => .nilp
 | .nilf => .nilf
 | .nilm => .nilm
 | .mpr ks vs => .mpr ks vs
 | .lst n l => .lst n l
 | .rptr l => .rptr l
def renL (h : Heap) (tb : List Win) : List AV → List AV
 | [] => []
 | v :: r => ren h tb v :: renL h tb r
end
def renC (h : Heap) (tb : List Win) (l : List AV) : List AV := if l.all AV.flat = true then l else renL h tb l
def renE (h : Heap) (tb : List Win) (es : List (AV × AV)) : List (AV × AV) := if es.all (fun p => p.2.noNm) = true then es else es.map fun p => (p.1, ren h tb p.2)
def renO (h : Heap) (tb : List Win) (w : Win) : AObj → AObj
 | .box _ c => .box w.v (renC h tb c)
 | .arr _ e t c z => .arr w.v e t (renC h tb (cut c (w.off * e) (w.len * e))) z
 | .map _ es z => .map w.v (renE h tb es) z
def addW (h : Heap) (tb : List Win) (nn : Nat) : AV → List Win
 | .arr g ver off len => if curW h g ver off = true ∧ Jgg tb g = none then tb ++ [⟨g, nn, 0, off, len⟩] else tb
 | .map g ver => if Jor h g ver = true ∧ Jgg tb g = none then tb ++ [⟨g, nn, 0, 0, 0⟩] else tb
 | _ => tb
def addC (h : Heap) (g : Nat) : Nat → List AV → List Win → List Win
 | _, [], tb => tb
 | j, v :: r, tb => addC h g (j + 1) r (addW h tb (Jp0 g j) v)
def addB (h : Heap) (tb : List Win) (g nn : Nat) (cells : List AV) : List Win :=
 if Jgg tb g = none then (if cells.all AV.flat = true then tb ++ [⟨g, nn, 0, 0, 0⟩] else addC h nn 0 cells (tb ++ [⟨g, nn, 0, 0, 0⟩])) else tb
def addP (h : Heap) (c : Bool) (tb : List Win) (k g ver : Nat) : Option AObj → List Win
 | some (.box v cells) => if v = ver then addB h tb g (if c = true then k else g) cells else tb
 | _ => tb
def addF (h : Heap) : List AV → List Win → List Win
 | [], tb => tb
 | .ptr g ver _ :: r, tb => addF h r (addP h false tb 0 g ver (h g))
 | _ :: r, tb => addF h r tb
def addS (h : Heap) (c : Bool) (tb : List Win) (k : Nat) : AV → List Win
 | .ptr g ver _ => addP h c tb k g ver (h g)
 | .fn _ caps => if c = true then tb else addF h caps tb
 | v => addW h tb k v
def mkTb (h : Heap) (c : Bool) (F : Nat → AV) : List Nat → List Win → List Win
 | [], tb => tb
 | k :: r, tb => mkTb h c F r (addS h c tb k (F k))
def pin1 (h : Heap) (i : Nat) (tb : List Win) : Option AObj → Option (List Win)
 | some (.box 0 cells) => if Jgg tb i = none then some (addB h tb i i cells) else none
 | some (.arr 0 e _ cells _) => if Jgg tb i = none then some (tb ++ [⟨i, i, 0, 0, cells.length / e⟩]) else none
 | some (.map 0 _ _) => if Jgg tb i = none then some (tb ++ [⟨i, i, 0, 0, 0⟩]) else none
 | _ => none
def Jqw (h : Heap) : List Nat → List Win → Option (List Win)
 | [], tb => some tb
 | i :: r, tb => match pin1 h i tb (h i) with
  | some tb' => Jqw h r tb'
  | none => none
def nnB : List Win → List Nat → Bool
 | [], _ => true
 | w :: r, seen => !seen.contains w.nn && nnB r (w.nn :: seen)
def frR (h : Heap) (tb : List Win) (F : Nat → AV) : List Nat → List (Nat × AV)
 | [] => []
 | k :: r => (k, ren h tb (F k)) :: frR h tb F r
def hlRC (n : Nat) : Option AObj → List (Nat × AObj) → List (Nat × AObj)
 | some o, r => (n, o) :: r
 | none, r => r
def renM (h : Heap) (tb : List Win) (w : Win) : Option AObj → Option AObj
 | some o => some (renO h tb w o)
 | none => none
def hlR (h : Heap) (tb : List Win) : List Win → List (Nat × AObj)
 | [] => []
 | w :: r => hlRC w.nn (renM h tb w (h w.g)) (hlR h tb r)
def Jq7 (h : Heap) (F : Nat → AV) (ks : List Nat) (tb : List Win) : Option St :=
 if nnB tb [] = true then some ⟨fr (frR h tb F ks), hl (hlR h tb tb)⟩ else none
def norm (pins ks : List Nat) (σ : St) : Option St :=
 match Jqw σ.h pins [] with
 | some tb => Jq7 σ.h σ.f ks (mkTb σ.h false σ.f ks tb)
 | none => none
def Jyf (off g : Nat) : Option (List (AV × List Nat)) → Option (AV × List Nat)
 | some ps => some (.rptr ((ps.map (·.1)).drop off), g :: ps.flatMap (·.2))
 | none => none
def qbox (h : Heap) (g ver off : Nat) : Option AObj → Option (AV × List Nat)
 | some (.box v cells) => if v = ver then (if cells.all AV.flat = true then some (.rptr (cells.drop off), [g]) else Jyf off g (cells.mapM (snap h depth))) else none
 | _ => none
def Jli (h : Heap) : AV → Option (AV × List Nat)
 | .ptr g ver off => qbox h g ver off (h g)
 | v => snap h depth v
def Jq5 : Option (AV × List Nat) → Option (List AV × List Nat) → Option (List AV × List Nat)
 | some (u, ns), some (us, ms) => some (u :: us, ns ++ ms)
 | _, _ => none
def Joi (h : Heap) : List AV → Option (List AV × List Nat)
 | [] => some ([], [])
 | v :: r => Jq5 (Jli h v) (Joi h r)
def qfn (f : FuncId) : Option (List AV × List Nat) → Option (AV × List Nat)
 | some (us, ns) => some (.fn f us, ns)
 | none => none
def qarg (h : Heap) : AV → Option (AV × List Nat)
 | .fn f caps => qfn f (Joi h caps)
 | v => Jli h v
def Jmr (h : Heap) : List AV → Option (List AV × List Nat)
 | [] => some ([], [])
 | v :: r => Jq5 (qarg h v) (Jmr h r)
def retQ (h : Heap) : Option (AV × Heap) → Option (AV × Heap)
 | some (v, _) => if v.scalar = true then some (v, h) else none
 | none => none
def calQ (call : FuncId → List AV → Option (Heap × Nat) → Option (AV × Heap)) (f : FuncId) (h : Heap) : Option (List AV × List Nat) → Option (AV × Heap)
 | some (vs, _) => retQ h (call f vs none)
 | none => none
def Jg1 : Nat → List AV → List (Nat × AV)
 | _, [] => []
 | k, v :: r => (k, v) :: Jg1 (k + 1) r
def evN (F : Nat → AV) : Nat → Nat → List AV
 | _, 0 => []
 | k, n + 1 => F k :: evN F (k + 1) n
def rng : Nat → Nat → List Nat
 | _, 0 => []
 | k, n + 1 => k :: rng (k + 1) n
def Jmm (k : Nat) : AV → List Nat
 | .ptr g _ _ => if g = k then [k] else []
 | .arr g _ _ _ => if g = k then [k] else []
 | .map g _ => if g = k then [k] else []
 | _ => []
def Jh3 : Nat → List AV → List Nat
 | _, [] => []
 | k, v :: r => Jmm k v ++ Jh3 (k + 1) r
def embO (pn : List Nat) (w : Win) : Option AObj → Option AObj → Option (List Win)
 | some (.box v _), some (.box 0 _) => if pn.contains w.nn = true then some [⟨w.nn, w.g, v, 0, 0⟩] else none
 | some (.map v _ false), some (.map 0 _ false) => if pn.contains w.nn = true then some [⟨w.nn, w.g, v, 0, 0⟩] else none
 | some (.arr v e t c z), some (.arr 0 e' t' c' z') =>
  if pn.contains w.nn = true then
   (if e = e' ∧ t = t' ∧ w.off = 0 ∧ c'.length = c.length then some [⟨w.nn, w.g, v, 0, c'.length / e'⟩] else none)
  else if z = false ∧ z' = false then some [⟨w.nn, w.g, v + 1, 0, c'.length / e'⟩] else none
 | _, _ => none
def embT (pn : List Nat) (h h1 : Heap) : List Win → Option (List Win)
 | [] => some []
 | w :: r => match embO pn w (h w.g) (h1 w.nn), embT pn h h1 r with
  | some l, some m => some (l ++ m)
  | _, _ => none
def embA (h : Heap) (g j : Nat) (E : List Win) (n len : Nat) : Option AObj → Option (List Win)
 | some (.arr 0 _ _ _ false) => if Jgg E n = none then some (E ++ [⟨n, Jp0 g j, Kj h (Jp0 g j), 0, len⟩]) else some E
 | _ => some E
def embV (h h1 : Heap) (g j : Nat) (E : List Win) : AV → Option (List Win)
 | .arr n 0 0 len => embA h g j E n len (h1 n)
 | _ => some E
def embC (h h1 : Heap) (g : Nat) : Nat → List AV → List Win → Option (List Win)
 | _, [], E => some E
 | j, y :: r, E => match embV h h1 g j E y with
  | some E' => embC h h1 g (j + 1) r E'
  | none => none
def embX (h h1 : Heap) (g : Nat) (E : List Win) : Option AObj → Option (List Win)
 | some (.box _ cells) => if cells.all AV.flat = true then some E else embC h h1 g 0 cells E
 | _ => some E
def embB (h h1 : Heap) : List Win → List Win → Option (List Win)
 | [], E => some E
 | w :: r, E => match embX h h1 w.g E (h1 w.nn) with
  | some E' => embB h h1 r E'
  | none => none
def updR (h1 : Heap) (E : List Win) : List Win → Heap → Heap
 | [], h => h
 | w :: r, h => upd (updR h1 E r h) w.nn (renM h1 E w (h1 w.g))
def embH (pn : List Nat) (h h1 : Heap) (tb : List Win) : Option (List Win) :=
 match embT pn h h1 tb with
 | some E => embB h h1 tb E
 | none => none
def backR (h h1 : Heap) (v : AV) : Option (List Win) → Option (AV × Heap)
 | some E => if nnB E [] = true then some (ren h1 E v, updR h1 E E h) else none
 | none => none
def embW (h h1 : Heap) (f : FuncId) (E : List Win) : AV → Option (List Win)
 | .tup l => embC h h1 (700000 + f) 0 l E
 | v => embV h h1 (700000 + f) 0 E v
def embR (h h1 : Heap) (f : FuncId) (v : AV) : Option (List Win) → Option (List Win)
 | some E => embW h h1 f E v
 | none => none
def Jwm (f : FuncId) (pn : List Nat) (h : Heap) (tb : List Win) : Option (AV × Heap) → Option (AV × Heap)
 | some (v, h1) => backR h h1 v (embR h h1 f v (embH pn h h1 tb))
 | none => none
def Jza (call : Call) (f : FuncId) (h : Heap) (n : Nat) (tb : List Win) : Option St → Option (AV × Heap)
 | some τ => Jwm f (Jh3 0 (evN τ.f 0 n)) h tb (call f (evN τ.f 0 n) (some (τ.h, 0)))
 | none => none
def Jcc (call : Call) (f : FuncId) (h : Heap) (vs : List AV) : Option (AV × Heap) :=
 Jza call f h vs.length (mkTb h true (fr (Jg1 0 vs)) (rng 0 vs.length) []) (Jq7 h (fr (Jg1 0 vs)) (rng 0 vs.length) (mkTb h true (fr (Jg1 0 vs)) (rng 0 vs.length) []))
def LOp.cls : LOp → Nat
 | .mov _ | .pick .. | .build .. | .ibin .. | .eqv .. | .un .. | .conv .. | .mkfn .. | .fld .. | .idx .. | .ext .. | .lenS _ | .shf .. | .mm .. => 0
 | .load .. | .nilck _ | .slc .. | .faddr .. | .iaddr .. | .iaddrA .. | .len _ | .lenM _ | .callp .. | .callv .. | .look .. | .callq .. | .callu .. | .isnil .. | .slcA .. | .msk .. => 1
 | .alloc _ | .allocA .. | .box _ | .bslice .. | .bslz .. | .mkS .. | .mkM => 2
 | .store .. | .app .. | .appz .. | .appn .. | .ston .. | .callz .. | .callr .. | .callw .. | .frz _ | .setM .. | .delM .. => 3
def inNm (base : Nat) (ds : List Nat) (g : Nat) : Bool := ds.any fun d => base + d == g
def Jdn (base : Nat) (ds : List Nat) (h : Heap) : Heap := fun g => if inNm base ds g = true then none else h g
def mskR (h : Heap) : Option (AV × Heap) → Option (AV × Heap)
 | some (v, _) => some (v, h)
 | none => none
def nwOK (base : Nat) (ds : List Nat) (g0 : Nat) : AV → Bool
 | .arr g _ _ _ => inNm base ds g
 | .nils => inNm base ds g0
 | .ptr g _ _ => inNm base ds g
 | _ => false
def apnF (base : Nat) (ds : List Nat) (h : Heap) : Option (AV × List Nat) → Option (AV × Heap)
 | some (u, ns) => if ns.all (inNm base ds) = true then some (u, Kg h ns) else none
 | none => none
def apnZ (base : Nat) (ds : List Nat) (z : Bool) : Option (AV × Heap) → Option (AV × Heap)
 | some (v, h) => if z = true then apnF base ds h (snap h depth v) else some (v, h)
 | none => none
def apnV (base : Nat) (ds : List Nat) (z : Bool) (g0 : Nat) (x : AV) (r : Option (AV × Heap)) : Option (AV × Heap) :=
 if nwOK base ds g0 x = true then apnZ base ds z r else none
def Jz (call : Call) (base : Nat) (σ : St) (g0 : Nat) : LOp → Option (AV × Heap)
 | .mov x => some (σ.ev x, σ.h)
 | .frz x => match snap σ.h depth (σ.ev x) with | some (v, ns) => some (v, Kg σ.h ns) | none => none
 | .pick c a b => match σ.ev c with | .bool t => some (if t then σ.ev a else σ.ev b, σ.h) | _ => none
 | .alloc z => some (.ptr g0 (Kj σ.h g0) 0, upd σ.h g0 (some (.box (Kj σ.h g0) z)))
 | .box x => match (σ.ev x).cells with
  | some c => some (.ptr g0 (Kj σ.h g0) 0, upd σ.h g0 (some (.box (Kj σ.h g0) c)))
  | none => none
 | .build z ps => match Jm5 σ.ev z ps with | some l => some (.agg l, σ.h) | none => none
 | .bslice n esz el z ps => match Jm5 σ.ev (Jc8 z n) ps with
  | some l => some (.arr g0 (Kj σ.h g0) 0 n, upd σ.h g0 (some (.arr (Kj σ.h g0) esz el l false)))
  | none => none
 | .bslz n esz el z ps => match Jm5 σ.ev (Jc8 z n) ps with
  | some l => if l.all AV.flat = true ∧ l.length = n * esz then some (.lst n l, upd σ.h g0 (some (.arr (Kj σ.h g0) esz el l true))) else none
  | none => none
 | .load ag n x => match Jql σ.h ag n (σ.ev x) with | some v => some (v, σ.h) | none => none
 | .store n x y => match Jl3 σ.h n (σ.ev x) (σ.ev y) with | some h => some (.any, h) | none => none
 | .ibin op x y => match σ.ev x, σ.ev y with
  | .int k a, .int k' b => if k = k' then (match Jim op k a b with | some v => some (v, σ.h) | none => none) else none
  | _, _ => none
 | .eqv ne ag sh x y => match eqV ag sh (σ.ev x) (σ.ev y) with | some b => some (.bool (if ne then !b else b), σ.h) | none => none
 | .un op x => match op, σ.ev x with
  | .not, .bool b => some (.bool !b, σ.h)
  | .neg, .int k n => some (.int k (k.wrap (0 - n)), σ.h)
  | _, _ => none
 | .conv k x => match σ.ev x with | .int _ n => some (.int k (k.wrap n), σ.h) | _ => none
 | .nilck x => match σ.ev x with
  | .ptr g v o => if cur σ.h g v then some (.ptr g v o, σ.h) else none
  | .rptr l => some (.rptr l, σ.h)
  | .fn f caps => some (.fn f caps, σ.h)
  | _ => none
 | .mkfn f caps => some (.fn f (caps.map σ.ev), σ.h)
 | .mkS esz bytes el z l c => match σ.ev l, σ.ev c with
  | .int _ n, .int _ m =>
   if 0 ≤ n ∧ n ≤ m ∧ m * bytes ≤ room ∧ m ≤ 9223372036854775807 then some (.arr g0 (Kj σ.h g0) 0 n.toNat, upd σ.h g0 (some (.arr (Kj σ.h g0) esz el (Jc8 z n.toNat) false))) else none
  | _, _ => none
 | .slc esz x lo hi => match Jf2 σ.h esz (σ.ev x) (lo.map σ.ev) (hi.map σ.ev) with | some v => some (v, σ.h) | none => none
 | .faddr off x => match Jk5 σ.h off (σ.ev x) with | some v => some (v, σ.h) | none => none
 | .fld ag off n x => match σ.ev x with
  | .agg l => (match pack ag l off n with | some v => some (v, σ.h) | none => none)
  | _ => none
 | .iaddr esz x i => match Jij σ.h esz (σ.ev x) (σ.ev i) with | some v => some (v, σ.h) | none => none
 | .iaddrA len esz x i => match Jgx σ.h len esz (σ.ev x) (σ.ev i) with | some v => some (v, σ.h) | none => none
 | .idx len esz ag x i => match idxV len esz ag (σ.ev x) (σ.ev i) with | some v => some (v, σ.h) | none => none
 | .ext x i => match σ.ev x with
  | .tup l => (match l[i]? with | some v => some (v, σ.h) | none => none)
  | _ => none
 | .len x => match lenV σ.h (σ.ev x) with | some n => some (.int .i64 n, σ.h) | none => none
 | .lenM x => match lenM σ.h (σ.ev x) with | some n => some (.int .i64 n, σ.h) | none => none
 | .lenS x => match lenS (σ.ev x) with | some n => some (.int .i64 n, σ.h) | none => none
 | .app esz bytes el _ x y => appV σ.h g0 esz bytes el (σ.ev x) (σ.ev y)
 | .callp f args => match Jjk σ.h (args.map σ.ev) with
  | some (vs, ns) =>
   (match call f vs none with
    | some (v, _) => if ns = [] ∨ v.scalar = true then some (v, σ.h) else none
    | none => none)
  | none => none
 | .callz f args => match Jjk σ.h (args.map σ.ev) with
  | some (vs, ns) =>
   (match call f vs none with
    | some (v, _) => some (v, Kg σ.h ns)
    | none => none)
  | none => none
 | .callr f args => Jcc call f σ.h (args.map σ.ev)
 | .callv x args => match Jjk σ.h (σ.ev x :: args.map σ.ev) with
  | some (.fn f caps :: vs, ns) =>
   (match call f (vs ++ caps) none with
    | some (v, _) => if ns = [] ∨ v.scalar = true then some (v, σ.h) else none
    | none => none)
  | _ => none
 | .callq f args => calQ call f σ.h (Jmr σ.h (args.map σ.ev))
 | .mkM => some (.map g0 (Kj σ.h g0), upd σ.h g0 (some (.map (Kj σ.h g0) [] false)))
 | .look ok ag sh z x k => match Jsg ok ag sh z (σ.ev k) (esOf σ.h (σ.ev x)) with | some v => some (v, σ.h) | none => none
 | .setM ag sh x k v => match setV σ.h ag sh (σ.ev k) (σ.ev v) (σ.ev x) with | some h => some (.any, h) | none => none
 | .delM ag sh x k => match delV σ.h ag sh (σ.ev k) (σ.ev x) with | some h => some (.tup [], h) | none => none
 | .shf op x y => match σ.ev x, σ.ev y with
  | .int k a, .int _ b => (match shfV op k a b with | some v => some (v, σ.h) | none => none)
  | _, _ => none
 | .mm mx x y => match σ.ev x, σ.ev y with
  | .int k a, .int _ b => some (.int k (mmV mx a b), σ.h)
  | _, _ => none
 | .appz esz bytes el _ x y => match appV σ.h g0 esz bytes el (σ.ev x) (σ.ev y) with
  | some (v, h') => (match snap h' depth v with | some (u, ns) => some (u, Kg h' ns) | none => none)
  | none => none
 | .appn z ds esz bytes el _ x y => apnV base ds z g0 (σ.ev x) (appV σ.h g0 esz bytes el (σ.ev x) (σ.ev y))
 | .callu x args => match σ.ev x with
  | .fn f caps => calQ call f σ.h (Jmr σ.h (args.map σ.ev ++ caps))
  | _ => none
 | .ston ds n x y => if nwOK base ds g0 (σ.ev x) = true then (match Jl3 σ.h n (σ.ev x) (σ.ev y) with | some h => some (.any, h) | none => none) else none
 | .msk ds op => if op.cls = 1 then mskR σ.h (Jz call base ⟨σ.f, Jdn base ds σ.h⟩ g0 op) else none
 | .isnil ne x => match Jkq σ.h (σ.ev x) with | some b => some (.bool (if ne then !b else b), σ.h) | none => none
 | .allocA esz t z => some (.ptr g0 (Kj σ.h g0) 0, upd σ.h g0 (some (.arr (Kj σ.h g0) esz t z false)))
 | .slcA n esz x => match Jpo σ.h n esz (σ.ev x) with | some v => some (v, σ.h) | none => none
 | .callw x args => match σ.ev x with
  | .fn f caps => Jcc call f σ.h (args.map σ.ev ++ caps)
  | _ => none
def Jdh (call : Call) (base : Nat) (o : LOper) (σ : St) : Option St :=
 match o.guard with
 | none => (match Jz call base σ (base + o.dst.getD 0) o.op with | some (v, h) => some (σ.put o.dst v h) | none => none)
 | some (g, want) =>
  match σ.f g with
  | .bool b => if b = want then (match Jz call base σ (base + o.dst.getD 0) o.op with | some (v, h) => some (σ.put o.dst v h) | none => none) else some (σ.put o.dst (.tup []) σ.h)
  | .tup [] => some (σ.put o.dst (.tup []) σ.h)
  | _ => none
def Jep (call : Call) (base : Nat) : List LOper → St → Option St
 | [], σ => some σ
 | o :: r, σ => match Jdh call base o σ with | some σ' => Jep call base r σ' | none => none
def LOp.isNew : LOp → Bool
 | .alloc _ | .allocA .. | .box _ | .bslice .. | .bslz .. | .mkS .. | .mkM => true
 | _ => false
def Jcs (call : Call) (base : Nat) (o : LOper) (σ : St) : Option St :=
 if o.op.isNew = true ∧ (σ.h (base + o.dst.getD 0)).isSome = true then none else Jdh call base o σ
def zb (call : Call) (base : Nat) : List LOper → St → Option St
 | [], σ => some σ
 | o :: r, σ => match Jcs call base o σ with | some σ' => zb call base r σ' | none => none
inductive LE where
 | normal
 | exit (id : Nat)
 | ret
 deriving DecidableEq, Inhabited
inductive LC where
 | skip
 | reg (draw : Bool) (ops : List LOper)
 | seq (a b : LC)
 | cond (c : LO) (a b : LC)
 | blk (id : Nat) (b : LC)
 | loop (ks : List Nat) (b : LC)
 | trim (ks : List Nat)
 | exit (id : Nat)
 | ret
 deriving Inhabited
def andThen (x : Option (LE × St)) (k : St → Option (LE × St)) : Option (LE × St) :=
 match x with
 | some (.normal, σ) => k σ
 | r => r
def Jqp (id : Nat) : Option (LE × St) → Option (LE × St)
 | some (.exit i, σ) => if i = id then some (.normal, σ) else some (.exit i, σ)
 | r => r
def Jt0 (body : St → Option (LE × St)) : Nat → St → Option (LE × St)
 | 0, _ => none
 | n + 1, σ => andThen (body σ) (Jt0 body n)
def Jcx (n : Nat) (call : Call) (pins : List Nat) (base : Nat) : LC → St → Option (LE × St)
 | .skip, σ => some (.normal, σ)
 | .reg false ops, σ => (Jep call base ops σ).map fun σ' => (.normal, σ')
 | .reg true ops, σ => (zb call base ops σ).map fun σ' => (.normal, σ')
 | .seq a b, σ => andThen (Jcx n call pins base a σ) (Jcx n call pins base b)
 | .cond c a b, σ => match σ.ev c with
  | .bool t => if t then Jcx n call pins base a σ else Jcx n call pins base b σ
  | _ => none
 | .blk id b, σ => Jqp id (Jcx n call pins base b σ)
 | .loop ks b, σ => Jt0 (fun σ => (norm pins ks σ).bind (Jcx n call pins base b)) n σ
 | .trim ks, σ => (norm pins ks σ).map fun σ' => (.normal, σ')
 | .exit id, σ => some (.exit id, σ)
 | .ret, σ => some (.ret, σ)
inductive RV where
 | tmp (t : Nat)
 | own (t : Nat)
 | cell (t : Nat) (ag : Bool) (n : Nat)
 deriving Inhabited
structure LFunc where
 np : Nat
 res : List RV
 pm : Bool
 body : LC
 deriving Inhabited
def RV.get (σ : St) : RV → Option AV
 | .tmp t => some (σ.f t)
 | .own t => some (σ.f t)
 | .cell t ag n => Jql σ.h ag n (σ.f t)
def RV.isOwn : RV → Bool
 | .own _ => true
 | _ => false
def RV.base : RV → RV
 | .own t => .tmp t
 | r => r
def resV (σ : St) (l : List RV) : Option AV :=
 match l.mapM (RV.get σ) with
 | some [v] => some v
 | some vs => some (.tup vs)
 | none => none
structure Env where
 code : FuncId → Option LFunc
 ext : Call
def Jkz (h : Heap) : Option AV → Option (AV × Heap)
 | some v => match snap h depth v with
  | some (u, _) => some (u, fun _ => none)
  | none => none
 | none => none
def Jp1 (pins : List Nat) : AV → Bool
 | .ptr g 0 _ => pins.contains g
 | _ => false
def endR (v : AV) : Option St → Option (AV × Heap)
 | some τ => some (v, τ.h)
 | none => none
def endS (pins : List Nat) (h : Heap) : Option (AV × List Nat) → Option (AV × Heap)
 | some (u, ns) => endR u (norm pins [] ⟨fun _ => .any, Kg h ns⟩)
 | none => none
def Jk4 (pins : List Nat) (h : Heap) : Option AV → Option (AV × Heap)
 | some v => if Jp1 pins v = true then endR v (norm pins [] ⟨fun _ => .any, h⟩) else endS pins h (snap h depth v)
 | none => none
def resB : Nat := 700000
def outV (h : Heap) : RV → AV → Option (AV × List Nat)
 | .own _, v => some (v, [])
 | _, v => snap h depth v
def outC : Option (AV × List Nat) → Option (List AV × List Nat) → Option (List AV × List Nat)
 | some (u, ns), some (us, ms) => some (u :: us, ns ++ ms)
 | _, _ => none
def Jm4 (h : Heap) : List RV → List AV → Option (List AV × List Nat)
 | r :: rs, v :: vs => outC (outV h r v) (Jm4 h rs vs)
 | _, _ => some ([], [])
def Jq4 : List AV → AV
 | [v] => v
 | vs => .tup vs
def endO (n : Nat) : Option St → Option (AV × Heap)
 | some τ => some (Jq4 (evN τ.f resB n), τ.h)
 | none => none
def finO (pins : List Nat) (h : Heap) : Option (List AV × List Nat) → Option (AV × Heap)
 | some (us, ns) => endO us.length (norm pins (rng resB us.length) ⟨fr (Jg1 resB us), Kg h ns⟩)
 | none => none
def Jla (pins : List Nat) (h : Heap) (rs : List RV) : Option (List AV) → Option (AV × Heap)
 | some vs => finO pins h (Jm4 h rs vs)
 | none => none
def Jhy (lf : LFunc) (pins : List Nat) : Option (LE × St) → Option (AV × Heap)
 | some (.exit _, _) => none
 | some (_, σ) => if lf.pm = true then Jkz σ.h (resV σ lf.res) else if lf.res.any RV.isOwn = true then Jla pins σ.h lf.res (lf.res.mapM (RV.get σ)) else Jk4 pins σ.h (resV σ lf.res)
 | none => none
def Jew (Γ : Env) : Nat → Call
 | 0, _, _, _ => none
 | n + 1, f, args, m =>
  match Γ.code f with
  | none => Γ.ext f args m
  | some lf =>
   if args.length = lf.np then
    match lf.pm, m with
    | true, none => Jhy lf [] (Jcx n (Jew Γ n) [] 0 lf.body ⟨fr (Jg1 0 args), fun _ => none⟩)
    | false, some (h, _) => Jhy lf (Jh3 0 args) (Jcx n (Jew Γ n) (Jh3 0 args) 0 lf.body ⟨fr (Jg1 0 args), h⟩)
    | _, _ => none
   else none
theorem Yf {α : Type} (f : Nat → α) (d : Nat) (v : α) : upd f d v d = v := by simp [upd]
theorem Qd {α : Type} (f : Nat → α) (d : Nat) (v : α) (n : Nat) (h : n ≠ d) : upd f d v n = f n := by simp [upd, h]
end Go.Vv
