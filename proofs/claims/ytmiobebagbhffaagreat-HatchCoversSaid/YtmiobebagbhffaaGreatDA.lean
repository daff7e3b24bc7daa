/- Typed values, typed states and how a typed state reads as a state of the evaluator. Definitions alone. -/
import Derived.Test.YtmiobebagbhffaaGreatNB
namespace Go.Dn
open Go Go.Vv
set_option linter.unusedSimpArgs false
inductive Ty where
 | int (k : IntKind)
 | bool
 | str
 | ls (t : Ty)
 | u
 | p (a b : Ty)
 | bf (f : Nat) (t : Ty)
 deriving DecidableEq, Inhabited
def Ty.T : Ty → Type
 | .int _ => Int
 | .bool => Bool
 | .str => ByteArray
 | .ls t => List t.T
 | .u => Unit
 | .p a b => a.T × b.T
 | .bf _ t => t.T
abbrev I : Ty := .int .i64
def Ty.sz : Ty → Nat
 | .u => 0
 | .p a b => a.sz + b.sz
 | _ => 1
def Ty.cs : (t : Ty) → t.T → List AV
 | .int k, v => [.int k v]
 | .bool, v => [.bool v]
 | .str, v => [.str v]
 | .ls t, v => [.lst v.length (v.flatMap t.cs)]
 | .u, _ => []
 | .p a b, v => a.cs v.1 ++ b.cs v.2
 | .bf f t, v => [.bfn f (t.cs v)]
abbrev U : Ty → Type := fun _ => Unit
inductive C (ι : Ty → Type) where
 | any
 | lf (t : Ty) (v : ι t)
 | kb (b : Bool)
 | k (v : AV)
 | own (g ver : Nat)
 | part (g ver : Nat) (off len : ι I)
 | ptr (g ver off : Nat)
 | pti (g ver esz : Nat) (i : ι I) (off : Nat)
 | rp (t : Ty) (v : ι t) (off : Nat)
 | fn (f : FuncId) (caps : List (Nat × Nat × Nat))
 | map (g ver : Nat)
 | yl (j : Nat)
instance (ι : Ty → Type) : Inhabited (C ι) := ⟨.any⟩
inductive V (ι : Ty → Type) where
 | c (x : C ι)
 | ag (l : List (C ι))
 | tp (l : List (Bool × List (C ι)))
instance (ι : Ty → Type) : Inhabited (V ι) := ⟨.c .any⟩
inductive Ob (ι : Ty → Type) where
 | box (ver : Nat) (cs : List (C ι))
 | row (ver esz : Nat) (el : TypeId) (t : Ty) (v : ι (.ls t)) (x : List (C ι)) (nest : Option (Nat × C ι)) (fz : Bool)
 | lit (ver esz : Nat) (el : TypeId) (cs : List (C ι)) (fz : Bool)
structure S (ι : Ty → Type) where
 sl : List (Nat × V ι)
 lo : List (List (Nat × V ι))
 ob : List (Nat × Ob ι)
 ln : List (Nat × Nat × ι I)
def look {α : Type} (d : Nat) : List (Nat × α) → Option α
 | [] => none
 | (n, v) :: r => match Nat.beq n d with | true => some v | false => look d r
def memN (x : Nat) : List Nat → Bool
 | [] => false
 | y :: r => match Nat.beq x y with | true => true | false => memN x r
def S.at {ι : Ty → Type} (s : S ι) (d : Nat) : V ι := match look d s.sl with | some v => v | none => .c .any
def S.put {ι : Ty → Type} (s : S ι) (d : Option Nat) (v : V ι) : S ι :=
 match d with
 | some d => ⟨(d, v) :: s.sl, s.lo, s.ob, s.ln⟩
 | none => s
def S.obj {ι : Ty → Type} (s : S ι) (g : Nat) (o : Ob ι) : S ι := ⟨s.sl, s.lo, (g, o) :: s.ob, s.ln⟩
def S.old {ι : Ty → Type} (s : S ι) (g ver : Nat) (n : ι I) : S ι := ⟨s.sl, s.lo, s.ob, (g, ver, n) :: s.ln⟩
def Ob.ver {ι : Ty → Type} : Ob ι → Nat
 | .box v _ => v
 | .row v .. => v
 | .lit v .. => v
def S.nv {ι : Ty → Type} (s : S ι) (g : Nat) : Nat := match look g s.ob with | some o => o.ver + 1 | none => 0
def oneOf : List AV → AV
 | [x] => x
 | _ => .any
def wasAt (g ver : Nat) : List (Nat × Nat × Ty.T I) → Nat
 | [] => 0
 | (g', v, n) :: r => if g' = g ∧ v = ver then (show Int from n).toNat else wasAt g ver r
def Ob.lenO : Ob Ty.T → Nat
 | .row _ e _ _ l x _ _ => List.length l + x.length / e
 | .lit _ e _ cs _ => cs.length / e
 | .box .. => 0
def lenAt (s : S Ty.T) (g ver : Nat) : Nat :=
 match look g s.ob with
 | some o => if o.ver = ver then o.lenO else wasAt g ver s.ln
 | none => 0
def encC (s : S Ty.T) : C Ty.T → AV
 | .any => .any
 | .lf t v => oneOf (t.cs v)
 | .kb b => .bool b
 | .k v => v
 | .own g ver => .arr g ver 0 (lenAt s g ver)
 | .part g ver off len => .arr g ver (show Int from off).toNat (show Int from len).toNat
 | .ptr g ver off => .ptr g ver off
 | .pti g ver esz i off => .ptr g ver ((show Int from i).toNat * esz + off)
 | .rp t v off => .rptr ((t.cs v).drop off)
 | .fn f caps => .fn f (caps.map fun c => .ptr c.1 c.2.1 c.2.2)
 | .map g ver => .map g ver
 | .yl j => .yld j
def encV (s : S Ty.T) : V Ty.T → AV
 | .c x => encC s x
 | .ag l => .agg (l.map (encC s))
 | .tp l => .tup (l.map fun p => if p.1 then .agg (p.2.map (encC s)) else oneOf (p.2.map (encC s)))
def nestC (l : List AV) (n sz : Nat) (ec : C Ty.T → AV) : Option (Nat × C Ty.T) → List AV
 | none => l
 | some (off, c) => l.set ((n - 1) * sz + off) (ec c)
def encO (s : S Ty.T) : Ob Ty.T → AObj
 | .box ver cs => .box ver (cs.map (encC s))
 | .lit ver esz el cs fz => .arr ver esz el (cs.map (encC s)) fz
 | .row ver esz el t v x nest fz => .arr ver esz el (nestC (List.flatMap (α := t.T) t.cs v) (List.length (α := t.T) v) t.sz (encC s) nest ++ x.map (encC s)) fz
def encH (s : S Ty.T) : Heap := fun g => (look g s.ob).map (encO s)
def enc (s : S Ty.T) : St := ⟨fun d => encV s (s.at d), encH s⟩
inductive AK where
 | one
 | ag
 | rp
def prodT : List Ty → Ty
 | [] => .u
 | [t] => t
 | t :: r => .p t (prodT r)
structure Ctr where
 id : Nat
 as : List (AK × Ty)
 rs : List (Bool × Ty)
 fn : (prodT (as.map (·.2))).T → Option (prodT (rs.map (·.2))).T
def Ctr.aT (c : Ctr) : Ty := prodT (c.as.map (·.2))
def Ctr.rT (c : Ctr) : Ty := prodT (c.rs.map (·.2))
inductive LE where
 | normal
 | exit (id : Nat)
 | ret
 deriving DecidableEq, Inhabited
inductive Nx (A B : Type) where
 | go (s : A)
 | out (e : B)
structure HP (A B : Type) where
 hd : A
 tl : B
def HL (ι : Ty → Type) : List Ty → Type
 | [] => Unit
 | t :: r => HP (ι t) (HL ι r)
section
variable {ι : Ty → Type}
def ltC (r : List Ty) : C U → List Ty
 | .lf t _ => t :: r
 | .part .. => I :: I :: r
 | .pti .. => I :: r
 | .rp t _ _ => t :: r
 | _ => r
def ltCs (r : List Ty) : List (C U) → List Ty
 | [] => r
 | c :: l => ltC (ltCs r l) c
def ltP (r : List Ty) : List (Bool × List (C U)) → List Ty
 | [] => r
 | (_, q) :: l => ltCs (ltP r l) q
def ltV (r : List Ty) : V U → List Ty
 | .c x => ltC r x
 | .ag l => ltCs r l
 | .tp l => ltP r l
def ltN (r : List Ty) : Option (Nat × C U) → List Ty
 | none => r
 | some (_, c) => ltC r c
def ltO (r : List Ty) : Ob U → List Ty
 | .box _ cs => ltCs r cs
 | .lit _ _ _ cs _ => ltCs r cs
 | .row _ _ _ t _ x nest _ => .ls t :: ltCs (ltN r nest) x
def ltSl (r : List Ty) : List (Nat × V U) → List Ty
 | [] => r
 | (_, v) :: l => ltV (ltSl r l) v
def ltOb (r : List Ty) : List (Nat × Ob U) → List Ty
 | [] => r
 | (_, o) :: l => ltO (ltOb r l) o
def ltLo (r : List Ty) : List (List (Nat × V U)) → List Ty
 | [] => r
 | p :: l => ltSl (ltLo r l) p
def S.lt (s : S U) : List Ty := ltSl (ltLo (ltOb [] s.ob) s.lo) s.sl
def mkC {r : List Ty} : (c : C U) → HL ι (ltC r c) → C ι × HL ι r
 | .any, h => (.any, h)
 | .lf t _, h => (.lf t h.hd, h.tl)
 | .kb b, h => (.kb b, h)
 | .k v, h => (.k v, h)
 | .own g v, h => (.own g v, h)
 | .part g v _ _, h => (.part g v h.hd h.tl.hd, h.tl.tl)
 | .ptr g v o, h => (.ptr g v o, h)
 | .pti g v e _ o, h => (.pti g v e h.hd o, h.tl)
 | .rp t _ o, h => (.rp t h.hd o, h.tl)
 | .fn f c, h => (.fn f c, h)
 | .map g v, h => (.map g v, h)
 | .yl j, h => (.yl j, h)
def mkCs {r : List Ty} : (l : List (C U)) → HL ι (ltCs r l) → List (C ι) × HL ι r
 | [], h => ([], h)
 | c :: l, h => match mkC c h with
  | (x, h) => match mkCs l h with
   | (xs, h) => (x :: xs, h)
def mkP {r : List Ty} : (l : List (Bool × List (C U))) → HL ι (ltP r l) → List (Bool × List (C ι)) × HL ι r
 | [], h => ([], h)
 | (b, q) :: l, h => match mkCs q h with
  | (x, h) => match mkP l h with
   | (xs, h) => ((b, x) :: xs, h)
def mkV {r : List Ty} : (v : V U) → HL ι (ltV r v) → V ι × HL ι r
 | .c x, h => match mkC x h with | (x, h) => (.c x, h)
 | .ag l, h => match mkCs l h with | (x, h) => (.ag x, h)
 | .tp l, h => match mkP l h with | (x, h) => (.tp x, h)
def mkN {r : List Ty} : (n : Option (Nat × C U)) → HL ι (ltN r n) → Option (Nat × C ι) × HL ι r
 | none, h => (none, h)
 | some (o, c), h => match mkC c h with | (x, h) => (some (o, x), h)
def mkO {r : List Ty} : (o : Ob U) → HL ι (ltO r o) → Ob ι × HL ι r
 | .box v cs, h => match mkCs cs h with | (x, h) => (.box v x, h)
 | .lit v e el cs z, h => match mkCs cs h with | (x, h) => (.lit v e el x z, h)
 | .row v e el t _ x nest fz, h => match mkCs x h.tl with
  | (x, h1) => match mkN nest h1 with
   | (n, h2) => (.row v e el t h.hd x n fz, h2)
def mkSl {r : List Ty} : (l : List (Nat × V U)) → HL ι (ltSl r l) → List (Nat × V ι) × HL ι r
 | [], h => ([], h)
 | (k, v) :: l, h => match mkV v h with
  | (x, h) => match mkSl l h with
   | (xs, h) => ((k, x) :: xs, h)
def mkOb {r : List Ty} : (l : List (Nat × Ob U)) → HL ι (ltOb r l) → List (Nat × Ob ι) × HL ι r
 | [], h => ([], h)
 | (k, o) :: l, h => match mkO o h with
  | (x, h) => match mkOb l h with
   | (xs, h) => ((k, x) :: xs, h)
def mkLo {r : List Ty} : (l : List (List (Nat × V U))) → HL ι (ltLo r l) → List (List (Nat × V ι)) × HL ι r
 | [], h => ([], h)
 | p :: l, h => match mkSl p h with
  | (x, h) => match mkLo l h with
   | (xs, h) => (x :: xs, h)
def S.mk' (sh : S U) (h : HL ι sh.lt) : S ι :=
 match mkSl sh.sl h with
 | (sl, h) => match mkLo sh.lo h with
  | (lo, h) => match mkOb sh.ob h with
   | (ob, _) => ⟨sl, lo, ob, []⟩
def cast? (a b : Ty) (v : ι a) : Option (ι b) := if h : a = b then some (h ▸ v) else none
def Ex (ι : Ty → Type) : List (LE × S U) → Type
 | [] => Empty
 | [(_, s)] => HL ι s.lt
 | (_, s) :: q :: r => HL ι s.lt ⊕ Ex ι (q :: r)
end
end Go.Dn
namespace Go.Dn
open Go Go.Vv
set_option linter.unusedSimpArgs false
structure D (ι : Ty → Type) (M : Type → Type) where
 int : (k : IntKind) → Int → ι (.int k)
 bool : Bool → ι .bool
 str : ByteArray → ι .str
 nl : (t : Ty) → ι (.ls t)
 un : ι .u
 pr : {a b : Ty} → ι a → ι b → ι (.p a b)
 fs : {a b : Ty} → ι (.p a b) → ι a
 sn : {a b : Ty} → ι (.p a b) → ι b
 ar : BinOp → (k : IntKind) → ι (.int k) → ι (.int k) → ι (.int k)
 cm : BinOp → (k : IntKind) → ι (.int k) → ι (.int k) → ι .bool
 sh : BinOp → (k k' : IntKind) → ι (.int k) → ι (.int k') → ι (.int k)
 cv : (k k' : IntKind) → ι (.int k) → ι (.int k')
 mm : Bool → (k k' : IntKind) → ι (.int k) → ι (.int k') → ι (.int k)
 ng : (k : IntKind) → ι (.int k) → ι (.int k)
 nt : ι .bool → ι .bool
 an : ι .bool → ι .bool → ι .bool
 be : ι .bool → ι .bool → ι .bool
 ln : {t : Ty} → ι (.ls t) → ι I
 ls : ι .str → ι I
 bf : {t : Ty} → (f : Nat) → ι t → ι (.bf f t)
 ub : {f : Nat} → {t : Ty} → ι (.bf f t) → ι t
 pl : ι I → ι I → ι I
 mi : ι I → ι I → ι I
 ib : ι I → ι I → ι .bool
 le : ι I → ι I → ι .bool
 ft : Nat → ι I → ι .bool
 cs : {t : Ty} → ι t → ι (.ls t) → ι (.ls t)
 ap : {t : Ty} → ι (.ls t) → ι (.ls t) → ι (.ls t)
 ct : {t : Ty} → ι (.ls t) → ι I → ι I → ι (.ls t)
 st : {t : Ty} → ι (.ls t) → ι I → ι t → ι (.ls t)
 rp : {t : Ty} → ι t → ι I → ι (.ls t)
 ml : {t : Ty} → ι (.ls t) → (ι t → ι t) → ι (.ls t)
 br : {α : Type} → ι .bool → M α → M α → M α
 gd : {α : Type} → ι .bool → M α → M α
 no : {α : Type} → M α
 ge : {α : Type} → {t : Ty} → ι (.ls t) → ι I → (ι t → M α) → M α
 nq : {α : Type} → ι I → (ι .bool → M α) → M α
 call : {α : Type} → (c : Ctr) → ι c.aT → (ι c.rT → M α) → M α
 join : {α : Type} → (ex : List (LE × S U)) → (cn : LE → S ι → S ι) → ((LE → S ι → M (Ex Ty.T ex)) → M (Ex Ty.T ex)) → (LE → S ι → M α) → M α
 loop : {α : Type} → (sh : S U) → (ex : List (LE × S U)) → (cn : LE → S ι → S ι) → (S ι → (LE → S ι → M (Nx (HL Ty.T sh.lt) (Ex Ty.T ex))) → M (Nx (HL Ty.T sh.lt) (Ex Ty.T ex))) → S ι → (LE → S ι → M α) → M α
section
variable {ι : Ty → Type} {M : Type → Type} {α : Type} (d : D ι M)
def cC : AV → C ι
 | .int k n => .lf (.int k) (d.int k n)
 | .bool b => .kb b
 | .str s => .lf .str (d.str s)
 | v => .k v
def cV : AV → V ι
 | .agg l => .ag (l.map (cC d))
 | .tup [] => .tp []
 | .fn f [] => .c (.fn f [])
 | v => .c (cC d v)
def ev (s : S ι) : LO → V ι
 | .t n => s.at n
 | .c v => cV d v
def expl : (t : Ty) → ι t → List (C ι)
 | .u, _ => []
 | .p a b, v => expl a (d.fs v) ++ expl b (d.sn v)
 | .int k, v => [.lf (.int k) v]
 | .bool, v => [.lf .bool v]
 | .str, v => [.lf .str v]
 | .ls t, v => [.lf (.ls t) v]
 | .bf f t, v => [.lf (.bf f t) v]
def leafOf (t : Ty) : C ι → Option (ι t)
 | .lf t' v => cast? t' t v
 | .kb b => cast? .bool t (d.bool b)
 | _ => none
def packT : List (C ι) → Option ((t : Ty) × ι t)
 | [] => some ⟨.u, d.un⟩
 | .lf t v :: r => (match t with
  | .u | .p _ _ => none
  | t => (packT r).map fun p => ⟨.p t p.1, d.pr v p.2⟩)
 | _ :: _ => none
def impl (lw : (t : Ty) → C ι → Option (ι t)) : (t : Ty) → List (C ι) → Option (ι t × List (C ι))
 | .u, l => some (d.un, l)
 | .p a b, l => (impl lw a l).bind fun | (x, l) => (impl lw b l).map fun | (y, l) => (d.pr x y, l)
 | t, l => match l with
  | c :: l => (lw t c).map (·, l)
  | [] => none
def implN (lw : (t : Ty) → C ι → Option (ι t)) (t : Ty) : Nat → List (C ι) → Option (ι (.ls t))
 | 0, _ => none
 | n + 1, l => match l with
  | [] => some (d.nl t)
  | l => (impl d lw t l).bind fun | (x, l) => (implN lw t n l).map (d.cs x)
def setF (lw : (t : Ty) → C ι → Option (ι t)) (t : Ty) (off : Nat) (c : C ι) (e : ι t) : ι t :=
 match impl d lw t ((expl d t e).set off c) with
 | some (x, _) => x
 | none => e
def tyAt : Ty → Nat → Option Ty
 | .u, _ => none
 | .p a b, n => if n < a.sz then tyAt a n else tyAt b (n - a.sz)
 | t, n => if n = 0 then some t else none
def mlN (lw : (t : Ty) → C ι → Option (ι t)) (t : Ty) (l : ι (.ls t)) : Option (Nat × C ι) → Option (ι (.ls t))
 | none => some l
 | some (off, c) => (tyAt t off).bind fun t1 => (lw t1 c).bind fun _ => some (d.ml l (setF d lw t off c))
def rowW (lw : (t : Ty) → C ι → Option (ι t)) (t : Ty) : Ob ι → Option (ι (.ls t))
 | .row _ e _ t' l x none _ => if e = t'.sz ∧ 0 < e then (cast? (.ls t') (.ls t) l).bind fun l => (match x with
  | [] => some l
  | x => (implN d lw t (x.length + 1) x).map (d.ap l)) else none
 | .lit _ e _ x _ => if e = t.sz ∧ 0 < e then implN d lw t (x.length + 1) x else none
 | _ => none
def leafW (ob : List (Nat × Ob ι)) : Nat → (t : Ty) → C ι → Option (ι t)
 | 0, t, c => leafOf d t c
 | n + 1, t, c => match c with
  | .k .nils => (match t with | .ls t => some (d.nl t) | _ => none)
  | .own g ver => (match t with
   | .ls t => (match look g ob with | some o => if o.ver = ver then rowW d (leafW ob n) t o else none | none => none)
   | _ => none)
  | c => leafOf d t c
def V.cells : V ι → List (C ι)
 | .c x => [x]
 | .ag l => l
 | .tp _ => []
def C.plain : C ι → Bool
 | .any => false
 | .lf t _ => (match t with | .u | .p _ _ => false | _ => true)
 | .k v => v.one
 | _ => true
def V.good : V ι → Bool
 | .c x => x.plain
 | .ag _ => true
 | .tp _ => false
def pk (ag : Bool) (l : List (C ι)) : Option (V ι) :=
 if ag then some (.ag l) else match l with
 | [c] => some (.c c)
 | _ => none
def cutC (l : List (C ι)) (off n : Nat) : List (C ι) := (l.drop off).take n
def pasteC (l : List (C ι)) (off : Nat) (new : List (C ι)) : List (C ι) := l.take off ++ new ++ l.drop (off + new.length)
def orNo {β : Type} (x : Option β) (k : β → M α) : M α := match x with | some v => k v | none => d.no
def loadD (s : S ι) (ag : Bool) (n : Nat) (x : V ι) (k : V ι → M α) : M α :=
 match x with
 | .c (.ptr g ver off) => (match look g s.ob with
  | some (.box v cs) => if v = ver ∧ off + n ≤ cs.length then orNo d (pk ag (cutC cs off n)) k else d.no
  | some (.lit v _ _ cs _) => if v = ver ∧ off + n ≤ cs.length ∧ cs.isEmpty = false then orNo d (pk ag (cutC cs off n)) k else d.no
  | _ => d.no)
 | .c (.pti g ver esz i off) => (match look g s.ob with
  | some (.row v e _ t l [] nest _) => if v = ver ∧ e = esz ∧ e = t.sz ∧ off + n ≤ e ∧ 0 < e then d.ge l i fun x =>
    (match nest with
    | none => orNo d (pk ag (cutC (expl d t x) off n)) k
    | some (no, c) => if off ≤ no ∧ no < off + n then d.gd (d.cm .eql .i64 (d.pl i (d.int .i64 1)) (d.ln l)) (orNo d (pk ag (cutC ((expl d t x).set no c) off n)) k) else orNo d (pk ag (cutC (expl d t x) off n)) k)
   else d.no
  | _ => d.no)
 | .c (.rp t v off) => if off + n ≤ t.sz then orNo d (pk ag (cutC (expl d t v) off n)) k else d.no
 | _ => d.no
def storeD (s : S ι) (n : Nat) (x y : V ι) (k : S ι → M α) : M α :=
 if y.cells.length ≠ n ∨ y.good = false then d.no else
 match x with
 | .c (.ptr g ver off) => (match look g s.ob with
  | some (.box v cs) => if v = ver ∧ off + n ≤ cs.length then k (s.obj g (.box v (pasteC cs off y.cells))) else d.no
  | some (.lit v e el cs false) => if v = ver ∧ off + n ≤ cs.length ∧ cs.isEmpty = false then k (s.obj g (.lit v e el (pasteC cs off y.cells) false)) else d.no
  | _ => d.no)
 | .c (.pti g ver esz i off) => (match look g s.ob with
  | some (.row v e el t l [] nest false) => if v = ver ∧ e = esz ∧ e = t.sz ∧ off + n ≤ e ∧ 0 < e then d.ge l i fun x =>
    (match nest with
    | none => orNo d (impl d (leafOf d) t (pasteC (expl d t x) off y.cells)) fun | (z, zr) => if zr.isEmpty then k (s.obj g (.row v e el t (d.st l i z) [] none false)) else d.no
    | some (no, c) => d.gd (d.cm .eql .i64 (d.pl i (d.int .i64 1)) (d.ln l)) (if off ≤ no ∧ no < off + n then
      (match y.cells[no - off]?, (expl d t x)[no]? with
      | some c', some z0 => orNo d (impl d (leafOf d) t (pasteC (expl d t x) off (y.cells.set (no - off) z0))) fun | (z, zr) => if zr.isEmpty then k (s.obj g (.row v e el t (d.st l i z) [] (some (no, c')) false)) else d.no
      | _, _ => d.no)
     else orNo d (impl d (leafOf d) t (pasteC (expl d t x) off y.cells)) fun | (z, zr) => if zr.isEmpty then k (s.obj g (.row v e el t (d.st l i z) [] (some (no, c)) false)) else d.no))
   else d.no
  | _ => d.no)
 | _ => d.no
def intOf (k : IntKind) : V ι → Option (ι (.int k))
 | .c (.lf t v) => cast? t (.int k) v
 | _ => none
def kindOf : V ι → Option IntKind
 | .c (.lf (.int k) _) => some k
 | _ => none
def eqC : Bool → C ι → C ι → Option (ι .bool)
 | false, .lf (.int k) a, .lf t b => (cast? t (.int k) b).map (d.cm .eql k a)
 | true, a, b => (leafOf d .bool a).bind fun a => (leafOf d .bool b).map (d.be a)
 | _, _, _ => none
def eqCs : List Bool → List (C ι) → List (C ι) → Option (ι .bool)
 | [], [], [] => some (d.bool true)
 | [b], [x], [y] => eqC d b x y
 | b :: bs, x :: xs, y :: ys => (eqC d b x y).bind fun u => (eqCs bs xs ys).map (d.an u)
 | _, _, _ => none
def isCmp : BinOp → Bool
 | .eql | .neq | .lss | .leq | .gtr | .geq => true
 | _ => false
def isAr : BinOp → Bool
 | .add | .sub | .mul | .and | .or | .xor | .andNot => true
 | _ => false
def fillsC (e : LO → V ι) : List (C ι) → List (Nat × Nat × LO) → Option (List (C ι))
 | z, [] => some z
 | z, (off, n, x) :: r =>
  match e x with
  | v => if v.cells.length = n ∧ off + n ≤ z.length ∧ v.good = true then fillsC e (pasteC z off v.cells) r else none
def repC (z : List (C ι)) : Nat → List (C ι)
 | 0 => []
 | n + 1 => z ++ repC z n
inductive El (ι : Ty → Type) where
 | t (t : Ty) (v : ι (.ls t))
 | x (l : List (C ι))
def elems (s : S ι) (esz : Nat) (y : V ι) (k : El ι → M α) : M α :=
 match y with
 | .c (.k .nils) => k (.x [])
 | .c (.lf (.ls t) v) => if t.sz = esz ∧ 0 < esz then k (.t t v) else d.no
 | .c (.own g ver) => (match look g s.ob with
  | some (.row v e _ t l [] none _) => if v = ver ∧ e = esz ∧ t.sz = esz ∧ 0 < esz then k (.t t l) else d.no
  | some (.lit v e _ l _) => if v = ver ∧ e = esz ∧ l.length % esz = 0 ∧ 0 < esz then k (.x l) else d.no
  | _ => d.no)
 | .c (.part g ver off len) => (match look g s.ob with
  | some (.row v e _ t l [] none _) => if v = ver ∧ e = esz ∧ t.sz = esz ∧ 0 < esz then d.gd (d.le (d.int .i64 0) off) (d.gd (d.le (d.int .i64 0) len) (d.gd (d.le (d.pl off len) (d.ln l)) (k (.t t (d.ct l off len))))) else d.no
  | _ => d.no)
 | _ => d.no
def emptyD (y : El ι) (k : M α) : M α :=
 match y with
 | .x [] => k
 | .x _ => d.no
 | .t _ v => d.gd (d.cm .eql .i64 (d.ln v) (d.int .i64 0)) k
def appD (s : S ι) (g0 esz bytes : Nat) (el : TypeId) (x y : V ι) (k : V ι → S ι → M α) : M α :=
 elems d s esz y fun y => match x with
  | .c (.k .nils) => if (look g0 s.ob).isSome then d.no else
   (match y with
   | .x [] => k (.c (.k .nils)) s
   | .x l => if 0 < esz then d.gd (d.ft bytes (d.int .i64 (l.length / esz : Nat))) (k (.c (.own g0 (s.nv g0 + 1))) (s.obj g0 (.lit (s.nv g0 + 1) esz el l false))) else d.no
   | .t t v => d.br (d.cm .eql .i64 (d.ln v) (d.int .i64 0)) (k (.c (.k .nils)) s)
     (d.gd (d.ft bytes (d.ln v)) (k (.c (.own g0 (s.nv g0 + 1))) (s.obj g0 (.row (s.nv g0 + 1) esz el t v [] none false)))))
  | .c (.own g ver) => (match look g s.ob with
   | some (.row v e el' t l tl nest false) =>
    if v = ver ∧ e = esz ∧ el' = el ∧ t.sz = esz ∧ tl.length % esz = 0 ∧ 0 < esz then
     (match y with
     | .x m =>
       let n := if tl.isEmpty then d.ln l else d.pl (d.ln l) (d.int .i64 (tl.length / esz : Nat))
       d.gd (d.ft bytes (d.pl n (d.int .i64 (m.length / esz : Nat)))) (k (.c (.own g (v + 1))) ((s.old g v n).obj g (.row (v + 1) e el t l (tl ++ m) nest false)))
     | .t t' m => if tl.isEmpty && nest.isNone then orNo d (cast? (.ls t') (.ls t) m) fun m =>
       d.gd (d.ft bytes (d.pl (d.ln l) (d.ln m))) (k (.c (.own g (v + 1))) ((s.old g v (d.ln l)).obj g (.row (v + 1) e el t (d.ap l m) [] none false))) else d.no)
    else d.no
   | some (.lit v e el' l false) =>
    if v = ver ∧ e = esz ∧ el' = el ∧ l.length % esz = 0 ∧ 0 < esz then
     (match y with
     | .x m => d.gd (d.ft bytes (d.int .i64 (l.length / esz + m.length / esz : Nat))) (k (.c (.own g (v + 1))) ((s.old g v (d.int .i64 (l.length / esz : Nat))).obj g (.lit (v + 1) e el (l ++ m) false)))
     | .t t m => orNo d (implN d (leafOf d) t (l.length + 1) l) fun l' =>
       d.gd (d.ft bytes (d.pl (d.int .i64 (l.length / esz : Nat)) (d.ln m))) (k (.c (.own g (v + 1))) ((s.old g v (d.int .i64 (l.length / esz : Nat))).obj g (.row (v + 1) e el t (if l.isEmpty then m else d.ap l' m) [] none false))))
    else d.no
   | some (.row v _ _ _ _ _ _ true) => if v = ver then emptyD d y (k (.c (.own g ver)) s) else d.no
   | _ => d.no)
  | .c (.lf (.ls t) v) => emptyD d y (k (.c (.lf (.ls t) v)) s)
  | _ => d.no
end
end Go.Dn
namespace Go.Dn
open Go Go.Vv
set_option linter.unusedSimpArgs false
section
variable {ι : Ty → Type} {M : Type → Type} {α : Type} (d : D ι M)
def S.cur (s : S ι) (g ver : Nat) : Bool := match look g s.ob with | some o => o.ver == ver | none => false
def rowLen (s : S ι) (g ver : Nat) : Option (ι I) :=
 match look g s.ob with
 | some (.row v e _ _ l x _ _) => if v = ver then some (if x.isEmpty then d.ln l else d.pl (d.ln l) (d.int .i64 (x.length / e))) else none
 | some (.lit v e _ l _) => if v = ver then some (d.int .i64 (l.length / e)) else none
 | _ => none
def boundD (s : S ι) (x : Option LO) (z : ι I) : Option (ι I) :=
 match x with
 | none => some z
 | some x => intOf .i64 (ev d s x)
def sliceD (s : S ι) (lo hi : Option LO) (n : ι I) (k : ι I → ι I → M α) : M α :=
 orNo d (boundD d s lo (d.int .i64 0)) fun a => orNo d (boundD d s hi n) fun b =>
  let t3 := if hi.isNone then k a b else d.gd (d.le b n) (k a b)
  let t2 := if lo.isNone ∧ hi.isNone then t3 else d.gd (d.le a b) t3
  if lo.isNone then t2 else d.gd (d.le (d.int .i64 0) a) t2
def slcD (s : S ι) (esz : Nat) (x : V ι) (lo hi : Option LO) (k : V ι → M α) : M α :=
 match x with
 | .c (.lf (.ls t) v) => if t.sz = esz then sliceD d s lo hi (d.ln v) fun a b => k (.c (.lf (.ls t) (d.ct v a (if lo.isNone then b else d.mi b a)))) else d.no
 | .c (.own g ver) => (match look g s.ob with
  | some (.row v e _ _ _ _ _ _) => if v = ver ∧ e = esz then orNo d (rowLen d s g ver) fun n => sliceD d s lo hi n fun a b => k (.c (.part g ver a (if lo.isNone then b else d.mi b a))) else d.no
  | some (.lit v e _ _ _) => if v = ver ∧ e = esz then orNo d (rowLen d s g ver) fun n => sliceD d s lo hi n fun a b => k (.c (.part g ver a (if lo.isNone then b else d.mi b a))) else d.no
  | _ => d.no)
 | .c (.part g ver off len) => (match look g s.ob with
  | some (.row v e _ _ _ _ _ _) => if v = ver ∧ e = esz then d.gd (d.le (d.int .i64 0) off) (d.gd (d.le (d.int .i64 0) len) (sliceD d s lo hi len fun a b => k (.c (.part g ver (if lo.isNone then off else d.pl off a) (if lo.isNone then b else d.mi b a))))) else d.no
  | _ => d.no)
 | .c (.k .nils) => sliceD d s lo hi (d.int .i64 0) fun _ _ => k (.c (.k .nils))
 | _ => d.no
def eachI (i : ι I) (k : Nat → M α) : Nat → Nat → M α
 | _, 0 => d.no
 | j, n + 1 => d.br (d.cm .eql .i64 i (d.int .i64 j)) (k j) (eachI i k (j + 1) n)
def allL (ob : List (Nat × Ob ι)) (t : Ty) (l : List (C ι)) : Option (ι t) := (impl d (leafW d ob 4) t l).bind fun | (x, r) => if r.isEmpty then some x else none
def oneL (ob : List (Nat × Ob ι)) (t : Ty) (c : C ι) (k : ι t → M α) : M α :=
 match c with
 | .part g ver off len => (match look g ob with
  | some (.row v e _ t' l [] none _) => if v = ver ∧ e = t'.sz ∧ 0 < e then orNo d (cast? (.ls t') t (d.ct l off len)) fun y => d.gd (d.le (d.int .i64 0) off) (d.gd (d.le (d.int .i64 0) len) (d.gd (d.le (d.pl off len) (d.ln l)) (k y))) else d.no
  | _ => d.no)
 | c => orNo d (leafW d ob 4 t c) k
def argL (ob : List (Nat × Ob ι)) (a : AK × Ty) (v : V ι) (k : ι a.2 → M α) : M α :=
 match a.1, v with
 | .one, .c c => oneL d ob a.2 c k
 | .ag, .ag l => orNo d (allL d ob a.2 l) k
 | .rp, .c (.rp t v 0) => orNo d (cast? t a.2 v) k
 | .rp, .c (.ptr g ver 0) => (match look g ob with
  | some (.box v cs) => if v = ver then orNo d (allL d ob a.2 cs) k else d.no
  | _ => d.no)
 | _, _ => d.no
def argsL (ob : List (Nat × Ob ι)) : (as : List (AK × Ty)) → List (V ι) → (ι (prodT (as.map (·.2))) → M α) → M α
 | [], [], k => k d.un
 | [a], [v], k => argL d ob a v k
 | a :: b :: r, v :: w, k => argL d ob a v fun x => argsL ob (b :: r) w fun y => k (d.pr x y)
 | _, _, _ => d.no
def namesC (ob : List (Nat × Ob ι)) : Nat → C ι → List Nat
 | n, .own g _ => g :: (match n with | 0 => [] | n + 1 => (match look g ob with
  | some (.row _ _ _ _ _ x nest _) => x.flatMap (namesC ob n) ++ (match nest with | some p => namesC ob n p.2 | none => [])
  | some (.lit _ _ _ x _) => x.flatMap (namesC ob n)
  | _ => []))
 | n, .part g _ _ _ => g :: (match n with | 0 => [] | n + 1 => (match look g ob with
  | some (.row _ _ _ _ _ x nest _) => x.flatMap (namesC ob n) ++ (match nest with | some p => namesC ob n p.2 | none => [])
  | some (.lit _ _ _ x _) => x.flatMap (namesC ob n)
  | _ => []))
 | _, _ => []
def freezeO (s : S ι) : List Nat → S ι
 | [] => s
 | g :: r => match look g s.ob with
  | some (.row v e el t l x nest _) => freezeO (s.obj g (.row v e el t l x nest true)) r
  | some (.lit v e el x _) => freezeO (s.obj g (.lit v e el x true)) r
  | _ => freezeO s r
def Ty.flat : Ty → Bool
 | .ls _ | .bf _ _ => false
 | .p a b => a.flat && b.flat
 | _ => true
def unL (b : Bool) (t : Ty) (v : ι t) : Bool × List (C ι) := (b, expl d t v)
def unpack1 : Bool × List (C ι) → V ι
 | (true, l) => .ag l
 | (false, [c]) => .c c
 | _ => .c .any
def unpackL : (rs : List (Bool × Ty)) → ι (prodT (rs.map (·.2))) → List (Bool × List (C ι))
 | [], _ => []
 | [a], v => [unL d a.1 a.2 v]
 | a :: b :: r, v => unL d a.1 a.2 (d.fs v) :: unpackL (b :: r) (d.sn v)
def unpack (rs : List (Bool × Ty)) (v : ι (prodT (rs.map (·.2)))) : V ι :=
 match unpackL d rs v with
 | [p] => unpack1 p
 | l => .tp l
def isPtr : V ι → Bool
 | .c (.ptr ..) => true
 | _ => false
def callD (c : Ctr) (f : FuncId) (args : List LO) (s : S ι) (vs : List (V ι)) (k : LOp → V ι → S ι → M α) : M α :=
 argsL d s.ob c.as vs fun a =>
  let ns := vs.flatMap fun v => v.cells.flatMap (namesC s.ob 4)
  let flat := c.rs.all fun r => r.2.flat
  if vs.any isPtr then (if flat then d.call c a fun r => k (.callq f args) (unpack d c.rs r) s else d.no)
  else if ns.isEmpty || flat then d.call c a fun r => k (.callp f args) (unpack d c.rs r) s
  else d.call c a fun r => k (.callz f args) (unpack d c.rs r) (freezeO s ns)
def mapL {β γ : Type} (f : β → Option γ) : List β → Option (List γ)
 | [] => some []
 | x :: r => (f x).bind fun y => (mapL f r).map (y :: ·)
def opD (Γ : FuncId → Option Ctr) (ty : TypeId → Option Ty) (s : S ι) (g0 : Nat) (op : LOp) (k : LOp → V ι → S ι → M α) : M α :=
 match op with
 | .mov x => k op (ev d s x) s
 | .pick c a b => (match ev d s c with
  | .c (.kb t) => k op (if t then ev d s a else ev d s b) s
  | _ => d.no)
 | .alloc z => if (look g0 s.ob).isSome then d.no else k op (.c (.ptr g0 (s.nv g0) 0)) (s.obj g0 (.box (s.nv g0) (z.map (cC d))))
 | .box x => (match ev d s x with
  | v => if (look g0 s.ob).isSome ∨ v.good = false then d.no else k op (.c (.ptr g0 (s.nv g0) 0)) (s.obj g0 (.box (s.nv g0) v.cells)))
 | .build z ps => orNo d (fillsC (ev d s) (z.map (cC d)) ps) fun l => k op (.ag l) s
 | .bslice n esz el z ps => orNo d (fillsC (ev d s) (repC (z.map (cC d)) n) ps) fun l =>
   if l.length = n * esz ∧ 0 < esz ∧ (look g0 s.ob).isNone then k op (.c (.own g0 (s.nv g0))) (s.obj g0 (.lit (s.nv g0) esz el l false)) else d.no
 | .load ag n x => loadD d s ag n (ev d s x) fun v => k op v s
 | .store n x y => storeD d s n (ev d s x) (ev d s y) fun s' => k op (.c .any) s'
 | .ibin o x y => orNo d (kindOf (ev d s x)) fun kk => orNo d (intOf kk (ev d s x)) fun a => orNo d (intOf kk (ev d s y)) fun b =>
   if isCmp o then k op (.c (.lf .bool (d.cm o kk a b))) s
   else if isAr o then k op (.c (.lf (.int kk) (d.ar o kk a b))) s
   else (match o with
   | .quo | .rem => d.gd (d.cm .neq kk b (d.int kk 0)) (k op (.c (.lf (.int kk) (d.ar o kk a b))) s)
   | _ => d.no)
 | .eqv ne ag sh x y => (match ag, ev d s x, ev d s y with
  | true, .ag l, .ag m => orNo d (eqCs d sh l m) fun b => k op (.c (.lf .bool (if ne then d.nt b else b))) s
  | false, .c u, .c v => orNo d (eqCs d sh [u] [v]) fun b => k op (.c (.lf .bool (if ne then d.nt b else b))) s
  | _, _, _ => d.no)
 | .un o x => (match o, ev d s x with
  | .not, .c (.kb b) => k op (.c (.kb !b)) s
  | .not, .c (.lf .bool b) => k op (.c (.lf .bool (d.nt b))) s
  | .neg, .c (.lf (.int kk) v) => k op (.c (.lf (.int kk) (d.ng kk v))) s
  | _, _ => d.no)
 | .conv kk x => (match ev d s x with
  | .c (.lf (.int k') v) => k op (.c (.lf (.int kk) (d.cv k' kk v))) s
  | _ => d.no)
 | .nilck x => (match ev d s x with
  | .c (.ptr g v o) => if s.cur g v then k op (.c (.ptr g v o)) s else d.no
  | .c (.pti g v e i o) => if s.cur g v then k op (.c (.pti g v e i o)) s else d.no
  | .c (.rp t v o) => k op (.c (.rp t v o)) s
  | .c (.fn f c) => k op (.c (.fn f c)) s
  | .c (.lf (.bf f t) v) => k op (.c (.lf (.bf f t) v)) s
  | _ => d.no)
 | .mkbf f x => (match ev d s x with
  | .ag l => orNo d (packT d l) fun p => k op (.c (.lf (.bf f p.1) (d.bf f p.2))) s
  | _ => d.no)
 | .mkfn f caps => orNo d (mapL (fun x => match ev d s x with | .c (.ptr g v o) => some (g, v, o) | _ => none) caps) fun l => k op (.c (.fn f l)) s
 | .mkS esz bytes el z l c => (match l, c with
  | .t a, .t b => if a = b then orNo d (intOf .i64 (ev d s l)) fun n => orNo d (ty el) fun t => orNo d (impl d (leafOf d) t (z.map (cC d))) fun zz => (match zz with
    | (z', zr) => if t.sz = esz ∧ zr.isEmpty ∧ z.length = esz ∧ 0 < esz ∧ (look g0 s.ob).isNone then d.gd (d.le (d.int .i64 0) n) (d.gd (d.ft bytes n) (k op (.c (.own g0 (s.nv g0))) (s.obj g0 (.row (s.nv g0) esz el t (d.rp z' n) [] none false)))) else d.no)
   else d.no
  | .c (.int _ a), .c (.int _ b) => if a = b ∧ 0 ≤ a ∧ a * bytes ≤ room ∧ a ≤ 9223372036854775807 ∧ z.length = esz ∧ 0 < esz ∧ (look g0 s.ob).isNone then k op (.c (.own g0 (s.nv g0))) (s.obj g0 (.lit (s.nv g0) esz el (repC (z.map (cC d)) a.toNat) false)) else d.no
  | _, _ => d.no)
 | .slc esz x lo hi => slcD d s esz (ev d s x) lo hi fun v => k op v s
 | .faddr off x => (match ev d s x with
  | .c (.ptr g v o) => if s.cur g v then k op (.c (.ptr g v (o + off))) s else d.no
  | .c (.pti g v e i o) => if s.cur g v then k op (.c (.pti g v e i (o + off))) s else d.no
  | .c (.rp t v o) => k op (.c (.rp t v (o + off))) s
  | _ => d.no)
 | .fld ag off n x => (match ev d s x with
  | .ag l => if off + n ≤ l.length then orNo d (pk ag (cutC l off n)) fun v => k op v s else d.no
  | _ => d.no)
 | .iaddr esz x i => orNo d (intOf .i64 (ev d s i)) fun i => (match ev d s x with
  | .c (.lf (.ls t) v) => if t.sz = esz then d.ge v i fun z => k op (.c (.rp t z 0)) s else d.no
  | .c (.own g ver) => (match look g s.ob with
   | some (.row v e _ _ _ _ _ _) => if v = ver ∧ e = esz then orNo d (rowLen d s g ver) fun n => d.gd (d.ib i n) (k op (.c (.pti g ver esz i 0)) s) else d.no
   | _ => d.no)
  | .c (.part g ver off len) => (match look g s.ob with
   | some (.row v e _ _ _ _ _ _) => if v = ver ∧ e = esz then d.gd (d.le (d.int .i64 0) off) (d.gd (d.ib i len) (k op (.c (.pti g ver esz (d.pl off i) 0)) s)) else d.no
   | _ => d.no)
  | _ => d.no)
 | .iaddrA len esz x i => (match ev d s x with
  | .c (.ptr g v o) => if s.cur g v then (match i with
   | .c (.int _ n) => if 0 ≤ n ∧ n < len then k op (.c (.ptr g v (o + n.toNat * esz))) s else d.no
   | i => orNo d (intOf .i64 (ev d s i)) fun i => eachI d i (fun j => k op (.c (.ptr g v (o + j * esz))) s) 0 len) else d.no
  | _ => d.no)
 | .idx len esz ag x i => (match ev d s x with
  | .ag l => (match i with
   | .c (.int _ n) => if 0 ≤ n ∧ n < len ∧ n.toNat * esz + esz ≤ l.length then orNo d (pk ag (cutC l (n.toNat * esz) esz)) fun v => k op v s else d.no
   | i => orNo d (intOf .i64 (ev d s i)) fun i => eachI d i (fun j => if j * esz + esz ≤ l.length then orNo d (pk ag (cutC l (j * esz) esz)) fun v => k op v s else d.no) 0 len)
  | _ => d.no)
 | .ext x i => (match ev d s x with
  | .tp l => orNo d l[i]? fun p => (match p with
   | (true, cs) => k op (.ag cs) s
   | (false, [c]) => k op (.c c) s
   | _ => d.no)
  | _ => d.no)
 | .len x => (match ev d s x with
  | .c (.lf (.ls _) v) => k op (.c (.lf I (d.ln v))) s
  | .c (.own g ver) => orNo d (rowLen d s g ver) fun n => k op (.c (.lf I n)) s
  | .c (.part g ver _ n) => orNo d (rowLen d s g ver) fun _ => d.gd (d.le (d.int .i64 0) n) (k op (.c (.lf I n)) s)
  | .c (.k .nils) => k op (.c (.lf I (d.int .i64 0))) s
  | _ => d.no)
 | .lenS x => (match ev d s x with
  | .c (.lf .str v) => k op (.c (.lf I (d.ls v))) s
  | _ => d.no)
 | .app esz bytes el _ x y => appD d s g0 esz bytes el (ev d s x) (ev d s y) (k op)
 | .callp f args => orNo d (Γ f) fun c => callD d c f args s (args.map (ev d s)) k
 | .shf o x y => orNo d (kindOf (ev d s x)) fun kk => orNo d (intOf kk (ev d s x)) fun a => orNo d (kindOf (ev d s y)) fun k' => orNo d (intOf k' (ev d s y)) fun b =>
   (match o with
   | .shl | .shr => d.gd (d.cm .geq k' b (d.int k' 0)) (k op (.c (.lf (.int kk) (d.sh o kk k' a b))) s)
   | _ => d.no)
 | .mm mx x y => orNo d (kindOf (ev d s x)) fun kk => orNo d (intOf kk (ev d s x)) fun a => orNo d (kindOf (ev d s y)) fun k' => orNo d (intOf k' (ev d s y)) fun b =>
   k op (.c (.lf (.int kk) (d.mm mx kk k' a b))) s
 | .isnil ne x => (match ev d s x with
  | .c (.k .nils) => k op (.c (.kb !ne)) s
  | .c (.lf (.ls _) v) => d.gd (d.cm .gtr .i64 (d.ln v) (d.int .i64 0)) (k op (.c (.kb ne)) s)
  | .c (.own g ver) => orNo d (rowLen d s g ver) fun n => d.gd (d.cm .gtr .i64 n (d.int .i64 0)) (k op (.c (.kb ne)) s)
  | _ => d.no)
 | _ => d.no
end
end Go.Dn
namespace Go.Dn
open Go Go.Vv
set_option linter.unusedSimpArgs false
inductive LC where
 | skip
 | reg (draw : Bool) (id : Nat) (ops : Array Oper) (l : List (Nat × LOper))
 | seq (a b : LC)
 | cond (c : LO) (a b : LC)
 | blk (id : Nat) (b : LC)
 | loop (b : LC)
 | exit (id : Nat)
 | ret
 | rng (g : LO) (ps : List Nat) (a b : LC)
 deriving Inhabited
def nodupN : List Nat → Bool
 | [] => true
 | x :: r => !memN x r && nodupN r
def compC (P : Program) (nt : Nat) : Code → Option LC
 | .skip => some .skip
 | .region id ops draw => (compD P [] nt ops (List.range ops.size)).map (.reg draw id ops)
 | .seq a b => (compC P nt a).bind fun a => (compC P nt b).map (.seq a)
 | .cond c a b => (cLO c).bind fun c => (compC P nt a).bind fun a => (compC P nt b).map (.cond c a)
 | .block id b => (compC P nt b).map (.blk id)
 | .loop b => (compC P nt b).map .loop
 | .exit id => some (.exit id)
 | .ret => some .ret
 | .rangeFunc g ps a b => (cLO g).bind fun g => (compC P nt a).bind fun a => (compC P nt b).bind fun b => if (ps.toList.all fun t => Nat.blt t nt) && nodupN ps.toList then some (.rng g ps.toList a b) else none
 | _ => none
def compRV (P : Program) : ResultVar → Option RV
 | .tmp t => some (.tmp t)
 | .cell t ty => (aggT P ty).bind fun ag => (szT P ty).bind fun n => if ag ∨ n = 1 then some (.cell t ag n) else none
structure LF where
 np : Nat
 nt : Nat
 res : List RV
 body : LC
def compF (P : Program) (f : FuncId) : Option LF :=
 (P.funcs[f]?).bind fun fn => fn.body.bind fun c => if fn.name == "runtime.NumGoroutine" then none else
  (compC P fn.ntmps c).bind fun b => (mapL (compRV P) fn.results.toList).map fun rs => ⟨fn.params.size + fn.nfree, fn.ntmps, rs, b⟩
def tyOf (P : Program) : Nat → TypeId → Option Ty
 | 0, _ => none
 | n + 1, t => match P.underlying t with
  | some .bool => some .bool
  | some (.int k) => some (.int k)
  | some .string => some .str
  | some (.slice e) => (tyOf P n e).map .ls
  | some (.struct fs) => (mapL (fun f => tyOf P n f.type) fs.toList).map prodT
  | some (.array m e) => (tyOf P n e).map fun t => prodT (List.replicate m t)
  | _ => none
def adds : List Nat → List Nat → List Nat
 | [], m => m
 | x :: r, m => match memN x m with | true => adds r m | false => adds r (x :: m)
def dropN (d : Option Nat) (l : List Nat) : List Nat := match d with | none => l | some d => l.filter fun x => !Nat.beq x d
def liveOps : List (Nat × LOper) → List Nat → List Nat
 | [], n => n
 | p :: r, n => adds p.2.looks (dropN p.2.dst (liveOps r n))
def liveC : LC → List Nat → List (Nat × List Nat) → List Nat → List Nat
 | .skip, n, _, _ => n
 | .reg _ _ _ l, n, _, _ => liveOps l n
 | .seq a b, n, ex, rt => liveC a (liveC b n ex rt) ex rt
 | .cond c a b, n, ex, rt => adds c.tmp? (adds (liveC a n ex rt) (liveC b n ex rt))
 | .blk id b, n, ex, rt => liveC b n ((id, n) :: ex) rt
 | .loop b, _, ex, rt => liveC b [] ex rt
 | .exit id, _, ex, _ => (look id ex).getD []
 | .ret, _, _, rt => rt
 | .rng g ps a b, n, _, _ => adds g.tmp? (adds ((liveC a (liveC b [] [] []) [] []).filter fun x => !memN x ps) n)
def RV.slot : RV → Nat
 | .tmp t => t
 | .cell t _ _ => t
section
variable {ι : Ty → Type} {M : Type → Type} {α : Type} (d : D ι M)
def nB : Nat := 1000000000000000000000000000000000000000000000000000000000000
def nS (key : Nat) : Nat := nB + key
def nC (g j : Nat) : Nat := g * 4096 + j
def refs : C ι → List (Nat × Nat)
 | .own g v | .part g v _ _ | .ptr g v _ | .pti g v _ _ _ | .map g v => [(g, v)]
 | .fn _ c => c.map fun x => (x.1, x.2.1)
 | _ => []
def visR (s : S ι) (nm : Nat) : Nat → List (Nat × Nat) → List (Nat × Nat) → List (Nat × Nat)
 | _, [], tb => tb
 | j, (g, v) :: r, tb => visR s nm (j + 1) r (if s.cur g v && (look g tb).isNone then tb ++ [(g, nm + j)] else tb)
def visCs (s : S ι) (g : Nat) : Nat → List (C ι) → List (Nat × Nat) → List (Nat × Nat)
 | _, [], tb => tb
 | j, c :: r, tb => visCs s g (j + 8) r (visR s (nC g j) 0 (refs c) tb)
def Ob.kids : Ob ι → List (C ι)
 | .box _ cs => cs
 | .lit _ _ _ cs _ => cs
 | .row _ _ _ _ _ x nest _ => (match nest with | some p => [p.2] | none => []) ++ x
def frozen (s : S ι) (g : Nat) : Bool := match look g s.ob with
 | some (.row _ _ _ _ _ _ _ z) => z
 | some (.lit _ _ _ _ z) => z
 | _ => false
def visOb (s : S ι) : Nat → List (Nat × Nat) → List (Nat × Nat) → List (Nat × Nat)
 | 0, _, tb => tb
 | n + 1, todo, tb => match todo with
  | [] => tb
  | (g, nn) :: r => match look g s.ob with
   | some o => if frozen s g then visOb s n r tb else
    let tb' := visCs s nn 0 o.kids tb
    visOb s n (r ++ tb'.drop tb.length) tb'
   | none => visOb s n r tb
def visSl (s : S ι) (b : Nat) : List (Nat × V ι) → List (Nat × Nat) → List (Nat × Nat)
 | [], tb => tb
 | (k, .c x) :: r, tb => visSl s b r (visR s (nS (b + k)) 0 (refs x) tb)
 | (k, .ag l) :: r, tb => visSl s b r (visCs s (nS (b + k)) 0 l tb)
 | _ :: r, tb => visSl s b r tb
def rdF (s : S ι) (g : Nat) (c : C ι) : C ι :=
 match look g s.ob with
 | some (.row _ _ _ t _ _ _ _) => (match leafW d s.ob 4 (.ls t) c with
  | some l => if (namesC s.ob 4 c).all (frozen s) = true then .lf (.ls t) l else .any
  | none => .any)
 | _ => .any
def renC (s : S ι) (tb : List (Nat × Nat)) (c : C ι) : C ι :=
 match c with
 | .own g v => if s.cur g v then (if frozen s g then rdF d s g c else match look g tb with | some n => .own n 0 | none => .any) else .any
 | .part g v a b => if s.cur g v then (if frozen s g then rdF d s g c else match look g tb with | some n => .part n 0 a b | none => .any) else .any
 | .ptr g v o => if s.cur g v && !frozen s g then (match look g tb with | some n => .ptr n 0 o | none => .any) else .any
 | .pti g v e i o => if s.cur g v && !frozen s g then (match look g tb with | some n => .pti n 0 e i o | none => .any) else .any
 | .map _ _ => .any
 | .fn f l => (match mapL (fun x : Nat × Nat × Nat => if s.cur x.1 x.2.1 && !frozen s x.1 then (look x.1 tb).map fun n => (n, 0, x.2.2) else none) l with
  | some l => .fn f l
  | none => .any)
 | .k v => if v.flat then .k v else .any
 | c => c
def renV (s : S ι) (tb : List (Nat × Nat)) : V ι → V ι
 | .c x => .c (renC d s tb x)
 | .ag l => .ag (l.map (renC d s tb))
 | .tp l => .tp (l.map fun | (b, q) => (b, q.map (renC d s tb)))
def renO (s : S ι) (tb : List (Nat × Nat)) : Ob ι → Ob ι
 | .box _ cs => .box 0 (cs.map (renC d s tb))
 | .lit _ e el cs z => .lit 0 e el (cs.map (renC d s tb)) z
 | .row _ e el t v x nest z => .row 0 e el t v (x.map (renC d s tb)) (nest.map fun | (o, c) => (o, renC d s tb c)) z
def renOb (s : S ι) (tb : List (Nat × Nat)) : List (Nat × Nat) → List (Nat × Ob ι)
 | [] => []
 | (g, nn) :: r => match look g s.ob with
  | some o => if frozen s g then renOb s tb r else (nn, renO d s tb o) :: renOb s tb r
  | none => renOb s tb r
def kept (sl : List (Nat × V ι)) : List Nat → List (Nat × V ι)
 | [] => []
 | k :: r => match look k sl with | some v => (k, v) :: kept sl r | none => kept sl r
def visLo (s : S ι) : Nat → List (List (Nat × V ι)) → List (Nat × Nat) → List (Nat × Nat)
 | _, [], tb => tb
 | n, l :: r, tb => visLo s (n + 1) r (visSl s (n * 4096) l tb)
def renSl (s : S ι) (tb : List (Nat × Nat)) : List (Nat × V ι) → List (Nat × V ι)
 | [] => []
 | (k, v) :: r => (k, renV d s tb v) :: renSl s tb r
def canonT (s : S ι) (sl : List (Nat × V ι)) (tb0 : List (Nat × Nat)) : S ι :=
 let tb := visOb s 300 tb0 tb0
 if nodupN (tb.map (·.1)) && nodupN (tb.map (·.2)) then ⟨renSl d s tb sl, s.lo.map (renSl d s tb), renOb d s tb tb, []⟩
 else ⟨[], s.lo.map (fun _ => []), [], []⟩
def canon (keep : List Nat) (s : S ι) : S ι :=
 let sl := kept s.sl keep
 canonT d s sl (visLo s 1 s.lo (visSl s 0 sl []))
def insN (x : Nat) : List Nat → List Nat
 | [] => [x]
 | y :: r => match Nat.ble x y with
  | true => (match Nat.beq x y with | true => y :: r | false => x :: y :: r)
  | false => y :: insN x r
def sortN : List Nat → List Nat
 | [] => []
 | x :: r => insN x (sortN r)
def hasX (ob : List (Nat × Ob ι)) (g : Nat) : Bool := match look g ob with
 | some (.lit ..) => true
 | some (.row _ _ _ _ _ x _ _) => !x.isEmpty
 | _ => false
def hasN (ob : List (Nat × Ob ι)) (g : Nat) : Bool := match look g ob with
 | some (.row _ _ _ _ _ _ (some _) _) => true
 | _ => false
def nestOf (e : Nat) (x : List (C ι)) : Option (Nat × C ι) :=
 go 0 (x.drop (x.length - e))
where go : Nat → List (C ι) → Option (Nat × C ι)
 | _, [] => none
 | j, .own g v :: _ => some (j, .own g v)
 | j, _ :: r => go (j + 1) r
def nilAt (x : List (C ι)) (j : Nat) : List (C ι) := x.set j (.k .nils)
def oddOf (keep : Bool) (e : Nat) (x : List (C ι)) : Option (Nat × C ι) := if keep then nestOf e x else none
def litX (keep : Bool) (e : Nat) (x : List (C ι)) : List (C ι) := match oddOf keep e x with | some p => nilAt x (x.length - e + p.1) | none => x
def nestNm (ob : List (Nat × Ob ι)) (nest : Option (Nat × C ι)) : List Nat := match nest with | some p => namesC ob 4 p.2 | none => []
def typed1 (ty : TypeId → Option Ty) (keep : Bool) (s : S ι) (g : Nat) : S ι :=
 match look g s.ob with
 | some (.lit v e el x z) => (match ty el with
  | some t => if t.sz = e ∧ 0 < e then
    (match implN d (leafW d s.ob 4) t (x.length + 1) (litX keep e x) with
    | some l => if memN g ((litX keep e x).flatMap (namesC s.ob 4)) then s else (freezeO s ((litX keep e x).flatMap (namesC s.ob 4))).obj g (.row v e el t l [] (oddOf keep e x) z)
    | none => s) else s
  | none => s)
 | some (.row v e el t l x nest z) => if x.isEmpty then (match keep, nest with
   | false, some p => if t.sz = e ∧ 0 < e then (match mlN d (leafW d s.ob 4) t l (some p) with
    | some l0 => if memN g (namesC s.ob 4 p.2) then s else (freezeO s (namesC s.ob 4 p.2)).obj g (.row v e el t l0 x none z)
    | none => s) else s
   | _, _ => s) else if t.sz = e ∧ 0 < e then
   (match mlN d (leafW d s.ob 4) t l nest, implN d (leafW d s.ob 4) t (x.length + 1) (litX keep e x) with
   | some l0, some l' => if memN g (nestNm s.ob nest ++ (litX keep e x).flatMap (namesC s.ob 4)) then s else (freezeO s (nestNm s.ob nest ++ (litX keep e x).flatMap (namesC s.ob 4))).obj g (.row v e el t (d.ap l0 l') [] (oddOf keep e x) z)
   | _, _ => s) else s
 | _ => s
def news (ob : List (Nat × Ob ι)) (n : Nat) : List Nat := adds ((ob.take (ob.length - n)).map (·.1)) []
def settle (ty : TypeId → Option Ty) (keep : Bool) (n : Nat) (s : S ι) : S ι := ((news s.ob n).filter (hasX s.ob) ++ (match keep with | true => [] | false => (adds (s.ob.map (·.1)) []).filter (hasN s.ob))).foldl (typed1 d ty keep) s
end
def joinC : C U → C U → C U
 | .lf t _, .lf t' _ => if t = t' then .lf t () else .any
 | .lf .bool _, .kb _ => .lf .bool ()
 | .kb _, .lf .bool _ => .lf .bool ()
 | .kb a, .kb b => if a = b then .kb a else .lf .bool ()
 | .k .nils, .k .nils => .k .nils
 | .k .nilp, .k .nilp => .k .nilp
 | .k .nilf, .k .nilf => .k .nilf
 | .k .nilm, .k .nilm => .k .nilm
 | .k .nils, .own g v => .own g v
 | .own g v, .k .nils => .own g v
 | .k .nils, .lf (.ls t) _ => .lf (.ls t) ()
 | .lf (.ls t) _, .k .nils => .lf (.ls t) ()
 | .own g v, .own g' v' => if g = g' ∧ v = v' then .own g v else .any
 | .part g v _ _, .part g' v' _ _ => if g = g' ∧ v = v' then .part g v () () else .any
 | .ptr g v o, .ptr g' v' o' => if g = g' ∧ v = v' ∧ o = o' then .ptr g v o else .any
 | .rp t _ o, .rp t' _ o' => if t = t' ∧ o = o' then .rp t () o else .any
 | .fn f c, .fn f' c' => if f = f' ∧ c = c' then .fn f c else .any
 | .map g v, .map g' v' => if g = g' ∧ v = v' then .map g v else .any
 | .yl j, .yl j' => if j = j' then .yl j else .any
 | _, _ => .any
def joinCs : List (C U) → List (C U) → List (C U)
 | x :: l, y :: m => joinC x y :: joinCs l m
 | _, _ => []
def joinV : V U → V U → V U
 | .c x, .c y => .c (joinC x y)
 | .ag l, .ag m => if l.length = m.length then .ag (joinCs l m) else .c .any
 | _, _ => .c .any
def joinO : Ob U → Ob U → Ob U
 | .box v cs, .box _ cs' => .box v (joinCs cs cs')
 | .row v e el t _ _ nest z, .row _ _ _ _ _ _ nest' _ => .row v e el t () [] (match nest, nest' with | some p, some q => some (p.1, joinC p.2 q.2) | none, n => n | n, none => n) z
 | o, _ => o
def joinSl (m : List (Nat × V U)) : List (Nat × V U) → List (Nat × V U)
 | [] => []
 | p :: r => (match look p.1 m with | some v => [(p.1, joinV p.2 v)] | none => []) ++ joinSl m r
def joinOb (a b : List (Nat × Ob U)) : List (Nat × Ob U) :=
 (a.map fun p => match look p.1 b with | some o => (p.1, joinO p.2 o) | none => p) ++ b.filter fun p => (look p.1 a).isNone
def joinLo : List (List (Nat × V U)) → List (List (Nat × V U)) → List (List (Nat × V U))
 | a :: l, b :: m => joinSl b a :: joinLo l m
 | _, _ => []
def joinS (a b : S U) : S U := ⟨joinSl b.sl a.sl, joinLo a.lo b.lo, joinOb a.ob b.ob, []⟩
def refsV : V U → List Nat
 | .c x => (refs x).map (·.1)
 | .ag l => l.flatMap fun x => (refs x).map (·.1)
 | .tp l => l.flatMap fun q => q.2.flatMap fun x => (refs x).map (·.1)
def trimS (s : S U) : S U :=
 let used := (s.sl ++ s.lo.flatten).flatMap (fun p => refsV p.2) ++ s.ob.flatMap fun p => p.2.kids.flatMap fun x => (refs x).map (·.1)
 ⟨s.sl, s.lo, s.ob.filter fun p => memN p.1 used, []⟩
def serC : C U → List Nat
 | .any => [0]
 | .lf _ _ => [1]
 | .kb b => [2, b.toNat]
 | .k _ => [3]
 | .own g v => [4, g, v]
 | .part g v _ _ => [5, g, v]
 | .ptr g v o => [6, g, v, o]
 | .pti g v e _ o => [7, g, v, e, o]
 | .rp _ _ o => [8, o]
 | .fn f c => 9 :: f :: c.flatMap fun x => [x.1, x.2.1, x.2.2]
 | .map g v => [10, g, v]
 | .yl j => [11, j]
def serV : V U → List Nat
 | .c x => 0 :: serC x
 | .ag l => 1 :: l.flatMap serC
 | .tp l => 2 :: l.flatMap fun p => p.2.flatMap serC
def serO : Ob U → List Nat
 | .box v cs => 0 :: v :: cs.flatMap serC
 | .lit v _ _ cs _ => 1 :: v :: cs.flatMap serC
 | .row v _ _ _ _ x nest z => 2 :: v :: z.toNat :: x.flatMap serC ++ (match nest with | some p => p.1 :: serC p.2 | none => [])
def eqN : List Nat → List Nat → Bool
 | [], [] => true
 | x :: l, y :: m => match Nat.beq x y with | true => eqN l m | false => false
 | _, _ => false
def serS (s : S U) : List Nat := (s.sl ++ s.lo.flatten).flatMap (fun p => p.1 :: serV p.2) ++ s.ob.flatMap fun p => p.1 :: serO p.2
section
variable {ι : Ty → Type}
def erC : C ι → C U
 | .any => .any
 | .lf t _ => .lf t ()
 | .kb b => .kb b
 | .k v => .k v
 | .own g v => .own g v
 | .part g v _ _ => .part g v () ()
 | .ptr g v o => .ptr g v o
 | .pti g v e _ o => .pti g v e () o
 | .rp t _ o => .rp t () o
 | .fn f c => .fn f c
 | .map g v => .map g v
 | .yl j => .yl j
def erV : V ι → V U
 | .c x => .c (erC x)
 | .ag l => .ag (l.map erC)
 | .tp l => .tp (l.map fun p => (p.1, p.2.map erC))
def erO : Ob ι → Ob U
 | .box v cs => .box v (cs.map erC)
 | .lit v e el cs z => .lit v e el (cs.map erC) z
 | .row v e el t _ x nest z => .row v e el t () (x.map erC) (nest.map fun p => (p.1, erC p.2)) z
def erS (s : S ι) : S U := ⟨s.sl.map fun p => (p.1, erV p.2), s.lo.map fun l => l.map fun p => (p.1, erV p.2), s.ob.map fun p => (p.1, erO p.2), []⟩
end
end Go.Dn
namespace Go.Dn
open Go Go.Vv
abbrev Inl := ∀ {ι : Ty → Type} {M : Type → Type} {α : Type}, D ι M → FuncId → Nat → List (V ι) → S ι → (V ι → S ι → M α) → M α
set_option linter.unusedVariables false
set_option linter.unusedSimpArgs false
structure Hd where
 base : Nat
 ps : List Nat
 a : LC
 b : LC
def yB : Nat := 1000000000
structure SCt where
 id : Nat
 g : Nat
 two : Bool
 t : Ty
 fn : List t.T → Option (List t.T)
def SCt.ctr (x : SCt) : Ctr := ⟨1000000 + x.id * 1000 + x.g, [(.one, .ls x.t)], [(false, .ls x.t)], x.fn⟩
structure Cx where
 ct : FuncId → Option Ctr
 ty : TypeId → Option Ty
 code : FuncId → Option LF
 keep : Nat → Bool
 hs : List (Nat × Hd)
 rd : Bool
 so : FuncId → FuncId → Option SCt
 jn : Nat → Bool
def stat : D U (fun _ => List (LE × S U)) where
 int _ _ := ()
 bool _ := ()
 str _ := ()
 nl _ := ()
 un := ()
 pr _ _ := ()
 fs _ := ()
 sn _ := ()
 ar _ _ _ _ := ()
 cm _ _ _ _ := ()
 sh _ _ _ _ _ := ()
 cv _ _ _ := ()
 mm _ _ _ _ _ := ()
 ng _ _ := ()
 nt _ := ()
 an _ _ := ()
 be _ _ := ()
 ln _ := ()
 ls _ := ()
 bf _ _ := ()
 ub _ := ()
 pl _ _ := ()
 mi _ _ := ()
 ib _ _ := ()
 le _ _ := ()
 ft _ _ := ()
 cs _ _ := ()
 ap _ _ := ()
 ct _ _ _ := ()
 st _ _ _ := ()
 rp _ _ := ()
 ml _ _ := ()
 br _ x y := x ++ y
 gd _ x := x
 no := []
 ge _ _ k := k ()
 nq _ k := k ()
 call _ _ k := k ()
 join ex _ _ k := ex.flatMap fun p => k p.1 p.2
 loop _ ex _ _ _ k := ex.flatMap fun p => k p.1 p.2
section
variable {ι : Ty → Type} {M : Type → Type} {α : Type} (d : D ι M)
def guardD (s : S ι) (o : LOper) (run skip : S ι → M α) : M α :=
 match o.guard with
 | none => run s
 | some (g, want) => (match s.at g with
  | .c (.kb b) => if b = want then run s else skip s
  | .c (.lf .bool t) => if want then d.br t (run (s.put (some g) (.c (.kb true)))) (skip (s.put (some g) (.c (.kb false))))
   else d.br t (skip (s.put (some g) (.c (.kb true)))) (run (s.put (some g) (.c (.kb false))))
  | .tp [] => skip s
  | _ => d.no)
def pickD (s : S ι) (o : LOp) (run : S ι → M α) : M α :=
 match o with
 | .pick (.t n) _ _ => (match s.at n with
  | .c (.lf .bool t) => d.br t (run (s.put (some n) (.c (.kb true)))) (run (s.put (some n) (.c (.kb false))))
  | _ => run s)
 | _ => run s
def stepD (cx : Cx) (base : Nat) (s : S ι) (o : LOper) (k : LOp → S ι → M α) : M α :=
 guardD d s o (fun s => pickD d s o.op fun s => opD d cx.ct cx.ty s (base + o.dst.getD 0) o.op fun op v s' => k op (s'.put o.dst v)) (fun s => k o.op (s.put o.dst (.tp [])))
def inlF (cx : Cx) (s : S ι) : LOp → Option (FuncId × List (V ι))
 | .callp f args => if (cx.ct f).isNone && !Nat.ble yB f then some (f, args.map (ev d s)) else none
 | .callv x args => (match ev d s x with
  | .c (.fn f caps) => if Nat.ble yB f then none else some (f, args.map (ev d s) ++ caps.map fun c => .c (.ptr c.1 c.2.1 c.2.2))
  | .c (.yl j) => some (yB + j, args.map (ev d s))
  | .c (.lf (.bf f t) v) => if Nat.ble yB f then none else some (f, .ag (expl d t (d.ub v)) :: args.map (ev d s))
  | _ => none)
 | _ => none
def srtF (cx : Cx) (s : S ι) : LOp → Option (SCt × V ι)
 | .callp f [x, y] => (match ev d s y with
  | .c (.fn g []) => (cx.so f g).bind fun c => if c.two then some (c, ev d s x) else none
  | _ => none)
 | .callp f [x] => (cx.so f 0).bind fun c => if c.two then none else some (c, ev d s x)
 | _ => none
def sortD (c : SCt) (s : S ι) (v : V ι) (k : S ι → M α) : M α :=
 match v with
 | .c (.own g ver) => (match look g s.ob with
  | some (.row v e el t l [] none false) => if v = ver ∧ e = t.sz ∧ 0 < e then orNo d (cast? (.ls t) (.ls c.t) l) fun l => d.call c.ctr l fun l' => k (s.obj g (.row v e el c.t l' [] none false)) else d.no
  | _ => d.no)
 | .c (.k .nils) => k s
 | _ => d.no
def nilOf (s : S ι) : LOp → Option (Bool × ι I)
 | .isnil ne x => (match ev d s x with
  | .c (.lf (.ls _) v) => some (ne, d.ln v)
  | _ => none)
 | _ => none
def isCall : LOp → Bool
 | .callp .. | .callv .. => true
 | _ => false
def S.push (s : S ι) (live : List Nat) (sl : List (Nat × V ι)) : S ι := ⟨sl, kept s.sl live :: s.lo, s.ob, s.ln⟩
def S.pop (s : S ι) : S ι := match s.lo with
 | l :: r => ⟨l, r, s.ob, s.ln⟩
 | [] => s
def argSl : Nat → List (V ι) → List (Nat × V ι)
 | _, [] => []
 | j, v :: r => (j, v) :: argSl (j + 1) r
def denOps (inl : Inl) (cx : Cx) (base : Nat) (n : List Nat) : List (Nat × LOper) → S ι → (S ι → M α) → M α
 | [], s, k => k s
 | p :: r, s, k =>
  if isCall p.2.op then
   guardD d s p.2 (fun s => match srtF d cx s p.2.op with
    | some (c, v) => sortD d c s v fun s' => denOps inl cx base n r (s'.put p.2.dst (.tp [])) k
    | none => match inlF d cx s p.2.op with
    | some (f, vs) => inl d f ((base + p.2.dst.getD 0 + 1) * 4096) vs (s.push (sortN (liveOps r n)) []) fun v s' => denOps inl cx base n r (s'.put p.2.dst v) k
    | none => opD d cx.ct cx.ty s (base + p.2.dst.getD 0) p.2.op fun _ v s' => denOps inl cx base n r (s'.put p.2.dst v) k) (fun s => denOps inl cx base n r (s.put p.2.dst (.tp [])) k)
  else match nilOf d s p.2.op, p.2.guard with
   | some (ne, m), none => d.nq m fun b => denOps inl cx base n r (s.put p.2.dst (.c (.lf .bool (if ne then d.nt b else b)))) k
   | _, _ => stepD d cx base s p.2 fun _ s' => denOps inl cx base n r s' k
def isNewAt (base : Nat) (o : LOper) (s : S ι) : Bool := o.op.isNew && (look (base + o.dst.getD 0) s.ob).isSome
def newDs : List (Nat × LOper) → List Nat
 | [] => []
 | p :: r => match p.2.op, p.2.dst with
  | .alloc _, some x => x :: newDs r
  | _, _ => newDs r
def offV (base : Nat) (ds : List Nat) : V ι → Bool
 | .c (.ptr g _ _) => !inNm base ds g
 | .c (.own g _) => !inNm base ds g
 | .c (.lf _ _) => true
 | .c (.rp _ _ _) => true
 | _ => false
def onV (base : Nat) (ds : List Nat) : V ι → Bool
 | .c (.ptr g _ _) => inNm base ds g
 | _ => false
def maskOp (s : S ι) (base : Nat) (ds : List Nat) (op : LOp) : LOp :=
 match op with
 | .load ag n x => if offV base ds (ev d s x) then .msk ds (.load ag n x) else .load ag n x
 | .faddr o x => if offV base ds (ev d s x) then .msk ds (.faddr o x) else .faddr o x
 | .iaddr e x i => if offV base ds (ev d s x) then .msk ds (.iaddr e x i) else .iaddr e x i
 | .len x => if offV base ds (ev d s x) then .msk ds (.len x) else .len x
 | .store n x y => if onV base ds (ev d s x) then .ston ds n x y else .store n x y
 | op => op
def denOpsD (cx : Cx) (base : Nat) (ds : List Nat) : List (Nat × LOper) → List (Nat × LOper) → List (Nat × LOper) → S ι → (List (Nat × LOper) → List (Nat × LOper) → S ι → M α) → M α
 | [], acc, acc2, s, k => k acc.reverse acc2.reverse s
 | p :: r, acc, acc2, s, k =>
  if isNewAt base p.2 s then d.no else
  stepD d cx base s p.2 fun op s' => denOpsD cx base ds r ((p.1, { p.2 with op := op }) :: acc) ((p.1, { p.2 with op := maskOp d s base ds op }) :: acc2) s' k
def mustIn (cx : Cx) : LOp → Bool
 | .callp f _ => (cx.ct f).isNone
 | .callv .. => true
 | _ => false
def splitL (cx : Cx) : List (Nat × LOper) → List (Nat × LOper) × List (Nat × LOper)
 | [] => ([], [])
 | p :: r => match mustIn cx p.2.op with
  | true => ([], p :: r)
  | false => match splitL cx r with | (a, b) => (p :: a, b)
def addE (p : LE × S U) : List (LE × S U) → List (LE × S U)
 | [] => [p]
 | q :: r => if p.1 = q.1 then (q.1, joinS q.2 p.2) :: r else q :: addE p r
def exits (l : List (LE × S U)) : List (LE × S U) := (l.foldl (fun m p => if p.1 = .normal then m else addE p m) []).map fun p => (p.1, trimS p.2)
def heads (sh : S U) (l : List (LE × S U)) : S U := trimS (l.foldl (fun m p => if p.1 = .normal then joinS m p.2 else m) sh)
def joinX (l : List (LE × S U)) : List (LE × S U) := (l.foldl (fun m p => addE p m) []).map fun p => (p.1, trimS p.2)
def firstReg : LC → Nat
 | .reg _ id _ _ => id
 | .seq a _ => firstReg a
 | .cond _ a b => match Nat.beq (firstReg a) 1000000000 with | true => firstReg b | false => firstReg a
 | .blk _ b => firstReg b
 | .loop b => firstReg b
 | .rng _ _ a _ => firstReg a
 | _ => 1000000000
def fixS (run : S U → List (LE × S U)) : Nat → S U → S U × List (LE × S U)
 | 0, sh => (sh, exits (run sh))
 | n + 1, sh =>
  let l := run sh
  let sh' := heads sh l
  if eqN (serS sh') (serS sh) = true then (sh', exits l) else fixS run n sh'
def resD (s : S ι) : List RV → (List (V ι) → M α) → M α
 | [], k => k []
 | .tmp t :: r, k => resD s r fun l => k (s.at t :: l)
 | .cell t ag n :: r, k => loadD d s ag n (s.at t) fun v => resD s r fun l => k (v :: l)
def V.toP : V ι → Bool × List (C ι)
 | .c x => (false, [x])
 | .ag l => (true, l)
 | .tp _ => (false, [])
def packL : List (V ι) → V ι
 | [v] => v
 | l => .tp (l.map V.toP)
end
def keepE (h : List Nat) (ex : List (Nat × List Nat)) (rt : List Nat) : LE → List Nat
 | .normal => h
 | .exit id => sortN ((look id ex).getD [])
 | .ret => sortN rt
def noYc {ι : Ty → Type} (j : Nat) : C ι → Bool
 | .yl i => !Nat.beq i j
 | .k v => v.flat
 | _ => true
def noYv {ι : Ty → Type} (j : Nat) : V ι → Bool
 | .c x => noYc j x
 | .ag l => l.all (noYc j)
 | .tp l => l.all fun p => p.2.all (noYc j)
def noYs {ι : Ty → Type} (j : Nat) (s : S ι) : Bool := (s.sl.all fun p => noYv j p.2) && (s.lo.all fun l => l.all fun p => noYv j p.2) && s.ob.all fun p => p.2.kids.all (noYc j)
def denC (mk : Cx → Inl) (cx : Cx) (base : Nat) : LC → (n : List Nat) → (ex : List (Nat × List Nat)) → (rt : List Nat) → {ι : Ty → Type} → {M : Type → Type} → {α : Type} → D ι M → S ι → (LE → S ι → M α) → M α
 | .skip, _, _, _, _, _, _, _, s, k => k .normal s
 | .reg draw id ops l, n, _, _, _, _, _, d, s, k =>
  if draw then (match splitL cx l with
   | (_, []) => denOpsD d cx base (newDs l) l [] [] s fun l' l2 s' => if drawOK ops l' || drawOK ops l2 then k .normal (settle d cx.ty (cx.keep id) s.ob.length s') else d.no
   | (L, p :: R) => denOpsD d cx base [] L [] [] s fun l' _ s' => if splitOK ops l' ((p :: R).map (·.1)) then denOps d (mk { cx with rd := false }) cx base n (p :: R) s' fun s'' => k .normal (settle d cx.ty (cx.keep id) s.ob.length s'') else d.no)
  else denOps d (mk { cx with rd := false }) cx base n l s fun s' => k .normal (settle d cx.ty (cx.keep id) s.ob.length s')
 | .seq a b, n, ex, rt, _, _, _, d, s, k => match cx.jn (base * 1000 + firstReg b) with
  | false => denC mk cx base a (liveC b n ex rt) ex rt d s fun e s' => match e with
   | .normal => denC mk cx base b n ex rt d s' k
   | e => k e s'
  | true => d.join (joinX (denC mk cx base a (liveC b n ex rt) ex rt (α := Unit) stat (erS s) fun e s' => [(e, canon stat (keepE (sortN (liveC b n ex rt)) ex rt e) s')]))
    (fun e s' => canon d (keepE (sortN (liveC b n ex rt)) ex rt e) s') (fun k' => denC mk cx base a (liveC b n ex rt) ex rt d s k') fun e s' => match e with
   | .normal => denC mk cx base b n ex rt d s' k
   | e => k e s'
 | .cond c a b, n, ex, rt, _, _, _, d, s, k => match ev d s c with
  | .c (.kb t) => if t then denC mk cx base a n ex rt d s k else denC mk cx base b n ex rt d s k
  | .c (.lf .bool t) => (match c with
   | .t x => d.br t (denC mk cx base a n ex rt d (s.put (some x) (.c (.kb true))) k) (denC mk cx base b n ex rt d (s.put (some x) (.c (.kb false))) k)
   | _ => d.no)
  | _ => d.no
 | .blk id b, n, ex, rt, _, _, _, d, s, k => denC mk cx base b n ((id, n) :: ex) rt d s fun e s' => if e = .exit id then k .normal s' else k e s'
 | .loop b, _, ex, rt, _, _, _, d, s, k =>
  let h := sortN (liveC b [] ex rt)
  let s0 := canon d h s
  match fixS (fun sh => denC mk cx base b h ex rt (α := Unit) stat sh fun e s' => [(e, canon stat (keepE h ex rt e) s')]) 4 (erS s0) with
  | (sh, xs) => d.loop sh xs (fun e s' => canon d (keepE h ex rt e) s') (fun s' k' => denC mk cx base b h ex rt d s' k') s0 k
 | .exit id, _, _, _, _, _, _, _, s, k => k (.exit id) s
 | .ret, _, _, _, _, _, _, _, s, k => k .ret s
 | .rng g ps a b, n, _, _, _, _, _, d, s, k => match ev d s g with
  | .c (.fn f caps) => if cx.rd = false ∧ Nat.ble yB f = false ∧ noYs s.lo.length s = true then
    mk { cx with hs := (s.lo.length, ⟨base, ps, a, b⟩) :: cx.hs, rd := false } d f ((base + ps.headD 0 + 1) * 4096) (.c (.yl s.lo.length) :: caps.map fun c => .c (.ptr c.1 c.2.1 c.2.2))
     (s.push (sortN (adds ((liveC a (liveC b [] [] []) [] []).filter fun x => !memN x ps) n)) []) fun _ s' => if noYs s.lo.length s' = true then k .normal s' else d.no
   else d.no
  | _ => d.no
def denSeq (mk : Cx → Inl) (cx : Cx) (base : Nat) (a b : LC) {ι : Ty → Type} {M : Type → Type} {α : Type} (d : D ι M) (s : S ι) (k : LE → S ι → M α) : M α :=
 denC mk cx base a (liveC b [] [] []) [] [] d s fun e s' => match e with
  | .normal => denC mk cx base b [] [] [] d s' k
  | e => k e s'
def psSl {ι : Ty → Type} : List Nat → List (V ι) → List (Nat × V ι)
 | p :: ps, v :: vs => (p, v) :: psSl ps vs
 | _, _ => []
def bodyD {ι : Ty → Type} {M : Type → Type} {α : Type} (mk : Cx → Inl) (cx : Cx) (d : D ι M) (f : FuncId) (base : Nat) (vs : List (V ι)) (s : S ι) (k : V ι → S ι → M α) : M α :=
 match Nat.ble yB f with
 | true => (match look (f - yB) cx.hs, s.lo with
  | some h, _ :: c :: r => if r.length = f - yB ∧ vs.length = h.ps.length then
    denSeq mk { cx with hs := cx.hs.filter (fun p => Nat.blt p.1 (f - yB)), rd := true } h.base h.a h.b d ⟨psSl h.ps vs ++ c, s.lo, s.ob, s.ln⟩ fun e s' => match e with
     | .normal => k (.c (.kb true)) s'.pop
     | _ => d.no
   else d.no
  | _, _ => d.no)
 | false => match cx.code f with
  | none => d.no
  | some lf => if vs.length = lf.np then
    denC mk cx base lf.body (lf.res.map RV.slot) [] (lf.res.map RV.slot) d ⟨argSl 0 vs, s.lo, s.ob, s.ln⟩ fun e s' => match e with
     | .exit _ => d.no
     | _ => resD d s' lf.res fun l => k (packL l) s'.pop
   else d.no
def den : Nat → Cx → Inl
 | 0, _ => fun d _ _ _ _ _ => d.no
 | n + 1, cx => fun d f base vs s k => bodyD (den n) cx d f base vs s k
class W where
 ar : BinOp → IntKind → Int → Int → Int
 cm : BinOp → Int → Int → Bool
 sh : BinOp → IntKind → Int → Int → Int
 cv : IntKind → Int → Int
 mx : Int → Int → Int
 mn : Int → Int → Int
 ng : IntKind → Int → Int
 nt : Bool → Bool
 an : Bool → Bool → Bool
 be : Bool → Bool → Bool
 ln : {α : Type} → List α → Int
 lS : ByteArray → Int
 pl : Int → Int → Int
 mi : Int → Int → Int
 ib : Int → Int → Bool
 le : Int → Int → Bool
 ft : Nat → Int → Bool
 ap : {α : Type} → List α → List α → List α
 ct : {α : Type} → List α → Int → Int → List α
 st : {α : Type} → List α → Int → α → List α
 rp : {α : Type} → α → Int → List α
 ml : {α : Type} → List α → (α → α) → List α
 br : {α : Type} → Bool → Option α → Option α → Option α
 gd : {α : Type} → Bool → Option α → Option α
 ge : {α β : Type} → List β → Int → (β → Option α) → Option α
 nq : {α : Type} → Int → (Bool → Option α) → Option α
 call : {α : Type} → (c : Ctr) → c.aT.T → (c.rT.T → Option α) → Option α
 loop : {A B α : Type} → (A → Option (Nx A B)) → A → (B → Option α) → Option α
 join : {B α : Type} → Option B → (B → Option α) → Option α
def dL (w : W) : D Ty.T Option where
 int _ n := n
 bool b := b
 str s := s
 nl t := ([] : List t.T)
 un := ()
 pr a b := (a, b)
 fs v := v.1
 sn v := v.2
 ar o k a b := w.ar o k a b
 cm o _ a b := w.cm o a b
 sh o k _ a b := w.sh o k a b
 cv _ k' a := w.cv k' a
 mm b _ _ x y := match b with | true => w.mx x y | false => w.mn x y
 ng k a := w.ng k a
 nt a := w.nt a
 an a b := w.an a b
 be a b := w.be a b
 ln {t} v := w.ln (α := t.T) v
 ls s := w.lS s
 bf _ v := v
 ub v := v
 pl a b := w.pl a b
 mi a b := w.mi a b
 ib i n := w.ib i n
 le a b := w.le a b
 ft b n := w.ft b n
 cs {t} x l := List.cons (α := t.T) x l
 ap {t} l m := w.ap (α := t.T) l m
 ct {t} l a n := w.ct (α := t.T) l a n
 st {t} l i x := w.st (α := t.T) l i x
 rp {t} x n := w.rp (α := t.T) x n
 ml {t} l f := w.ml (α := t.T) l f
 br t x y := w.br t x y
 gd t x := w.gd t x
 no := none
 ge {_ t} l i k := w.ge (β := t.T) l i k
 nq n k := w.nq n k
 call c a k := w.call c a k
 join _ _ _ _ := none
 loop _ _ _ _ _ _ := none
section
variable {ι : Ty → Type} {M : Type → Type} (d : D ι M) (ob : List (Nat × Ob ι))
def fitC {r : List Ty} (h : HL ι r) : (c : C U) → C ι → Option (HL ι (ltC r c))
 | .any, _ => some h
 | .lf t _, c => (leafW d ob 4 t c).map fun v => ⟨v, h⟩
 | .kb b, .kb b' => if b = b' then some h else none
 | .k .nils, .k .nils => some h
 | .k .nilp, .k .nilp => some h
 | .k .nilf, .k .nilf => some h
 | .k .nilm, .k .nilm => some h
 | .own g v, .own g' v' => if g = g' ∧ v = v' then some h else none
 | .own g _, .k .nils => if (look g ob).isNone then some h else none
 | .part g v _ _, .part g' v' a b => if g = g' ∧ v = v' then some ⟨a, b, h⟩ else none
 | .ptr g v o, .ptr g' v' o' => if g = g' ∧ v = v' ∧ o = o' then some h else none
 | .pti g v e _ o, .pti g' v' e' i o' => if g = g' ∧ v = v' ∧ e = e' ∧ o = o' then some ⟨i, h⟩ else none
 | .rp t _ o, .rp t' v o' => if o = o' then (cast? t' t v).map fun v => ⟨v, h⟩ else none
 | .fn f c, .fn f' c' => if f = f' ∧ c = c' then some h else none
 | .map g v, .map g' v' => if g = g' ∧ v = v' then some h else none
 | .yl j, .yl j' => if j = j' then some h else none
 | _, _ => none
def fitCs {r : List Ty} (h : HL ι r) : (l : List (C U)) → List (C ι) → Option (HL ι (ltCs r l))
 | [], [] => some h
 | c :: l, x :: m => (fitCs h l m).bind fun h => fitC d ob h c x
 | _, _ => none
def fitP {r : List Ty} (h : HL ι r) : (l : List (Bool × List (C U))) → List (Bool × List (C ι)) → Option (HL ι (ltP r l))
 | [], [] => some h
 | (a, p) :: l, (b, x) :: m => if a = b then (fitP h l m).bind fun h => fitCs d ob h p x else none
 | _, _ => none
def fitV {r : List Ty} (h : HL ι r) : (v : V U) → V ι → Option (HL ι (ltV r v))
 | .c x, .c y => fitC d ob h x y
 | .c .any, _ => some h
 | .ag l, .ag m => fitCs d ob h l m
 | .tp l, .tp m => fitP d ob h l m
 | _, _ => none
def fitN {r : List Ty} (h : HL ι r) : (n : Option (Nat × C U)) → Option (Nat × C ι) → Option (HL ι (ltN r n))
 | none, none => some h
 | some (a, p), some (b, q) => if a = b then fitC d ob h p q else none
 | none, some _ => some h
 | _, _ => none
def fitO {r : List Ty} (h : HL ι r) : (o : Ob U) → Ob ι → Option (HL ι (ltO r o))
 | .box v cs, .box v' cs' => if v = v' then fitCs d ob h cs cs' else none
 | .lit v e el cs z, .lit v' e' el' cs' z' => if v = v' ∧ e = e' ∧ el = el' ∧ z = z' then fitCs d ob h cs cs' else none
 | .row v e el t _ x nest fz, .row v' e' el' t' l x' nest' fz' =>
  if v = v' ∧ e = e' ∧ el = el' ∧ fz = fz' then
   (fitN d ob h nest nest').bind fun h => (fitCs d ob h x x').bind fun h => (match nest, nest' with
    | none, some (off, c) => (mlN d (leafW d ob 4) t' l (some (off, c))).bind fun l => (cast? (.ls t') (.ls t) l).map fun l => ⟨l, h⟩
    | some _, none => none
    | _, _ => (cast? (.ls t') (.ls t) l).map fun l => ⟨l, h⟩)
  else none
 | _, _ => none
def fitNew {r : List Ty} (h : HL ι r) : (o : Ob U) → Option (HL ι (ltO r o))
 | .row _ _ _ _ _ [] none _ => some ⟨d.nl _, h⟩
 | .row _ _ _ _ _ [] (some (_, .own _ _)) _ => some ⟨d.nl _, h⟩
 | _ => none
def fitSl {r : List Ty} (h : HL ι r) (sl : List (Nat × V ι)) : (l : List (Nat × V U)) → Option (HL ι (ltSl r l))
 | [] => some h
 | (a, p) :: l => (fitSl h sl l).bind fun h => fitV d ob h p ((look a sl).getD (.c .any))
def fitOb {r : List Ty} (h : HL ι r) : (l : List (Nat × Ob U)) → Option (HL ι (ltOb r l))
 | [] => some h
 | (a, p) :: l => (fitOb h l).bind fun h => match look a ob with | some o => fitO d ob h p o | none => fitNew d h p
end
def fitLo {ι : Ty → Type} {M : Type → Type} {r : List Ty} (d : D ι M) (ob : List (Nat × Ob ι)) (h : HL ι r) : (l : List (List (Nat × V U))) → List (List (Nat × V ι)) → Option (HL ι (ltLo r l))
 | [], [] => some h
 | p :: l, q :: m => (fitLo d ob h l m).bind fun h => fitSl d ob h q p
 | _, _ => none
def readC {ι : Ty → Type} (ob : List (Nat × Ob ι)) : C U → C ι → List Nat
 | .lf _ _, c => namesC ob 4 c
 | _, _ => []
def readCs {ι : Ty → Type} (ob : List (Nat × Ob ι)) : List (C U) → List (C ι) → List Nat
 | c :: l, x :: m => readC ob c x ++ readCs ob l m
 | _, _ => []
def readP {ι : Ty → Type} (ob : List (Nat × Ob ι)) : List (Bool × List (C U)) → List (Bool × List (C ι)) → List Nat
 | (_, p) :: l, (_, x) :: m => readCs ob p x ++ readP ob l m
 | _, _ => []
def readV {ι : Ty → Type} (ob : List (Nat × Ob ι)) : V U → V ι → List Nat
 | .c x, .c y => readC ob x y
 | .ag l, .ag m => readCs ob l m
 | .tp l, .tp m => readP ob l m
 | _, _ => []
def readO {ι : Ty → Type} (ob : List (Nat × Ob ι)) : Ob U → Ob ι → List Nat
 | .box _ cs, .box _ cs' => readCs ob cs cs'
 | .lit _ _ _ cs _, .lit _ _ _ cs' _ => readCs ob cs cs'
 | .row _ _ _ _ _ x nest _, .row _ _ _ _ _ x' nest' _ => readCs ob x x' ++ (match nest, nest' with | some p, some q => readC ob p.2 q.2 | none, some q => namesC ob 4 q.2 | _, _ => [])
 | _, _ => []
def readSl {ι : Ty → Type} (ob : List (Nat × Ob ι)) (l : List (Nat × V U)) (sl : List (Nat × V ι)) : List Nat := l.flatMap fun p => readV ob p.2 ((look p.1 sl).getD (.c .any))
def readLo {ι : Ty → Type} (ob : List (Nat × Ob ι)) : List (List (Nat × V U)) → List (List (Nat × V ι)) → List Nat
 | p :: l, q :: m => readSl ob p q ++ readLo ob l m
 | _, _ => []
def readS {ι : Ty → Type} (sh : S U) (s : S ι) : List Nat :=
 readSl s.ob sh.sl s.sl ++ readLo s.ob sh.lo s.lo ++ sh.ob.flatMap fun p => match look p.1 s.ob with | some o => readO s.ob p.2 o | none => []
def S.shut (sh : S U) : Bool :=
 ((sh.sl ++ sh.lo.flatten).all fun p => match p.2 with | .c x => ok x | .ag l => l.all ok | .tp l => l.all fun q => q.2.all ok) && sh.ob.all fun p => p.2.kids.all ok
where ok (c : C U) : Bool := (refs c).all fun r => match look r.1 sh.ob with | some o => o.ver == r.2 | none => false
def S.fit {ι : Ty → Type} {M : Type → Type} (d : D ι M) (sh : S U) (s : S ι) : Option (HL ι sh.lt) :=
 if sh.shut ∧ (readS sh s).all (fun g => (look g sh.ob).isNone) = true then (fitOb d s.ob (r := []) () sh.ob).bind fun h => (fitLo d s.ob h sh.lo s.lo).bind fun h => fitSl d s.ob h s.sl sh.sl else none
def exIn {ι : Ty → Type} {M : Type → Type} (d : D ι M) : (ex : List (LE × S U)) → LE → S ι → Option (Ex ι ex)
 | [], _, _ => none
 | [(a, p)], e, s => if a = e then p.fit d s else none
 | (a, p) :: q :: r, e, s => if a = e then (p.fit d s).map Sum.inl else (exIn d (q :: r) e s).map Sum.inr
def exOut {ι : Ty → Type} {β : Type} (k : LE → S ι → β) : (ex : List (LE × S U)) → Ex ι ex → β
 | [], h => nomatch h
 | [(a, p)], h => k a (p.mk' h)
 | (a, p) :: q :: r, h => Sum.casesOn (motive := fun _ => β) (show HL ι p.lt ⊕ Ex ι (q :: r) from h) (fun x => k a (p.mk' x)) (fun x => exOut k (q :: r) x)
def loopV (w : W) (d : D Ty.T Option) {α : Type} (sh : S U) (ex : List (LE × S U)) (cn : LE → S Ty.T → S Ty.T)
  (body : S Ty.T → (LE → S Ty.T → Option (Nx (HL Ty.T sh.lt) (Ex Ty.T ex))) → Option (Nx (HL Ty.T sh.lt) (Ex Ty.T ex))) (ent : S Ty.T) (k : LE → S Ty.T → Option α) : Option α :=
 match sh.fit d ent with
 | none => none
 | some h0 => w.loop (fun h => body (sh.mk' h) fun e s' => match e with
  | .normal => (sh.fit d (cn .normal s')).map Nx.go
  | e => (exIn d ex e (cn e s')).map Nx.out) h0 (exOut k ex)
def dW (w : W) : D Ty.T Option := { dL w with loop := fun sh ex cn body ent k => loopV w (dL w) sh ex cn body ent k, join := fun ex cn body k => w.join (body fun e s' => exIn (dL w) ex e (cn e s')) (exOut k ex) }
def obind {α β : Type} (x : Option α) (k : α → Option β) : Option β := match x with | some v => k v | none => none
def iar (o : BinOp) (k : IntKind) (a b : Int) : Int :=
 match o with
 | .add => k.wrap (a + b)
 | .sub => k.wrap (a - b)
 | .mul => k.wrap (a * b)
 | .quo => k.wrap (a.tdiv b)
 | .rem => a.tmod b
 | .and => bits .and k a b
 | .or => bits .or k a b
 | .xor => bits .xor k a b
 | .andNot => bits .andNot k a b
 | _ => 0
def icm (o : BinOp) (a b : Int) : Bool :=
 match o with
 | .eql => a == b
 | .neq => a != b
 | .lss => decide (a < b)
 | .leq => decide (a ≤ b)
 | .gtr => decide (a > b)
 | .geq => decide (a ≥ b)
 | _ => false
def ish (o : BinOp) (k : IntKind) (a b : Int) : Int :=
 match o with
 | .shl => k.wrap (a * 2 ^ (min b.toNat k.bits))
 | .shr => a.fdiv (2 ^ (min b.toNat k.bits))
 | _ => 0
def fget {α : Type} (l : List α) (i : Int) : Option α := if 0 ≤ i then l[i.toNat]? else none
def modLast {α : Type} : List α → (α → α) → List α
 | [], _ => []
 | [x], f => [f x]
 | x :: y :: r, f => x :: modLast (y :: r) f
def loopN {A B : Type} (b : A → Option (Nx A B)) : Nat → A → Option B
 | 0, _ => none
 | n + 1, s => match b s with
  | none => none
  | some (.go s') => loopN b n s'
  | some (.out e) => some e
def bigN : Nat := 18446744073709551616
open Classical in
noncomputable def nlv {α : Type} (n : Int) (k : Bool → Option α) : Option α := if n = 0 then (if k true = k false then k false else none) else k false
@[reducible] noncomputable def wv : W where
 ar := iar
 cm := icm
 sh := ish
 cv := IntKind.wrap
 mx a b := if b > a then b else a
 mn a b := if b < a then b else a
 ng k a := k.wrap (0 - a)
 nt a := !a
 an a b := a && b
 be a b := a == b
 ln l := l.length
 lS s := s.size
 pl a b := a + b
 mi a b := a - b
 ib i n := decide (0 ≤ i ∧ i < n)
 le a b := decide (a ≤ b)
 ft b n := decide (n * b ≤ room ∧ n ≤ 9223372036854775807)
 ap l m := l ++ m
 ct l a n := (l.drop a.toNat).take n.toNat
 st l i x := l.set i.toNat x
 rp x n := List.replicate n.toNat x
 ml := modLast
 br c x y := if c = true then x else y
 gd c x := if c = true then x else none
 ge l i k := obind (fget l i) k
 nq := nlv
 call c a k := obind (c.fn a) k
 loop b a k := obind (loopN b bigN a) k
 join x k := obind x k
noncomputable abbrev val : D Ty.T Option := dW wv
def akOf (P : Program) (t : TypeId) : Option (AK × Ty) :=
 match P.underlying t with
 | some (.pointer e) => (tyOf P 8 e).map fun t => (.rp, t)
 | some (.struct _) | some (.array _ _) => (tyOf P 8 t).map fun t => (.ag, t)
 | some _ => (tyOf P 8 t).map fun t => (.one, t)
 | none => none
def rkOf (P : Program) (t : TypeId) : Option (Bool × Ty) :=
 match P.underlying t with
 | some (.struct _) | some (.array _ _) => (tyOf P 8 t).map fun t => (true, t)
 | some _ => (tyOf P 8 t).map fun t => (false, t)
 | none => none
def argV {ι : Ty → Type} {M : Type → Type} (d : D ι M) (a : AK × Ty) (v : ι a.2) : V ι :=
 match a.1 with
 | .one => (match expl d a.2 v with | [c] => .c c | _ => .c .any)
 | .ag => .ag (expl d a.2 v)
 | .rp => .c (.rp a.2 v 0)
def argVs {ι : Ty → Type} {M : Type → Type} (d : D ι M) : (as : List (AK × Ty)) → ι (prodT (as.map (·.2))) → List (V ι)
 | [], _ => []
 | [a], v => [argV d a v]
 | a :: b :: r, v => argV d a (d.fs v) :: argVs d (b :: r) (d.sn v)
def rk (a : Bool × Ty) : AK × Ty := (if a.1 then .ag else .one, a.2)
def resGo {ι : Ty → Type} {M : Type → Type} {α : Type} (d : D ι M) (ob : List (Nat × Ob ι)) : (rs : List (Bool × Ty)) → List (V ι) → (ι (prodT (rs.map (·.2))) → M α) → M α
 | [], [], k => k d.un
 | [a], [v], k => argL d ob (rk a) v k
 | a :: b :: r, v :: w, k => argL d ob (rk a) v fun x => resGo d ob (b :: r) w fun y => k (d.pr x y)
 | _, _, _ => d.no
def resIn {ι : Ty → Type} (rs : List (Bool × Ty)) (v : V ι) : List (V ι) := match rs, v with
 | [_], v => [v]
 | _, .tp l => l.map unpack1
 | _, v => [v]
def resL {ι : Ty → Type} {M : Type → Type} {α : Type} (d : D ι M) (ob : List (Nat × Ob ι)) (rs : List (Bool × Ty)) (v : V ι) (k : ι (prodT (rs.map (·.2))) → M α) : M α := resGo d ob rs (resIn rs v) k
def fnD (d : D Ty.T Option) (cx : Cx) (n : Nat) (f : FuncId) (as : List (AK × Ty)) (rs : List (Bool × Ty)) (a : (prodT (as.map (·.2))).T) : Option (prodT (rs.map (·.2))).T :=
 den n cx d f 0 (argVs d as a) ⟨[], [[]], [], []⟩ fun v s => resL d s.ob rs v some
noncomputable def ctrD (P : Program) (cx : Cx) (n : Nat) (f : FuncId) : Option Ctr :=
 (P.funcs[f]?).bind fun fn => (mapL (akOf P) fn.params.toList).bind fun as => (mapL (rkOf P) fn.resultTypes.toList).map fun rs => ⟨f, as, rs, fnD val cx n f as rs⟩
end Go.Dn
namespace Go.Dn
open Go Go.Vv
set_option linter.unusedSimpArgs false
def okC (s : S Ty.T) (c : C Ty.T) : Prop := ∀ r ∈ refs c, ∃ o, look r.1 s.ob = some o ∧ r.2 ≤ o.ver
def okCs (s : S Ty.T) (l : List (C Ty.T)) : Prop := ∀ c ∈ l, okC s c
def V.all : V Ty.T → List (C Ty.T)
 | .c x => [x]
 | .ag l => l
 | .tp l => l.flatMap (·.2)
def okV (s : S Ty.T) (v : V Ty.T) : Prop := okCs s v.all
structure Inv (s : S Ty.T) : Prop where
 sl : ∀ p ∈ s.sl, okV s p.2
 lo : ∀ l ∈ s.lo, ∀ p ∈ l, okV s p.2
 ob : ∀ g o, look g s.ob = some o → okCs s o.kids
structure Stab (s s' : S Ty.T) : Prop where
 sl : s'.sl = s.sl
 lo : s'.lo = s.lo
 ok : ∀ c, okC s c → okC s' c ∧ encC s' c = encC s c
theorem Stab.refl (s : S Ty.T) : Stab s s := ⟨rfl, rfl, fun _ h => ⟨h, rfl⟩⟩
theorem Stab.trans {a b c : S Ty.T} (h : Stab a b) (k : Stab b c) : Stab a c :=
 ⟨k.sl.trans h.sl, k.lo.trans h.lo, fun x hx => ⟨(k.ok x (h.ok x hx).1).1, ((k.ok x (h.ok x hx).1).2).trans (h.ok x hx).2⟩⟩
theorem look_mem {α : Type} {d : Nat} : ∀ {l : List (Nat × α)} {v : α}, look d l = some v → (d, v) ∈ l
 | [], _, h => by cases h
 | (n, x) :: r, v, h => by
  simp only [look] at h
  cases hb : Nat.beq n d with
  | true => rw [hb] at h; injection h with h; subst h; have := Nat.eq_of_beq_eq_true hb; subst this; exact .head _
  | false => rw [hb] at h; exact .tail _ (look_mem h)
theorem look_cons {α : Type} (n d : Nat) (v : α) (l : List (Nat × α)) : look d ((n, v) :: l) = if n = d then some v else look d l := by
 simp only [look]
 cases hb : Nat.beq n d with
 | true => rw [if_pos (Nat.eq_of_beq_eq_true hb)]
 | false => rw [if_neg (Nat.ne_of_beq_eq_false hb)]
theorem Inv.at {s : S Ty.T} (h : Inv s) (d : Nat) : okV s (s.at d) := by
 unfold S.at
 cases hl : look d s.sl with
 | none => intro c hc; simp [V.all] at hc; subst hc; intro r hr; simp [refs] at hr
 | some v => exact h.sl _ (look_mem hl)
theorem Stab.okV {s s' : S Ty.T} (h : Stab s s') {v : V Ty.T} (hv : okV s v) : Dn.okV s' v := fun c hc => (h.ok c (hv c hc)).1
theorem Stab.encCs {s s' : S Ty.T} (h : Stab s s') {l : List (C Ty.T)} (hv : okCs s l) : l.map (encC s') = l.map (encC s) := List.map_congr_left fun c hc => (h.ok c (hv c hc)).2
theorem Stab.encV {s s' : S Ty.T} (h : Stab s s') {v : V Ty.T} (hv : Dn.okV s v) : Dn.encV s' v = Dn.encV s v := by
 cases v with
 | c x => exact (h.ok x (hv x (by simp [V.all]))).2
 | ag l => simp only [Dn.encV]; rw [h.encCs (show okCs s l from hv)]
 | tp l =>
  simp only [Dn.encV]
  congr 1
  refine List.map_congr_left fun p hp => ?_
  have : okCs s p.2 := fun c hc => hv c (List.mem_flatMap.2 ⟨p, hp, hc⟩)
  rw [h.encCs this]
theorem Inv.stab {s s' : S Ty.T} (hi : Inv s) (h : Stab s s') (ho : ∀ g o, look g s'.ob = some o → look g s.ob = some o ∨ okCs s' o.kids) : Inv s' where
 sl p hp := h.okV (hi.sl p (h.sl ▸ hp))
 lo l hl p hp := h.okV (hi.lo l (h.lo ▸ hl) p hp)
 ob g o hg := by
  rcases ho g o hg with h1 | h1
  ·exact fun c hc => (h.ok c (hi.ob g o h1 c hc)).1
  ·exact h1
theorem Inv.put {s : S Ty.T} (hi : Inv s) {v : V Ty.T} (hv : okV s v) (d : Option Nat) : Inv (s.put d v) := by
 cases d with
 | none => exact hi
 | some d =>
  refine ⟨fun p hp => ?_, hi.lo, hi.ob⟩
  rcases List.mem_cons.1 hp with rfl | hp
  ·exact hv
  ·exact hi.sl p hp
theorem encC_put (s : S Ty.T) (d : Option Nat) (v : V Ty.T) (c : C Ty.T) : encC (s.put d v) c = encC s c := by
 cases d <;> cases c <;> rfl
theorem encV_put (s : S Ty.T) (d : Option Nat) (v x : V Ty.T) : encV (s.put d v) x = encV s x := by
 have e : encC (s.put d v) = encC s := funext (encC_put s d v)
 cases x <;> simp only [encV, e]
theorem encH_put (s : S Ty.T) (d : Option Nat) (v : V Ty.T) : encH (s.put d v) = encH s := by
 have e : encC (s.put d v) = encC s := funext (encC_put s d v)
 have : encO (s.put d v) = encO s := funext fun o => by cases o <;> simp only [encO, e]
 cases d with
 | none => rfl
 | some d => funext g; simp only [encH]; rw [this]; rfl
theorem enc_put (s : S Ty.T) (d : Option Nat) (v : V Ty.T) : enc (s.put d v) = (enc s).put d (encV s v) (encH s) := by
 unfold enc
 rw [encH_put]
 cases d with
 | none => rfl
 | some d =>
  simp only [St.put]
  congr 1
  funext n
  rw [encV_put]
  simp only [S.at, S.put, look_cons, upd]
  by_cases h : d = n
  ·subst h; simp
  ·rw [if_neg h, if_neg (fun e => h e.symm)]
theorem enc_stab {s s' : S Ty.T} (hi : Inv s) (h : Stab s s') : enc s' = ⟨(enc s).f, encH s'⟩ := by
 unfold enc
 congr 1
 funext n
 have : s'.at n = s.at n := by simp only [S.at, h.sl]
 rw [this, h.encV (hi.at n)]
def Ty.one : Ty → Bool
 | .u | .p _ _ => false
 | _ => true
theorem cs_one {t : Ty} (h : t.one = true) (v : t.T) : t.cs v = [oneOf (t.cs v)] := by cases t <;> simp [Ty.one] at h <;> rfl
theorem cs_len : ∀ (t : Ty) (v : t.T), (t.cs v).length = t.sz
 | .int _, _ => rfl
 | .bool, _ => rfl
 | .str, _ => rfl
 | .ls _, _ => rfl
 | .bf _ _, _ => rfl
 | .u, _ => rfl
 | .p a b, v => by simp [Ty.cs, Ty.sz, cs_len a, cs_len b]
theorem expl_enc (s : S Ty.T) : ∀ (t : Ty) (v : t.T), (expl val t v).map (encC s) = t.cs v
 | .int _, _ => rfl
 | .bool, _ => rfl
 | .str, _ => rfl
 | .ls _, _ => rfl
 | .bf _ _, _ => rfl
 | .u, _ => rfl
 | .p a b, v => by simp only [expl, List.map_append, Ty.cs]; rw [expl_enc s a, expl_enc s b]; rfl
theorem expl_len (t : Ty) (v : t.T) : (expl val t v).length = t.sz := by
 have := congrArg List.length (expl_enc ⟨[], [], [], []⟩ t v)
 rwa [List.length_map, cs_len] at this
theorem expl_ok (s : S Ty.T) : ∀ (t : Ty) (v : t.T), okCs s (expl val t v)
 | .int _, _ => fun c hc => by simp [expl] at hc; subst hc; intro r hr; simp [refs] at hr
 | .bool, _ => fun c hc => by simp [expl] at hc; subst hc; intro r hr; simp [refs] at hr
 | .str, _ => fun c hc => by simp [expl] at hc; subst hc; intro r hr; simp [refs] at hr
 | .ls _, _ => fun c hc => by simp [expl] at hc; subst hc; intro r hr; simp [refs] at hr
 | .bf _ _, _ => fun c hc => by simp [expl] at hc; subst hc; intro r hr; simp [refs] at hr
 | .u, _ => fun c hc => by simp [expl] at hc
 | .p a b, v => fun c hc => by
  simp only [expl, List.mem_append] at hc
  exact hc.elim (expl_ok s a _ c) (expl_ok s b _ c)
theorem cast_some {ι : Ty → Type} {a b : Ty} {v : ι a} {x : ι b} (h : cast? a b v = some x) : ∃ e : a = b, x = e ▸ v := by
 unfold cast? at h
 split at h
 ·rename_i e; injection h with h; exact ⟨e, h.symm⟩
 ·cases h
theorem leafOf_enc {s : S Ty.T} {t : Ty} {c : C Ty.T} {y : t.T} (h1 : t.one = true) (h : leafOf val t c = some y) : t.cs y = [encC s c] := by
 cases c with
 | lf t' v =>
  obtain ⟨e, rfl⟩ := cast_some (ι := Ty.T) h
  subst e
  exact cs_one h1 v
 | kb b =>
  obtain ⟨e, rfl⟩ := cast_some (ι := Ty.T) h
  subst e
  rfl
 | _ => simp [leafOf] at h
def Exact (s : S Ty.T) (lw : (t : Ty) → C Ty.T → Option t.T) : Prop := ∀ (t : Ty) (c : C Ty.T) (y : t.T), t.one = true → lw t c = some y → t.cs y = [encC s c]
theorem leafOf_exact (s : S Ty.T) : Exact s (leafOf val) := fun _ _ _ h1 h => leafOf_enc h1 h
theorem impl_enc {s : S Ty.T} {lw : (t : Ty) → C Ty.T → Option t.T} (hlw : Exact s lw) : ∀ (t : Ty) {l r : List (C Ty.T)} {x : t.T}, impl val lw t l = some (x, r) → l.map (encC s) = t.cs x ++ r.map (encC s)
 | .u, l, r, x, h => by simp only [impl] at h; injection h with h; simp only [Prod.mk.injEq] at h; obtain ⟨-, rfl⟩ := h; rfl
 | .p a b, l, r, x, h => by
  simp only [impl] at h
  cases ha : impl val lw a l with
  | none => rw [ha] at h; cases h
  | some p =>
   obtain ⟨u, l1⟩ := p
   rw [ha] at h
   simp only [Option.bind_some] at h
   cases hb : impl val lw b l1 with
   | none => rw [hb] at h; cases h
   | some q =>
    obtain ⟨v, l2⟩ := q
    rw [hb] at h
    simp only [Option.map_some, Option.some.injEq, Prod.mk.injEq] at h
    obtain ⟨rfl, rfl⟩ := h
    rw [impl_enc hlw a ha, impl_enc hlw b hb, ← List.append_assoc]
    rfl
 | .int k, l, r, x, h => by
  cases l with
  | nil => cases h
  | cons c l =>
   simp only [impl] at h
   cases hc : lw (.int k) c with
   | none => rw [hc] at h; cases h
   | some y => rw [hc] at h; simp only [Option.map_some, Option.some.injEq, Prod.mk.injEq] at h; obtain ⟨rfl, rfl⟩ := h; rw [hlw _ _ _ rfl hc]; rfl
 | .bool, l, r, x, h => by
  cases l with
  | nil => cases h
  | cons c l =>
   simp only [impl] at h
   cases hc : lw .bool c with
   | none => rw [hc] at h; cases h
   | some y => rw [hc] at h; simp only [Option.map_some, Option.some.injEq, Prod.mk.injEq] at h; obtain ⟨rfl, rfl⟩ := h; rw [hlw _ _ _ rfl hc]; rfl
 | .str, l, r, x, h => by
  cases l with
  | nil => cases h
  | cons c l =>
   simp only [impl] at h
   cases hc : lw .str c with
   | none => rw [hc] at h; cases h
   | some y => rw [hc] at h; simp only [Option.map_some, Option.some.injEq, Prod.mk.injEq] at h; obtain ⟨rfl, rfl⟩ := h; rw [hlw _ _ _ rfl hc]; rfl
 | .ls t, l, r, x, h => by
  cases l with
  | nil => cases h
  | cons c l =>
   simp only [impl] at h
   cases hc : lw (.ls t) c with
   | none => rw [hc] at h; cases h
   | some y => rw [hc] at h; simp only [Option.map_some, Option.some.injEq, Prod.mk.injEq] at h; obtain ⟨rfl, rfl⟩ := h; rw [hlw _ _ _ rfl hc]; rfl
 | .bf f t, l, r, x, h => by
  cases l with
  | nil => cases h
  | cons c l =>
   simp only [impl] at h
   cases hc : lw (.bf f t) c with
   | none => rw [hc] at h; cases h
   | some y => rw [hc] at h; simp only [Option.map_some, Option.some.injEq, Prod.mk.injEq] at h; obtain ⟨rfl, rfl⟩ := h; rw [hlw _ _ _ rfl hc]; rfl
theorem implN_enc {s : S Ty.T} {lw : (t : Ty) → C Ty.T → Option t.T} (hlw : Exact s lw) (t : Ty) : ∀ (n : Nat) {l : List (C Ty.T)} {x : List t.T}, implN val lw t n l = some x → l.map (encC s) = x.flatMap t.cs
 | 0, l, x, h => by cases h
 | n + 1, l, x, h => by
  cases l with
  | nil => simp only [implN] at h; injection h with h; subst h; rfl
  | cons c l =>
   simp only [implN] at h
   cases ha : impl val lw t (c :: l) with
   | none => rw [ha] at h; cases h
   | some p =>
    obtain ⟨u, r⟩ := p
    rw [ha] at h
    simp only [Option.bind_some] at h
    cases hb : implN val lw t n r with
    | none => rw [hb] at h; cases h
    | some y =>
     rw [hb] at h
     simp only [Option.map_some] at h
     obtain rfl : x = (u : t.T) :: (y : List t.T) := (Option.some.inj h).symm
     rw [impl_enc hlw t ha, implN_enc hlw t n hb]
     rfl
theorem cC_enc (s : S Ty.T) (v : AV) : encC s (cC val v) = v := by cases v <;> rfl
theorem cC_ok (s : S Ty.T) (v : AV) : okC s (cC val v) := by cases v <;> (intro r hr; simp [cC, refs] at hr)
end Go.Dn
namespace Go.Dn
open Go Go.Vv
set_option linter.unusedSimpArgs false
theorem ev_enc (s : S Ty.T) (x : LO) : (enc s).ev x = encV s (ev val s x) := by
 cases x with
 | t n => rfl
 | c v =>
  show v = encV s (cV val v)
  unfold cV
  split
  ·simp only [encV, List.map_map]
   congr 1
   exact (List.map_id _).symm.trans (List.map_congr_left fun v _ => (cC_enc s v).symm)
  ·rfl
  ·rfl
  ·exact (cC_enc s _).symm
theorem okV_c {s : S Ty.T} {c : C Ty.T} (h : okC s c) : okV s (.c c) := fun x hx => by simp [V.all] at hx; subst hx; exact h
theorem okC_leaf (s : S Ty.T) {c : C Ty.T} (h : refs c = []) : okC s c := fun r hr => by rw [h] at hr; cases hr
theorem ev_ok {s : S Ty.T} (hi : Inv s) (x : LO) : okV s (ev val s x) := by
 cases x with
 | t n => exact hi.at n
 | c v =>
  show okV s (cV val v)
  unfold cV
  split
  ·intro c hc
   obtain ⟨v, _, rfl⟩ := List.mem_map.1 (show c ∈ List.map _ _ from hc)
   exact cC_ok s v
  ·intro c hc; simp [V.all] at hc
  ·exact okV_c (okC_leaf s rfl)
  ·exact okV_c (cC_ok s _)
structure Sim (call : Vv.Call) (base g0 : Nat) (s : S Ty.T) (op : LOp) (v : V Ty.T) (s' : S Ty.T) : Prop where
 ev : evalOp call base (enc s) g0 op = some (encV s' v, encH s')
 st : Stab s s'
 iv : Inv s'
 ov : okV s' v
section
variable {call : Vv.Call} {base g0 : Nat} {s : S Ty.T} {α : Type} {r : α}
theorem orNo_some {β : Type} {x : Option β} {k : β → Option α} (h : orNo val x k = some r) : ∃ v, x = some v ∧ k v = some r := by
 cases x with
 | none => cases h
 | some v => exact ⟨v, rfl, h⟩
theorem gd_some {c : Bool} {x : Option α} (h : val.gd c x = some r) : c = true ∧ x = some r := by
 cases c with
 | true => exact ⟨rfl, h⟩
 | false => cases h
theorem br_some {c : Bool} {x y : Option α} (h : val.br c x y = some r) : (c = true ∧ x = some r) ∨ (c = false ∧ y = some r) := by
 cases c with
 | true => exact .inl ⟨rfl, h⟩
 | false => exact .inr ⟨rfl, h⟩
theorem ge_some {t : Ty} {l : List t.T} {i : Int} {k : t.T → Option α} (h : val.ge (t := t) l i k = some r) : ∃ x, 0 ≤ i ∧ l[i.toNat]? = some x ∧ k x = some r := by
 change obind (fget l i) k = some r at h
 unfold fget at h
 by_cases h0 : 0 ≤ i
 ·rw [if_pos h0] at h
  cases hx : l[i.toNat]? with
  | none => rw [hx] at h; cases h
  | some x => rw [hx] at h; exact ⟨x, h0, rfl, h⟩
 ·rw [if_neg h0] at h; cases h
theorem Sim.same (hi : Inv s) {op : LOp} {v : V Ty.T} (he : evalOp call base (enc s) g0 op = some (encV s v, encH s)) (hv : okV s v) : Sim call base g0 s op v s := ⟨he, .refl s, hi, hv⟩
theorem evI {x : LO} {k : IntKind} {a : Int} (h : intOf k (ev val s x) = some a) : (enc s).ev x = .int k a := by
 rw [ev_enc]
 unfold intOf at h
 split at h
 ·rename_i t v hx
  obtain ⟨e, rfl⟩ := cast_some (ι := Ty.T) h
  subst e
  rw [hx]; rfl
 ·cases h
theorem pk_enc {ag : Bool} {l : List (C Ty.T)} {v : V Ty.T} (h : pk ag l = some v) (s : S Ty.T) : encV s v = (if ag = true then .agg (l.map (encC s)) else (l.map (encC s)).headD .any) ∧ (∀ c ∈ v.all, c ∈ l) ∧ (ag = true ∨ l.length = 1) := by
 unfold pk at h
 split at h
 ·rename_i ha
  injection h with h
  subst h
  rw [if_pos ha]
  exact ⟨rfl, fun c hc => hc, .inl ha⟩
 ·rename_i ha
  split at h
  ·injection h with h
   subst h
   rw [if_neg ha]
   exact ⟨rfl, fun c hc => hc, .inr rfl⟩
  ·cases h
theorem pack_enc {ag : Bool} {l : List (C Ty.T)} {off n : Nat} {v : V Ty.T} (hn : off + n ≤ l.length) (h : pk ag (cutC l off n) = some v) (s : S Ty.T) : pack ag (l.map (encC s)) off n = some (encV s v) ∧ ∀ c ∈ v.all, c ∈ l := by
 obtain ⟨h1, h2, h3⟩ := pk_enc h s
 refine ⟨?_, fun c hc => List.mem_of_mem_drop (List.mem_of_mem_take (h2 c hc))⟩
 have hlen : (cutC l off n).length = n := by simp [cutC]; omega
 have hc : (cutC l off n).map (encC s) = cut (l.map (encC s)) off n := by simp [cutC, cut]
 unfold pack
 rw [if_pos (by simpa using hn), h1, hc]
 cases ag with
 | true => rfl
 | false =>
  rw [hlen] at h3
  have h3 : n = 1 := by simpa using h3
  subst h3
  simp only [Bool.false_eq_true, if_false]
  unfold cut
  have hlt : off < (l.map (encC s)).length := by simp; omega
  rw [List.getElem?_eq_getElem hlt, List.drop_eq_getElem_cons hlt]
  rfl
theorem mov_sim (hi : Inv s) {x : LO} : Sim call base g0 s (.mov x) (ev val s x) s := .same hi (by simp only [evalOp, ev_enc]; rfl) (ev_ok hi x)
theorem cell_mem {v : V Ty.T} : ∀ c ∈ v.cells, c ∈ v.all := by cases v <;> simp [V.cells, V.all]
theorem plain_one {c : C Ty.T} (h : c.plain = true) (s : S Ty.T) : (encC s c).one = true := by
 cases c with
 | lf t v => cases t <;> simp [C.plain] at h <;> rfl
 | any => cases h
 | k v => exact h
 | _ => rfl
theorem cells_enc {v : V Ty.T} (h : v.good = true) (s : S Ty.T) : (encV s v).cells = some (v.cells.map (encC s)) := by
 cases v with
 | tp l => cases h
 | ag l => rfl
 | c x =>
  have h1 := plain_one h s
  simp only [encV, V.cells, List.map_cons, List.map_nil]
  generalize encC s x = a at h1
  cases a <;> simp_all [AV.cells, AV.one]
end
end Go.Dn
namespace Go.Dn
open Go Go.Vv
set_option linter.unusedSimpArgs false
section
variable {call : Vv.Call} {base g0 : Nat} {s : S Ty.T} {α : Type} {r : α}
theorem Stab.encO {s s' : S Ty.T} (h : Stab s s') {o : Ob Ty.T} (hk : okCs s o.kids) : Dn.encO s' o = Dn.encO s o := by
 cases o with
 | box v cs => simp only [Dn.encO]; rw [h.encCs (show okCs s cs from hk)]
 | lit v e el cs z => simp only [Dn.encO]; rw [h.encCs (show okCs s cs from hk)]
 | row v e el t l x nest z =>
  have hx : okCs s x := fun c hc => hk c (by simp only [Ob.kids]; exact List.mem_append_right _ hc)
  simp only [Dn.encO]
  rw [h.encCs hx]
  cases nest with
  | none => rfl
  | some p =>
   simp only [nestC]
   rw [(h.ok p.2 (hk p.2 (by simp [Ob.kids]))).2]
theorem encO_ver (s : S Ty.T) (o : Ob Ty.T) : (Dn.encO s o).ver = o.ver := by cases o <;> rfl
theorem look_obj (g g' : Nat) (o : Ob Ty.T) : look g' (s.obj g o).ob = if g = g' then some o else look g' s.ob := look_cons g g' o s.ob
theorem stab_obj {g : Nat} {o : Ob Ty.T} (h : ∀ o0, look g s.ob = some o0 → o0.ver = o.ver ∧ o0.lenO = o.lenO) : Stab s (s.obj g o) := by
 refine ⟨rfl, rfl, fun c hc => ⟨fun r hr => ?_, ?_⟩⟩
 ·obtain ⟨o0, h1, h2⟩ := hc r hr
  rw [look_obj]
  by_cases hg : g = r.1
  ·subst hg; rw [if_pos rfl]; exact ⟨o, rfl, by rw [← (h o0 h1).1]; exact h2⟩
  ·rw [if_neg hg]; exact ⟨o0, h1, h2⟩
 ·cases c <;> try rfl
  rename_i g' v
  obtain ⟨o0, h1, h2⟩ := hc (g', v) (by simp [refs])
  simp only [Dn.encC, lenAt, look_obj]
  by_cases hg : g = g'
  ·subst hg
   obtain ⟨e1, e2⟩ := h o0 h1
   rw [if_pos rfl, h1]
   simp only [← e1, ← e2]
   rfl
  ·rw [if_neg hg]; rfl
theorem stab_app {g : Nat} {o0 o : Ob Ty.T} {n : Int} (h0 : look g s.ob = some o0) (hv : o.ver = o0.ver + 1) (hn : n.toNat = o0.lenO) : Stab s ((s.old g o0.ver n).obj g o) := by
 refine ⟨rfl, rfl, fun c hc => ⟨fun r hr => ?_, ?_⟩⟩
 ·obtain ⟨o1, h1, h2⟩ := hc r hr
  show ∃ o', look r.1 ((g, o) :: s.ob) = some o' ∧ _
  rw [look_cons]
  by_cases hg : g = r.1
  ·subst hg; rw [if_pos rfl]; rw [h0] at h1; injection h1 with h1; subst h1; exact ⟨o, rfl, by omega⟩
  ·rw [if_neg hg]; exact ⟨o1, h1, h2⟩
 ·cases c <;> try rfl
  rename_i g' v
  obtain ⟨o1, h1, h2⟩ := hc (g', v) (by simp [refs])
  have e : look g' ((s.old g o0.ver n).obj g o).ob = if g = g' then some o else look g' s.ob := look_cons g g' o s.ob
  simp only [Dn.encC, lenAt, e]
  by_cases hg : g = g'
  ·subst hg
   rw [h0] at h1
   injection h1 with h1
   subst h1
   simp only at h2
   rw [if_pos rfl, h0]
   simp only
   rw [if_neg (by omega : ¬ o.ver = v)]
   show AV.arr g v 0 (wasAt g v ((g, o0.ver, n) :: s.ln)) = _
   simp only [wasAt, true_and]
   by_cases hov : o0.ver = v
   ·rw [if_pos hov, if_pos hov]; exact congrArg _ hn
   ·rw [if_neg hov, if_neg hov]
  ·rw [if_neg hg]
   cases ho : look g' s.ob with
   | none => rfl
   | some o2 =>
    simp only
    by_cases hv2 : o2.ver = v
    ·rw [if_pos hv2, if_pos hv2]
    ·rw [if_neg hv2, if_neg hv2]
     show AV.arr g' v 0 (wasAt g' v ((g, o0.ver, n) :: s.ln)) = _
     simp only [wasAt]
     rw [if_neg (fun h => hg h.1)]
theorem encH_obj (hi : Inv s) {s' : S Ty.T} {g : Nat} {o : Ob Ty.T} (hs : Stab s s') (hl : ∀ g', look g' s'.ob = if g = g' then some o else look g' s.ob) : encH s' = upd (encH s) g (some (Dn.encO s' o)) := by
 funext g'
 simp only [encH, hl, upd]
 by_cases hg : g = g'
 ·subst hg; simp
 ·rw [if_neg hg, if_neg (fun e => hg e.symm)]
  cases ho : look g' s.ob with
  | none => rfl
  | some o' => simp only [Option.map_some]; rw [hs.encO (hi.ob g' o' ho)]
theorem inv_obj (hi : Inv s) {s' : S Ty.T} {g : Nat} {o : Ob Ty.T} (hs : Stab s s') (hl : ∀ g', look g' s'.ob = if g = g' then some o else look g' s.ob) (hk : okCs s' o.kids) : Inv s' :=
 hi.stab hs fun g' o' h => by
  rw [hl] at h
  by_cases hg : g = g'
  ·rw [if_pos hg] at h; injection h with h; subst h; exact .inr hk
  ·rw [if_neg hg] at h; exact .inl h
theorem encH_none {g : Nat} (h : look g s.ob = none) : encH s g = none := by simp [encH, h]
theorem encH_some {g : Nat} {o : Ob Ty.T} (h : look g s.ob = some o) : encH s g = some (Dn.encO s o) := by simp [encH, h]
theorem newVer_enc (g : Nat) : newVer (encH s) g = s.nv g := by
 unfold newVer S.nv
 cases h : look g s.ob with
 | none => rw [encH_none h]
 | some o => rw [encH_some h]; simp only [encO_ver]
theorem new_sim (hi : Inv s) {op : LOp} {v : V Ty.T} {o : Ob Ty.T} {av : AV} {ao : AObj} (h0 : look g0 s.ob = none) (he : evalOp call base (enc s) g0 op = some (av, upd (encH s) g0 (some ao)))
  (hv : encV (s.obj g0 o) v = av) (ho : Dn.encO (s.obj g0 o) o = ao) (hk : okCs (s.obj g0 o) o.kids) (hok : okV (s.obj g0 o) v) : Sim call base g0 s op v (s.obj g0 o) := by
 have hs : Stab s (s.obj g0 o) := stab_obj fun o0 h => by rw [h0] at h; cases h
 refine ⟨?_, hs, inv_obj hi hs (fun g' => look_obj g0 g' o) hk, hok⟩
 rw [he, hv, encH_obj hi hs (fun g' => look_obj g0 g' o), ho]
theorem ok_self {g : Nat} {o : Ob Ty.T} {c : C Ty.T} (h : refs c = [(g, o.ver)]) : okC (s.obj g o) c := fun r hr => by
 rw [h] at hr
 simp at hr
 subst hr
 exact ⟨o, by rw [look_obj, if_pos rfl], Nat.le_refl _⟩
theorem alloc_sim (hi : Inv s) {z : List AV} (h0 : look g0 s.ob = none) : Sim call base g0 s (.alloc z) (.c (.ptr g0 (s.nv g0) 0)) (s.obj g0 (.box (s.nv g0) (z.map (cC val)))) := by
 refine new_sim hi h0 (by simp only [evalOp]; rfl) ?_ ?_ (fun c hc => ?_) (okV_c (ok_self rfl))
 ·simp only [encV, encC]; rw [show (enc s).h = encH s from rfl, newVer_enc]
 ·simp only [Dn.encO, List.map_map]
  rw [show (enc s).h = encH s from rfl, newVer_enc]
  congr 1
  exact (List.map_congr_left fun v _ => cC_enc _ v).trans (List.map_id _)
 ·obtain ⟨v, _, rfl⟩ := List.mem_map.1 (show c ∈ List.map _ _ from hc)
  exact cC_ok _ v
theorem box_sim (hi : Inv s) {x : LO} (h0 : look g0 s.ob = none) (hg : (ev val s x).good = true) : Sim call base g0 s (.box x) (.c (.ptr g0 (s.nv g0) 0)) (s.obj g0 (.box (s.nv g0) (ev val s x).cells)) := by
 have hs : Stab s (s.obj g0 (.box (s.nv g0) (ev val s x).cells)) := stab_obj fun o0 h => by rw [h0] at h; cases h
 have hc : okCs s (ev val s x).cells := fun c hc => ev_ok hi x c (cell_mem c hc)
 refine new_sim hi h0 (by simp only [evalOp]; rw [ev_enc, cells_enc hg]; rfl) ?_ ?_ (fun c h => (hs.ok c (hc c h)).1) (okV_c (ok_self rfl))
 ·simp only [encV, encC]; rw [show (enc s).h = encH s from rfl, newVer_enc]
 ·simp only [Dn.encO]
  rw [hs.encCs hc, show (enc s).h = encH s from rfl, newVer_enc]
theorem pasteC_enc (l : List (C Ty.T)) (off : Nat) (new : List (C Ty.T)) (f : C Ty.T → AV) : (pasteC l off new).map f = paste (l.map f) off (new.map f) := by simp [pasteC, paste]
theorem pasteC_ok {l new : List (C Ty.T)} {off : Nat} {s : S Ty.T} (h1 : okCs s l) (h2 : okCs s new) : okCs s (pasteC l off new) := fun c hc => by
 simp only [pasteC, List.mem_append] at hc
 rcases hc with (hc | hc) | hc
 ·exact h1 c (List.mem_of_mem_take hc)
 ·exact h2 c hc
 ·exact h1 c (List.mem_of_mem_drop hc)
theorem pasteC_len {l new : List (C Ty.T)} {off : Nat} (h : off + new.length ≤ l.length) : (pasteC l off new).length = l.length := by simp [pasteC]; omega
theorem fills_enc (hi : Inv s) : ∀ {ps : List (Nat × Nat × LO)} {z l : List (C Ty.T)}, okCs s z → fillsC (ev val s) z ps = some l → fills (enc s).ev (z.map (encC s)) ps = some (l.map (encC s)) ∧ okCs s l
 | [], z, l, hz, h => by simp only [fillsC] at h; injection h with h; subst h; exact ⟨rfl, hz⟩
 | (off, n, x) :: ps, z, l, hz, h => by
  simp only [fillsC] at h
  split at h
  ·rename_i hc
   obtain ⟨e1, e2, e3⟩ := hc
   have hx : okCs s (ev val s x).cells := fun c hc => ev_ok hi x c (cell_mem c hc)
   obtain ⟨f1, f2⟩ := fills_enc hi (pasteC_ok hz hx) h
   refine ⟨?_, f2⟩
   simp only [fills, ev_enc, cells_enc e3]
   rw [if_pos (by simp; omega), ← f1, pasteC_enc]
  ·cases h
theorem build_sim (hi : Inv s) {z : List AV} {ps : List (Nat × Nat × LO)} {l : List (C Ty.T)} (h : fillsC (ev val s) (z.map (cC val)) ps = some l) : Sim call base g0 s (.build z ps) (.ag l) s := by
 obtain ⟨f1, f2⟩ := fills_enc hi (fun c hc => by obtain ⟨v, _, rfl⟩ := List.mem_map.1 hc; exact cC_ok s v) h
 have hz : (z.map (cC val)).map (encC s) = z := by rw [List.map_map]; exact (List.map_congr_left fun v _ => cC_enc s v).trans (List.map_id _)
 rw [hz] at f1
 exact .same hi (by simp only [evalOp, f1]; rfl) f2
theorem repC_enc (z : List AV) (s : S Ty.T) : ∀ n, (repC (z.map (cC val)) n).map (encC s) = repeatL z n
 | 0 => rfl
 | n + 1 => by
  simp only [repC, repeatL, List.map_append, repC_enc z s n, List.map_map]
  congr 1
  exact (List.map_congr_left fun v _ => cC_enc s v).trans (List.map_id _)
theorem repC_ok (z : List AV) (s : S Ty.T) : ∀ n, okCs s (repC (z.map (cC val)) n)
 | 0 => fun c hc => by cases hc
 | n + 1 => fun c hc => by
  simp only [repC, List.mem_append] at hc
  rcases hc with hc | hc
  ·obtain ⟨v, _, rfl⟩ := List.mem_map.1 hc; exact cC_ok s v
  ·exact repC_ok z s n c hc
theorem lenAt_self {g : Nat} {o : Ob Ty.T} : lenAt (s.obj g o) g o.ver = o.lenO := by simp [lenAt, look_obj]
theorem bslice_sim (hi : Inv s) {n esz : Nat} {el : TypeId} {z : List AV} {ps : List (Nat × Nat × LO)} {l : List (C Ty.T)} (h0 : look g0 s.ob = none) (h : fillsC (ev val s) (repC (z.map (cC val)) n) ps = some l)
  (hl : l.length = n * esz) (he : 0 < esz) : Sim call base g0 s (.bslice n esz el z ps) (.c (.own g0 (s.nv g0))) (s.obj g0 (.lit (s.nv g0) esz el l false)) := by
 have hs : Stab s (s.obj g0 (.lit (s.nv g0) esz el l false)) := stab_obj fun o0 h => by rw [h0] at h; cases h
 obtain ⟨f1, f2⟩ := fills_enc hi (repC_ok z s n) h
 rw [repC_enc] at f1
 refine new_sim hi h0 (by simp only [evalOp, f1]; rfl) ?_ ?_ (fun c hc => (hs.ok c (f2 c hc)).1) (okV_c (ok_self rfl))
 ·simp only [encV, encC]
  rw [show lenAt (s.obj g0 (.lit (s.nv g0) esz el l false)) g0 (s.nv g0) = l.length / esz from lenAt_self (o := .lit (s.nv g0) esz el l false), show (enc s).h = encH s from rfl, newVer_enc, hl, Nat.mul_div_cancel _ he]
 ·simp only [Dn.encO]
  rw [hs.encCs f2, show (enc s).h = encH s from rfl, newVer_enc]
end
end Go.Dn
namespace Go.Dn
open Go Go.Vv
set_option linter.unusedSimpArgs false
theorem flat_len {t : Ty} : ∀ l : List t.T, (l.flatMap t.cs).length = l.length * t.sz
 | [] => by simp
 | x :: l => by simp only [List.flatMap_cons, List.length_append, cs_len, flat_len l, List.length_cons, Nat.add_mul]; omega
theorem flat_cut {t : Ty} : ∀ {l : List t.T} {i : Nat} {e : t.T}, l[i]? = some e → cut (l.flatMap t.cs) (i * t.sz) t.sz = t.cs e
 | [], i, e, h => by cases h
 | x :: l, 0, e, h => by
  simp at h
  subst h
  simp only [cut, List.flatMap_cons, Nat.zero_mul, List.drop_zero]
  rw [List.take_append_of_le_length (by rw [cs_len]; exact Nat.le_refl _), List.take_of_length_le (by rw [cs_len]; exact Nat.le_refl _)]
 | x :: l, i + 1, e, h => by
  have h : l[i]? = some e := by simpa using h
  have := flat_cut h
  simp only [cut, List.flatMap_cons] at this ⊢
  rw [show (i + 1) * t.sz = (t.cs x).length + i * t.sz by rw [cs_len, Nat.add_mul]; omega, List.drop_append, List.drop_eq_nil_of_le (by omega), List.nil_append]
  rw [show (t.cs x).length + i * t.sz - (t.cs x).length = i * t.sz by omega]
  exact this
theorem cut_cut {L : List AV} {a m off n : Nat} (h : off + n ≤ m) : cut (cut L a m) off n = cut L (a + off) n := by
 simp only [cut, List.drop_take, List.drop_drop, List.take_take]
 rw [Nat.min_eq_left (by omega)]
theorem cut_len {L : List AV} {a m : Nat} (hl : a + m ≤ L.length) : (cut L a m).length = m := by simp [cut]; omega
theorem pack_cut {ag : Bool} {L : List AV} {a m off n : Nat} (h : off + n ≤ m) (hl : a + m ≤ L.length) (hn : ag = true ∨ n = 1) : pack ag L (a + off) n = pack ag (cut L a m) off n := by
 unfold pack
 rw [if_pos (by omega : a + off + n ≤ L.length), if_pos (by rw [cut_len hl]; exact h : off + n ≤ (cut L a m).length), cut_cut h]
 cases ag with
 | true => rfl
 | false =>
  have : n = 1 := by simpa using hn
  subst this
  simp only [Bool.false_eq_true, if_false, cut, List.getElem?_take, List.getElem?_drop]
  rw [if_pos (by omega)]
theorem cut_set_out {L : List AV} {k a n : Nat} {c : AV} (h : k < a ∨ a + n ≤ k) : cut (L.set k c) a n = cut L a n := by
 refine List.ext_getElem? fun j => ?_
 simp only [cut, List.getElem?_take, List.getElem?_drop]
 by_cases hj : j < n
 ·rw [if_pos hj, if_pos hj, List.getElem?_set_ne (by omega)]
 ·rw [if_neg hj, if_neg hj]
theorem cut_set_in {L : List AV} {a n no : Nat} {c : AV} (h : no < n) : cut (L.set (a + no) c) a n = (cut L a n).set no c := by
 refine List.ext_getElem? fun j => ?_
 simp only [cut, List.getElem?_take, List.getElem?_drop, List.getElem?_set, List.length_take, List.length_drop]
 by_cases hj : j < n
 ·by_cases hk : no = j
  ·subst hk
   simp only [if_pos hj, if_true]
   by_cases hl : a + no < L.length
   ·rw [if_pos hl, if_pos (by omega)]
   ·rw [if_neg hl, if_neg (by omega)]
  ·rw [if_pos hj, if_neg (by omega), if_neg hk, if_pos hj]
 ·rw [if_neg hj, if_neg (by omega), if_neg hj]
theorem pack_drop {ag : Bool} {L : List AV} {off n : Nat} (h : off + n ≤ L.length) (hn : ag = true ∨ n = 1) : pack ag (L.drop off) 0 n = pack ag L off n := by
 unfold pack
 rw [if_pos (by simp; omega), if_pos h]
 cases ag with
 | true => simp [cut]
 | false =>
  have : n = 1 := by simpa using hn
  subst this
  simp
section
variable {call : Vv.Call} {base g0 : Nat} {s : S Ty.T} {α : Type} {r : α}
theorem nestC_len (l : List AV) (n sz : Nat) (ec : C Ty.T → AV) (x : Option (Nat × C Ty.T)) : (nestC l n sz ec x).length = l.length := by cases x <;> simp [nestC]
theorem row_ne {t : Ty} {l : List t.T} {i : Nat} {e : t.T} {n : Option (Nat × C Ty.T)} {ec : C Ty.T → AV} (h : l[i]? = some e) (hz : 0 < t.sz) : nestC (l.flatMap t.cs) l.length t.sz ec n ≠ [] := by
 intro h0
 have := congrArg List.length h0
 rw [nestC_len, flat_len] at this
 have hl := (List.getElem?_eq_some_iff.1 h).1
 rcases Nat.mul_eq_zero.1 this with h1 | h1 <;> omega
theorem pk_n {ag : Bool} {l : List (C Ty.T)} {v : V Ty.T} (h : pk ag l = some v) : ag = true ∨ l.length = 1 := (pk_enc h ⟨[], [], [], []⟩).2.2
theorem cutC_len {l : List (C Ty.T)} {off n : Nat} (h : off + n ≤ l.length) : (cutC l off n).length = n := by simp [cutC]; omega
theorem eql_add {i : Int} {n : Nat} (h : val.cm .eql .i64 (val.pl i (1 : Int)) ((n : Nat) : Int) = true) : i + 1 = n := by
 have : ((i + 1 : Int) == (n : Int)) = true := h
 simpa using this
theorem elem_cut {t : Ty} {l : List t.T} {i : Nat} {e : t.T} (h : l[i]? = some e) (s : S Ty.T) (nest : Option (Nat × C Ty.T)) (hno : ∀ p, nest = some p → p.1 < t.sz) :
  cut (nestC (l.flatMap t.cs) l.length t.sz (encC s) nest) (i * t.sz) t.sz = (match nest with | some p => if i + 1 = l.length then (t.cs e).set p.1 (encC s p.2) else t.cs e | none => t.cs e) := by
 have hl := (List.getElem?_eq_some_iff.1 h).1
 cases nest with
 | none => exact flat_cut h
 | some p =>
  have hp := hno p rfl
  simp only [nestC]
  split
  ·rename_i hi
   rw [show l.length - 1 = i by omega, cut_set_in hp, flat_cut h]
  ·rename_i hi
   rw [cut_set_out, flat_cut h]
   right
   have : (i + 1) * t.sz ≤ (l.length - 1) * t.sz := Nat.mul_le_mul_right _ (by omega)
   rw [Nat.add_mul] at this
   omega
theorem load_sim (hi : Inv s) {ag : Bool} {n : Nat} {x : V Ty.T} {k : V Ty.T → Option α} (hx : okV s x) (h : loadD val s ag n x k = some r) : ∃ v, loadV (encH s) ag n (encV s x) = some (encV s v) ∧ okV s v ∧ k v = some r := by
 unfold loadD at h
 split at h
 ·rename_i g ver off
  split at h
  ·rename_i v cs ho
   split at h
   ·rename_i hc
    obtain ⟨rfl, hn⟩ := hc
    obtain ⟨u, h1, h2⟩ := orNo_some h
    obtain ⟨p1, p2⟩ := pack_enc hn h1 s
    refine ⟨u, ?_, fun c hc => hi.ob _ _ ho c (p2 c hc), h2⟩
    simp only [loadV, derefC, encV, encC, encH_some ho, encO]
    rw [if_pos trivial]
    exact p1
   ·cases h
  ·rename_i v e el cs z ho
   split at h
   ·rename_i hc
    obtain ⟨rfl, hn, hne⟩ := hc
    obtain ⟨u, h1, h2⟩ := orNo_some h
    obtain ⟨p1, p2⟩ := pack_enc hn h1 s
    refine ⟨u, ?_, fun c hc => hi.ob _ _ ho c (p2 c hc), h2⟩
    simp only [loadV, derefC, encV, encC, encH_some ho, encO]
    rw [if_pos ⟨trivial, by simpa using hne⟩]
    exact p1
   ·cases h
  ·cases h
 ·rename_i g ver esz i off
  split at h
  ·rename_i v e el t l nest z ho
   obtain ⟨L, rfl⟩ : ∃ L : List t.T, (show Ty.T (.ls t) from L) = l := ⟨l, rfl⟩
   obtain ⟨I0, rfl⟩ : ∃ I0 : Int, (show Ty.T I from I0) = i := ⟨i, rfl⟩
   split at h
   ·rename_i hc
    obtain ⟨rfl, rfl, he, hn, hz⟩ := hc
    subst he
    obtain ⟨y, h0, hy, h⟩ := ge_some (l := L) (i := I0) h
    have hl := (List.getElem?_eq_some_iff.1 hy).1
    have hle : I0.toNat * t.sz + t.sz ≤ (nestC (L.flatMap t.cs) L.length t.sz (encC s) nest).length := by
     rw [nestC_len, flat_len]
     have : (I0.toNat + 1) * t.sz ≤ L.length * t.sz := Nat.mul_le_mul_right _ hl
     rw [Nat.add_mul] at this
     omega
    have key : ∀ {E : List (C Ty.T)} {u : V Ty.T}, E.length = t.sz → (ag = true ∨ n = 1 → pack ag (cut (nestC (L.flatMap t.cs) L.length t.sz (encC s) nest) (I0.toNat * t.sz) t.sz) off n = pack ag (E.map (encC s)) off n) → pk ag (cutC E off n) = some u → loadV (encH s) ag n (encV s (.c (.pti g v t.sz (show Ty.T I from I0) off))) = some (encV s u) ∧ ∀ c ∈ u.all, c ∈ E := by
     intro E u hE hcut hu
     obtain ⟨p1, p2⟩ := pack_enc (by rw [hE]; exact hn) hu s
     refine ⟨?_, p2⟩
     have hagn := pk_n hu
     rw [cutC_len (by rw [hE]; exact hn)] at hagn
     simp only [loadV, derefC, encV, encC, encH_some ho, encO, List.map_nil, List.append_nil]
     rw [if_pos ⟨trivial, row_ne hy hz⟩]
     simp only
     rw [show (show Int from (show Ty.T I from I0)).toNat = I0.toNat from rfl]
     exact (pack_cut hn hle hagn).trans ((hcut hagn).trans p1)
    cases nest with
    | none =>
     obtain ⟨u, h1, h2⟩ := orNo_some h
     obtain ⟨p1, p2⟩ := key (expl_len t y) (fun _ => by rw [elem_cut hy s none (fun p hp => by cases hp), expl_enc]) h1
     exact ⟨u, p1, fun c hc => expl_ok s t y c (p2 c hc), h2⟩
    | some p =>
     obtain ⟨no, c⟩ := p
     simp only at h
     split at h
     ·rename_i hr
      obtain ⟨g1, h⟩ := gd_some h
      have g1 := eql_add (n := L.length) g1
      obtain ⟨u, h1, h2⟩ := orNo_some h
      obtain ⟨p1, p2⟩ := key (by rw [List.length_set, expl_len]) (fun _ => by
       rw [elem_cut hy s (some (no, c)) (fun p hp => by cases hp; simp only; omega)]
       simp only
       rw [if_pos (by omega), List.map_set, expl_enc]) h1
      refine ⟨u, p1, fun c' hc => ?_, h2⟩
      rcases List.mem_or_eq_of_mem_set (p2 c' hc) with h3 | h3
      ·exact expl_ok s t y c' h3
      ·rw [h3]; exact hi.ob _ _ ho c (by simp [Ob.kids])
     ·rename_i hr
      obtain ⟨u, h1, h2⟩ := orNo_some h
      obtain ⟨p1, p2⟩ := key (expl_len t y) (fun hagn => by
       rw [expl_enc, ← pack_cut hn hle hagn]
       have hf : I0.toNat * t.sz + t.sz ≤ (L.flatMap t.cs).length := by rwa [nestC_len] at hle
       rw [← flat_cut hy, ← pack_cut hn hf hagn]
       simp only [nestC]
       have ho : (L.length - 1) * t.sz + no < I0.toNat * t.sz + off ∨ I0.toNat * t.sz + off + n ≤ (L.length - 1) * t.sz + no := by
        by_cases hi : I0.toNat + 1 = L.length
        ·rw [show L.length - 1 = I0.toNat by omega]; omega
        ·have : (I0.toNat + 1) * t.sz ≤ (L.length - 1) * t.sz := Nat.mul_le_mul_right _ (by omega)
         rw [Nat.add_mul] at this
         omega
       unfold pack
       rw [List.length_set, cut_set_out ho]
       cases ag with
       | true => rfl
       | false =>
        have : n = 1 := by simpa using hagn
        subst this
        simp only [Bool.false_eq_true, if_false]
        rw [List.getElem?_set_ne (by omega)]) h1
      exact ⟨u, p1, fun c hc => expl_ok s t y c (p2 c hc), h2⟩
   ·cases h
  ·cases h
 ·rename_i t v off
  split at h
  ·rename_i hn
   obtain ⟨u, h1, h2⟩ := orNo_some h
   obtain ⟨p1, p2⟩ := pack_enc (by rw [expl_len]; exact hn) h1 s
   refine ⟨u, ?_, fun c hc => expl_ok s t v c (p2 c hc), h2⟩
   have hagn := pk_n h1
   rw [cutC_len (by rw [expl_len]; exact hn)] at hagn
   rw [expl_enc] at p1
   simp only [loadV, derefC, encV, encC]
   rw [pack_drop (by rw [cs_len]; exact hn) hagn]
   exact p1
  ·cases h
 ·cases h
end
end Go.Dn
namespace Go.Dn
open Go Go.Vv
set_option linter.unusedSimpArgs false
theorem paste_ext {L L' c c' : List AV} {a : Nat} (h1 : a + c.length ≤ L.length) (hl : L'.length = L.length) (hc : c'.length = c.length) (h : ∀ i, (if a ≤ i ∧ i < a + c.length then c'[i - a]? else L'[i]?) = (if a ≤ i ∧ i < a + c.length then c[i - a]? else L[i]?)) : paste L' a c' = paste L a c := by
 refine List.ext_getElem? fun i => ?_
 rw [paste_get (by omega), paste_get h1, hc]
 exact h i
theorem paste_set_in {L c : List AV} {a k : Nat} {v : AV} (h : a + c.length ≤ L.length) (h1 : a ≤ k) (h2 : k < a + c.length) : paste (L.set k v) a c = paste L a c := by
 refine paste_ext h (by simp) rfl fun i => ?_
 by_cases hi : a ≤ i ∧ i < a + c.length
 ·rw [if_pos hi, if_pos hi]
 ·rw [if_neg hi, if_neg hi, List.getElem?_set_ne (by omega)]
theorem paste_set_out {L c : List AV} {a k : Nat} {v : AV} (h : a + c.length ≤ L.length) (h1 : k < a ∨ a + c.length ≤ k) : paste (L.set k v) a c = (paste L a c).set k v := by
 refine List.ext_getElem? fun i => ?_
 rw [paste_get (by simpa using h), List.getElem?_set, List.getElem?_set, paste_get h, paste_len h]
 by_cases hi : a ≤ i ∧ i < a + c.length
 ·rw [if_pos hi, if_pos hi, if_neg (by omega)]
 ·rw [if_neg hi, if_neg hi]
theorem paste_set_c {L c : List AV} {a j : Nat} {v : AV} (h : a + c.length ≤ L.length) (hj : j < c.length) : paste L a (c.set j v) = (paste L a c).set (a + j) v := by
 refine List.ext_getElem? fun i => ?_
 rw [paste_get (by simpa using h), List.length_set, List.getElem?_set (l := paste L a c), paste_get h, paste_len h, List.getElem?_set (l := c)]
 by_cases hi : a ≤ i ∧ i < a + c.length
 ·rw [if_pos hi, if_pos hi]
  by_cases hk : a + j = i
  ·rw [if_pos (by omega), if_pos hk, if_pos hj, if_pos (by omega)]
  ·rw [if_neg (by omega), if_neg hk]
 ·rw [if_neg hi, if_neg hi, if_neg (by omega)]
theorem paste_append (A B c : List AV) (k : Nat) : paste (A ++ B) (A.length + k) c = A ++ paste B k c := by
 simp only [paste, List.append_assoc]
 rw [List.take_append, List.take_of_length_le (by omega), Nat.add_sub_cancel_left, List.append_assoc, Nat.add_assoc, List.drop_append, List.drop_eq_nil_of_le (by omega), Nat.add_sub_cancel_left, List.nil_append]
theorem flat_set {t : Ty} {c : List AV} {off : Nat} {x z : t.T} (hz : t.cs z = paste (t.cs x) off c) (hoff : off + c.length ≤ t.sz) : ∀ {l : List t.T} {i : Nat}, l[i]? = some x → (l.set i z).flatMap t.cs = paste (l.flatMap t.cs) (i * t.sz + off) c
 | [], i, h => by cases h
 | y :: l, 0, h => by
  simp at h
  subst h
  simp only [List.set_cons_zero, List.flatMap_cons, Nat.zero_mul, Nat.zero_add]
  rw [hz]
  simp only [paste]
  have hl := cs_len t y
  rw [List.take_append_of_le_length (by omega), List.drop_append_of_le_length (by omega)]
  simp
 | y :: l, i + 1, h => by
  have h : l[i]? = some x := by simpa using h
  have := flat_set hz hoff h
  simp only [List.set_cons_succ, List.flatMap_cons, this]
  rw [show (i + 1) * t.sz + off = (t.cs y).length + (i * t.sz + off) by rw [cs_len, Nat.add_mul]; omega, paste_append]
theorem set_self {β : Type} {l : List β} {i : Nat} {x : β} (h : l[i]? = some x) : l.set i x = l := by
 obtain ⟨h1, rfl⟩ := List.getElem?_eq_some_iff.1 h
 exact List.set_getElem_self h1
section
variable {call : Vv.Call} {base g0 : Nat} {s : S Ty.T} {α : Type} {r : α}
theorem impl_all {lw : (t : Ty) → C Ty.T → Option t.T} (hlw : Exact s lw) {t : Ty} {l q : List (C Ty.T)} {x : t.T} (h : impl val lw t l = some (x, q)) (hq : q.isEmpty = true) : t.cs x = l.map (encC s) := by
 have := impl_enc hlw t h
 rw [List.isEmpty_iff.1 hq] at this
 simpa using this.symm
theorem storeV_of {h : Heap} {n g ver off : Nat} {y : AV} {c : List AV} (hc : y.cells = some c) (hl : c.length = n) : storeV h n (.ptr g ver off) y = (match h g with
  | some (.box ver' cells) => if ver = ver' ∧ off + n ≤ cells.length then some (upd h g (some (.box ver' (paste cells off c)))) else none
  | some (.arr ver' esz el cells false) => if ver = ver' ∧ off + n ≤ cells.length ∧ cells ≠ [] then some (upd h g (some (.arr ver' esz el (paste cells off c) false))) else none
  | _ => none) := by
 unfold storeV
 rw [hc]
 simp only
 rw [if_pos hl]
 rfl
theorem store_sim (hi : Inv s) {n : Nat} {x y : V Ty.T} {k : S Ty.T → Option α} (hy : okV s y) (h : storeD val s n x y k = some r) : ∃ s', Stab s s' ∧ Inv s' ∧ storeV (encH s) n (encV s x) (encV s y) = some (encH s') ∧ k s' = some r := by
 unfold storeD at h
 split at h
 ·cases h
 rename_i hyn
 have hg : y.good = true := by
  cases hg : y.good with
  | true => rfl
  | false => exact (hyn (.inr hg)).elim
 have hlen : y.cells.length = n := by
  by_cases h1 : y.cells.length = n
  ·exact h1
  ·exact (hyn (.inl h1)).elim
 have hyc : okCs s y.cells := fun c hc => hy c (cell_mem c hc)
 have hcl : (y.cells.map (encC s)).length = n := by simpa using hlen
 have hsv : ∀ g ver off, storeV (encH s) n (.ptr g ver off) (encV s y) = _ := fun g ver off => storeV_of (cells_enc hg s) hcl
 have fin : ∀ {g : Nat} {o : Ob Ty.T} {ao : AObj}, (∀ o0, look g s.ob = some o0 → o0.ver = o.ver ∧ o0.lenO = o.lenO) → okCs s o.kids → encO s o = ao → Stab s (s.obj g o) ∧ Inv (s.obj g o) ∧ encH (s.obj g o) = upd (encH s) g (some ao) := by
  intro g o ao h1 h2 h3
  have hs := stab_obj h1
  refine ⟨hs, inv_obj hi hs (fun g' => look_obj g g' o) (fun c hc => (hs.ok c (h2 c hc)).1), ?_⟩
  rw [encH_obj hi hs (fun g' => look_obj g g' o), hs.encO h2, h3]
 split at h
 ·rename_i g ver off
  split at h
  ·rename_i v cs ho
   split at h
   ·rename_i hc
    obtain ⟨rfl, hn⟩ := hc
    obtain ⟨f1, f2, f3⟩ := fin (g := g) (o := .box v (pasteC cs off y.cells)) (fun o0 h0 => by rw [ho] at h0; cases h0; exact ⟨rfl, rfl⟩) (pasteC_ok (hi.ob _ _ ho) hyc) rfl
    refine ⟨_, f1, f2, ?_, h⟩
    rw [f3, encV, encC, hsv, encH_some ho]
    simp only [encO]
    rw [if_pos ⟨trivial, by simpa using hn⟩, pasteC_enc]
   ·cases h
  ·rename_i v e el cs ho
   split at h
   ·rename_i hc
    obtain ⟨rfl, hn, hne⟩ := hc
    obtain ⟨f1, f2, f3⟩ := fin (g := g) (o := .lit v e el (pasteC cs off y.cells) false) (fun o0 h0 => by rw [ho] at h0; cases h0; exact ⟨rfl, by simp only [Ob.lenO]; rw [pasteC_len (by omega)]⟩) (pasteC_ok (hi.ob _ _ ho) hyc) rfl
    refine ⟨_, f1, f2, ?_, h⟩
    rw [f3, encV, encC, hsv, encH_some ho]
    simp only [encO]
    rw [if_pos ⟨trivial, by simpa using hn, by simpa using hne⟩, pasteC_enc]
   ·cases h
  ·cases h
 ·rename_i g ver esz i off
  split at h
  ·rename_i v e el t l nest ho
   obtain ⟨L, rfl⟩ : ∃ L : List t.T, (show Ty.T (.ls t) from L) = l := ⟨l, rfl⟩
   obtain ⟨I0, rfl⟩ : ∃ I0 : Int, (show Ty.T I from I0) = i := ⟨i, rfl⟩
   split at h
   ·rename_i hc
    obtain ⟨rfl, rfl, he, hn, hz⟩ := hc
    subst he
    obtain ⟨w, h0, hw, h⟩ := ge_some (l := L) (i := I0) h
    have hl := (List.getElem?_eq_some_iff.1 hw).1
    have hfl : I0.toNat * t.sz + t.sz ≤ (L.flatMap t.cs).length := by
     rw [flat_len]
     have : (I0.toNat + 1) * t.sz ≤ L.length * t.sz := Nat.mul_le_mul_right _ hl
     rw [Nat.add_mul] at this
     omega
    have goal : ∀ {z : t.T} {nst : Option (Nat × C Ty.T)}, okCs s (Ob.kids (.row v t.sz el t (show Ty.T (.ls t) from L.set I0.toNat z) [] nst false)) →
      nestC ((L.set I0.toNat z).flatMap t.cs) L.length t.sz (encC s) nst = paste (nestC (L.flatMap t.cs) L.length t.sz (encC s) nest) (I0.toNat * t.sz + off) (y.cells.map (encC s)) → k (s.obj g (.row v t.sz el t (show Ty.T (.ls t) from L.set I0.toNat z) [] nst false)) = some r →
      ∃ s', Stab s s' ∧ Inv s' ∧ storeV (encH s) n (encV s (.c (.pti g v t.sz (show Ty.T I from I0) off))) (encV s y) = some (encH s') ∧ k s' = some r := by
     intro z nst hk he hkr
     obtain ⟨f1, f2, f3⟩ := fin (g := g) (o := .row v t.sz el t (show Ty.T (.ls t) from L.set I0.toNat z) [] nst false) (fun o0 h0 => by rw [ho] at h0; cases h0; exact ⟨rfl, by simp only [Ob.lenO]; rw [show List.length (α := t.T) (show Ty.T (.ls t) from L.set I0.toNat z) = List.length (α := t.T) L from List.length_set]⟩) hk rfl
     refine ⟨_, f1, f2, ?_, hkr⟩
     rw [f3, encV, encC, hsv, encH_some ho]
     simp only [encO, List.map_nil, List.append_nil]
     rw [if_pos ⟨trivial, by rw [nestC_len, show (show Int from (show Ty.T I from I0)).toNat = I0.toNat from rfl]; omega, row_ne hw hz⟩]
     rw [show (show Int from (show Ty.T I from I0)).toNat = I0.toNat from rfl]
     congr 4
     rw [show List.length (α := t.T) (show Ty.T (.ls t) from L.set I0.toNat z) = L.length from List.length_set]
     exact he.symm
    have hyl : off + (y.cells.map (encC s)).length ≤ t.sz := by rw [hcl]; exact hn
    have expP : ∀ c : List (C Ty.T), (pasteC (expl val t w) off c).map (encC s) = paste (t.cs w) off (c.map (encC s)) := fun c => by rw [pasteC_enc, expl_enc]
    have hla : I0.toNat * t.sz + off + (y.cells.map (encC s)).length ≤ (L.flatMap t.cs).length := by omega
    cases nest with
    | none =>
     obtain ⟨q, hq, h⟩ := orNo_some h
     obtain ⟨z, zr⟩ := q
     simp only at h
     split at h
     ·rename_i hzr
      have hz' := impl_all (leafOf_exact s) hq hzr
      rw [expP] at hz'
      refine goal (z := z) (nst := none) (fun c hc => by simp [Ob.kids] at hc) ?_ h
      simp only [nestC]
      exact flat_set hz' hyl hw
     ·cases h
    | some p =>
     obtain ⟨no, c0⟩ := p
     obtain ⟨g1, h⟩ := gd_some h
     have g1 : I0 + 1 = (L.length : Int) := eql_add (n := L.length) g1
     have hidx : (L.length - 1) * t.sz + no = I0.toNat * t.sz + no := by rw [show L.length - 1 = I0.toNat by omega]
     split at h
     ·rename_i hr
      split at h
      ·rename_i c' z0 hc' hz0
       obtain ⟨q, hq, h⟩ := orNo_some h
       obtain ⟨z, zr⟩ := q
       simp only at h
       split at h
       ·rename_i hzr
        have hz' := impl_all (leafOf_exact s) hq hzr
        rw [expP, List.map_set] at hz'
        have hj : no - off < (y.cells.map (encC s)).length := by omega
        refine goal (z := z) (nst := some (no, c')) (fun c hc => by
         simp [Ob.kids] at hc
         subst hc
         exact hyc _ (List.mem_of_getElem? hc')) ?_ h
        simp only [nestC]
        rw [hidx, flat_set hz' (by simpa using hyl) hw, paste_set_c hla hj, show I0.toNat * t.sz + off + (no - off) = I0.toNat * t.sz + no by omega, List.set_set, paste_set_in hla (by omega) (by omega)]
        rw [show I0.toNat * t.sz + no = I0.toNat * t.sz + off + (no - off) by omega, ← paste_set_c hla hj, ← List.map_set, set_self hc']
       ·cases h
      ·cases h
     ·rename_i hr
      obtain ⟨q, hq, h⟩ := orNo_some h
      obtain ⟨z, zr⟩ := q
      simp only at h
      split at h
      ·rename_i hzr
       have hz' := impl_all (leafOf_exact s) hq hzr
       rw [expP] at hz'
       refine goal (z := z) (nst := some (no, c0)) (fun c hc => by
        simp [Ob.kids] at hc
        subst hc
        exact hi.ob _ _ ho _ (by simp [Ob.kids])) ?_ h
       simp only [nestC]
       rw [hidx, flat_set hz' hyl hw, paste_set_out hla (by omega)]
      ·cases h
   ·cases h
  ·cases h
 ·cases h
end
end Go.Dn
namespace Go.Dn
open Go Go.Vv
set_option linter.unusedSimpArgs false
theorem flat_part {t : Ty} (l : List t.T) (a n : Nat) : ((l.drop a).take n).flatMap t.cs = cut (l.flatMap t.cs) (a * t.sz) (n * t.sz) := by
 have hd : ∀ (l : List t.T) (a : Nat), (l.drop a).flatMap t.cs = (l.flatMap t.cs).drop (a * t.sz) := by
  intro l
  induction l with
  | nil => intro a; simp
  | cons x l ih =>
   intro a
   cases a with
   | zero => simp
   | succ a =>
    rw [List.drop_succ_cons, ih, List.flatMap_cons, show (a + 1) * t.sz = (t.cs x).length + a * t.sz by rw [cs_len, Nat.add_mul]; omega]
    exact (List.drop_length_add_append ..).symm
 have ht : ∀ (l : List t.T) (n : Nat), (l.take n).flatMap t.cs = (l.flatMap t.cs).take (n * t.sz) := by
  intro l
  induction l with
  | nil => intro n; simp
  | cons x l ih =>
   intro n
   cases n with
   | zero => simp
   | succ n =>
    rw [List.take_succ_cons, List.flatMap_cons, ih, List.flatMap_cons, show (n + 1) * t.sz = (t.cs x).length + n * t.sz by rw [cs_len, Nat.add_mul]; omega]
    exact (List.take_length_add_append ..).symm
 rw [ht, hd]
 rfl
theorem cut_all (l : List AV) : cut l 0 l.length = l := by simp [cut]
def El.cells (s : S Ty.T) : El Ty.T → List AV
 | .t ty v => List.flatMap (α := ty.T) ty.cs v
 | .x l => l.map (encC s)
def El.n (esz : Nat) : El Ty.T → Nat
 | .t ty v => List.length (α := ty.T) v
 | .x l => l.length / esz
def El.ok (s : S Ty.T) (esz : Nat) : El Ty.T → Prop
 | .t ty _ => ty.sz = esz ∧ 0 < esz
 | .x l => okCs s l ∧ l.length % esz = 0
section
variable {call : Vv.Call} {base g0 : Nat} {s : S Ty.T} {α : Type} {r : α}
theorem le_val {a b : Int} (h : val.le a b = true) : a ≤ b := by
 have : decide (a ≤ b) = true := h
 simpa using this
theorem lenV_own {g ver len : Nat} {off : Nat} {v e : Nat} {el : TypeId} {cells : List AV} {z : Bool} {h : Heap} (hg : h g = some (.arr v e el cells z)) (hv : v = ver) : lenV h (.arr g ver off len) = some (len : Int) := by
 simp [lenV, curAny, hg, hv]
theorem elems_sim (hi : Inv s) {esz : Nat} {y : V Ty.T} {k : El Ty.T → Option α} (h : elems val s esz y k = some r) : ∃ e : El Ty.T, lenV (encH s) (encV s y) = some (e.n esz : Int) ∧ elemsV (encH s) esz (encV s y) = some (e.cells s) ∧ e.ok s esz ∧ k e = some r := by
 unfold elems at h
 split at h
 ·exact ⟨.x [], by simp [encV, encC, lenV, El.n], by simp [encV, encC, elemsV, El.cells], ⟨fun c hc => (by cases hc), by simp⟩, h⟩
 ·rename_i t v
  split at h
  ·rename_i hc
   obtain ⟨rfl, hz⟩ := hc
   refine ⟨.t t v, rfl, ?_, ⟨rfl, hz⟩, h⟩
   show elemsV (encH s) t.sz (.lst (List.length (α := t.T) v) (List.flatMap (α := t.T) t.cs v)) = _
   simp only [elemsV]
   rw [if_pos (flat_len (t := t) v)]
   rfl
  ·cases h
 ·rename_i g ver
  split at h
  ·rename_i v e el t l z ho
   obtain ⟨L, rfl⟩ : ∃ L : List t.T, (show Ty.T (.ls t) from L) = l := ⟨l, rfl⟩
   split at h
   ·rename_i hc
    obtain ⟨rfl, rfl, he, hz⟩ := hc
    subst he
    have hlen : lenAt s g v = L.length := by simp only [lenAt, ho, Ob.ver, if_true, Ob.lenO, List.length_nil, Nat.zero_div, Nat.add_zero]
    have hH := encH_some ho
    simp only [encO, List.map_nil, List.append_nil, nestC] at hH
    refine ⟨.t t L, ?_, ?_, ⟨rfl, hz⟩, h⟩
    ·simp only [encV, encC, hlen]; exact lenV_own hH rfl
    ·simp only [encV, encC, hlen, elemsV, hH, Nat.zero_add, Nat.zero_mul, true_and]
     rw [if_pos (by rw [flat_len]; exact Nat.le_refl _)]
     have := cut_all (L.flatMap t.cs)
     rw [flat_len] at this
     rw [this]
     rfl
   ·cases h
  ·rename_i v e el l z ho
   split at h
   ·rename_i hc
    obtain ⟨rfl, rfl, hm, hz⟩ := hc
    have hlen : lenAt s g v = l.length / e := by simp only [lenAt, ho, Ob.ver, if_true, Ob.lenO]
    have hH := encH_some ho
    simp only [encO] at hH
    have hdv : l.length / e * e = l.length := Nat.div_mul_cancel (Nat.dvd_of_mod_eq_zero hm)
    refine ⟨.x l, ?_, ?_, ⟨hi.ob _ _ ho, hm⟩, h⟩
    ·simp only [encV, encC, hlen]; exact lenV_own hH rfl
    ·simp only [encV, encC, hlen, elemsV, hH, Nat.zero_add, Nat.zero_mul, true_and, hdv]
     rw [if_pos (by simp)]
     have := cut_all (l.map (encC s))
     rw [List.length_map] at this
     rw [this]
     rfl
   ·cases h
  ·cases h
 ·rename_i g ver off len
  split at h
  ·rename_i v e el t l z ho
   obtain ⟨L, rfl⟩ : ∃ L : List t.T, (show Ty.T (.ls t) from L) = l := ⟨l, rfl⟩
   obtain ⟨A, rfl⟩ : ∃ A : Int, (show Ty.T I from A) = off := ⟨off, rfl⟩
   obtain ⟨B, rfl⟩ : ∃ B : Int, (show Ty.T I from B) = len := ⟨len, rfl⟩
   split at h
   ·rename_i hc
    obtain ⟨rfl, rfl, he, hz⟩ := hc
    subst he
    obtain ⟨g1, h⟩ := gd_some h
    obtain ⟨g2, h⟩ := gd_some h
    obtain ⟨g3, h⟩ := gd_some h
    have g1 : (0 : Int) ≤ A := le_val g1
    have g2 : (0 : Int) ≤ B := le_val g2
    have g3 : A + B ≤ (L.length : Int) := le_val g3
    have hH := encH_some ho
    simp only [encO, List.map_nil, List.append_nil, nestC] at hH
    refine ⟨.t t ((L.drop A.toNat).take B.toNat), ?_, ?_, ⟨rfl, hz⟩, h⟩
    ·simp only [encV, encC]
     rw [lenV_own hH rfl]
     show some ((B.toNat : Nat) : Int) = some ((((L.drop A.toNat).take B.toNat).length : Nat) : Int)
     congr 2
     simp
     omega
    ·show elemsV (encH s) t.sz (.arr g v A.toNat B.toNat) = some (((L.drop A.toNat).take B.toNat).flatMap t.cs)
     simp only [elemsV, hH, true_and]
     rw [if_pos (by rw [flat_len]; exact Nat.mul_le_mul_right _ (by omega)), flat_part]
   ·cases h
  ·cases h
 ·cases h
theorem ft_val {b : Nat} {n : Int} (h : val.ft b n = true) : n * b ≤ room ∧ n ≤ 9223372036854775807 := by
 have : decide (n * b ≤ room ∧ n ≤ 9223372036854775807) = true := h
 simpa using this
def AppOK (s : S Ty.T) (g0 esz bytes : Nat) (el : TypeId) (x y : AV) (v : V Ty.T) (s' : S Ty.T) : Prop :=
 appV (encH s) g0 esz bytes el x y = some (encV s' v, encH s') ∧ Stab s s' ∧ Inv s' ∧ okV s' v
theorem app_new (hi : Inv s) {g0 esz bytes : Nat} {el : TypeId} {y : AV} {m : Nat} {new : List AV} {o : Ob Ty.T} (h0 : look g0 s.ob = none) (hm : lenV (encH s) y = some (m : Int)) (he : elemsV (encH s) esz y = some new)
  (hne : new ≠ []) (hb : (m : Int) * bytes ≤ room ∧ (m : Int) ≤ 9223372036854775807) (hov : o.ver = s.nv g0 + 1) (hol : o.lenO = m) (hok : okCs s o.kids) (hoe : encO s o = .arr (s.nv g0 + 1) esz el new false) :
  AppOK s g0 esz bytes el .nils y (.c (.own g0 (s.nv g0 + 1))) (s.obj g0 o) := by
 have hs : Stab s (s.obj g0 o) := stab_obj fun o0 h => by rw [h0] at h; cases h
 refine ⟨?_, hs, inv_obj hi hs (fun g' => look_obj g0 g' o) (fun c hc => (hs.ok c (hok c hc)).1), okV_c (ok_self (by rw [hov]; rfl))⟩
 unfold appV
 rw [hm, he]
 simp only
 rw [if_neg hne, if_pos hb, encH_obj hi hs (fun g' => look_obj g0 g' o), hs.encO hok, hoe, newVer_enc]
 have hl : lenAt (s.obj g0 o) g0 (s.nv g0 + 1) = m := by rw [← hov, lenAt_self, hol]
 simp only [encV, encC, hl, Int.toNat_natCast]
theorem app_old (hi : Inv s) {g g0 esz bytes : Nat} {el : TypeId} {y : AV} {m : Nat} {new cells : List AV} {o0 o : Ob Ty.T} {n : Int} (h0 : look g s.ob = some o0) (hm : lenV (encH s) y = some (m : Int)) (he : elemsV (encH s) esz y = some new)
  (he0 : encO s o0 = .arr o0.ver esz el cells false) (hc0 : cells.length = o0.lenO * esz) (hn : n.toNat = o0.lenO)
  (hb : ((o0.lenO : Int) + m) * bytes ≤ room ∧ (o0.lenO : Int) + m ≤ 9223372036854775807) (hov : o.ver = o0.ver + 1) (hol : o.lenO = o0.lenO + m) (hok : okCs s o.kids) (hoe : encO s o = .arr (o0.ver + 1) esz el (cells ++ new) false) :
  AppOK s g0 esz bytes el (encV s (.c (.own g o0.ver))) y (.c (.own g (o0.ver + 1))) ((s.old g o0.ver n).obj g o) := by
 have hs : Stab s ((s.old g o0.ver n).obj g o) := stab_app h0 hov hn
 have hlk : ∀ g', look g' ((s.old g o0.ver n).obj g o).ob = if g = g' then some o else look g' s.ob := fun g' => look_cons g g' o s.ob
 refine ⟨?_, hs, inv_obj hi hs hlk (fun c hc => (hs.ok c (hok c hc)).1), okV_c (fun r hr => ?_)⟩
 ·have hl : lenAt s g o0.ver = o0.lenO := by simp only [lenAt, h0, if_true]
  have hl2 : lenAt ((s.old g o0.ver n).obj g o) g (o0.ver + 1) = o0.lenO + m := by simp only [lenAt, hlk, if_true, hov, hol]
  simp only [encV, encC, hl, hl2]
  unfold appV
  rw [hm, he]
  simp only [encH_some h0, he0, true_and, Nat.zero_add]
  rw [if_pos ⟨by omega, hb.1, hb.2⟩, if_neg ?_, encH_obj hi hs hlk, hs.encO hok, hoe]
  ·simp only [Nat.zero_mul, Int.toNat_natCast]
   rw [← hc0, cut_all]
  ·rintro ⟨h1, h2, h3⟩
   rw [h2, Nat.zero_mul] at hc0
   exact h1 (List.eq_nil_of_length_eq_zero hc0)
 ·simp only [refs, List.mem_singleton] at hr
  subst hr
  exact ⟨o, by rw [hlk, if_pos rfl], by omega⟩
theorem eql_val {a b : Int} : val.cm .eql .i64 a b = decide (a = b) := by
 show (a == b) = _
 by_cases h : a = b <;> simp [h]
theorem empty_some {e : El Ty.T} {k : Option α} (h : emptyD val e k = some r) : e.cells s = [] ∧ k = some r := by
 unfold emptyD at h
 split at h
 ·exact ⟨rfl, h⟩
 ·cases h
 ·rename_i t v
  obtain ⟨L, rfl⟩ : ∃ L : List t.T, (show Ty.T (.ls t) from L) = v := ⟨v, rfl⟩
  obtain ⟨g1, h⟩ := gd_some h
  have g1 : (L.length : Int) = 0 := by
   have : decide ((L.length : Int) = 0) = true := by rw [← eql_val]; exact g1
   simpa using this
  have hn : L = [] := List.eq_nil_of_length_eq_zero (by omega)
  subst hn
  exact ⟨rfl, h⟩
theorem app_sim (hi : Inv s) {g0 esz bytes : Nat} {el : TypeId} {x y : V Ty.T} {k : V Ty.T → S Ty.T → Option α} (h : appD val s g0 esz bytes el x y k = some r) : ∃ v s', AppOK s g0 esz bytes el (encV s x) (encV s y) v s' ∧ k v s' = some r := by
 unfold appD at h
 obtain ⟨e, hm, hel, hok, h⟩ := elems_sim hi h
 split at h
 ·-- nil
  split at h
  ·cases h
  rename_i h0
  have h0 : look g0 s.ob = none := by simpa using h0
  have nothing : e.cells s = [] → ∃ v s', AppOK s g0 esz bytes el (encV s (.c (.k .nils))) (encV s y) v s' ∧ v = .c (.k .nils) ∧ s' = s := fun hn =>
   ⟨_, _, ⟨by unfold appV; rw [hm, hel]; simp only [encV, encC]; rw [if_pos hn], .refl s, hi, okV_c (okC_leaf s rfl)⟩, rfl, rfl⟩
  split at h
  ·obtain ⟨v, s', a1, rfl, rfl⟩ := nothing rfl
   exact ⟨_, _, a1, h⟩
  ·rename_i l hl
   split at h
   ·rename_i hz
    obtain ⟨g1, h⟩ := gd_some h
    have g1 := ft_val g1
    refine ⟨_, _, app_new (o := .lit (s.nv g0 + 1) esz el l false) hi h0 hm hel ?_ g1 rfl rfl hok.1 rfl, h⟩
    simp only [El.cells, ne_eq, List.map_eq_nil_iff]
    exact fun q => hl q
   ·cases h
  ·rename_i t v
   obtain ⟨L, rfl⟩ : ∃ L : List t.T, (show Ty.T (.ls t) from L) = v := ⟨v, rfl⟩
   obtain ⟨hsz, hz⟩ := hok
   rcases br_some h with ⟨g1, h⟩ | ⟨g1, h⟩
   ·have g1 : (L.length : Int) = 0 := by
     have : decide ((L.length : Int) = 0) = true := by rw [← eql_val]; exact g1
     simpa using this
    have hn : L = [] := List.eq_nil_of_length_eq_zero (by omega)
    obtain ⟨v, s', a1, rfl, rfl⟩ := nothing (by simp only [El.cells]; rw [show (show Ty.T (.ls t) from L) = ([] : List t.T) from hn]; rfl)
    exact ⟨_, _, a1, h⟩
   ·have g1 : ¬ (L.length : Int) = 0 := by
     have : decide ((L.length : Int) = 0) = false := by rw [← eql_val]; exact g1
     simpa using this
    obtain ⟨g2, h⟩ := gd_some h
    have g2 := ft_val (n := (L.length : Int)) g2
    refine ⟨_, _, app_new hi h0 hm hel ?_ g2 rfl (by simp only [Ob.lenO, List.length_nil, Nat.zero_div, Nat.add_zero]; rfl) (fun c hc => by simp [Ob.kids] at hc) (by simp only [encO, nestC, List.map_nil, List.append_nil]; rfl), h⟩
    intro q
    have := congrArg List.length q
    rw [show El.cells s (.t t (show Ty.T (.ls t) from L)) = L.flatMap t.cs from rfl, flat_len] at this
    rcases Nat.mul_eq_zero.1 this with h4 | h4 <;> omega
 ·-- a row
  rename_i g ver
  split at h
  ·rename_i v e' el' t l tl nest ho
   obtain ⟨L, rfl⟩ : ∃ L : List t.T, (show Ty.T (.ls t) from L) = l := ⟨l, rfl⟩
   split at h
   ·rename_i hc
    obtain ⟨rfl, rfl, rfl, he, htl, hz⟩ := hc
    have hH : encO s (.row v e' el' t (show Ty.T (.ls t) from L) tl nest false) = .arr v e' el' (nestC (L.flatMap t.cs) L.length t.sz (encC s) nest ++ tl.map (encC s)) false := rfl
    have hdv : tl.length / e' * e' = tl.length := Nat.div_mul_cancel (Nat.dvd_of_mod_eq_zero htl)
    have hlO : Ob.lenO (.row v e' el' t (show Ty.T (.ls t) from L) tl nest false) = L.length + tl.length / e' := rfl
    have hc0 : (nestC (L.flatMap t.cs) L.length t.sz (encC s) nest ++ tl.map (encC s)).length = Ob.lenO (.row v e' el' t (show Ty.T (.ls t) from L) tl nest false) * e' := by
     rw [List.length_append, nestC_len, flat_len, hlO, Nat.add_mul, List.length_map, he, hdv]
    split at h
    ·rename_i m
     obtain ⟨hmk, hmd⟩ := hok
     have hmv : m.length / e' * e' = m.length := Nat.div_mul_cancel (Nat.dvd_of_mod_eq_zero hmd)
     have hnval : (if tl.isEmpty = true then val.ln (t := t) (show Ty.T (.ls t) from L) else val.pl (val.ln (t := t) (show Ty.T (.ls t) from L)) (val.int .i64 ((tl.length / e' : Nat) : Int))) = (show Ty.T I from ((L.length + tl.length / e' : Nat) : Int)) := by
      by_cases ht : tl.isEmpty = true
      ·rw [if_pos ht, List.isEmpty_iff.1 ht, List.length_nil, Nat.zero_div, Nat.add_zero]; rfl
      ·rw [if_neg ht, Int.natCast_add]; rfl
     simp only [hnval] at h
     obtain ⟨g1, h⟩ := gd_some h
     have g1 := ft_val (n := ((L.length + tl.length / e' : Nat) : Int) + ((m.length / e' : Nat) : Int)) g1
     refine ⟨_, _, app_old (n := ((L.length + tl.length / e' : Nat) : Int)) hi ho hm hel hH hc0 (by rw [hlO]; exact Int.toNat_natCast _) g1 rfl ?_ (fun c hc => ?_) ?_, h⟩
     ·show L.length + (tl ++ m).length / e' = L.length + tl.length / e' + m.length / e'
      rw [List.length_append, Nat.add_assoc]
      congr 1
      rw [← hdv, ← hmv, ← Nat.add_mul, Nat.mul_div_cancel _ hz, hdv, hmv]
     ·simp only [Ob.kids, List.mem_append] at hc
      rcases hc with hc | hc | hc
      ·exact hi.ob _ _ ho c (by simp only [Ob.kids]; exact List.mem_append_left _ hc)
      ·exact hi.ob _ _ ho c (by simp only [Ob.kids]; exact List.mem_append_right _ hc)
      ·exact hmk c hc
     ·show AObj.arr _ _ _ (nestC (L.flatMap t.cs) L.length t.sz (encC s) nest ++ (tl ++ m).map (encC s)) false = _
      rw [List.map_append, ← List.append_assoc]
      rfl
    ·rename_i t' m
     split at h
     ·rename_i hne
      rw [Bool.and_eq_true, List.isEmpty_iff, Option.isNone_iff_eq_none] at hne
      obtain ⟨rfl, rfl⟩ := hne
      obtain ⟨m', hm', h⟩ := orNo_some h
      obtain ⟨eq, rfl⟩ := cast_some (ι := Ty.T) hm'
      injection eq with eq
      subst eq
      obtain ⟨N, rfl⟩ : ∃ N : List t'.T, (show Ty.T (.ls t') from N) = m := ⟨m, rfl⟩
      obtain ⟨g1, h⟩ := gd_some h
      have g1 := ft_val (n := (L.length : Int) + (N.length : Int)) g1
      refine ⟨_, _, app_old (n := (L.length : Int)) hi ho hm hel hH hc0 (by rw [hlO, List.length_nil, Nat.zero_div, Nat.add_zero]; exact Int.toNat_natCast _) ?_ rfl ?_ (fun c hc => by simp [Ob.kids] at hc) ?_, h⟩
      ·rw [hlO, List.length_nil, Nat.zero_div, Nat.add_zero]; exact g1
      ·show List.length (L ++ N) + 0 / e' = L.length + 0 / e' + N.length
       rw [List.length_append, Nat.zero_div]; omega
      ·show AObj.arr _ _ _ ((L ++ N).flatMap t'.cs ++ []) false = .arr _ _ _ (L.flatMap t'.cs ++ [] ++ N.flatMap t'.cs) false
       rw [List.append_nil, List.append_nil, List.flatMap_append]
       rfl
     ·cases h
   ·cases h
  ·rename_i v e' el' l ho
   split at h
   ·rename_i hc
    obtain ⟨rfl, rfl, rfl, hld, hz⟩ := hc
    have hH : encO s (.lit v e' el' l false) = .arr v e' el' (l.map (encC s)) false := rfl
    have hdv : l.length / e' * e' = l.length := Nat.div_mul_cancel (Nat.dvd_of_mod_eq_zero hld)
    have hlO : Ob.lenO (.lit v e' el' l false) = l.length / e' := rfl
    have hc0 : (l.map (encC s)).length = Ob.lenO (.lit v e' el' l false) * e' := by rw [List.length_map, hlO, hdv]
    split at h
    ·rename_i m
     obtain ⟨hmk, hmd⟩ := hok
     have hmv : m.length / e' * e' = m.length := Nat.div_mul_cancel (Nat.dvd_of_mod_eq_zero hmd)
     obtain ⟨g1, h⟩ := gd_some h
     have g1 := ft_val (n := ((l.length / e' + m.length / e' : Nat) : Int)) g1
     refine ⟨_, _, app_old (n := ((l.length / e' : Nat) : Int)) hi ho hm hel hH hc0 (by rw [hlO]; exact Int.toNat_natCast _) (by rw [Int.natCast_add] at g1; exact g1) rfl ?_ (fun c hc => ?_) ?_, h⟩
     ·show (l ++ m).length / e' = l.length / e' + m.length / e'
      rw [List.length_append, ← hdv, ← hmv, ← Nat.add_mul, Nat.mul_div_cancel _ hz, hdv, hmv]
     ·simp only [Ob.kids, List.mem_append] at hc
      rcases hc with hc | hc
      ·exact hi.ob _ _ ho c hc
      ·exact hmk c hc
     ·show AObj.arr _ _ _ ((l ++ m).map (encC s)) false = _
      rw [List.map_append]
      rfl
    ·rename_i t m
     obtain ⟨N, rfl⟩ : ∃ N : List t.T, (show Ty.T (.ls t) from N) = m := ⟨m, rfl⟩
     obtain ⟨hsz, _⟩ := hok
     obtain ⟨l', hl', h⟩ := orNo_some h
     have hlc := implN_enc (leafOf_exact s) t _ hl'
     obtain ⟨L', rfl⟩ : ∃ L' : List t.T, (show Ty.T (.ls t) from L') = l' := ⟨l', rfl⟩
     have hll : L'.length * t.sz = l.length := by
      have := congrArg List.length hlc
      rw [List.length_map] at this
      rw [this]
      exact (flat_len L').symm
     obtain ⟨g1, h⟩ := gd_some h
     have g1 := ft_val (n := ((l.length / e' : Nat) : Int) + (N.length : Int)) g1
     have hval : (if l.isEmpty = true then (show Ty.T (.ls t) from N) else val.ap (t := t) (show Ty.T (.ls t) from L') (show Ty.T (.ls t) from N)) = (show Ty.T (.ls t) from L' ++ N) := by
      by_cases ht : l.isEmpty = true
      ·rw [if_pos ht]
       have : L' = [] := by
        rw [List.isEmpty_iff.1 ht, List.length_nil] at hll
        rcases Nat.mul_eq_zero.1 hll with h4 | h4
        ·exact List.eq_nil_of_length_eq_zero h4
        ·omega
       rw [this]; rfl
      ·rw [if_neg ht]; rfl
     rw [hval] at h
     refine ⟨_, _, app_old (n := ((l.length / e' : Nat) : Int)) hi ho hm hel hH hc0 (by rw [hlO]; exact Int.toNat_natCast _) g1 rfl ?_ (fun c hc => by simp [Ob.kids] at hc) ?_, h⟩
     ·show List.length (L' ++ N) + 0 / e' = l.length / e' + N.length
      rw [List.length_append, Nat.zero_div, ← hll, hsz, Nat.mul_div_cancel _ hz]; omega
     ·show AObj.arr _ _ _ ((L' ++ N).flatMap t.cs ++ []) false = .arr _ _ _ (l.map (encC s) ++ N.flatMap t.cs) false
      rw [hlc, List.append_nil, List.flatMap_append]
      rfl
   ·cases h
  ·rename_i v e' el' t l tl nest ho
   split at h
   ·rename_i hc
    subst hc
    obtain ⟨hn, h⟩ := empty_some h
    refine ⟨_, s, ⟨?_, .refl s, hi, okV_c fun r hr => ?_⟩, h⟩
    ·unfold appV
     rw [hm, hel]
     have hH := encH_some ho
     simp only [encO] at hH
     simp only [encV, encC, hH]
     rw [if_pos ⟨trivial, by rw [hn]⟩]
    ·simp only [refs, List.mem_singleton] at hr
     subst hr
     exact ⟨_, ho, Nat.le_refl _⟩
   ·cases h
  ·cases h
 ·rename_i t v
  obtain ⟨hn, h⟩ := empty_some h
  refine ⟨_, s, ⟨?_, .refl s, hi, okV_c (okC_leaf s rfl)⟩, h⟩
  unfold appV
  rw [hm, hel]
  simp only [encV, encC, Ty.cs, oneOf]
  rw [if_pos (by rw [hn])]
 ·cases h
end
end Go.Dn
namespace Go.Dn
open Go Go.Vv
set_option linter.unusedVariables false
set_option linter.unusedSimpArgs false
def Alt (op op' : LOp) : Prop := op' = op ∨ ∃ f args, op = .callp f args ∧ (op' = .callq f args ∨ op' = .callz f args)
section
variable {call : Vv.Call} {base g0 : Nat} {s : S Ty.T} {α : Type} {r : α}
theorem leafV {t : Ty} {x : t.T} : okV s (.c (.lf t x)) := okV_c (okC_leaf s rfl)
theorem ibinV_ar {o : BinOp} {k : IntKind} {a b : Int} (h : isAr o = true) : ibinV o k a b = some (.int k (iar o k a b)) := by cases o <;> simp [isAr] at h <;> rfl
theorem ibinV_cm {o : BinOp} {k : IntKind} {a b : Int} (h : isCmp o = true) : ibinV o k a b = some (.bool (icm o a b)) := by cases o <;> simp [isCmp] at h <;> rfl
theorem cur_enc {g ver : Nat} (h : s.cur g ver = true) : Vv.cur (encH s) g ver = true := by
 unfold S.cur at h
 cases ho : look g s.ob with
 | none => rw [ho] at h; cases h
 | some o => rw [ho] at h; simp only [Vv.cur, encH_some ho, encO_ver]; exact h
theorem eqC_enc {b : Bool} {x y : C Ty.T} {z : Bool} (h : eqC val b x y = some z) : cellEq b (encC s x) (encC s y) = some z := by
 unfold eqC at h
 split at h
 ·rename_i k a t b
  cases hc : cast? (ι := Ty.T) t (.int k) b with
  | none => rw [hc] at h; cases h
  | some b' =>
   rw [hc] at h
   obtain ⟨e, rfl⟩ := cast_some hc
   subst e
   simp only [Option.map_some] at h
   have := Option.some.inj h
   subst this
   simp only [encC, Ty.cs, oneOf, cellEq, if_true]
   rfl
 ·cases ha : leafOf val .bool x with
  | none => rw [ha] at h; cases h
  | some a' =>
   rw [ha] at h
   simp only [Option.bind_some] at h
   cases hb : leafOf val .bool y with
   | none => rw [hb] at h; cases h
   | some b' =>
    rw [hb] at h
    simp only [Option.map_some] at h
    have hx := leafOf_enc (s := s) (t := .bool) rfl ha
    have hy := leafOf_enc (s := s) (t := .bool) rfl hb
    have hx : encC s x = .bool a' := (List.cons.inj hx).1.symm
    have hy : encC s y = .bool b' := (List.cons.inj hy).1.symm
    rw [hx, hy]
    have := Option.some.inj h
    subst this
    rfl
 ·cases h
theorem eqCs_enc : ∀ {bs : List Bool} {l m : List (C Ty.T)} {z : Bool}, eqCs val bs l m = some z → cellsEq bs (l.map (encC s)) (m.map (encC s)) = some z
 | [], [], [], z, h => by simp only [eqCs] at h; injection h with h; subst h; rfl
 | [b], [x], [y], z, h => by
  simp only [eqCs] at h
  have := eqC_enc (s := s) h
  simp only [List.map_cons, List.map_nil, cellsEq, this, Bool.and_true]
 | b :: b2 :: bs, x :: xs, y :: ys, z, h => by
  have h' : (eqC val b x y).bind (fun u => (eqCs val (b2 :: bs) xs ys).map (val.an u)) = some z := by
   cases xs <;> cases ys <;> exact h
  cases hu : eqC val b x y with
  | none => rw [hu] at h'; cases h'
  | some u =>
   rw [hu] at h'
   simp only [Option.bind_some] at h'
   cases hv : eqCs val (b2 :: bs) xs ys with
   | none => rw [hv] at h'; cases h'
   | some v =>
    rw [hv] at h'
    have := Option.some.inj h'
    subst this
    have e1 := eqC_enc (s := s) hu
    have e2 := eqCs_enc hv
    simp only [List.map_cons] at e2 ⊢
    rw [cellsEq, e1, e2]
    rfl
 | [], [], _ :: _, _, h => by cases h
 | [], _ :: _, _, _, h => by cases h
 | [_], [], _, _, h => by cases h
 | [_], [_], [], _, h => by cases h
 | [_], [_], _ :: _ :: _, _, h => by
  simp only [eqCs] at h
  cases hu : eqC val _ _ _ <;> rw [hu] at h <;> simp [eqCs] at h
 | [_], _ :: _ :: _, [], _, h => by cases h
 | [_], _ :: _ :: _, _ :: _, _, h => by
  simp only [eqCs] at h
  cases hu : eqC val _ _ _ <;> rw [hu] at h <;> simp [eqCs] at h
 | _ :: _ :: _, [], _, _, h => by cases h
 | _ :: _ :: _, _ :: _, [], _, h => by cases h
theorem eachI_some {i : Int} {k : Nat → Option α} : ∀ {n j : Nat}, eachI val i k j n = some r → ∃ m, j ≤ m ∧ m < j + n ∧ i = (m : Int) ∧ k m = some r
 | 0, j, h => by cases h
 | n + 1, j, h => by
  simp only [eachI] at h
  rcases br_some h with ⟨g1, h⟩ | ⟨g1, h⟩
  ·have g1 : i = (j : Int) := by
    have : decide (i = (j : Int)) = true := by rw [← eql_val]; exact g1
    simpa using this
   exact ⟨j, Nat.le_refl _, by omega, g1, h⟩
  ·obtain ⟨m, h1, h2, h3, h4⟩ := eachI_some h
   exact ⟨m, by omega, by omega, h3, h4⟩
theorem rowLen_some {g ver : Nat} {n : Int} (h : rowLen val s g ver = some n) : ∃ esz el cells z, encH s g = some (.arr ver esz el cells z) ∧ n = (lenAt s g ver : Int) := by
 unfold rowLen at h
 split at h
 ·rename_i v e el t l x nest z ho
  split at h
  ·rename_i hv
   subst hv
   refine ⟨_, _, _, _, by rw [encH_some ho]; rfl, ?_⟩
   have := (Option.some.inj h).symm
   rw [this]
   simp only [lenAt, ho, Ob.ver, if_true, Ob.lenO]
   by_cases hx : x.isEmpty = true
   ·rw [if_pos hx, List.isEmpty_iff.1 hx, List.length_nil, Nat.zero_div, Nat.add_zero]; rfl
   ·rw [if_neg hx, Int.natCast_add]; rfl
  ·cases h
 ·rename_i v e el l z ho
  split at h
  ·rename_i hv
   subst hv
   refine ⟨_, _, _, _, by rw [encH_some ho]; rfl, ?_⟩
   have := (Option.some.inj h).symm
   rw [this]
   simp only [lenAt, ho, Ob.ver, if_true, Ob.lenO]
   rfl
  ·cases h
 ·cases h
end
end Go.Dn
namespace Go.Dn
open Go Go.Vv
set_option linter.unusedVariables false
set_option linter.unusedSimpArgs false
section
variable {call : Vv.Call} {base g0 : Nat} {s : S Ty.T} {α : Type} {r : α}
theorem bound_enc {x : Option LO} {z a : Int} (h : boundD val s x z = some a) : boundV z (x.map (enc s).ev) = some a ∧ (x = none → a = z) := by
 cases x with
 | none => have := Option.some.inj h; subst this; exact ⟨rfl, fun _ => rfl⟩
 | some x =>
  have h : intOf .i64 (ev val s x) = some a := h
  refine ⟨?_, fun e => by cases e⟩
  simp only [Option.map_some, evI h, boundV]
theorem slice_some {lo hi : Option LO} {n : Int} {k : Int → Int → Option α} (hn : 0 ≤ n) (h : sliceD val s lo hi n k = some r) :
  ∃ a b : Int, boundV 0 (lo.map (enc s).ev) = some a ∧ boundV n (hi.map (enc s).ev) = some b ∧ 0 ≤ a ∧ a ≤ b ∧ b ≤ n ∧ (lo = none → a = 0) ∧ k a b = some r := by
 unfold sliceD at h
 obtain ⟨a, ha, h⟩ := orNo_some h
 obtain ⟨b, hb, h⟩ := orNo_some h
 obtain ⟨A, rfl⟩ : ∃ A : Int, (show Ty.T I from A) = a := ⟨a, rfl⟩
 obtain ⟨B, rfl⟩ : ∃ B : Int, (show Ty.T I from B) = b := ⟨b, rfl⟩
 obtain ⟨a1, a2⟩ := bound_enc (z := 0) (a := A) ha
 obtain ⟨b1, b2⟩ := bound_enc (z := n) (a := B) hb
 refine ⟨A, B, a1, b1, ?_⟩
 have g3 : ∀ {x : Option α}, (if hi.isNone = true then k A B else val.gd (val.le (show Ty.T I from B) (show Ty.T I from n)) (k A B)) = some r → B ≤ n ∧ k A B = some r := fun {x} h => by
  by_cases hh : hi.isNone = true
  ·rw [if_pos hh] at h
   rw [b2 (Option.isNone_iff_eq_none.1 hh)]
   rw [b2 (Option.isNone_iff_eq_none.1 hh)] at h
   exact ⟨Int.le_refl _, h⟩
  ·rw [if_neg hh] at h
   obtain ⟨g, h⟩ := gd_some h
   exact ⟨le_val g, h⟩
 by_cases hl : lo.isNone = true
 ·have e := a2 (Option.isNone_iff_eq_none.1 hl)
  simp only [hl, if_true] at h
  by_cases hh : hi.isNone = true
  ·simp only [hh, true_and, and_self, if_true] at h
   have eb := b2 (Option.isNone_iff_eq_none.1 hh)
   refine ⟨by omega, by omega, by omega, fun _ => e, h⟩
  ·have hc : ¬ (True ∧ hi.isNone = true) := fun q => hh q.2
   rw [if_neg hc] at h
   obtain ⟨g, h⟩ := gd_some h
   have g : A ≤ B := le_val g
   obtain ⟨g', h⟩ := g3 (x := none) h
   exact ⟨by omega, g, g', fun _ => e, h⟩
 ·rw [if_neg hl] at h
  obtain ⟨g0, h⟩ := gd_some h
  have g0 : (0 : Int) ≤ A := le_val g0
  have hc : ¬ (lo.isNone = true ∧ hi.isNone = true) := fun q => hl q.1
  simp only at h
  rw [if_neg hc] at h
  obtain ⟨g, h⟩ := gd_some h
  have g : A ≤ B := le_val g
  obtain ⟨g', h⟩ := g3 (x := none) h
  exact ⟨g0, g, g', fun q => by rw [q] at hl; exact (hl rfl).elim, h⟩
theorem mi_val {lo : Option LO} {a b : Int} (h : lo = none → a = 0) : (if lo.isNone = true then (show Ty.T I from b) else val.mi (show Ty.T I from b) (show Ty.T I from a)) = (show Ty.T I from b - a) := by
 by_cases hl : lo.isNone = true
 ·rw [if_pos hl, h (Option.isNone_iff_eq_none.1 hl)]; show b = b - 0; omega
 ·rw [if_neg hl]; rfl
theorem slc_sim (hi : Inv s) {esz : Nat} {x : V Ty.T} {lo hi' : Option LO} {k : V Ty.T → Option α} (hx : okV s x) (h : slcD val s esz x lo hi' k = some r) :
  ∃ v, sliceV (encH s) esz (encV s x) (lo.map (enc s).ev) (hi'.map (enc s).ev) = some (encV s v) ∧ okV s v ∧ k v = some r := by
 unfold slcD at h
 split at h
 ·rename_i t v
  obtain ⟨L, rfl⟩ : ∃ L : List t.T, (show Ty.T (.ls t) from L) = v := ⟨v, rfl⟩
  split at h
  ·rename_i hsz
   subst hsz
   obtain ⟨a, b, h1, h2, h3, h4, h5, h6, h⟩ := slice_some (n := (L.length : Int)) (by omega) h
   refine ⟨.c (.lf (.ls t) (show Ty.T (.ls t) from (L.drop a.toNat).take (b - a).toNat)), ?_, leafV, ?_⟩
   ·show sliceV (encH s) t.sz (.lst L.length (L.flatMap t.cs)) _ _ = some (.lst ((L.drop a.toNat).take (b - a).toNat).length (((L.drop a.toNat).take (b - a).toNat).flatMap t.cs))
    simp only [sliceV, h1, h2]
    rw [if_pos ⟨h3, h4, h5, flat_len L⟩, flat_part]
    congr 2
    simp
    omega
   ·have := mi_val (lo := lo) (a := a) (b := b) h6
    rw [this] at h
    exact h
  ·cases h
 ·rename_i g ver
  have main : ∀ {v e : Nat} {el : TypeId} {cells : List AV} {z : Bool}, encH s g = some (.arr v e el cells z) → v = ver → e = esz → orNo val (rowLen val s g ver) (fun n => sliceD val s lo hi' n fun a b => k (.c (.part g ver a (if lo.isNone = true then b else val.mi b a)))) = some r →
    ∃ v, sliceV (encH s) esz (encV s (.c (.own g ver))) (lo.map (enc s).ev) (hi'.map (enc s).ev) = some (encV s v) ∧ okV s v ∧ k v = some r := by
   intro v e el cells z hH hv he h
   obtain ⟨n, hn, h⟩ := orNo_some h
   obtain ⟨_, _, _, _, hH2, hn⟩ := rowLen_some (n := n) hn
   rw [hn] at h
   obtain ⟨a, b, h1, h2, h3, h4, h5, h6, h⟩ := slice_some (n := (lenAt s g ver : Int)) (by omega) h
   have := mi_val (lo := lo) (a := a) (b := b) h6
   rw [this] at h
   refine ⟨_, ?_, okV_c (fun q hq => hx _ (by simp [V.all]; rfl) q (by simpa [refs] using hq)), h⟩
   simp only [encV, encC, sliceV, h1, h2]
   rw [if_pos ⟨h3, h4, h5, by simp [curA, hH, hv, he]⟩]
   simp only [Nat.zero_add]
  split at h
  ·rename_i v e el t l x nest z ho
   split at h
   ·rename_i hc; exact main (by rw [encH_some ho]; rfl) hc.1 hc.2 h
   ·cases h
  ·rename_i v e el l z ho
   split at h
   ·rename_i hc; exact main (by rw [encH_some ho]; rfl) hc.1 hc.2 h
   ·cases h
  ·cases h
 ·rename_i g ver off len
  obtain ⟨A, rfl⟩ : ∃ A : Int, (show Ty.T I from A) = off := ⟨off, rfl⟩
  obtain ⟨B, rfl⟩ : ∃ B : Int, (show Ty.T I from B) = len := ⟨len, rfl⟩
  split at h
  ·rename_i v e el t l x nest z ho
   split at h
   ·rename_i hc
    obtain ⟨g1, h⟩ := gd_some h
    obtain ⟨g2, h⟩ := gd_some h
    have g1 : (0 : Int) ≤ A := le_val g1
    have g2 : (0 : Int) ≤ B := le_val g2
    obtain ⟨a, b, h1, h2, h3, h4, h5, h6, h⟩ := slice_some (n := B) g2 h
    have hm := mi_val (lo := lo) (a := a) (b := b) h6
    rw [hm] at h
    have hp : (if lo.isNone = true then (show Ty.T I from A) else val.pl (show Ty.T I from A) (show Ty.T I from a)) = (show Ty.T I from A + a) := by
     by_cases hl : lo.isNone = true
     ·rw [if_pos hl, h6 (Option.isNone_iff_eq_none.1 hl)]; show A = A + 0; omega
     ·rw [if_neg hl]; rfl
    rw [hp] at h
    refine ⟨_, ?_, okV_c (fun q hq => hx _ (by simp [V.all]; rfl) q (by simpa [refs] using hq)), h⟩
    show sliceV (encH s) esz (.arr g ver A.toNat B.toNat) _ _ = some (.arr g ver (A + a).toNat (b - a).toNat)
    have hB : ((B.toNat : Nat) : Int) = B := Int.toNat_of_nonneg g2
    simp only [sliceV, h1, hB, h2]
    rw [if_pos ⟨h3, h4, h5, by simp [curA, encH_some ho, encO, hc.1, hc.2]⟩]
    congr 2
    omega
   ·cases h
  ·cases h
 ·obtain ⟨a, b, h1, h2, h3, h4, h5, h6, h⟩ := slice_some (n := 0) (Int.le_refl _) h
  refine ⟨_, ?_, okV_c (okC_leaf s rfl), h⟩
  simp only [encV, encC, sliceV, h1, h2]
  rw [if_pos ⟨by omega, by omega⟩]
 ·cases h
end
end Go.Dn
namespace Go.Dn
open Go Go.Vv
set_option linter.unusedVariables false
set_option linter.unusedSimpArgs false
section
variable {call : Vv.Call} {base g0 : Nat} {s : S Ty.T} {α : Type} {r : α}
def CallSim (call : Vv.Call) (Γ : FuncId → Option Ctr) : Prop := ∀ {α : Type} {base g0 : Nat} {s : S Ty.T} {r : α} {c : Ctr} {f : FuncId} {args : List LO} {k : LOp → V Ty.T → S Ty.T → Option α}, Inv s → Γ f = some c → callD val c f args s (args.map (ev val s)) k = some r →
 ∃ op' v s', Alt (.callp f args) op' ∧ Sim call base g0 s op' v s' ∧ k op' v s' = some r
theorem okPtr {x : LO} {c : C Ty.T} (hi : Inv s) (h : ev val s x = .c c) : okC s c := by
 have := ev_ok hi x
 rw [h] at this
 exact this c (by simp [V.all])
theorem okRef {c c' : C Ty.T} (h : okC s c) (hr : refs c' = refs c) : okV s (.c c') := okV_c (fun q hq => h q (by rw [← hr]; exact hq))
theorem shfV_ok {o : BinOp} {k : IntKind} {a b : Int} (hb : 0 ≤ b) (ho : o = .shl ∨ o = .shr) : shfV o k a b = some (.int k (ish o k a b)) := by
 rcases ho with rfl | rfl <;> (unfold shfV; rw [if_neg (by omega)]; rfl)
theorem caps_enc {F : LO → Option (Nat × Nat × Nat)} (hF : ∀ x p, F x = some p → ev val s x = .c (.ptr p.1 p.2.1 p.2.2)) {caps : List LO} {l : List (Nat × Nat × Nat)} (hi : Inv s) (h : mapL F caps = some l) :
  caps.map (enc s).ev = l.map (fun c => AV.ptr c.1 c.2.1 c.2.2) ∧ ∀ c ∈ l, okC s (.ptr c.1 c.2.1 c.2.2) := by
 induction caps generalizing l with
 | nil => simp only [mapL] at h; injection h with h; subst h; exact ⟨rfl, fun c hc => by cases hc⟩
 | cons x caps ih =>
  simp only [mapL] at h
  cases hx : F x with
  | none => rw [hx] at h; cases h
  | some p =>
   have hx := hF x p hx
   rename_i hx'
   rw [hx'] at h
   simp only [Option.bind_some] at h
   cases hm : mapL F caps with
   | none => rw [hm] at h; cases h
   | some l' =>
    rw [hm] at h
    have := Option.some.inj h
    subst this
    obtain ⟨i1, i2⟩ := ih hm
    refine ⟨?_, fun c hc => ?_⟩
    ·simp only [List.map_cons, i1, ev_enc, hx]; rfl
    ·rcases List.mem_cons.1 hc with rfl | hc
     ·exact okPtr hi hx
     ·exact i2 c hc
theorem curAny_row {g ver : Nat} {n : Int} (hn : rowLen val s g ver = some n) : curAny (encH s) g ver = true := by
 unfold rowLen at hn
 split at hn
 ·rename_i ho; split at hn
  ·rename_i hv; simp [curAny, encH_some ho, encO, hv]
  ·cases hn
 ·rename_i ho; split at hn
  ·rename_i hv; simp [curAny, encH_some ho, encO, hv]
  ·cases hn
 ·cases hn
theorem flat_rep {t : Ty} (z : t.T) : ∀ n, (List.replicate n z).flatMap t.cs = repeatL (t.cs z) n
 | 0 => rfl
 | n + 1 => by rw [List.replicate_succ, List.flatMap_cons, flat_rep z n]; rfl
theorem cs_flat : ∀ (t : Ty) (x : t.T), (t.cs x).all AV.flat = true
 | .int _, _ => rfl
 | .bool, _ => rfl
 | .str, _ => rfl
 | .ls _, _ => rfl
 | .bf _ _, _ => rfl
 | .u, _ => rfl
 | .p a b, (x, y) => by
  show (a.cs x ++ b.cs y).all AV.flat = true
  rw [List.all_append, cs_flat a x, cs_flat b y]; rfl
theorem packT_enc (s : S Ty.T) : ∀ {l : List (C Ty.T)} {t : Ty} {v : t.T}, packT val l = some ⟨t, v⟩ → l.map (encC s) = t.cs v
 | [], t, v, h => by
  simp only [packT, Option.some.injEq, Sigma.mk.injEq] at h
  obtain ⟨rfl, h⟩ := h
  rfl
 | .lf t' x :: r, t, v, h => by
  have key : ∀ (h1 : t'.one = true) (hh : (packT val r).map (fun p => (⟨.p t' p.1, val.pr x p.2⟩ : (t : Ty) × t.T)) = some ⟨t, v⟩), (C.lf t' x :: r).map (encC s) = t.cs v := fun h1 hh => by
   cases hr : packT val r with
   | none => rw [hr] at hh; cases hh
   | some p =>
    obtain ⟨t2, v2⟩ := p
    rw [hr] at hh
    simp only [Option.map_some, Option.some.injEq, Sigma.mk.injEq] at hh
    obtain ⟨rfl, hh⟩ := hh
    have hh := eq_of_heq hh
    subst hh
    rw [List.map_cons, packT_enc s hr]
    show oneOf (t'.cs x) :: t2.cs v2 = t'.cs x ++ t2.cs v2
    rw [cs_one h1 x]
    rfl
  cases t' with
  | u => cases h
  | p a b => cases h
  | _ => exact key rfl h
 | .any :: _, _, _, h => by cases h
 | .kb _ :: _, _, _, h => by cases h
 | .k _ :: _, _, _, h => by cases h
 | .own .. :: _, _, _, h => by cases h
 | .part .. :: _, _, _, h => by cases h
 | .ptr .. :: _, _, _, h => by cases h
 | .pti .. :: _, _, _, h => by cases h
 | .rp .. :: _, _, _, h => by cases h
 | .fn .. :: _, _, _, h => by cases h
 | .map .. :: _, _, _, h => by cases h
 | .yl _ :: _, _, _, h => by cases h
theorem op_sim {Γ : FuncId → Option Ctr} {ty : TypeId → Option Ty} {op : LOp} {k : LOp → V Ty.T → S Ty.T → Option α} (hC : CallSim call Γ) (hi : Inv s) (h : opD val Γ ty s g0 op k = some r) :
  ∃ op' v s', Alt op op' ∧ Sim call base g0 s op' v s' ∧ k op' v s' = some r := by
 have done : ∀ {v : V Ty.T} {s' : S Ty.T}, Sim call base g0 s op v s' → k op v s' = some r → ∃ op' v s', Alt op op' ∧ Sim call base g0 s op' v s' ∧ k op' v s' = some r := fun a b => ⟨op, _, _, .inl rfl, a, b⟩
 have same' : ∀ {v : V Ty.T}, evalOp call base (enc s) g0 op = some (encV s v, encH s) → okV s v → k op v s = some r → ∃ op' v s', Alt op op' ∧ Sim call base g0 s op' v s' ∧ k op' v s' = some r := fun a b c => done (.same hi a b) c
 have same := @same'
 have sm : ∀ {v : V Ty.T}, k op v s = some r → evalOp call base (enc s) g0 op = some (encV s v, encH s) → okV s v → ∃ op' v s', Alt op op' ∧ Sim call base g0 s op' v s' ∧ k op' v s' = some r := fun c a b => same' a b c
 clear same'
 cases op <;> simp only [opD] at h <;> try (cases h; done)
 case mov x => exact done (mov_sim hi) h
 case pick c a b =>
  split at h
  ·rename_i t hc
   have hcv : (enc s).ev c = .bool t := by rw [ev_enc, hc]; rfl
   refine same ?_ ?_ h
   ·simp only [evalOp, hcv, ev_enc]
    cases t <;> rfl
   ·cases t <;> exact ev_ok hi _
  ·cases h
 case alloc z =>
  split at h
  ·cases h
  ·rename_i h0; exact done (alloc_sim hi (by simpa using h0)) h
 case box x =>
  split at h
  ·cases h
  ·rename_i h0
   exact done (box_sim hi (by cases hl : look g0 s.ob with | none => rfl | some o => exact (h0 (.inl (by rw [hl]; rfl))).elim) (by cases hg : (ev val s x).good with | true => rfl | false => exact (h0 (.inr hg)).elim)) h
 case build z ps =>
  obtain ⟨l, hl, h⟩ := orNo_some h
  exact done (build_sim hi hl) h
 case bslice n esz el z ps =>
  obtain ⟨l, hl, h⟩ := orNo_some h
  split at h
  ·rename_i hc
   exact done (bslice_sim hi (by simpa using hc.2.2) hl hc.1 hc.2.1) h
  ·cases h
 case load ag n x =>
  obtain ⟨v, h1, h2, h3⟩ := load_sim hi (ev_ok hi x) h
  exact same (by simp only [evalOp, ev_enc]; rw [show (enc s).h = encH s from rfl, h1]) h2 h3
 case store n x y =>
  obtain ⟨s', h1, h2, h3, h4⟩ := store_sim hi (ev_ok hi y) h
  exact done ⟨by simp only [evalOp, ev_enc]; rw [show (enc s).h = encH s from rfl, h3]; rfl, h1, h2, okV_c (okC_leaf s' rfl)⟩ h4
 case ibin o x y =>
  obtain ⟨kk, -, h⟩ := orNo_some h
  obtain ⟨a, ha, h⟩ := orNo_some h
  obtain ⟨b, hb, h⟩ := orNo_some h
  obtain ⟨A, rfl⟩ : ∃ A : Int, (show Ty.T (.int kk) from A) = a := ⟨a, rfl⟩
  obtain ⟨B, rfl⟩ : ∃ B : Int, (show Ty.T (.int kk) from B) = b := ⟨b, rfl⟩
  have e1 := evI (a := A) ha
  have e2 := evI (a := B) hb
  have eb : ∀ v : AV, ibinV o kk A B = some v → evalOp call base (enc s) g0 (.ibin o x y) = some (v, encH s) := fun v q => by
   simp only [evalOp, e1, e2, if_true, q]; rfl
  split at h
  ·rename_i hcm
   exact same (v := .c (.lf .bool (icm o A B))) (eb _ (ibinV_cm hcm)) leafV h
  ·split at h
   ·rename_i har
    exact same (v := .c (.lf (.int kk) (iar o kk A B))) (eb _ (ibinV_ar har)) leafV h
   ·have key : ∀ q, (q = BinOp.quo ∨ q = BinOp.rem) → B ≠ 0 → ibinV q kk A B = some (.int kk (iar q kk A B)) := by
     rintro q (rfl | rfl) hb0
     ·simp only [ibinV]; rw [if_neg hb0]; rfl
     ·simp only [ibinV]; rw [if_neg hb0]; rfl
    have nz : val.cm .neq kk B (val.int kk 0) = true → B ≠ 0 := fun q => by
     have q : (B != 0) = true := q
     simpa using q
    split at h
    ·obtain ⟨g1, h⟩ := gd_some h
     exact same (v := .c (.lf (.int kk) (iar _ kk A B))) (eb _ (key _ (.inl rfl) (nz g1))) leafV h
    ·obtain ⟨g1, h⟩ := gd_some h
     exact same (v := .c (.lf (.int kk) (iar _ kk A B))) (eb _ (key _ (.inr rfl) (nz g1))) leafV h
    ·cases h
 case eqv ne ag sh x y =>
  have fin : ∀ {b : Bool}, eqV ag sh ((enc s).ev x) ((enc s).ev y) = some b → k (.eqv ne ag sh x y) (.c (.lf .bool (if ne = true then val.nt b else b))) s = some r → ∃ op' v s', Alt (.eqv ne ag sh x y) op' ∧ Sim call base g0 s op' v s' ∧ k op' v s' = some r := fun {b} q h => same (by
   simp only [evalOp, q]
   cases ne <;> rfl) leafV h
  split at h
  ·rename_i l m hx hy
   obtain ⟨b, hb, h⟩ := orNo_some h
   exact fin (by rw [ev_enc, ev_enc, hx, hy]; exact eqCs_enc hb) h
  ·rename_i u v hx hy
   obtain ⟨b, hb, h⟩ := orNo_some h
   exact fin (by rw [ev_enc, ev_enc, hx, hy]; exact eqCs_enc (l := [u]) (m := [v]) hb) h
  ·cases h
 case un o x =>
  split at h
  ·rename_i b hx
   exact sm h (by simp only [evalOp, ev_enc, hx]; rfl) (okV_c (okC_leaf s rfl))
  ·rename_i b hx
   exact sm h (by simp only [evalOp, ev_enc, hx]; rfl) leafV
  ·rename_i kk v hx
   exact sm h (by simp only [evalOp, ev_enc, hx]; rfl) leafV
  ·cases h
 case conv kk x =>
  split at h
  ·rename_i k' v hx
   exact sm h (by simp only [evalOp, ev_enc, hx]; rfl) leafV
  ·cases h
 case nilck x =>
  split at h
  ·rename_i g v o hx
   split at h
   ·rename_i hc
    exact sm h (by simp only [evalOp, ev_enc, hx, encV, encC]; rw [show (enc s).h = encH s from rfl, if_pos (cur_enc hc)]) (okRef (okPtr hi hx) rfl)
   ·cases h
  ·rename_i g v e i o hx
   split at h
   ·rename_i hc
    exact sm h (by simp only [evalOp, ev_enc, hx, encV, encC]; rw [show (enc s).h = encH s from rfl, if_pos (cur_enc hc)]) (okRef (okPtr hi hx) rfl)
   ·cases h
  ·rename_i t v o hx
   exact sm h (by simp only [evalOp, ev_enc, hx]; rfl) (okV_c (okC_leaf s rfl))
  ·rename_i f c hx
   exact sm h (by simp only [evalOp, ev_enc, hx]; rfl) (okRef (okPtr hi hx) rfl)
  ·rename_i f t v hx
   exact sm h (by simp only [evalOp, ev_enc, hx]; rfl) (okV_c (okC_leaf s rfl))
  ·cases h
 case mkbf f x =>
  split at h
  ·rename_i l hx
   obtain ⟨⟨t, v⟩, hp, h⟩ := orNo_some h
   have e := packT_enc s hp
   refine sm h ?_ (okV_c (okC_leaf s rfl))
   simp only [evalOp, ev_enc, hx, encV, e, cs_flat t v, if_true]
   rfl
  ·cases h
 case mkfn f caps =>
  obtain ⟨l, hl, h⟩ := orNo_some h
  obtain ⟨c1, c2⟩ := caps_enc (fun x p hp => by split at hp <;> first | (cases hp; done) | (have := Option.some.inj hp; subst this; assumption)) hi hl
  refine same (by simp only [evalOp, c1, encV, encC]; rfl) (okV_c fun q hq => ?_) h
  simp only [refs, List.mem_map] at hq
  obtain ⟨c, hc, rfl⟩ := hq
  exact c2 c hc (c.1, c.2.1) (by simp [refs])
 case mkS esz bytes el z l c =>
  split at h
  ·rename_i a b
   split at h
   ·rename_i hab
    subst hab
    obtain ⟨n, hn, h⟩ := orNo_some h
    obtain ⟨t, -, h⟩ := orNo_some h
    obtain ⟨⟨z', zr⟩, hz, h⟩ := orNo_some h
    simp only at h
    split at h
    ·rename_i hc
     obtain ⟨c1, c2, c3, c4, c5⟩ := hc
     obtain ⟨N, rfl⟩ : ∃ N : Int, (show Ty.T I from N) = n := ⟨n, rfl⟩
     have e1 := evI (a := N) hn
     obtain ⟨g1, h⟩ := gd_some h
     obtain ⟨g2, h⟩ := gd_some h
     have g1 : (0 : Int) ≤ N := le_val g1
     have g2 : N * bytes ≤ room ∧ N ≤ 9223372036854775807 := by
      have : decide (N * bytes ≤ room ∧ N ≤ 9223372036854775807) = true := g2
      simpa using this
     have hzr : zr = [] := by simpa using c2
     subst hzr
     have hz1 := impl_enc (leafOf_exact s) t hz
     rw [List.map_map, show z.map (encC s ∘ cC val) = z from (List.map_congr_left fun v _ => cC_enc s v).trans (List.map_id _), List.map_nil, List.append_nil] at hz1
     have h0 : look g0 s.ob = none := by simpa using c5
     refine done (new_sim hi h0 (av := .arr g0 (newVer (enc s).h g0) 0 N.toNat) (ao := .arr (newVer (enc s).h g0) esz el (repeatL z N.toNat) false) ?_ ?_ ?_ (fun c hc => by cases hc) (okV_c (ok_self rfl))) h
     ·simp only [evalOp, e1]
      rw [if_pos ⟨g1, Int.le_refl _, id, g2.1, g2.2⟩]
      rfl
     ·simp only [encV, encC]
      rw [show lenAt (s.obj g0 (.row (s.nv g0) esz el t (val.rp z' N) [] none false)) g0 (s.nv g0) = List.length (α := t.T) (val.rp z' N) + 0 / esz from lenAt_self (o := .row (s.nv g0) esz el t (val.rp z' N) [] none false), show (enc s).h = encH s from rfl, newVer_enc, Nat.zero_div, Nat.add_zero]
      rw [show List.length (α := t.T) (val.rp z' N) = N.toNat from List.length_replicate]
     ·simp only [Dn.encO]
      rw [show (enc s).h = encH s from rfl, newVer_enc, List.map_nil, List.append_nil, hz1, ← flat_rep]
      rfl
    ·cases h
   ·cases h
  ·rename_i k1 a k2 b
   split at h
   ·rename_i hc
    obtain ⟨c0, c1, c2, c3, c4, c5, c6⟩ := hc
    subst c0
    have h0 : look g0 s.ob = none := by simpa using c6
    have hl : (repC (z.map (cC val)) a.toNat).length = a.toNat * esz := by
     have := congrArg List.length (repC_enc z s a.toNat)
     rw [List.length_map] at this
     rw [this, ← c4]
     generalize a.toNat = m
     induction m with
     | zero => simp [repeatL]
     | succ m ih => simp [repeatL, ih, Nat.succ_mul, Nat.add_comm]
    have hs : Stab s (s.obj g0 (.lit (s.nv g0) esz el (repC (z.map (cC val)) a.toNat) false)) := stab_obj fun o0 h => by rw [h0] at h; cases h
    refine done (new_sim hi h0 (av := .arr g0 (newVer (enc s).h g0) 0 a.toNat) (ao := .arr (newVer (enc s).h g0) esz el (repeatL z a.toNat) false) ?_ ?_ ?_ (repC_ok z _ a.toNat) (okV_c (ok_self rfl))) h
    ·simp only [evalOp]
     show (if 0 ≤ a ∧ a ≤ a ∧ (a = 0 → a = 0) ∧ a * bytes ≤ room ∧ a ≤ 9223372036854775807 then _ else none) = _
     rw [if_pos ⟨c1, Int.le_refl _, id, c2, c3⟩]
     rfl
    ·simp only [encV, encC]
     rw [show lenAt (s.obj g0 (.lit (s.nv g0) esz el (repC (z.map (cC val)) a.toNat) false)) g0 (s.nv g0) = (repC (z.map (cC val)) a.toNat).length / esz from lenAt_self (o := .lit (s.nv g0) esz el (repC (z.map (cC val)) a.toNat) false), show (enc s).h = encH s from rfl, newVer_enc, hl, Nat.mul_div_cancel _ c5]
    ·simp only [Dn.encO]
     rw [repC_enc, show (enc s).h = encH s from rfl, newVer_enc]
   ·cases h
  ·cases h
 case slc esz x lo hi' =>
  obtain ⟨v, h1, h2, h3⟩ := slc_sim hi (ev_ok hi x) h
  exact same (by simp only [evalOp, ev_enc]; rw [show (enc s).h = encH s from rfl, h1]) h2 h3
 case faddr off x =>
  split at h
  ·rename_i g v o hx
   split at h
   ·rename_i hc
    exact sm h (by simp only [evalOp, ev_enc, hx, encV, encC, faddrV]; rw [show (enc s).h = encH s from rfl, if_pos (cur_enc hc)]) (okRef (okPtr hi hx) rfl)
   ·cases h
  ·rename_i g v e i o hx
   split at h
   ·rename_i hc
    exact sm h (by simp only [evalOp, ev_enc, hx, encV, encC, faddrV]; rw [show (enc s).h = encH s from rfl, if_pos (cur_enc hc)]; simp only [Nat.add_assoc]) (okRef (okPtr hi hx) rfl)
   ·cases h
  ·rename_i t v o hx
   exact sm h (by simp only [evalOp, ev_enc, hx, encV, encC, faddrV, List.drop_drop]; rfl) (okV_c (okC_leaf s rfl))
  ·cases h
 case fld ag off n x =>
  split at h
  ·rename_i l hx
   split at h
   ·rename_i hn
    obtain ⟨v, hv, h⟩ := orNo_some h
    obtain ⟨p1, p2⟩ := pack_enc hn hv s
    refine sm h (by simp only [evalOp, ev_enc, hx]; show (match pack ag (l.map (encC s)) off n with | some v => some (v, encH s) | none => none) = _; rw [p1]) (fun c hc => ?_)
    have := ev_ok hi x
    rw [hx] at this
    exact this c (p2 c hc)
   ·cases h
  ·cases h
 case iaddr esz x i =>
  obtain ⟨j, hj, h⟩ := orNo_some h
  obtain ⟨J, rfl⟩ : ∃ J : Int, (show Ty.T I from J) = j := ⟨j, rfl⟩
  have ei := evI (a := J) hj
  split at h
  ·rename_i t v hx
   obtain ⟨L, rfl⟩ : ∃ L : List t.T, (show Ty.T (.ls t) from L) = v := ⟨v, rfl⟩
   split at h
   ·rename_i hsz
    subst hsz
    obtain ⟨z, h0, hz, h⟩ := ge_some (l := L) (i := J) h
    have hl := (List.getElem?_eq_some_iff.1 hz).1
    refine sm h ?_ (okV_c (okC_leaf s rfl))
    simp only [evalOp, ei, ev_enc, hx]
    show (match iaddrV (encH s) t.sz (.lst L.length (L.flatMap t.cs)) (.int .i64 J) with | some v => some (v, encH s) | none => none) = some (AV.rptr ((t.cs z).drop 0), encH s)
    simp only [iaddrV]
    rw [if_pos ⟨h0, by omega⟩, flat_cut hz]
    rfl
   ·cases h
  ·rename_i g ver hx
   split at h
   ·rename_i v e el t l tl nest z ho
    split at h
    ·rename_i hc
     obtain ⟨rfl, rfl⟩ := hc
     obtain ⟨n, hn, h⟩ := orNo_some h
     obtain ⟨_, _, _, _, _, hn⟩ := rowLen_some (n := n) hn
     obtain ⟨g1, h⟩ := gd_some h
     have g1 : 0 ≤ J ∧ J < (lenAt s g v : Int) := by
      rw [hn] at g1
      have : decide (0 ≤ J ∧ J < (lenAt s g v : Int)) = true := g1
      simpa using this
     refine sm h ?_ (okRef (okPtr hi hx) rfl)
     simp only [evalOp, ei, ev_enc, hx, encV, encC, iaddrV]
     rw [show (enc s).h = encH s from rfl, if_pos ⟨g1.1, g1.2, by simp [curA, encH_some ho, encO]⟩]
     simp only [Nat.zero_add, Nat.add_zero]
    ·cases h
   ·cases h
  ·rename_i g ver off len hx
   obtain ⟨A, rfl⟩ : ∃ A : Int, (show Ty.T I from A) = off := ⟨off, rfl⟩
   obtain ⟨B, rfl⟩ : ∃ B : Int, (show Ty.T I from B) = len := ⟨len, rfl⟩
   split at h
   ·rename_i v e el t l tl nest z ho
    split at h
    ·rename_i hc
     obtain ⟨rfl, rfl⟩ := hc
     obtain ⟨g0', h⟩ := gd_some h
     have g0' : (0 : Int) ≤ A := le_val g0'
     obtain ⟨g1, h⟩ := gd_some h
     have g1 : 0 ≤ J ∧ J < B := by
      have : decide (0 ≤ J ∧ J < B) = true := g1
      simpa using this
     refine sm h ?_ (okRef (okPtr hi hx) rfl)
     simp only [evalOp, ei, ev_enc, hx]
     show (match iaddrV (encH s) e (.arr g v A.toNat B.toNat) (.int .i64 J) with | some v => some (v, encH s) | none => none) = some (.ptr g v ((A + J).toNat * e + 0), encH s)
     simp only [iaddrV]
     rw [if_pos ⟨g1.1, by omega, by simp [curA, encH_some ho, encO]⟩]
     simp only [Nat.add_zero]
     rw [show (A + J).toNat = A.toNat + J.toNat by omega]
    ·cases h
   ·cases h
  ·cases h
 case iaddrA len esz x i =>
  split at h
  ·rename_i g v o hx
   split at h
   ·rename_i hc
    have fin : ∀ m : Nat, m < len → (enc s).ev i = .int .i64 (m : Int) ∨ (∃ kk, (enc s).ev i = .int kk (m : Int)) → k (.iaddrA len esz x i) (.c (.ptr g v (o + m * esz))) s = some r → ∃ op' v s', Alt (.iaddrA len esz x i) op' ∧ Sim call base g0 s op' v s' ∧ k op' v s' = some r := by
     intro m hm he h
     obtain ⟨kk, he⟩ : ∃ kk, (enc s).ev i = .int kk (m : Int) := he.elim (fun q => ⟨_, q⟩) id
     refine sm h ?_ (okRef (okPtr hi hx) rfl)
     simp only [evalOp, he, ev_enc, hx, encV, encC, iaddrAV]
     rw [show (enc s).h = encH s from rfl, if_pos ⟨by omega, by omega, cur_enc hc⟩]
     simp only [Int.toNat_natCast]
    split at h
    ·rename_i kk n
     split at h
     ·rename_i hn
      exact fin n.toNat (by omega) (.inr ⟨kk, by show AV.int kk n = _; rw [Int.toNat_of_nonneg hn.1]⟩) h
     ·cases h
    ·obtain ⟨j, hj, h⟩ := orNo_some h
     obtain ⟨m, m1, m2, m3, m4⟩ := eachI_some h
     exact fin m (by omega) (.inl (by rw [evI hj]; exact congrArg _ m3)) m4
   ·cases h
  ·cases h
 case idx len esz ag x i =>
  split at h
  ·rename_i l hx
   have fin : ∀ m : Nat, m < len → m * esz + esz ≤ l.length → (∃ kk, (enc s).ev i = .int kk (m : Int)) → orNo val (pk ag (cutC l (m * esz) esz)) (fun v => k (.idx len esz ag x i) v s) = some r → ∃ op' v s', Alt (.idx len esz ag x i) op' ∧ Sim call base g0 s op' v s' ∧ k op' v s' = some r := by
    rintro m hm hl ⟨kk, he⟩ h
    obtain ⟨v, hv, h⟩ := orNo_some h
    obtain ⟨p1, p2⟩ := pack_enc hl hv s
    refine sm h ?_ (fun c hc => ?_)
    ·simp only [evalOp, he, ev_enc, hx, encV, idxV]
     rw [if_pos ⟨by omega, by omega⟩, Int.toNat_natCast, p1]; rfl
    ·have := ev_ok hi x
     rw [hx] at this
     exact this c (p2 c hc)
   split at h
   ·rename_i kk n
    split at h
    ·rename_i hn
     exact fin n.toNat (by omega) hn.2.2 ⟨kk, by show AV.int kk n = _; rw [Int.toNat_of_nonneg hn.1]⟩ h
    ·cases h
   ·obtain ⟨j, hj, h⟩ := orNo_some h
    obtain ⟨m, m1, m2, m3, m4⟩ := eachI_some h
    split at m4
    ·rename_i hl
     exact fin m (by omega) hl ⟨_, by rw [evI hj]; exact congrArg _ m3⟩ m4
    ·cases m4
  ·cases h
 case ext x i =>
  split at h
  ·rename_i l hx
   obtain ⟨p, hp, h⟩ := orNo_some h
   have hmem := List.mem_of_getElem? hp
   have hall : ∀ c ∈ p.2, okC s c := fun c hc => by
    have := ev_ok hi x
    rw [hx] at this
    exact this c (List.mem_flatMap.2 ⟨p, hmem, hc⟩)
   have he : evalOp call base (enc s) g0 (.ext x i) = some (if p.1 then .agg (p.2.map (encC s)) else oneOf (p.2.map (encC s)), encH s) := by
    simp only [evalOp, ev_enc, hx, encV, List.getElem?_map, hp, Option.map_some]
    rfl
   split at h
   ·exact sm h he hall
   ·exact sm h he (okV_c (hall _ (by simp)))
   ·cases h
  ·cases h
 case len x =>
  split at h
  ·rename_i t v hx
   exact sm h (by simp only [evalOp, ev_enc, hx]; rfl) leafV
  ·rename_i g ver hx
   obtain ⟨n, hn, h⟩ := orNo_some h
   obtain ⟨_, _, _, _, hH, hn'⟩ := rowLen_some (n := n) hn
   have hv : curAny (encH s) g ver = true := by
    unfold rowLen at hn
    split at hn
    ·rename_i ho; split at hn
     ·rename_i hv; simp [curAny, encH_some ho, encO, hv]
     ·cases hn
    ·rename_i ho; split at hn
     ·rename_i hv; simp [curAny, encH_some ho, encO, hv]
     ·cases hn
    ·cases hn
   refine same ?_ leafV h
   simp only [evalOp, ev_enc, hx, encV, encC, lenV]
   rw [show (enc s).h = encH s from rfl, if_pos hv]
   simp only [hn', Ty.cs, oneOf]
  ·rename_i g ver off n hx
   obtain ⟨n', hn, h⟩ := orNo_some h
   have hv : curAny (encH s) g ver = true := by
    unfold rowLen at hn
    split at hn
    ·rename_i ho; split at hn
     ·rename_i hv; simp [curAny, encH_some ho, encO, hv]
     ·cases hn
    ·rename_i ho; split at hn
     ·rename_i hv; simp [curAny, encH_some ho, encO, hv]
     ·cases hn
    ·cases hn
   obtain ⟨g1, h⟩ := gd_some h
   obtain ⟨B, rfl⟩ : ∃ B : Int, (show Ty.T I from B) = n := ⟨n, rfl⟩
   have g1 : (0 : Int) ≤ B := le_val g1
   refine same ?_ leafV h
   simp only [evalOp, ev_enc, hx, encV, encC, lenV]
   rw [show (enc s).h = encH s from rfl, if_pos hv]
   simp only [Ty.cs, oneOf]
   rw [show ((show Int from (show Ty.T I from B)).toNat : Int) = B from Int.toNat_of_nonneg g1]
  ·rename_i hx
   exact sm h (by simp only [evalOp, ev_enc, hx]; rfl) leafV
  ·cases h
 case lenS x =>
  split at h
  ·rename_i v hx
   exact sm h (by simp only [evalOp, ev_enc, hx]; rfl) leafV
  ·cases h
 case app esz bytes el zz x y =>
  obtain ⟨v, s', ⟨a1, a2, a3, a4⟩, h⟩ := app_sim hi h
  exact done ⟨by simp only [evalOp, ev_enc]; exact a1, a2, a3, a4⟩ h
 case callp f args =>
  obtain ⟨c, hc, h⟩ := orNo_some h
  exact hC hi hc h
 case shf o x y =>
  obtain ⟨kk, -, h⟩ := orNo_some h
  obtain ⟨a, ha, h⟩ := orNo_some h
  obtain ⟨k', -, h⟩ := orNo_some h
  obtain ⟨b, hb, h⟩ := orNo_some h
  obtain ⟨A, rfl⟩ : ∃ A : Int, (show Ty.T (.int kk) from A) = a := ⟨a, rfl⟩
  obtain ⟨B, rfl⟩ : ∃ B : Int, (show Ty.T (.int k') from B) = b := ⟨b, rfl⟩
  have e1 := evI (a := A) ha
  have e2 := evI (a := B) hb
  have nn : val.cm .geq k' B (val.int k' 0) = true → (0 : Int) ≤ B := fun q => by
   have q : decide (B ≥ 0) = true := q
   simpa using q
  split at h
  ·obtain ⟨g1, h⟩ := gd_some h
   exact sm h (by simp only [evalOp, e1, e2]; rw [shfV_ok (a := A) (nn g1) (.inl rfl)]; rfl) leafV
  ·obtain ⟨g1, h⟩ := gd_some h
   exact sm h (by simp only [evalOp, e1, e2]; rw [shfV_ok (a := A) (nn g1) (.inr rfl)]; rfl) leafV
  ·cases h
 case mm mx x y =>
  obtain ⟨kk, -, h⟩ := orNo_some h
  obtain ⟨a, ha, h⟩ := orNo_some h
  obtain ⟨k', -, h⟩ := orNo_some h
  obtain ⟨b, hb, h⟩ := orNo_some h
  exact sm h (by simp only [evalOp, evI ha, evI hb]; cases mx <;> rfl) leafV
 case isnil ne x =>
  split at h
  ·rename_i hx
   exact sm h (by simp only [evalOp, ev_enc, hx]; cases ne <;> rfl) (okV_c (okC_leaf s rfl))
  ·rename_i t v hx
   obtain ⟨L, rfl⟩ : ∃ L : List t.T, (show Ty.T (.ls t) from L) = v := ⟨v, rfl⟩
   obtain ⟨g1, h⟩ := gd_some h
   have g1 : (0 : Int) < (L.length : Int) := by
    have : decide ((L.length : Int) > 0) = true := g1
    simpa using this
   refine sm h ?_ (okV_c (okC_leaf s rfl))
   simp only [evalOp, ev_enc, hx]
   cases L with
   | nil => simp at g1
   | cons q L => cases ne <;> rfl
  ·rename_i g ver hx
   obtain ⟨n, hn, h⟩ := orNo_some h
   obtain ⟨_, _, _, _, hH, hn'⟩ := rowLen_some (n := n) hn
   obtain ⟨g1, h⟩ := gd_some h
   have g1 : (0 : Int) < (lenAt s g ver : Int) := by
    rw [hn'] at g1
    have : decide ((lenAt s g ver : Int) > 0) = true := g1
    simpa using this
   refine sm h ?_ (okV_c (okC_leaf s rfl))
   simp only [evalOp, ev_enc, hx, encV, encC, isNilV]
   rw [show (enc s).h = encH s from rfl, if_pos ⟨curAny_row hn, by omega⟩]
   cases ne <;> rfl
  ·cases h
end
end Go.Dn
