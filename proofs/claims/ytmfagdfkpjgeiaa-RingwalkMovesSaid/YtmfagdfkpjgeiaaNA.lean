/- An evaluator over abstract values for a part of the language of the model: the values, the heap, the operations, the code. Definitions alone. -/
import Derived.Calls
import Derived.Laws.Entries
import Derived.Laws.Rows
import Derived.Laws.Append
import Derived.Laws.CopyRow
import Derived.Laws.Tables
import Derived.Laws.MakeOwn
import Derived.Deep.Draws
import Derived.Laws.Cells
import Derived.Laws.StructEq
import Derived.Great.BuildSlice
import Derived.Laws.AppendOwn
open List renaming getElem?_eq_some_iff → Aa, getElem?_append_right → Ac, getElem?_append_left → Ae, getElem?_drop → Ai, getElem?_take → Am, getElem?_eq_getElem → Ap, append_assoc → Aq, drop_eq_nil_of_le → Au, append_eq_nil_iff → Av, mem_map → Ax
open Nat renaming le_refl → Ab, add_mul → Ad, add_assoc → Ag, eq_zero_or_pos → Aj, mul_le_mul_right → Ak, le_trans → Ao, mul_eq_zero → As, le_succ → Aw
open Bool renaming false_eq_true → Af
open Prod.mk renaming injEq → Ah
open Int renaming toNat_natCast → Ar
namespace Go.Vv
inductive AV where
 | any
 | bool (b:Bool)
 | int (k:IntKind) (n:Int)
 | str (s:ByteArray)
 | nils
 | nilp
 | nilf
 | nilm
 | lst (n:Nat) (l:List AV)
 | rptr (l:List AV)
 | fn (f:FuncId) (caps:List AV)
 | agg (l:List AV)
 | tup (l:List AV)
 | arr (g ver off len:Nat)
 | ptr (g ver off:Nat)
 | map (g ver:Nat)
 | mpr (ks vs:List AV)
 | yld (j:Nat)
 | bfn (f:FuncId) (l:List AV)
 deriving Inhabited
inductive AObj where
 | box (ver:Nat) (cells:List AV)
 | arr (ver esz:Nat) (el:TypeId) (cells:List AV) (fz:Bool)
 | map (ver:Nat) (es:List (AV×AV)) (fz:Bool)
 deriving Inhabited
def AObj.ver:AObj→Nat
 | .box v _=>v
 | .arr v _ _ _ _=>v
 | .map v _ _=>v
def AObj.fz:AObj→Bool
 | .arr _ _ _ _ z=>z
 | .map _ _ z=>z
 | _=>false
def AObj.live:AObj→Bool
 | .arr _ _ _ [] _=>false
 | _=>true
abbrev Heap:=Nat→Option AObj
structure St where
 f:Nat→AV
 h:Heap
def upd {α:Type} (f:Nat→α) (d:Nat) (v:α):Nat→α:=fun n=>if n=d then v else f n
def fr:List (Nat×AV)→Nat→AV
 | []=>fun _=>.any
 | (d,v)::r=>fun n=>if n=d then v else fr r n
def hl:List (Nat×AObj)→Heap
 | []=>fun _=>none
 | (d,v)::r=>fun n=>if n=d then some v else hl r n
def Jp (h:Heap) (g:Nat):Nat:=match h g with|none=>0|some o=>o.ver+1
def St.put (σ:St) (d:Option Nat) (v:AV) (h:Heap):St :=
 match d with
 | some d=>⟨upd σ.f d v,h⟩
 | none=>⟨σ.f,h⟩
def AV.one:AV→Bool
 | .any|.agg _|.tup _=>false
 | _=>true
def AV.flat:AV→Bool
 | .bool _|.int _ _|.str _|.nils|.nilp|.nilf|.nilm|.lst _ _|.rptr _|.mpr _ _|.bfn _ _=>true
 | _=>false
def AV.cells:AV→Option (List AV)
 | .agg l=>some l
 | v=>if v.one then some [v] else none
def AV.scalar:AV→Bool
 | .bool _|.int _ _|.str _=>true
 | .agg l=>l.all fun|.bool _|.int _ _|.str _=>true|_=>false
 | .tup l=>l.all fun|.bool _|.int _ _|.str _=>true|.agg l=>l.all (fun|.bool _|.int _ _|.str _=>true|_=>false)|_=>false
 | _=>false
def cut (l:List AV) (off n:Nat):List AV:=(l.drop off).take n
def pack (ag:Bool) (l:List AV) (off n:Nat):Option AV :=
 if off+n≤l.length then
  if ag then some (.agg (cut l off n)) else l[off]?
 else none
def paste (l:List AV) (off:Nat) (new:List AV):List AV:=l.take off++new++l.drop (off+new.length)
mutual
def AV.noNm:AV→Bool
 | .any|.arr .. | .ptr .. | .map .. | .yld _=>false
 | .fn _ l|.agg l|.tup l=>Jrf l
 | _=>true
def Jrf:List AV→Bool
 | []=>true
 | v::r=>v.noNm&&Jrf r
end
def snap (h:Heap):Nat→AV→Option (AV×List Nat)
 | 0,_=>none
 | k+1,v =>
  match v with
  | .any|.ptr .. | .yld _=>none
  | .map _ _=>none
  | .arr g ver off len =>
   match h g with
   | some (.arr ver' esz _ cells _) =>
    if ver=ver'∧(off+len) * esz≤cells.length then
     let l:=cut cells (off * esz) (len * esz)
     if l.all AV.flat then some (.lst len l,[g]) else
     match l.mapM (snap h k) with
     | some ps=>some (.lst len (ps.map (·.1)),g::ps.flatMap (·.2))
     | none=>none
    else none
   | _=>none
  | .fn f caps =>
   match caps.mapM (snap h k) with
   | some ps=>some (.fn f (ps.map (·.1)),ps.flatMap (·.2))
   | none=>none
  | .agg l =>
   if l.all AV.flat then some (.agg l,[]) else
   match l.mapM (snap h k) with
   | some ps=>some (.agg (ps.map (·.1)),ps.flatMap (·.2))
   | none=>none
  | .tup l =>
   match l.mapM (snap h k) with
   | some ps=>some (.tup (ps.map (·.1)),ps.flatMap (·.2))
   | none=>none
  | v=>some (v,[])
def depth:Nat:=8
def Jai (h:Heap) (l:List AV):Option (List AV×List Nat) :=
 match l.mapM (snap h depth) with
 | some ps=>some (ps.map (·.1),ps.flatMap (·.2))
 | none=>none
def AObj.freeze:AObj→AObj
 | .arr v e t c _=>.arr v e t c true
 | o=>o
def Je (h:Heap) (ns:List Nat):Heap:=fun g=>if g∈ns then (h g).map AObj.freeze else h g
def Jrm (nt:Nat):Option Nat→Bool
 | some d=>decide (d<nt)
 | none=>true
inductive LO where
 | t (n:Nat)
 | c (v:AV)
 deriving Inhabited
def St.ev (σ:St):LO→AV
 | .t n=>σ.f n
 | .c v=>v
inductive LOp where
 | mov (x:LO)
 | pick (c a b:LO)
 | alloc (z:List AV)
 | box (x:LO)
 | build (z:List AV) (parts:List (Nat×Nat×LO))
 | bslice (n esz:Nat) (el:TypeId) (z:List AV) (parts:List (Nat×Nat×LO))
 | load (ag:Bool) (n:Nat) (x:LO)
 | store (n:Nat) (x y:LO)
 | ibin (op:BinOp) (x y:LO)
 | eqv (ne ag:Bool) (sh:List Bool) (x y:LO)
 | un (op:UnOp) (x:LO)
 | conv (k:IntKind) (x:LO)
 | nilck (x:LO)
 | mkfn (f:FuncId) (caps:List LO)
 | mkbf (f:FuncId) (x:LO)
 | mkS (esz bytes:Nat) (el:TypeId) (z:List AV) (l c:LO)
 | slc (esz:Nat) (x:LO) (lo hi:Option LO)
 | faddr (off:Nat) (x:LO)
 | fld (ag:Bool) (off n:Nat) (x:LO)
 | iaddr (esz:Nat) (x i:LO)
 | iaddrA (len esz:Nat) (x i:LO)
 | idx (len esz:Nat) (ag:Bool) (x i:LO)
 | ext (x:LO) (i:Nat)
 | len (x:LO)
 | lenM (x:LO)
 | lenS (x:LO)
 | app (esz bytes:Nat) (el:TypeId) (z:List AV) (x y:LO)
 | callp (f:FuncId) (args:List LO)
 | callz (f:FuncId) (args:List LO)
 | callv (x:LO) (args:List LO)
 | callq (f:FuncId) (args:List LO)
 | mkM (k e el:TypeId)
 | look (ok ag:Bool) (sh:List Bool) (z:AV) (x k:LO)
 | setM (ag:Bool) (sh:List Bool) (x k v:LO)
 | delM (ag:Bool) (sh:List Bool) (x k:LO)
 | shf (op:BinOp) (x y:LO)
 | mm (mx:Bool) (x y:LO)
 | isnil (ne:Bool) (x:LO)
 | appn (ds:List Nat) (esz bytes:Nat) (el:TypeId) (zz:List AV) (x y:LO)
 | ston (ds:List Nat) (n:Nat) (x y:LO)
 | msk (ds:List Nat) (op:LOp)
 | allocA (esz:Nat) (t:TypeId) (z:List AV)
 | slcA (n esz:Nat) (x:LO)
 deriving Inhabited
structure LOper where
 dst:Option Nat
 op:LOp
 guard:Option (Nat×Bool)
 deriving Inhabited
abbrev Call:=FuncId→List AV→Option (Heap×Nat)→Option (AV×Heap)
def Jf5 (op:BinOp) (k:IntKind) (a b:Int):Option AV :=
 match op with
 | .add=>some (.int k (k.wrap (a+b)))
 | .sub=>some (.int k (k.wrap (a - b)))
 | .mul=>some (.int k (k.wrap (a * b)))
 | .quo=>if b=0 then none else some (.int k (k.wrap (a.tdiv b)))
 | .rem=>if b=0 then none else some (.int k (a.tmod b))
 | .eql=>some (.bool (a==b))
 | .neq=>some (.bool (a != b))
 | .lss=>some (.bool (a<b))
 | .leq=>some (.bool (a≤b))
 | .gtr=>some (.bool (a > b))
 | .geq=>some (.bool (a≥b))
 | .and=>some (.int k (bits .and k a b))
 | .or=>some (.int k (bits .or k a b))
 | .xor=>some (.int k (bits .xor k a b))
 | .andNot=>some (.int k (bits .andNot k a b))
 | _=>none
def Xt:Bool→AV→AV→Option Bool
 | false,.int k a,.int k' b=>if k=k' then some (a==b) else none
 | true,.bool a,.bool b=>some (a==b)
 | _,_,_=>none
def Jl:List Bool→List AV→List AV→Option Bool
 | [],[],[]=>some true
 | s::ss,x::xs,y::ys =>
  match Xt s x y,Jl ss xs ys with
  | some a,some b=>some (a&&b)
  | _,_=>none
 | _,_,_=>none
def eqV (ag:Bool) (sh:List Bool) (x y:AV):Option Bool :=
 if ag then (match x,y with|.agg l,.agg m=>Jl sh l m|_,_=>none) else Jl sh [x] [y]
def Jjg (ag:Bool) (sh:List Bool) (k:AV):Bool:=(eqV ag sh k k).isSome
def posM (ag:Bool) (sh:List Bool) (k:AV):Nat→List (AV×AV)→Option (Option Nat)
 | _,[]=>some none
 | i,p::r=>match eqV ag sh k p.1 with
  | some true=>some (some i)
  | some false=>posM ag sh k (i+1) r
  | none=>none
def atM (es:List (AV×AV)) (z:AV):Option Nat→AV
 | some j=>match es[j]? with|some p=>p.2|none=>z
 | none=>z
def putM (es:List (AV×AV)) (k v:AV):Option Nat→List (AV×AV)
 | some j=>es.set j (k,v)
 | none=>es++[(k,v)]
def outM (es:List (AV×AV)):Option Nat→List (AV×AV)
 | some j=>es.eraseIdx j
 | none=>es
def Jbz (ev:LO→AV):List AV→List (Nat×Nat×LO)→Option (List AV)
 | z,[]=>some z
 | z,(off,n,x)::r =>
  match (ev x).cells with
  | some c=>if c.length=n∧off+n≤z.length then Jbz ev (paste z off c) r else none
  | none=>none
def Q2 (h:Heap):AV→Option (List AV×Nat)
 | .rptr l=>some (l,0)
 | .ptr g ver off =>
  match h g with
  | some (.box ver' cells)=>if ver=ver' then some (cells,off) else none
  | some (.arr ver' _ _ cells _)=>if ver=ver'∧cells≠[] then some (cells,off) else none
  | _=>none
 | _=>none
def Yk (h:Heap) (ag:Bool) (n:Nat) (x:AV):Option AV :=
 match Q2 h x with
 | some (l,off)=>pack ag l off n
 | none=>none
def jh (h:Heap) (n:Nat) (x y:AV):Option Heap :=
 match x,y.cells with
 | .ptr g ver off,some c =>
  if c.length=n then
  match h g with
  | some (.box ver' cells)=>if ver=ver'∧off+n≤cells.length then some (upd h g (some (.box ver' (paste cells off c)))) else none
  | some (.arr ver' esz el cells false)=>if ver=ver'∧off+n≤cells.length∧cells≠[] then some (upd h g (some (.arr ver' esz el (paste cells off c) false))) else none
  | _=>none
  else none
 | _,_=>none
def cur (h:Heap) (g ver:Nat):Bool:=match h g with|some o=>o.ver==ver|none=>false
def curA (h:Heap) (g ver esz:Nat):Bool:=match h g with|some (.arr v e _ _ _)=>v==ver&&e==esz|_=>false
def Qa (h:Heap) (g ver:Nat):Bool:=match h g with|some (.arr v _ _ _ _)=>v==ver|_=>false
def curM (h:Heap) (g ver:Nat):Option (List (AV×AV)):=match h g with|some (.map v es false)=>if v=ver then some es else none|_=>none
def esOf (h:Heap):AV→Option (List (AV×AV))
 | .nilm=>some []
 | .mpr ks vs=>some (ks.zip vs)
 | .map g ver=>curM h g ver
 | _=>none
def lookP (ok:Bool) (z:AV) (es:List (AV×AV)):Option (Option Nat)→Option AV
 | some j=>some (if ok=true then .tup [atM es z j,.bool j.isSome] else atM es z j)
 | none=>none
def Jqv (ok ag:Bool) (sh:List Bool) (z k:AV):Option (List (AV×AV))→Option AV
 | some es=>if Jjg ag sh k=true then lookP ok z es (posM ag sh k 0 es) else none
 | none=>none
def setE (h:Heap) (g ver:Nat) (es:List (AV×AV)) (k v:AV):Option (Option Nat)→Option Heap
 | some j=>some (upd h g (some (.map ver (putM es k v j) false)))
 | none=>none
def setV (h:Heap) (ag:Bool) (sh:List Bool) (k v:AV):AV→Option Heap
 | .map g ver=>match curM h g ver with
  | some es=>if Jjg ag sh k=true then setE h g ver es k v (posM ag sh k 0 es) else none
  | none=>none
 | _=>none
def delE (h:Heap) (g ver:Nat) (es:List (AV×AV)):Option (Option Nat)→Option Heap
 | some j=>some (upd h g (some (.map ver (outM es j) false)))
 | none=>none
def delV (h:Heap) (ag:Bool) (sh:List Bool) (k:AV):AV→Option Heap
 | .map g ver=>match curM h g ver with
  | some es=>if Jjg ag sh k=true then delE h g ver es (posM ag sh k 0 es) else none
  | none=>none
 | _=>none
def upZ:AV→AV
 | .nils=>.lst 0 []
 | v=>v
def mmV (mx:Bool) (a b:Int):Int:=if mx=true then (if b > a then b else a) else (if b<a then b else a)
def shfV (op:BinOp) (k:IntKind) (a b:Int):Option AV :=
 if b<0 then none else
 match op with
 | .shl=>some (.int k (k.wrap (a * 2 ^ (min b.toNat k.bits))))
 | .shr=>some (.int k (a.fdiv (2 ^ (min b.toNat k.bits))))
 | _=>none
def lenV (h:Heap):AV→Option Int
 | .nils=>some 0
 | .lst n _=>some n
 | .arr g ver _ len=>if Qa h g ver then some len else none
 | _=>none
def lenM (h:Heap):AV→Option Int
 | .nilm=>some 0
 | .mpr ks _=>some ks.length
 | .map g ver=>match curM h g ver with
  | some es=>some es.length
  | _=>none
 | _=>none
def lenS:AV→Option Int
 | .str s=>some s.size
 | _=>none
def Jbl (h:Heap):AV→Option Bool
 | .nils=>some true
 | .lst 0 []=>none
 | .lst _ _=>some false
 | .arr g ver _ len=>if Qa h g ver=true∧len≠0 then some false else none
 | _=>none
def slcAO (g ver n esz:Nat):Option AObj→Option AV
 | some (.arr ver' esz' _ cells _)=>if ver=ver'∧esz=esz'∧cells.length=n * esz∧cells≠[] then some (.arr g ver 0 n) else none
 | _=>none
def Jk2 (h:Heap) (n esz:Nat):AV→Option AV
 | .ptr g ver 0=>slcAO g ver n esz (h g)
 | _=>none
def Q7 (d:Int):Option AV→Option Int
 | none=>some d
 | some (.int _ n)=>some n
 | _=>none
def Xu (h:Heap) (esz:Nat) (x:AV) (lo hi:Option AV):Option AV :=
 match x with
 | .lst n l =>
  match Q7 0 lo,Q7 n hi with
  | some a,some b=>if 0≤a∧a≤b∧b≤n∧l.length=n * esz then some (.lst (b - a).toNat (cut l (a.toNat * esz) ((b - a).toNat * esz))) else none
  | _,_=>none
 | .arr g ver off len =>
  match Q7 0 lo,Q7 len hi with
  | some a,some b=>if 0≤a∧a≤b∧b≤len∧curA h g ver esz=true then some (.arr g ver (off+a.toNat) (b - a).toNat) else none
  | _,_=>none
 | .nils =>
  match Q7 0 lo,Q7 0 hi with
  | some a,some b=>if a=0∧b=0 then some .nils else none
  | _,_=>none
 | _=>none
def Xw (h:Heap) (off:Nat):AV→Option AV
 | .ptr g ver o=>if cur h g ver then some (.ptr g ver (o+off)) else none
 | .rptr l=>some (.rptr (l.drop off))
 | _=>none
def Q6 (h:Heap) (esz:Nat) (x i:AV):Option AV :=
 match x,i with
 | .lst n l,.int _ i=>if 0≤i∧i<n then some (.rptr (cut l (i.toNat * esz) esz)) else none
 | .arr g ver off len,.int _ i=>if 0≤i∧i<len∧curA h g ver esz=true then some (.ptr g ver ((off+i.toNat) * esz)) else none
 | _,_=>none
def Ze (h:Heap) (len esz:Nat) (x i:AV):Option AV :=
 match x,i with
 | .ptr g ver o,.int _ i=>if 0≤i∧i<len∧cur h g ver=true then some (.ptr g ver (o+i.toNat * esz)) else none
 | .rptr l,.int _ i=>if 0≤i∧i<len then some (.rptr (l.drop (i.toNat * esz))) else none
 | _,_=>none
def idxV (len esz:Nat) (ag:Bool) (x i:AV):Option AV :=
 match x,i with
 | .agg l,.int _ i=>if 0≤i∧i<len then pack ag l (i.toNat * esz) esz else none
 | _,_=>none
def Q5 (h:Heap) (esz:Nat):AV→Option (List AV)
 | .nils=>some []
 | .lst n l=>if l.length=n * esz then some l else none
 | .arr g ver off len =>
  match h g with
  | some (.arr ver' esz' _ cells _)=>if ver=ver'∧esz=esz'∧(off+len) * esz≤cells.length then some (cut cells (off * esz) (len * esz)) else none
  | _=>none
 | _=>none
def room:Nat:=140737488355328
def K2 (z:List AV):Nat→List AV
 | 0=>[]
 | n+1=>z++K2 z n
def appV (h:Heap) (g0:Nat) (esz bytes:Nat) (el:TypeId) (x y:AV):Option (AV×Heap) :=
 match lenV h y,Q5 h esz y with
 | some m,some new =>
  match x with
  | .nils =>
   if new=[] then some (.nils,h)
   else if m * bytes≤room∧(m:Int)≤9223372036854775807 then some (.arr g0 (Jp h g0+1) 0 m.toNat,upd h g0 (some (.arr (Jp h g0+1) esz el new false)))
   else none
  | .arr g ver off len =>
   match h g with
   | some (.arr ver' esz' el' cells false) =>
    if ver=ver'∧esz=esz'∧el=el'∧(off+len) * esz≤cells.length∧(len+m) * bytes≤room∧(len+m:Int)≤9223372036854775807 then
     if cells≠[]∧len=0∧new=[] then some (.arr g ver off len,h)
     else some (.arr g (ver+1) 0 (len+m.toNat),upd h g (some (.arr (ver+1) esz el (cut cells (off * esz) (len * esz)++new) false)))
    else none
   | some (.arr ver' _ _ _ true)=>if ver=ver'∧new=[] then some (.arr g ver off len,h) else none
   | _=>none
  | .lst n l=>if new=[] then some (.lst n l,h) else none
  | _=>none
 | _,_=>none
def Jva (off g:Nat):Option (List (AV×List Nat))→Option (AV×List Nat)
 | some ps=>some (.rptr ((ps.map (·.1)).drop off),g::ps.flatMap (·.2))
 | none=>none
def qbox (h:Heap) (g ver off:Nat):Option AObj→Option (AV×List Nat)
 | some (.box v cells)=>if v=ver then (if cells.all AV.flat=true then some (.rptr (cells.drop off),[g]) else Jva off g (cells.mapM (snap h depth))) else none
 | _=>none
def Jjn (h:Heap):AV→Option (AV×List Nat)
 | .ptr g ver off=>qbox h g ver off (h g)
 | v=>snap h depth v
def Ji9:Option (AV×List Nat)→Option (List AV×List Nat)→Option (List AV×List Nat)
 | some (u,ns),some (us,ms)=>some (u::us,ns++ms)
 | _,_=>none
def Jir (h:Heap):List AV→Option (List AV×List Nat)
 | []=>some ([],[])
 | v::r=>Ji9 (Jjn h v) (Jir h r)
def qfn (f:FuncId):Option (List AV×List Nat)→Option (AV×List Nat)
 | some (us,ns)=>some (.fn f us,ns)
 | none=>none
def qarg (h:Heap):AV→Option (AV×List Nat)
 | .fn f caps=>qfn f (Jir h caps)
 | v=>Jjn h v
def Jd0 (h:Heap):List AV→Option (List AV×List Nat)
 | []=>some ([],[])
 | v::r=>Ji9 (qarg h v) (Jd0 h r)
def retQ (h:Heap):Option (AV×Heap)→Option (AV×Heap)
 | some (v,_)=>if v.scalar=true then some (v,h) else none
 | none=>none
def calQ (call:FuncId→List AV→Option (Heap×Nat)→Option (AV×Heap)) (f:FuncId) (h:Heap):Option (List AV×List Nat)→Option (AV×Heap)
 | some (vs,_)=>retQ h (call f vs none)
 | none=>none
def LOp.cls:LOp→Nat
 | .mov _|.pick .. | .build .. | .ibin .. | .eqv .. | .un .. | .conv .. | .mkfn .. | .mkbf .. | .fld .. | .idx .. | .ext .. | .lenS _|.shf .. | .mm ..=>0
 | .load .. | .nilck _|.slc .. | .faddr .. | .iaddr .. | .iaddrA .. | .len _|.lenM _|.callp .. | .callv .. | .look .. | .callq .. | .isnil .. | .slcA .. | .msk ..=>1
 | .alloc _|.allocA .. | .box _|.bslice .. | .mkS .. | .mkM ..=>2
 | .store .. | .app .. | .appn .. | .ston .. | .callz .. | .setM .. | .delM ..=>3
def inNm (base:Nat) (ds:List Nat) (g:Nat):Bool:=ds.any fun d=>base+d==g
def Kb (base:Nat) (ds:List Nat) (h:Heap):Heap:=fun g=>if inNm base ds g=true then none else h g
def mskR (h:Heap):Option (AV×Heap)→Option (AV×Heap)
 | some (v,_)=>some (v,h)
 | none=>none
def nwOK (base:Nat) (ds:List Nat) (g0:Nat):AV→Bool
 | .arr g _ _ _=>inNm base ds g
 | .nils=>inNm base ds g0
 | .ptr g _ _=>inNm base ds g
 | _=>false
def apnV (base:Nat) (ds:List Nat) (g0:Nat) (x:AV) (r:Option (AV×Heap)):Option (AV×Heap) :=
 if nwOK base ds g0 x=true then r else none
def Ja (call:Call) (base:Nat) (σ:St) (g0:Nat):LOp→Option (AV×Heap)
 | .mov x=>some (σ.ev x,σ.h)
 | .pick c a b=>match σ.ev c with|.bool t=>some (if t then σ.ev a else σ.ev b,σ.h)|_=>none
 | .alloc z=>some (.ptr g0 (Jp σ.h g0) 0,upd σ.h g0 (some (.box (Jp σ.h g0) z)))
 | .box x=>match (σ.ev x).cells with
  | some c=>some (.ptr g0 (Jp σ.h g0) 0,upd σ.h g0 (some (.box (Jp σ.h g0) c)))
  | none=>none
 | .build z ps=>match Jbz σ.ev z ps with|some l=>some (.agg l,σ.h)|none=>none
 | .bslice n esz el z ps=>match Jbz σ.ev (K2 z n) ps with
  | some l=>some (.arr g0 (Jp σ.h g0) 0 n,upd σ.h g0 (some (.arr (Jp σ.h g0) esz el l false)))
  | none=>none
 | .load ag n x=>match Yk σ.h ag n (σ.ev x) with|some v=>some (v,σ.h)|none=>none
 | .store n x y=>match jh σ.h n (σ.ev x) (σ.ev y) with|some h=>some (.any,h)|none=>none
 | .ibin op x y=>match σ.ev x,σ.ev y with
  | .int k a,.int k' b=>if k=k' then (match Jf5 op k a b with|some v=>some (v,σ.h)|none=>none) else none
  | _,_=>none
 | .eqv ne ag sh x y=>match eqV ag sh (σ.ev x) (σ.ev y) with|some b=>some (.bool (if ne then !b else b),σ.h)|none=>none
 | .un op x=>match op,σ.ev x with
  | .not,.bool b=>some (.bool !b,σ.h)
  | .neg,.int k n=>some (.int k (k.wrap (0 - n)),σ.h)
  | _,_=>none
 | .conv k x=>match σ.ev x with|.int _ n=>some (.int k (k.wrap n),σ.h)|_=>none
 | .nilck x=>match σ.ev x with
  | .ptr g v o=>if cur σ.h g v then some (.ptr g v o,σ.h) else none
  | .rptr l=>some (.rptr l,σ.h)
  | .fn f caps=>some (.fn f caps,σ.h)
  | .bfn f l=>some (.bfn f l,σ.h)
  | _=>none
 | .mkfn f caps=>some (.fn f (caps.map σ.ev),σ.h)
 | .mkbf f x=>match σ.ev x with
  | .agg l=>if l.all AV.flat=true then some (.bfn f l,σ.h) else none
  | _=>none
 | .mkS esz bytes el z l c=>match σ.ev l,σ.ev c with
  | .int _ n,.int _ m =>
   if 0≤n∧n≤m∧(n=0→m=0)∧m * bytes≤room∧m≤9223372036854775807 then some (.arr g0 (Jp σ.h g0) 0 n.toNat,upd σ.h g0 (some (.arr (Jp σ.h g0) esz el (K2 z n.toNat) false))) else none
  | _,_=>none
 | .slc esz x lo hi=>match Xu σ.h esz (σ.ev x) (lo.map σ.ev) (hi.map σ.ev) with|some v=>some (v,σ.h)|none=>none
 | .faddr off x=>match Xw σ.h off (σ.ev x) with|some v=>some (v,σ.h)|none=>none
 | .fld ag off n x=>match σ.ev x with
  | .agg l=>(match pack ag l off n with|some v=>some (v,σ.h)|none=>none)
  | _=>none
 | .iaddr esz x i=>match Q6 σ.h esz (σ.ev x) (σ.ev i) with|some v=>some (v,σ.h)|none=>none
 | .iaddrA len esz x i=>match Ze σ.h len esz (σ.ev x) (σ.ev i) with|some v=>some (v,σ.h)|none=>none
 | .idx len esz ag x i=>match idxV len esz ag (σ.ev x) (σ.ev i) with|some v=>some (v,σ.h)|none=>none
 | .ext x i=>match σ.ev x with
  | .tup l=>(match l[i]? with|some v=>some (v,σ.h)|none=>none)
  | _=>none
 | .len x=>match lenV σ.h (σ.ev x) with|some n=>some (.int .i64 n,σ.h)|none=>none
 | .lenM x=>match lenM σ.h (σ.ev x) with|some n=>some (.int .i64 n,σ.h)|none=>none
 | .lenS x=>match lenS (σ.ev x) with|some n=>some (.int .i64 n,σ.h)|none=>none
 | .app esz bytes el _ x y=>appV σ.h g0 esz bytes el (σ.ev x) (σ.ev y)
 | .callp f args=>match Jai σ.h (args.map σ.ev) with
  | some (vs,ns) =>
   (match call f vs none with
    | some (v,_)=>if ns=[]∨v.scalar=true then some (v,σ.h) else none
    | none=>none)
  | none=>none
 | .callz f args=>match Jai σ.h (args.map σ.ev) with
  | some (vs,ns) =>
   (match call f vs none with
    | some (v,_)=>some (v,Je σ.h ns)
    | none=>none)
  | none=>none
 | .callv x args=>match Jai σ.h (σ.ev x::args.map σ.ev) with
  | some (.fn f caps::vs,ns) =>
   (match call f (vs++caps) none with
    | some (v,_)=>if ns=[]∨v.scalar=true then some (v,σ.h) else none
    | none=>none)
  | _=>none
 | .callq f args=>calQ call f σ.h (Jd0 σ.h (args.map σ.ev))
 | .mkM ..=>some (.map g0 (Jp σ.h g0),upd σ.h g0 (some (.map (Jp σ.h g0) [] false)))
 | .look ok ag sh z x k=>match Jqv ok ag sh z (σ.ev k) (esOf σ.h (σ.ev x)) with|some v=>some (v,σ.h)|none=>none
 | .setM ag sh x k v=>match setV σ.h ag sh (σ.ev k) (σ.ev v) (σ.ev x) with|some h=>some (.any,h)|none=>none
 | .delM ag sh x k=>match delV σ.h ag sh (σ.ev k) (σ.ev x) with|some h=>some (.tup [],h)|none=>none
 | .shf op x y=>match σ.ev x,σ.ev y with
  | .int k a,.int _ b=>(match shfV op k a b with|some v=>some (v,σ.h)|none=>none)
  | _,_=>none
 | .mm mx x y=>match σ.ev x,σ.ev y with
  | .int k a,.int _ b=>some (.int k (mmV mx a b),σ.h)
  | _,_=>none
 | .appn ds esz bytes el _ x y=>apnV base ds g0 (σ.ev x) (appV σ.h g0 esz bytes el (σ.ev x) (σ.ev y))
 | .ston ds n x y=>if nwOK base ds g0 (σ.ev x)=true then (match jh σ.h n (σ.ev x) (σ.ev y) with|some h=>some (.any,h)|none=>none) else none
 | .msk ds op=>if op.cls=1 then mskR σ.h (Ja call base ⟨σ.f,Kb base ds σ.h⟩ g0 op) else none
 | .isnil ne x=>match Jbl σ.h (σ.ev x) with|some b=>some (.bool (if ne then !b else b),σ.h)|none=>none
 | .allocA esz t z=>some (.ptr g0 (Jp σ.h g0) 0,upd σ.h g0 (some (.arr (Jp σ.h g0) esz t z false)))
 | .slcA n esz x=>match Jk2 σ.h n esz (σ.ev x) with|some v=>some (v,σ.h)|none=>none
def Qi (call:Call) (base:Nat) (o:LOper) (σ:St):Option St :=
 match o.guard with
 | none=>(match Ja call base σ (base+o.dst.getD 0) o.op with|some (v,h)=>some (σ.put o.dst v h)|none=>none)
 | some (g,want) =>
  match σ.f g with
  | .bool b=>if b=want then (match Ja call base σ (base+o.dst.getD 0) o.op with|some (v,h)=>some (σ.put o.dst v h)|none=>none) else some (σ.put o.dst (.tup []) σ.h)
  | .tup []=>some (σ.put o.dst (.tup []) σ.h)
  | _=>none
def evalOps (call:Call) (base:Nat):List LOper→St→Option St
 | [],σ=>some σ
 | o::r,σ=>match Qi call base o σ with|some σ'=>evalOps call base r σ'|none=>none
def LOp.isNew:LOp→Bool
 | .alloc _|.allocA .. | .box _|.bslice .. | .mkS .. | .mkM ..=>true
 | _=>false
def K9 (call:Call) (base:Nat) (o:LOper) (σ:St):Option St :=
 if o.op.isNew=true∧(σ.h (base+o.dst.getD 0)).isSome=true then none else Qi call base o σ
def Qb (call:Call) (base:Nat):List LOper→St→Option St
 | [],σ=>some σ
 | o::r,σ=>match K9 call base o σ with|some σ'=>Qb call base r σ'|none=>none
inductive RV where
 | tmp (t:Nat)
 | cell (t:Nat) (ag:Bool) (n:Nat)
 deriving Inhabited
def RV.get (σ:St):RV→Option AV
 | .tmp t=>some (σ.f t)
 | .cell t ag n=>Yk σ.h ag n (σ.f t)
def resV (σ:St) (l:List RV):Option AV :=
 match l.mapM (RV.get σ) with
 | some [v]=>some v
 | some vs=>some (.tup vs)
 | none=>none
theorem Jc {α:Type} (f:Nat→α) (d:Nat) (v:α):upd f d v d=v:=by simp [upd]
theorem Jb {α:Type} (f:Nat→α) (d:Nat) (v:α) (n:Nat) (h:n≠d):upd f d v n=f n:=by simp [upd,h]
end Go.Vv
namespace Go.Vv
inductive RepP (w:World) (S:Nat→Prop):AV→Value→Prop where
 | bool (b:Bool):RepP w S (.bool b) (.bool b)
 | int (k:IntKind) (n:Int):RepP w S (.int k n) (.int k n)
 | str (s:ByteArray):RepP w S (.str s) (.string s)
 | nils:RepP w S .nils (.slice none 0 0)
 | nilp:RepP w S .nilp (.pointer none)
 | nilf:RepP w S .nilf .nilFunc
 | nilm:RepP w S .nilm (.map none)
 | mpr (ks vs:List AV) (b:Nat) (es:Array MapEntry) (clock:Nat) (hs:S b) (hb:w.heap[b]?=some (.map es clock)) (hk:es.size=ks.length) (hv:es.size=vs.length)
   (hrk:∀(i:Nat) (x:AV) (e:MapEntry),ks[i]?=some x→es[i]?=some e→RepP w S x e.key) (hrv:∀(i:Nat) (x:AV) (e:MapEntry),vs[i]?=some x→es[i]?=some e→RepP w S x e.val):RepP w S (.mpr ks vs) (.map (some b))
 | lst0:RepP w S (.lst 0 []) (.slice none 0 0)
 | lst (n:Nat) (l:List AV) (a:Addr) (cap:Nat) (cv:Nat→Value) (hs:l≠[]→S a.block) (hn:n≤cap)
   (hc:∀i x,l[i]?=some x→w.cell? (a.add i)=some (cv i)) (h1:∀i x,l[i]?=some x→(cv i).oneCell'=true)
   (hr:∀i x,l[i]?=some x→RepP w S x (cv i)):RepP w S (.lst n l) (.slice (some a) n cap)
 | rptr (l:List AV) (a:Addr) (cv:Nat→Value) (hs:l≠[]→S a.block)
   (hc:∀i x,l[i]?=some x→w.cell? (a.add i)=some (cv i)) (h1:∀i x,l[i]?=some x→(cv i).oneCell'=true)
   (hr:∀i x,l[i]?=some x→RepP w S x (cv i)):RepP w S (.rptr l) (.pointer (some a))
 | fn (f:FuncId) (l:List AV) (cs:Array Value) (hl:l.length=cs.size) (hr:∀i x,l[i]?=some x→RepP w S x (cs.getD i undef)):RepP w S (.fn f l) (.func (.func f) #[] cs)
 | bfn (f:FuncId) (l:List AV) (cs:Array Value) (hl:l.length=cs.size) (h1:∀i x,l[i]?=some x→(cs.getD i undef).oneCell'=true)
   (hr:∀i x,l[i]?=some x→RepP w S x (cs.getD i undef)):RepP w S (.bfn f l) (.func (.func f) #[.agg cs] #[])
 | agg (l:List AV) (cs:Array Value) (hl:l.length=cs.size) (h1:∀i x,l[i]?=some x→(cs.getD i undef).oneCell'=true)
   (hr:∀i x,l[i]?=some x→RepP w S x (cs.getD i undef)):RepP w S (.agg l) (.agg cs)
 | tup (l:List AV) (cs:Array Value) (hl:l.length=cs.size) (hr:∀i x,l[i]?=some x→RepP w S x (cs.getD i undef)):RepP w S (.tup l) (.tuple cs)
theorem Jj9 {w w':World} {a:Addr} {n:Nat} (h:w'.heap[a.block]?=w.heap[a.block]?):w'.cell? (a.add n)=w.cell? (a.add n):=by
 have e:(a.add n).block=a.block:=by unfold Addr.add;split<;>rfl
 exact World.cell?_of_block (a:=a.add n) (by rw [e];exact h)
theorem RepP.mono {w w':World} {S S':Nat→Prop} {x:AV} {v:Value} (h:RepP w S x v) (hS:∀b,S b→S' b) (hh:∀b,S b→w'.heap[b]?=w.heap[b]?):RepP w' S' x v:=by
 induction h with
 | bool b=>exact .bool b
 | int k n=>exact .int k n
 | str s=>exact .str s
 | nils=>exact .nils
 | nilp=>exact .nilp
 | nilf=>exact .nilf
 | nilm=>exact .nilm
 | mpr ks vs b es clock hs hb hk hv hrk hrv ihk ihv=>exact .mpr ks vs b es clock (hS _ hs) ((hh b hs).trans hb) hk hv ihk ihv
 | lst0=>exact .lst0
 | lst n l a cap cv hs hn hc h1 hr ih=>exact .lst n l a cap cv (fun h0=>hS _ (hs h0)) hn (fun i x hi=>(Jj9 (hh _ (hs (by rintro rfl;simp at hi)))).trans (hc i x hi)) h1 ih
 | rptr l a cv hs hc h1 hr ih=>exact .rptr l a cv (fun h0=>hS _ (hs h0)) (fun i x hi=>(Jj9 (hh _ (hs (by rintro rfl;simp at hi)))).trans (hc i x hi)) h1 ih
 | fn f l cs hl hr ih=>exact .fn f l cs hl ih
 | bfn f l cs hl h1 hr ih=>exact .bfn f l cs hl h1 ih
 | agg l cs hl h1 hr ih=>exact .agg l cs hl h1 ih
 | tup l cs hl hr ih=>exact .tup l cs hl ih
structure Gh where
 b:Nat→Nat
 o:Nat→Nat
 l:Nat→Nat
def Gh.set (μ:Gh) (g b o:Nat):Gh:=⟨upd μ.b g b,upd μ.o g o,μ.l⟩
def ArrOK (w:World) (b o esz off len:Nat) (v:Value):Prop :=
 ∃(a:Addr) (cap:Nat) (cs:Array Value) (el:TypeId) (z:Nat×Nat),v=.slice (some a) len cap∧(len≤cap∧cap≤9223372036854775807)∧w.heap[b]?=some (.cells cs el z)∧o+(off+cap) * esz≤cs.size∧(0<cap→a=⟨b,o+off * esz,none⟩)
def ArrV (w:World) (cells:List AV) (b o esz off len:Nat) (v:Value):Prop :=
 (cells=[]→off=0∧len=0∧∃A,v=.slice A 0 0)∧(cells≠[]→ArrOK w b o esz off len v)
inductive Rep (w:World) (S:Nat→Prop) (h:Heap) (μ:Gh):AV→Value→Prop where
 | any (v:Value):Rep w S h μ .any v
 | pure {x:AV} {v:Value} (hp:RepP w S x v):Rep w S h μ x v
 | fn (f:FuncId) (l:List AV) (cs:Array Value) (hl:l.length=cs.size) (hr:∀i x,l[i]?=some x→Rep w S h μ x (cs.getD i undef)):Rep w S h μ (.fn f l) (.func (.func f) #[] cs)
 | agg (l:List AV) (cs:Array Value) (hl:l.length=cs.size) (h1:∀i x,l[i]?=some x→(cs.getD i undef).oneCell'=true)
   (hr:∀i x,l[i]?=some x→Rep w S h μ x (cs.getD i undef)):Rep w S h μ (.agg l) (.agg cs)
 | tup (l:List AV) (cs:Array Value) (hl:l.length=cs.size) (hr:∀i x,l[i]?=some x→Rep w S h μ x (cs.getD i undef)):Rep w S h μ (.tup l) (.tuple cs)
 | arr (g ver off len:Nat) (v:Value) (o:AObj) (ho:h g=some o) (hv:ver≤o.ver) (h1:v.oneCell'=true)
   (hr:ver=o.ver→∃esz el cells fz,o=.arr ver esz el cells fz∧ArrV w cells (μ.b g) (μ.o g) esz off len v):Rep w S h μ (.arr g ver off len) v
 | ptr (g ver off:Nat) (v:Value) (o:AObj) (ho:h g=some o) (hv:ver≤o.ver) (h1:v.oneCell'=true)
   (hr:ver=o.ver→v=.pointer (some ⟨μ.b g,μ.o g+off,none⟩)):Rep w S h μ (.ptr g ver off) v
 | map (g ver:Nat) (v:Value) (o:AObj) (ho:h g=some o) (hv:ver≤o.ver) (h1:v.oneCell'=true)
   (hr:ver=o.ver→v=.map (some (μ.b g))):Rep w S h μ (.map g ver) v
 | yld (j:Nat):Rep w S h μ (.yld j) (.func (.yield (μ.l j)) #[] #[])
def Born (es:Array MapEntry) (clock:Nat):Prop:=(∀x∈es.toList,x.born<clock)∧(es.toList.map (·.born)).Nodup
theorem born_nil (c:Nat):Born #[] c:=⟨by simp,by simp⟩
theorem Jl2 {es:Array MapEntry} {c:Nat} (h:Born es c) (k v:Value):Born (es.push { key:=k,val:=v,born:=c }) (c+1):=by
 obtain ⟨h1,h2⟩:=h
 refine ⟨fun x hx=>?_,?_⟩
 ·simp only [Array.toList_push,List.mem_append,List.mem_singleton] at hx
  rcases hx with hx|rfl
  ·have:=h1 x hx;omega
  ·exact Nat.lt_succ_self _
 ·simp only [Array.toList_push,List.map_append,List.map_cons,List.map_nil]
  refine List.nodup_append.2 ⟨h2,by simp,fun a ha b hb e=>?_⟩
  simp only [List.mem_singleton] at hb
  obtain ⟨x,hx,rfl⟩:=Ax.1 ha
  have:=h1 x hx
  omega
theorem Jak {es:Array MapEntry} {c:Nat} (h:Born es c) (j:Nat) (f:MapEntry→MapEntry) (hf:∀e,(f e).born=e.born):Born (es.modify j f) c:=by
 have key:∀(l:List MapEntry) (j:Nat),(l.modify j f).map (·.born)=l.map (·.born):=fun l=>by
  induction l with
  | nil=>intro j;cases j<;>rfl
  | cons x r ih =>
   intro j
   cases j with
   | zero=>simp [hf]
   | succ j=>simp [List.modify_succ_cons,ih]
 have e:(es.modify j f).toList.map (·.born)=es.toList.map (·.born):=by rw [Array.toList_modify];exact key _ _
 refine ⟨fun x hx=>?_,by rw [e];exact h.2⟩
 have:x.born∈es.toList.map (·.born):=by rw [←e];exact Ax.2 ⟨x,hx,rfl⟩
 obtain ⟨y,hy,e2⟩:=Ax.1 this
 rw [←e2]
 exact h.1 y hy
theorem born_sub {es es':Array MapEntry} {c:Nat} (h:Born es c) (hs:List.Sublist es'.toList es.toList):Born es' c :=
 ⟨fun x hx=>h.1 x (hs.subset hx),h.2.sublist (hs.map _)⟩
def Holds (w:World) (S:Nat→Prop) (h:Heap) (μ:Gh) (cells:List AV) (cs:Array Value):Prop :=
 ∀i x,cells[i]?=some x→Rep w S h μ x (cs.getD i undef)∧(cs.getD i undef).oneCell'=true
def HoldsAt (w:World) (S:Nat→Prop) (h:Heap) (μ:Gh) (o:Nat) (cells:List AV) (cs:Array Value):Prop :=
 ∀i x,cells[i]?=some x→Rep w S h μ x (cs.getD (o+i) undef)∧(cs.getD (o+i) undef).oneCell'=true
def RepObj (w:World) (S:Nat→Prop) (h:Heap) (μ:Gh) (b o:Nat):AObj→Prop
 | .box _ cells=>∃cs el,w.heap[b]?=some (.cells cs el (0,0))∧o+cells.length≤cs.size∧HoldsAt w S h μ o cells cs
 | .arr _ _ el cells fz=>cells≠[]→∃cs,w.heap[b]?=some (.cells cs el (0,0))∧o+cells.length≤cs.size∧HoldsAt w S h μ o cells cs∧(fz=true→S b)
 | .map _ es fz=>∃(es':Array MapEntry) (clock:Nat),w.heap[b]?=some (.map es' clock)∧(es'.size=es.length∧Born es' clock)∧(fz=true→S b)∧∀(i:Nat) (k v:AV),es[i]?=some (k,v)→∃e:MapEntry,es'[i]?=some e∧RepP w S k e.key∧Rep w S h μ v e.val
def Own (h:Heap) (μ:Gh) (b:Nat):Prop:=∃g o,h g=some o∧o.fz=false∧o.live=true∧μ.b g=b
structure RepH (w:World) (S:Nat→Prop) (h:Heap) (μ:Gh):Prop where
 ob:∀g o,h g=some o→RepObj w S h μ (μ.b g) (μ.o g) o
 inj:∀g g' o o',h g=some o→h g'=some o'→o.live=true→o'.live=true→μ.b g=μ.b g'→g=g'
 own:∀g o,h g=some o→o.fz=false→o.live=true→¬S (μ.b g)
 lt:∀b,S b→b<w.heap.size
def Marks (w:World) (S:Nat→Prop) (ds:List Deferred):Prop:=ds.Nodup∧∀d∈ds,∃r,d={ target:=.collected r,args:=#[] }∧w.heap[r]?=some (.deferred (some []))∧¬S r
structure RepS (nt:Nat) (w:World) (S:Nat→Prop) (σ:St) (μ:Gh) (a:Act):Prop where
 fr:∀d,Rep w S σ.h μ (σ.f d) (a.tmps.getD d undef)
 hp:RepH w S σ.h μ
 df:Marks w S a.defers
 sz:nt≤a.tmps.size
structure Evo (w:World) (S:Nat→Prop) (h:Heap) (μ:Gh) (w':World) (S':Nat→Prop) (h':Heap) (μ':Gh):Prop where
 os:w'.os=w.os
 tape:w'.tape=w.tape
 output:w'.output=w.output∧w.drawn≤w'.drawn
 size:w.heap.size≤w'.heap.size
 keep:∀b,b<w.heap.size→¬Own h μ b→w'.heap[b]?=w.heap[b]?
 shape:∀(b:Nat) (cs:Array Value) (el:TypeId) (z:Nat×Nat),w.heap[b]?=some (.cells cs el z)→∃cs':Array Value,w'.heap[b]?=some (.cells cs' el z)∧cs'.size=cs.size
 st:∀b,S b→S' b
 st2:∀b,S' b→S b∨w.heap.size≤b∨Own h μ b
 ow:∀b,Own h' μ' b→Own h μ b∨w.heap.size≤b
 lp:μ'.l=μ.l
def AObj.kind:AObj→Nat
 | .box ..=>0
 | .arr ..=>1
 | .map ..=>2
def AObj.like:AObj→AObj→Prop
 | .arr _ e t c _,.arr _ e' t' c' _=>e=e'∧t=t'∧(c=[]↔c'=[])
 | x,y=>x.kind=y.kind
def EvoV (h:Heap) (μ:Gh) (h':Heap) (μ':Gh):Prop :=
 ∀g o,h g=some o→∃o',h' g=some o'∧o.ver≤o'.ver∧(o'.ver=o.ver→(μ'.b g=μ.b g∧μ'.o g=μ.o g)∧o.like o')
theorem AObj.like.refl (o:AObj):o.like o:=by cases o<;>simp [AObj.like]
theorem AObj.like.trans {a b c:AObj} (h:a.like b) (k:b.like c):a.like c:=by
 cases a<;>cases b<;>cases c<;>simp_all [AObj.like,AObj.kind]
theorem EvoV.refl (h:Heap) (μ:Gh):EvoV h μ h μ:=fun _ o ho=>⟨o,ho,Ab _,fun _=>⟨⟨rfl,rfl⟩,.refl o⟩⟩
theorem EvoV.trans {h h' h'':Heap} {μ μ' μ'':Gh} (a:EvoV h μ h' μ') (b:EvoV h' μ' h'' μ''):EvoV h μ h'' μ'':=by
 intro g o ho
 obtain ⟨o',ho',hl,he⟩:=a g o ho
 obtain ⟨o'',ho'',hl',he'⟩:=b g o' ho'
 refine ⟨o'',ho'',Ao hl hl',fun e=>?_⟩
 have e1:o'.ver=o.ver:=by omega
 have e2:o''.ver=o'.ver:=by omega
 exact ⟨⟨(he' e2).1.1.trans (he e1).1.1,(he' e2).1.2.trans (he e1).1.2⟩,(he e1).2.trans (he' e2).2⟩
section
variable {w w' w'':World} {S S' S'':Nat→Prop} {h h' h'':Heap} {μ μ' μ'':Gh}
theorem Evo.refl:Evo w S h μ w S h μ:=⟨rfl,rfl,⟨rfl,Ab _⟩,Ab _,fun _ _ _=>rfl,fun _ cs _ _ hc=>⟨cs,hc,rfl⟩,fun _ h=>h,fun _ h=>.inl h,fun _ h=>.inl h,rfl⟩
theorem Evo.trans (a:Evo w S h μ w' S' h' μ') (b:Evo w' S' h' μ' w'' S'' h'' μ''):Evo w S h μ w'' S'' h'' μ'' where
 os:=b.os.trans a.os
 tape:=b.tape.trans a.tape
 output:=⟨b.output.1.trans a.output.1,Ao a.output.2 b.output.2⟩
 size:=Ao a.size b.size
 keep x hx hn:=(b.keep x (Nat.lt_of_lt_of_le hx a.size) fun ho=>(a.ow x ho).elim hn (by omega)).trans (a.keep x hx hn)
 shape x cs el z hc:=by
  obtain ⟨c1,h1,e1⟩:=a.shape x cs el z hc
  obtain ⟨c2,h2,e2⟩:=b.shape x c1 el z h1
  exact ⟨c2,h2,e2.trans e1⟩
 st x hx:=b.st x (a.st x hx)
 st2 x hx:=by
  rcases b.st2 x hx with h1|h1|h1
  ·exact a.st2 x h1
  ·exact .inr (.inl (Ao a.size h1))
  ·rcases a.ow x h1 with h2|h2
   ·exact .inr (.inr h2)
   ·exact .inr (.inl h2)
 ow x hx:=by
  rcases b.ow x hx with h1|h1
  ·exact a.ow x h1
  ·exact .inr (Ao a.size h1)
 lp:=b.lp.trans a.lp
theorem RepH.not_own (hp:RepH w S h μ) {b:Nat} (hb:S b):¬Own h μ b:=fun ⟨g,o,ho,hz,hl,e⟩=>hp.own g o ho hz hl (e▸hb)
theorem RepH.kept (hp:RepH w S h μ) (ev:Evo w S h μ w' S' h' μ') {b:Nat} (hb:S b):w'.heap[b]?=w.heap[b]?:=ev.keep b (hp.lt b hb) (hp.not_own hb)
theorem RepP.evo {x:AV} {v:Value} (hr:RepP w S x v) (hp:RepH w S h μ) (ev:Evo w S h μ w' S' h' μ'):RepP w' S' x v:=hr.mono ev.st fun _ hb=>hp.kept ev hb
theorem ArrOK.evo {b o esz off len:Nat} {v:Value} (ha:ArrOK w b o esz off len v) (ev:Evo w S h μ w' S' h' μ'):ArrOK w' b o esz off len v:=by
 obtain ⟨a,cap,cs,el,z,e,hl,hc,hs,h0⟩:=ha
 obtain ⟨cs',hc',hs'⟩:=ev.shape _ _ _ _ hc
 exact ⟨a,cap,cs',el,z,e,hl,hc',by rw [hs'];exact hs,h0⟩
theorem ArrV.evo {cells cells':List AV} {b o esz off len:Nat} {v:Value} (ha:ArrV w cells b o esz off len v) (ev:Evo w S h μ w' S' h' μ') (hc:cells=[]↔cells'=[]):ArrV w' cells' b o esz off len v :=
 ⟨fun e=>ha.1 (hc.2 e),fun e=>(ha.2 fun q=>e (hc.1 q)).evo ev⟩
theorem Rep.evo {x:AV} {v:Value} (hr:Rep w S h μ x v) (hp:RepH w S h μ) (ev:Evo w S h μ w' S' h' μ') (vv:EvoV h μ h' μ'):Rep w' S' h' μ' x v:=by
 induction hr with
 | any v=>exact .any v
 | pure hp'=>exact .pure (hp'.evo hp ev)
 | fn f l cs hl hr ih=>exact .fn f l cs hl ih
 | agg l cs hl h1 hr ih=>exact .agg l cs hl h1 ih
 | tup l cs hl hr ih=>exact .tup l cs hl ih
 | arr g ver off len v o ho hv h1 hr =>
  obtain ⟨o',ho',hle,he⟩:=vv g o ho
  refine .arr g ver off len v o' ho' (Ao hv hle) h1 fun e=>?_
  have e1:ver=o.ver:=by omega
  obtain ⟨esz,el,cells,fz,eq,hk⟩:=hr e1
  obtain ⟨⟨em,eo⟩,hlike⟩:=he (by omega)
  subst eq
  cases o' with
  | arr v' e' t' c' z' =>
   simp only [AObj.like] at hlike
   obtain ⟨rfl,rfl,hcc⟩:=hlike
   simp only [AObj.ver] at e
   subst e
   exact ⟨esz,el,c',z',rfl,by rw [em,eo];exact hk.evo ev hcc⟩
  | box v' c'=>simp [AObj.like,AObj.kind] at hlike
  | map v' c'=>simp [AObj.like,AObj.kind] at hlike
 | ptr g ver off v o ho hv h1 hr =>
  obtain ⟨o',ho',hle,he⟩:=vv g o ho
  exact .ptr g ver off v o' ho' (Ao hv hle) h1 fun e=>by rw [(he (by omega)).1.1,(he (by omega)).1.2];exact hr (by omega)
 | yld j=>rw [←ev.lp];exact .yld j
 | map g ver v o ho hv h1 hr =>
  obtain ⟨o',ho',hle,he⟩:=vv g o ho
  exact .map g ver v o' ho' (Ao hv hle) h1 fun e=>by rw [(he (by omega)).1.1];exact hr (by omega)
theorem Holds.evo {cells:List AV} {cs:Array Value} (hh:Holds w S h μ cells cs) (hp:RepH w S h μ) (ev:Evo w S h μ w' S' h' μ') (vv:EvoV h μ h' μ'):Holds w' S' h' μ' cells cs :=
 fun i x hi=>⟨(hh i x hi).1.evo hp ev vv,(hh i x hi).2⟩
theorem HoldsAt.evo {o:Nat} {cells:List AV} {cs:Array Value} (hh:HoldsAt w S h μ o cells cs) (hp:RepH w S h μ) (ev:Evo w S h μ w' S' h' μ') (vv:EvoV h μ h' μ'):HoldsAt w' S' h' μ' o cells cs :=
 fun i x hi=>⟨(hh i x hi).1.evo hp ev vv,(hh i x hi).2⟩
theorem Holds.at0 {cells:List AV} {cs:Array Value} (hh:Holds w S h μ cells cs):HoldsAt w S h μ 0 cells cs:=fun i x hi=>by rw [Nat.zero_add];exact hh i x hi
theorem RepObj.evo {b k:Nat} {o:AObj} (ho:RepObj w S h μ b k o) (hp:RepH w S h μ) (ev:Evo w S h μ w' S' h' μ') (vv:EvoV h μ h' μ') (hb:o.live=true→w'.heap[b]?=w.heap[b]?):RepObj w' S' h' μ' b k o:=by
 cases o with
 | box v cells =>
  obtain ⟨cs,el,h1,h2,h3⟩:=ho
  exact ⟨cs,el,(hb rfl).trans h1,h2,h3.evo hp ev vv⟩
 | arr v e t cells z =>
  intro hne
  obtain ⟨cs,h1,h2,h3,h4⟩:=ho hne
  exact ⟨cs,(hb (by cases cells<;>first|rfl|exact (hne rfl).elim)).trans h1,h2,h3.evo hp ev vv,fun hz=>ev.st _ (h4 hz)⟩
 | map v es z =>
  obtain ⟨es',clock,h1,h2,hz,h3⟩:=ho
  refine ⟨es',clock,(hb rfl).trans h1,h2,fun q=>ev.st _ (hz q),fun i k v hi=>?_⟩
  obtain ⟨e,he,hk,hv⟩:=h3 i k v hi
  exact ⟨e,he,hk.evo hp ev,hv.evo hp ev vv⟩
theorem J5 {v e:Nat} {t:TypeId} {cells:List AV} {z:Bool}:(AObj.arr v e t cells z).live=true↔cells≠[]:=by cases cells<;>simp [AObj.live]
theorem RepObj.lt {b k:Nat} {o:AObj} (ho:RepObj w S h μ b k o) (hl:o.live=true):b<w.heap.size:=by
 have:∃x,w.heap[b]?=some x:=by
  cases o with
  | box v cells=>obtain ⟨cs,el,h1,_⟩:=ho;exact ⟨_,h1⟩
  | arr v e t cells z=>obtain ⟨cs,h1,_⟩:=ho (J5.1 hl);exact ⟨_,h1⟩
  | map v es z=>obtain ⟨es',clock,h1,_⟩:=ho;exact ⟨_,h1⟩
 obtain ⟨x,hx⟩:=this
 exact (Array.getElem?_eq_some_iff.1 hx).1
theorem RepH.no_own (hp:RepH w S h μ) {b:Nat} {ob:Obj} (hb:w.heap[b]?=some ob) (h1:∀cs el z,ob≠.cells cs el z) (h2:∀es k,ob≠.map es k):¬Own h μ b:=by
 rintro ⟨g,o,ho,hz,hl,rfl⟩
 have:=hp.ob g o ho
 cases o with
 | box v cells=>obtain ⟨cs,el,q,_⟩:=this;rw [hb] at q;injection q with q;exact h1 _ _ _ q
 | arr v e t cells z=>obtain ⟨cs,q,_⟩:=this (J5.1 hl);rw [hb] at q;injection q with q;exact h1 _ _ _ q
 | map v es z=>obtain ⟨es',clock,q,_⟩:=this;rw [hb] at q;injection q with q;exact h2 _ _ q
theorem RepH.marks (hp:RepH w S h μ) {ds:List Deferred} (hd:Marks w S ds) (ev:Evo w S h μ w' S' h' μ'):Marks w' S' ds:=by
 refine ⟨hd.1,fun d hm=>?_⟩
 obtain ⟨r,e,hr,hs⟩:=hd.2 d hm
 have hn:=hp.no_own hr (by intros;simp) (by intros;simp)
 have hlt:=(Array.getElem?_eq_some_iff.1 hr).1
 refine ⟨r,e,(ev.keep r hlt hn).trans hr,fun q=>?_⟩
 rcases ev.st2 r q with q|q|q
 ·exact hs q
 ·omega
 ·exact hn q
theorem Marks.nil {w:World} {S:Nat→Prop}:Marks w S []:=⟨List.nodup_nil,fun d hd=>(by cases hd)⟩
theorem Jej (hw:w'.heap=w.heap) (h1:w'.os=w.os) (h2:w'.tape=w.tape) (h3:w'.output=w.output∧w.drawn≤w'.drawn):Evo w S h μ w' S h μ :=
 ⟨h1,h2,h3,by rw [hw];exact Ab _,fun _ _ _=>by rw [hw],fun _ cs _ _ hc=>⟨cs,by rw [hw];exact hc,rfl⟩,fun _ h=>h,fun _ h=>.inl h,fun _ h=>.inl h,rfl⟩
theorem RepH.of_same (hp:RepH w S h μ) (hw:w'.heap=w.heap) (h1:w'.os=w.os) (h2:w'.tape=w.tape) (h3:w'.output=w.output∧w.drawn≤w'.drawn):RepH w' S h μ :=
 ⟨fun g o ho=>(hp.ob g o ho).evo hp (Jej hw h1 h2 h3) (.refl h μ) (fun _=>by rw [hw]),hp.inj,hp.own,fun b hb=>by rw [hw];exact hp.lt b hb⟩
theorem Xh:Evo w S h μ w.drew S h μ:=Jej rfl rfl rfl ⟨rfl,Aw _⟩
theorem Jnq (g:Nat) (o:AObj) (ob:Obj) (hver:o.ver=Jp h g∨Jp h g<o.ver) :
  Evo w S h μ (w.alloc ob) S (upd h g (some o)) (μ.set g w.heap.size 0)∧EvoV h μ (upd h g (some o)) (μ.set g w.heap.size 0):=by
 refine ⟨⟨rfl,rfl,⟨rfl,Ab _⟩,by simp,fun b hb _=>heap_alloc_old w ob b hb,fun b cs el z hc=>⟨cs,?_,rfl⟩,fun _ h=>h,fun _ h=>.inl h,?_,rfl⟩,?_⟩
 ·rw [heap_alloc_old w ob b (Array.getElem?_eq_some_iff.1 hc).1];exact hc
 ·rintro b ⟨g',o',ho',hz,hl,e⟩
  by_cases hg:g'=g
  ·subst hg;simp only [Gh.set,Jc] at e;exact .inr (by omega)
  ·simp only [Gh.set,Jb _ _ _ _ hg] at ho' e;exact .inl ⟨g',o',ho',hz,hl,e⟩
 ·intro g' o' ho'
  by_cases hg:g'=g
  ·subst hg
   have:Jp h g'=o'.ver+1:=by simp [Jp,ho']
   exact ⟨o,Jc _ _ _,by omega,fun e=>by omega⟩
  ·exact ⟨o',by rw [Jb _ _ _ _ hg];exact ho',Ab _,fun _=>⟨⟨Jb _ _ _ _ hg,Jb _ _ _ _ hg⟩,.refl o'⟩⟩
theorem Joo {g:Nat} {o:AObj} {ob:Obj} (hp:RepH w S h μ) (hver:o.ver=Jp h g∨Jp h g<o.ver)
  (hob:RepObj (w.alloc ob) S (upd h g (some o)) (μ.set g w.heap.size 0) w.heap.size 0 o):RepH (w.alloc ob) S (upd h g (some o)) (μ.set g w.heap.size 0):=by
 obtain ⟨ev,vv⟩:=Jnq (w:=w) (S:=S) (h:=h) (μ:=μ) g o ob hver
 refine ⟨fun g' o' ho'=>?_,fun g1 g2 o1 o2 h1 h2 l1 l2 e=>?_,fun g' o' ho' hz' hl' hs=>?_,fun b hb=>by have:=hp.lt b hb;simp;omega⟩
 ·by_cases hg:g'=g
  ·subst hg
   simp only [Gh.set,Jc] at ho' ⊢
   injection ho' with e
   subst e
   exact hob
  ·rw [Jb _ _ _ _ hg] at ho'
   have:=(hp.ob g' o' ho').evo hp ev vv (fun hl=>heap_alloc_old w ob _ ((hp.ob g' o' ho').lt hl))
   simpa only [Gh.set,Jb _ _ _ _ hg] using this
 ·by_cases hg1:g1=g<;>by_cases hg2:g2=g
  ·rw [hg1,hg2]
  ·subst hg1
   simp only [Gh.set,Jb _ _ _ _ hg2,Jc] at h2 e
   have:=(hp.ob g2 o2 h2).lt l2
   omega
  ·subst hg2
   simp only [Gh.set,Jb _ _ _ _ hg1,Jc] at h1 e
   have:=(hp.ob g1 o1 h1).lt l1
   omega
  ·simp only [Gh.set,Jb _ _ _ _ hg1,Jb _ _ _ _ hg2] at h1 h2 e
   exact hp.inj g1 g2 o1 o2 h1 h2 l1 l2 e
 ·by_cases hg:g'=g
  ·subst hg
   simp only [Gh.set,Jc] at hs
   have:=hp.lt _ hs
   omega
  ·simp only [Gh.set,Jb _ _ _ _ hg] at ho' hs
   exact hp.own g' o' ho' hz' hl' hs
theorem Jm7 {g k:Nat} {o o':AObj} {cs:Array Value} (ho:h g=some o) (hz:o.fz=false) (hl:o.live=true) (hv:o.ver<o'.ver∨o.ver=o'.ver∧k=μ.o g∧o.like o')
  (hcs:∀old el z,w.heap[μ.b g]?=some (.cells old el z)→cs.size=old.size) :
  Evo w S h μ (w.setRow (μ.b g) cs) S (upd h g (some o')) (μ.set g (μ.b g) k)∧EvoV h μ (upd h g (some o')) (μ.set g (μ.b g) k):=by
 have hb:∀g',(μ.set g (μ.b g) k).b g'=μ.b g':=fun g'=>by
  by_cases hg:g'=g
  ·subst hg;simp [Gh.set,Jc]
  ·simp [Gh.set,Jb _ _ _ _ hg]
 refine ⟨⟨rfl,rfl,⟨rfl,Ab _⟩,by simp,fun b hb' hn=>setRow_other w (μ.b g) b cs fun e=>hn ⟨g,o,ho,hz,hl,e.symm⟩,fun b c el z hc=>?_,fun _ h=>h,fun _ h=>.inl h,?_,rfl⟩,?_⟩
 ·by_cases hbg:b=μ.b g
  ·subst hbg
   exact ⟨cs,setRow_heap w _ _ cs el z hc,hcs _ _ _ hc⟩
  ·exact ⟨c,by rw [setRow_other w (μ.b g) b cs hbg];exact hc,rfl⟩
 ·rintro b ⟨g',o1,ho',hz1,hl1,e⟩
  rw [hb] at e
  by_cases hg:g'=g
  ·subst hg;exact .inl ⟨g',o,ho,hz,hl,e⟩
  ·rw [Jb _ _ _ _ hg] at ho';exact .inl ⟨g',o1,ho',hz1,hl1,e⟩
 ·intro g' o1 ho'
  by_cases hg:g'=g
  ·subst hg
   rw [ho] at ho'
   injection ho' with e
   subst e
   exact ⟨o',Jc _ _ _,by omega,fun e=>⟨⟨hb _,by
    rcases hv with hv|⟨_,hk,_⟩
    ·omega
    ·simp only [Gh.set,Jc];exact hk⟩,by
    rcases hv with hv|⟨_,_,hl⟩
    ·omega
    ·exact hl⟩⟩
  ·exact ⟨o1,by rw [Jb _ _ _ _ hg];exact ho',Ab _,fun _=>⟨⟨hb _,by simp [Gh.set,Jb _ _ _ _ hg]⟩,.refl o1⟩⟩
theorem Jol {g k:Nat} {o o':AObj} {cs:Array Value} (hp:RepH w S h μ) (ho:h g=some o) (hz:o.fz=false) (hl:o.live=true) (hv:o.ver<o'.ver∨o.ver=o'.ver∧k=μ.o g∧o.like o')
  (hcs:∀old el z,w.heap[μ.b g]?=some (.cells old el z)→cs.size=old.size)
  (hob:RepObj (w.setRow (μ.b g) cs) S (upd h g (some o')) (μ.set g (μ.b g) k) (μ.b g) k o'):RepH (w.setRow (μ.b g) cs) S (upd h g (some o')) (μ.set g (μ.b g) k):=by
 obtain ⟨ev,vv⟩:=Jm7 (S:=S) ho hz hl hv hcs
 have hb:∀g',(μ.set g (μ.b g) k).b g'=μ.b g':=fun g'=>by
  by_cases hg:g'=g
  ·subst hg;simp [Gh.set,Jc]
  ·simp [Gh.set,Jb _ _ _ _ hg]
 refine ⟨fun g' o1 ho'=>?_,fun g1 g2 o1 o2 h1 h2 l1 l2 e=>?_,fun g' o1 ho' hz1 hl1 hs=>?_,fun b hb=>by rw [setRow_size];exact hp.lt b hb⟩
 ·rw [hb]
  by_cases hg:g'=g
  ·subst hg
   rw [Jc] at ho'
   injection ho' with e
   subst e
   simpa only [Gh.set,Jc] using hob
  ·rw [Jb _ _ _ _ hg] at ho'
   have:=(hp.ob g' o1 ho').evo hp ev vv (fun l1=>setRow_other w _ _ cs fun e=>hg (hp.inj g' g o1 o ho' ho l1 hl e))
   simpa only [Gh.set,Jb _ _ _ _ hg] using this
 ·rw [hb,hb] at e
  have key:∀g' o1,upd h g (some o') g'=some o1→o1.live=true→∃o2,h g'=some o2∧o2.live=true:=fun g' o1 h' l'=>by
   by_cases hg:g'=g
   ·subst hg;exact ⟨o,ho,hl⟩
   ·rw [Jb _ _ _ _ hg] at h';exact ⟨o1,h',l'⟩
  obtain ⟨a,ha,la⟩:=key g1 o1 h1 l1
  obtain ⟨b,hb,lb⟩:=key g2 o2 h2 l2
  exact hp.inj g1 g2 a b ha hb la lb e
 ·rw [hb] at hs
  by_cases hg:g'=g
  ·subst hg;exact hp.own g' o ho hz hl hs
  ·rw [Jb _ _ _ _ hg] at ho';exact hp.own g' o1 ho' hz1 hl1 hs
end
section
variable {w:World} {S:Nat→Prop} {h:Heap} {μ:Gh} {v:Value}
theorem Rep.int_inv {k:IntKind} {n:Int} (hr:Rep w S h μ (.int k n) v):v=.int k n:=by cases hr with|pure hp=>cases hp;rfl
theorem Rep.bool_inv {b:Bool} (hr:Rep w S h μ (.bool b) v):v=.bool b:=by cases hr with|pure hp=>cases hp;rfl
theorem Rep.nils_inv (hr:Rep w S h μ .nils v):v=.slice none 0 0:=by cases hr with|pure hp=>cases hp;rfl
theorem Rep.mpr_inv {ks vs:List AV} (hr:Rep w S h μ (.mpr ks vs) v):∃(b:Nat) (es:Array MapEntry) (clock:Nat),v=.map (some b)∧S b∧w.heap[b]?=some (.map es clock)∧es.size=ks.length∧es.size=vs.length∧(∀(i:Nat) (x:AV) (e:MapEntry),ks[i]?=some x→es[i]?=some e→RepP w S x e.key)∧∀(i:Nat) (x:AV) (e:MapEntry),vs[i]?=some x→es[i]?=some e→RepP w S x e.val:=by
 cases hr with
 | pure hp=>cases hp with|mpr _ _ b es clock hs hb hk hv hrk hrv=>exact ⟨b,es,clock,rfl,hs,hb,hk,hv,hrk,hrv⟩
theorem Rep.nilm_inv (hr:Rep w S h μ .nilm v):v=.map none:=by cases hr with|pure hp=>cases hp;rfl
theorem Rep.str_inv {s:ByteArray} (hr:Rep w S h μ (.str s) v):v=.string s:=by cases hr with|pure hp=>cases hp;rfl
theorem Rep.tup0_inv (hr:Rep w S h μ (.tup []) v):v=.tuple #[]:=by
 cases hr with
 | pure hp=>cases hp with|tup _ cs hl _=>simp at hl;rw [Array.eq_empty_of_size_eq_zero hl.symm]
 | tup _ cs hl _=>simp at hl;rw [Array.eq_empty_of_size_eq_zero hl.symm]
theorem Rep.agg_inv {l:List AV} (hr:Rep w S h μ (.agg l) v):∃cs:Array Value,v=.agg cs∧l.length=cs.size∧Holds w S h μ l cs:=by
 cases hr with
 | pure hp=>cases hp with|agg _ cs hl h1 hr=>exact ⟨cs,rfl,hl,fun i x hi=>⟨.pure (hr i x hi),h1 i x hi⟩⟩
 | agg _ cs hl h1 hr=>exact ⟨cs,rfl,hl,fun i x hi=>⟨hr i x hi,h1 i x hi⟩⟩
theorem Rep.tup_inv {l:List AV} (hr:Rep w S h μ (.tup l) v):∃cs:Array Value,v=.tuple cs∧l.length=cs.size∧∀i x,l[i]?=some x→Rep w S h μ x (cs.getD i undef):=by
 cases hr with
 | pure hp=>cases hp with|tup _ cs hl hr=>exact ⟨cs,rfl,hl,fun i x hi=>.pure (hr i x hi)⟩
 | tup _ cs hl hr=>exact ⟨cs,rfl,hl,fun i x hi=>hr i x hi⟩
theorem Rep.fn_inv {f:FuncId} {l:List AV} (hr:Rep w S h μ (.fn f l) v):∃cs:Array Value,v=.func (.func f) #[] cs∧l.length=cs.size∧∀i x,l[i]?=some x→Rep w S h μ x (cs.getD i undef):=by
 cases hr with
 | pure hp=>cases hp with|fn _ _ cs hl hr=>exact ⟨cs,rfl,hl,fun i x hi=>.pure (hr i x hi)⟩
 | fn _ _ cs hl hr=>exact ⟨cs,rfl,hl,fun i x hi=>hr i x hi⟩
theorem Rep.bfn_inv {f:FuncId} {l:List AV} (hr:Rep w S h μ (.bfn f l) v):∃cs:Array Value,v=.func (.func f) #[.agg cs] #[]∧Rep w S h μ (.agg l) (.agg cs):=by
 cases hr with
 | pure hp=>cases hp with|bfn _ _ cs hl h1 hr=>exact ⟨cs,rfl,.pure (.agg _ _ hl h1 hr)⟩
theorem Rep.one {x:AV} (hr:Rep w S h μ x v) (h1:x.one=true):v.oneCell'=true:=by
 cases hr with
 | any=>simp [AV.one] at h1
 | pure hp=>cases hp<;>simp_all [AV.one,Value.oneCell']
 | fn=>rfl
 | agg=>simp [AV.one] at h1
 | tup=>simp [AV.one] at h1
 | arr _ _ _ _ _ _ _ _ h=>exact h
 | ptr _ _ _ _ _ _ _ h=>exact h
 | map _ _ _ _ _ _ h=>exact h
 | yld=>rfl
theorem Jlj (v:Value) (h1:v.oneCell'=true):v.cells=#[v]:=by cases v<;>simp_all [Value.oneCell',Value.cells]
theorem Rep.cells {x:AV} {c:List AV} (hr:Rep w S h μ x v) (hc:x.cells=some c):v.cells.size=c.length∧Holds w S h μ c v.cells:=by
 by_cases h1:x.one=true
 ·have:c=[x]:=by
   cases x<;>simp_all [AV.cells,AV.one]
  subst this
  rw [Jlj v (hr.one h1)]
  refine ⟨rfl,fun i y hi=>?_⟩
  match i,hi with
  | 0,hi=>simp at hi;subst hi;exact ⟨hr,hr.one h1⟩
 ·cases x<;>simp_all [AV.cells,AV.one]
  obtain ⟨cs,rfl,hl,hh⟩:=hr.agg_inv
  exact ⟨hl.symm,hh⟩
end
end Go.Vv
namespace Go.Vv
def cOf1:Value→Option AV
 | .bool b=>some (.bool b)
 | .int k n=>some (.int k n)
 | .string s=>some (.str s)
 | .slice none 0 0=>some .nils
 | .pointer none=>some .nilp
 | .nilFunc=>some .nilf
 | .map none=>some .nilm
 | _=>none
def cOfL:List Value→Option (List AV)
 | []=>some []
 | v::r =>
  match cOf1 v,cOfL r with
  | some x,some l=>some (x::l)
  | _,_=>none
def cOf:Value→Option AV
 | .agg cs=>(cOfL cs.toList).map .agg
 | .tuple cs=>if cs.size=0 then some (.tup []) else none
 | v=>cOf1 v
def cLO:Operand→Option LO
 | .tmp t=>some (.t t)
 | .const v=>(cOf v).map .c
 | .func f=>some (.c (.fn f []))
 | .global _=>none
def cLOs:List Operand→Option (List LO)
 | []=>some []
 | x::r =>
  match cLO x,cLOs r with
  | some a,some l=>some (a::l)
  | _,_=>none
def zc (P:Program) (t:TypeId):Option (List AV) :=
 match P.info? t with
 | some i=>(match i.zero with|some z=>(match cOfL z.cells.toList with|some l=>if l.length=i.size then some l else none|none=>none)|none=>none)
 | none=>none
def zvC (P:Program) (t:TypeId):Option AV :=
 match P.info? t with
 | some i=>(match i.zero with|some z=>cOf z|none=>none)
 | none=>none
def szT (P:Program) (t:TypeId):Option Nat:=(P.info? t).map (·.size)
def aggT (P:Program) (t:TypeId):Option Bool :=
 match P.underlying t with
 | some (.struct _)|some (.array _ _)=>some true
 | some _=>some false
 | none=>none
def Jn6 (P:Program) (g:TypeId→Option (List Bool)):List Field→Nat→Option (List Bool)
 | [],_=>some []
 | f::r,k =>
  match g f.type,aggT P f.type,szT P f.type with
  | some a, some ag, some m => if f.offset = k ∧ f.name ≠ "_" ∧ m = a.length ∧ (ag ∨ m = 1) then (match Jn6 P g r (k + m) with | some b => some (a ++ b) | none => none) else none
  | _,_,_=>none
def eqSh (P:Program):Nat→TypeId→Option (List Bool)
 | 0,_=>none
 | n+1,t =>
  match P.underlying t with
  | some .bool=>some [true]
  | some (.int _)=>some [false]
  | some (.struct fs)=>if P.stoodInHeld t then none else Jn6 P (eqSh P n) fs.toList 0
  | _=>none
def eqT (P:Program) (t:TypeId):Option (Bool×List Bool) :=
 match eqSh P 6 t,aggT P t with
 | some sh,some ag=>if P.eqGuardType P.depth t then none else some (ag,sh)
 | _,_=>none
def Jan (place:Nat→Option (Nat×Nat)):List (Nat×Operand)→Option (List (Nat×Nat×LO))
 | []=>some []
 | (i,x)::r =>
  match place i,cLO x,Jan place r with
  | some (off,n),some x,some l=>some ((off,n,x)::l)
  | _,_,_=>none
inductive CM where
 | p
 | z
 | q
def Jgu (cm:List (Nat×CM)) (d:Option Nat):CM :=
 match cm.find? (fun x=>x.1==d.getD 0) with
 | some (_,m)=>m
 | none=>.p
def Qu (P:Program) (cm:List (Nat×CM)) (dst:Option Nat):Op→Option LOp
 | .move x|.assign x=>(cLO x).map .mov
 | .pick c a b=>match cLO c,cLO a,cLO b with|some c,some a,some b=>some (.pick c a b)|_,_,_=>none
 | .alloc e=>(match Jgu cm dst with
  | .z=>(match P.underlying e with
   | some (.array _ el)=>(match szT P el,zc P e with|some n,some z=>some (.allocA n e z)|_,_=>none)
   | _=>none)
  | _=>(zc P e).map .alloc)
 | .box _ x=>(cLO x).map .box
 | .build t ps=>match zc P t,P.underlying t with
  | some z,some (.struct fs)=>(match fs.toList.mapM (fun f=>(P.info? f.type).map fun i=>(f.offset,i.size)) with
   | some pl=>(Jan (fun i=>pl[i]?) ps.toList).map (.build z)
   | none=>none)
  | some z,some (.array _ e)=>(match P.info? e with|some i=>(Jan (fun k=>some (k * i.size,i.size)) ps.toList).map (.build z)|none=>none)
  | _,_=>none
 | .buildSlice t n ps=>match P.underlying t with
  | some (.slice e)=>(match P.info? e,zc P e with
   | some i,some z=>if n * i.size≤16777216∧0<i.size then (Jan (fun k=>some (k * i.size,i.size)) ps.toList).map (.bslice n i.size e z) else none
   | _,_=>none)
  | _=>none
 | .load t x=>match aggT P t,szT P t,cLO x with
  | some ag,some n,some x=>if ag∨n=1 then some (.load ag n x) else none
  | _,_,_=>none
 | .store t x y=>match szT P t,cLO x,cLO y with
  | some n,some x,some y=>some (.store n x y)
  | _,_,_=>none
 | .binOp op t x y yt=>match P.underlying t,cLO x,cLO y with
  | some (.int _),some x,some y=>(match op with|.shl|.shr=>(match P.underlying yt with|some (.int _)=>some (.shf op x y)|_=>none)|_=>some (.ibin op x y))
  | some (.slice _),some x,some (.c .nils)=>(match op with|.eql=>some (.isnil false x)|.neq=>some (.isnil true x)|_=>none)
  | some _,some x,some y=>(match op with
   | .eql=>(match eqT P t with|some (ag,sh)=>some (.eqv false ag sh x y)|none=>none)
   | .neq=>(match eqT P t with|some (ag,sh)=>some (.eqv true ag sh x y)|none=>none)
   | _=>none)
  | _,_,_=>none
 | .unOp op _ x=>(cLO x).map (.un op)
 | .convert s d x=>match P.underlying s,P.underlying d,cLO x with
  | some (.int _),some (.int k),some x=>some (.conv k x)
  | _,_,_=>none
 | .nilCheck x=>(cLO x).map .nilck
 | .makeFunc (.func f) first caps=>if first.size=0 then (cLOs caps.toList).map (.mkfn f) else if caps.size=0 then (match cLOs first.toList with|some [x]=>some (.mkbf f x)|_=>none) else none
 | .makeSlice t l c=>match P.underlying t with
  | some (.slice e)=>(match P.info? e,zc P e,cLO l,cLO c with
   | some i,some z,some l,some c=>if 0<i.size then some (.mkS i.size i.bytes e z l c) else none
   | _,_,_,_=>none)
  | _=>none
 | .makeMap t none=>match P.underlying t with
  | some (.map kt et)=>some (.mkM kt et (match P.underlying et with|some (.slice x)=>x|_=>0))
  | _=>none
 | .lookup t x k ok=>match P.underlying t with
  | some (.map kt et)=>(match eqSh P 6 kt,aggT P kt,zvC P et with
   | some sh,some ag,some z=>(match cLO x,cLO k with
    | some x,some k=>some (.look ok ag sh (upZ z) x k)
    | _,_=>none)
   | _,_,_=>none)
  | _=>none
 | .mapUpdate t x k v|.insert t x k v=>match P.underlying t with
  | some (.map kt _)=>(match eqSh P 6 kt,aggT P kt with
   | some sh,some ag=>(match cLO x,cLO k,cLO v with
    | some x,some k,some v=>some (.setM ag sh x k v)
    | _,_,_=>none)
   | _,_=>none)
  | _=>none
 | .slice t x lo hi none=>match P.underlying t with
  | some (.slice e)=>(match szT P e,cLO x with
   | some n,some x =>
    (match lo,hi with
     | none,none=>some (.slc n x none none)
     | some a,none=>(match cLO a with|some a=>some (.slc n x (some a) none)|none=>none)
     | none,some b=>(match cLO b with|some b=>some (.slc n x none (some b))|none=>none)
     | some a,some b=>(match cLO a,cLO b with|some a,some b=>some (.slc n x (some a) (some b))|_,_=>none))
   | _,_=>none)
  | some (.array n el)=>(match lo,hi with
   | none,none=>(match szT P el,cLO x with|some s,some x=>(match Nat.ble n 9223372036854775807 with|true=>some (.slcA n s x)|false=>none)|_,_=>none)
   | _,_=>none)
  | _=>none
 | .fieldAddr s x f=>match P.underlying s with
  | some (.struct fs)=>(match fs[f]?,cLO x with
   | some fd,some x=>(match szT P fd.type with|some n=>if n≠0 then some (.faddr fd.offset x) else none|none=>none)
   | _,_=>none)
  | _=>none
 | .field s x f=>match P.underlying s with
  | some (.struct fs)=>(match fs[f]?,cLO x with
   | some fd,some x=>(match aggT P fd.type,szT P fd.type with|some ag,some n=>if ag∨n=1 then some (.fld ag fd.offset n x) else none|_,_=>none)
   | _,_=>none)
  | _=>none
 | .indexAddr t x i=>match P.underlying t,cLO x,cLO i with
  | some (.slice e),some x,some i=>(match szT P e with|some n=>some (.iaddr n x i)|none=>none)
  | some (.array len e),some x,some i=>(match szT P e with|some n=>some (.iaddrA len n x i)|none=>none)
  | _,_,_=>none
 | .index t x i=>match P.underlying t,cLO x,cLO i with
  | some (.array len e),some x,some i=>(match aggT P e,szT P e with|some ag,some n=>if ag∨n=1 then some (.idx len n ag x i) else none|_,_=>none)
  | _,_,_=>none
 | .extract x i=>(cLO x).map (.ext · i)
 | .call c=>match c.callee with
  | .builtin .len=>(match c.args.toList,c.argTypes.toList with
   | [x],[t]=>(match P.underlying t,cLO x with
    | some (.slice _),some x=>some (.len x)
    | some (.map _ _),some x=>some (.lenM x)
    | some .string,some x=>some (.lenS x)
    | _,_=>none)
   | _,_=>none)
  | .builtin .append=>(match c.args.toList,c.argTypes.toList with
   | [x,y],[t,t']=>if t=t' then (match P.underlying t,cLO x,cLO y with
    | some (.slice e),some x,some y=>(match P.info? e,zc P e with
     | some i,some z=>if 0<i.size then some (.app i.size i.bytes e z x y) else none
     | _,_=>none)
    | _,_,_=>none) else none
   | _,_=>none)
  | .builtin .delete=>(match c.args.toList,c.argTypes.toList with
   | [x,k],t::_=>(match P.underlying t with
    | some (.map kt _)=>(match eqSh P 6 kt,aggT P kt with
     | some sh,some ag=>(match cLO x,cLO k with
      | some x,some k=>some (.delM ag sh x k)
      | _,_=>none)
     | _,_=>none)
    | _=>none)
   | _,_=>none)
  | .builtin .max=>(match c.args.toList with
   | [x,y]=>(match cLO x,cLO y with|some x,some y=>some (.mm true x y)|_,_=>none)
   | _=>none)
  | .builtin .min=>(match c.args.toList with
   | [x,y]=>(match cLO x,cLO y with|some x,some y=>some (.mm false x y)|_,_=>none)
   | _=>none)
  | .value (.func f)=>(match cLOs c.args.toList with
   | some as=>some (match Jgu cm dst with|.p=>.callp f as|.z=>.callz f as|.q=>.callq f as)
   | none=>none)
  | .value (.tmp x)=>(cLOs c.args.toList).map (.callv (.t x))
  | _=>none
 | _=>none
def comp (P:Program) (cm:List (Nat×CM)) (nt:Nat) (ops:Array Oper) (o:Oper):Option LOper :=
 match Qu P cm o.dst o.op with
 | none=>none
 | some op =>
  if Jrm nt o.dst then
   match o.guard with
   | none=>some ⟨o.dst,op,none⟩
   | some (j,want)=>(match (ops[j]?).bind (·.dst) with|some d=>if d<nt then some ⟨o.dst,op,some (d,want)⟩ else none|none=>none)
  else none
def compOps (P:Program) (cm:List (Nat×CM)) (nt:Nat) (ops:Array Oper):List Oper→Option (List LOper)
 | []=>some []
 | o::r =>
  match comp P cm nt ops o,compOps P cm nt ops r with
  | some x,some l=>some (x::l)
  | _,_=>none
section
variable {w:World} {S:Nat→Prop} {h:Heap} {μ:Gh}
theorem Joq {v:Value} {x:AV} (hx:cOf1 v=some x):RepP w S x v∧v.oneCell'=true:=by
 unfold cOf1 at hx
 split at hx<;>first|(injection hx with hx;subst hx;refine ⟨?_,rfl⟩;constructor)|cases hx
theorem Jdl:∀ {l:List Value} {m:List AV},cOfL l=some m→m.length=l.length∧∀(i:Nat) (x:AV),m[i]?=some x→∃v:Value,l[i]?=some v∧RepP w S x v∧v.oneCell'=true
 | [],m,hm=>by simp [cOfL] at hm;subst hm;exact ⟨rfl,fun i x hi=>by simp at hi⟩
 | v::r,m,hm=>by
  unfold cOfL at hm
  split at hm
  ·rename_i x l hx hl
   injection hm with hm
   subst hm
   obtain ⟨h1,h2⟩:=Jdl hl
   refine ⟨by simp [h1],fun i y hi=>?_⟩
   cases i with
   | zero=>simp at hi;subst hi;exact ⟨v,rfl,Joq hx⟩
   | succ i=>simpa using h2 i y (by simpa using hi)
  ·cases hm
theorem X3 {l:List Value} {m:List AV} (hm:cOfL l=some m):Holds w S h μ m l.toArray:=by
 intro i x hi
 obtain ⟨v,hv,hr,h1⟩:=(Jdl hm).2 i x hi
 have e:l.toArray.getD i undef=v:=by simp [hv]
 rw [e]
 exact ⟨.pure hr,h1⟩
theorem Jm3 {v:Value} {x:AV} (hx:cOf v=some x):Rep w S h μ x v:=by
 unfold cOf at hx
 split at hx
 ·rename_i cs
  cases hl:cOfL cs.toList with
  | none=>rw [hl] at hx;cases hx
  | some l =>
   rw [hl] at hx
   simp at hx
   subst hx
   have:=X3 (w:=w) (S:=S) (h:=h) (μ:=μ) hl
   refine .agg l cs (by simpa using (Jdl (w:=w) (S:=S) hl).1) (fun i x hi=>?_) (fun i x hi=>?_)
   ·simpa using (this i x hi).2
   ·simpa using (this i x hi).1
 ·rename_i cs
  split at hx
  ·rename_i hs
   injection hx with hx
   subst hx
   exact .tup [] cs (by simp [hs]) (fun i x hi=>by simp at hi)
  ·cases hx
 ·exact .pure (Joq hx).1
end
theorem Ji {nt:Nat} {w:World} {S:Nat→Prop} {σ:St} {μ:Gh} {a:Act} (hs:RepS nt w S σ μ a) {x:Operand} {y:LO} (hx:cLO x=some y):Rep w S σ.h μ (σ.ev y) (a.eval x):=by
 unfold cLO at hx
 split at hx
 ·injection hx with hx;subst hx;exact hs.fr _
 ·rename_i v
  cases hv:cOf v with
  | none=>rw [hv] at hx;cases hx
  | some u=>rw [hv] at hx;simp at hx;subst hx;exact Jm3 hv
 ·injection hx with hx;subst hx;exact .fn _ [] #[] rfl (fun i x hi=>by simp at hi)
 ·cases hx
theorem Jo3 {nt:Nat} {w:World} {S:Nat→Prop} {σ:St} {μ:Gh} {a:Act} (hs:RepS nt w S σ μ a):∀ {l:List Operand} {m:List LO},cLOs l=some m →
  m.length=l.length∧∀(i:Nat) (y:LO),m[i]?=some y→∃x,l[i]?=some x∧Rep w S σ.h μ (σ.ev y) (a.eval x)
 | [],m,hm=>by simp [cLOs] at hm;subst hm;exact ⟨rfl,fun i x hi=>by simp at hi⟩
 | x::r,m,hm=>by
  unfold cLOs at hm
  split at hm
  ·rename_i y l hx hl
   injection hm with hm
   subst hm
   obtain ⟨h1,h2⟩:=Jo3 hs hl
   refine ⟨by simp [h1],fun i z hi=>?_⟩
   cases i with
   | zero=>simp at hi;subst hi;exact ⟨x,rfl,Ji hs hx⟩
   | succ i=>simpa using h2 i z (by simpa using hi)
  ·cases hm
end Go.Vv
namespace Go.Vv
open Go
set_option linter.unusedSimpArgs false
theorem Jhz (a:Addr) (m n:Nat):(a.add m).add n=a.add (m+n):=by
 unfold Addr.add
 by_cases hm:m=0<;>by_cases hn:n=0<;>simp_all [Ag]
theorem zg {w:World} {b o i:Nat} {cs:Array Value} {t:TypeId} {z:Nat×Nat} (hg:w.heap[b]?=some (.cells cs t z)):w.cell? ((⟨b,o,none⟩:Addr).add i)=cs[o+i]?:=by
 rw [Addr.add_lit,cell_of_row w b (o+i) cs t z hg]
theorem getD_some {cs:Array Value} {i:Nat} (h:i<cs.size):cs[i]?=some (cs.getD i undef):=by
 simp [h]
theorem Jix {h:Heap} {g ver:Nat} (hc:cur h g ver=true):∃o,h g=some o∧ver=o.ver:=by
 unfold cur at hc
 split at hc
 ·rename_i o ho;exact ⟨o,ho,by simpa using (beq_iff_eq.1 hc).symm⟩
 ·cases hc
theorem Jil {h:Heap} {g ver esz:Nat} (hc:curA h g ver esz=true):∃el cells fz,h g=some (.arr ver esz el cells fz):=by
 unfold curA at hc
 split at hc
 ·rename_i v e t c z ho;simp at hc;obtain ⟨rfl,rfl⟩:=hc;exact ⟨t,c,z,ho⟩
 ·cases hc
theorem Jcu {h:Heap} {g ver:Nat} (hc:Qa h g ver=true):∃esz el cells fz,h g=some (.arr ver esz el cells fz):=by
 unfold Qa at hc
 split at hc
 ·rename_i v e t c z ho;simp at hc;obtain rfl:=hc;exact ⟨e,t,c,z,ho⟩
 ·cases hc
theorem Jp6 {h:Heap} {g ver:Nat} {es:List (AV×AV)} (hc:curM h g ver=some es):h g=some (.map ver es false):=by
 unfold curM at hc
 split at hc
 ·rename_i v es' ho;split at hc
  ·rename_i e;subst e;injection hc with hc;subst hc;exact ho
  ·cases hc
 ·cases hc
section
variable {w:World} {S:Nat→Prop} {h:Heap} {μ:Gh} {P:Program}
theorem Rep.ptr_inv {g ver off:Nat} {v:Value} (hr:Rep w S h μ (.ptr g ver off) v) (hc:cur h g ver=true):v=.pointer (some ⟨μ.b g,μ.o g+off,none⟩):=by
 obtain ⟨o,ho,e⟩:=Jix hc
 cases hr with
 | pure hp=>cases hp
 | ptr _ _ _ _ o' ho' _ _ hr=>rw [ho] at ho';injection ho' with ho';subst ho';exact hr e
theorem Rep.arr_inv0 {g ver off len esz:Nat} {v:Value} {el:TypeId} {cells:List AV} {fz:Bool} (hr:Rep w S h μ (.arr g ver off len) v) (ho:h g=some (.arr ver esz el cells fz)):ArrV w cells (μ.b g) (μ.o g) esz off len v:=by
 cases hr with
 | pure hp=>cases hp
 | arr _ _ _ _ _ o' ho' _ _ hr =>
  rw [ho] at ho'
  injection ho' with ho'
  subst ho'
  obtain ⟨esz',el',cells',fz',e,hk⟩:=hr rfl
  injection e with _ e2 _ e4
  subst e2 e4
  exact hk
theorem Rep.arr_inv {g ver off len esz:Nat} {v:Value} {el:TypeId} {cells:List AV} {fz:Bool} (hr:Rep w S h μ (.arr g ver off len) v) (ho:h g=some (.arr ver esz el cells fz)) (hne:cells≠[]):ArrOK w (μ.b g) (μ.o g) esz off len v:=(hr.arr_inv0 ho).2 hne
theorem Rep.arr_sl {g ver off len esz:Nat} {v:Value} {el:TypeId} {cells:List AV} {fz:Bool} (hr:Rep w S h μ (.arr g ver off len) v) (ho:h g=some (.arr ver esz el cells fz)):∃A cap,v=.slice A len cap∧len≤cap∧(A=none→len=0∧cap=0):=by
 obtain ⟨h1,h2⟩:=hr.arr_inv0 ho
 by_cases hc:cells=[]
 ·obtain ⟨-,rfl,A,rfl⟩:=h1 hc
  exact ⟨A,0,rfl,Ab _,fun _=>⟨rfl,rfl⟩⟩
 ·obtain ⟨a,cap,cs,el',z,rfl,hl,_⟩:=h2 hc
  exact ⟨some a,cap,rfl,hl.1,fun e=>by cases e⟩
theorem Rep.map_inv {g ver:Nat} {v:Value} {es:List (AV×AV)} (hr:Rep w S h μ (.map g ver) v) {fz:Bool} (ho:h g=some (.map ver es fz)):v=.map (some (μ.b g)):=by
 cases hr with
 | pure hp=>cases hp
 | map _ _ _ o' ho' _ _ hr=>rw [ho] at ho';injection ho' with ho';subst ho';exact hr rfl
theorem Jfd (hp:RepH w S h μ) {x:AV} {cx:Value} (hr:Rep w S h μ x cx) {l:List AV} {off:Nat} (hd:Q2 h x=some (l,off)) :
  ∃a,cx=.pointer (some a)∧∀i y,l[off+i]?=some y→∃c,w.cell? (a.add i)=some c∧c.oneCell'=true∧Rep w S h μ y c:=by
 unfold Q2 at hd
 split at hd
 ·injection hd with hd
  simp only [Ah] at hd
  obtain ⟨rfl,rfl⟩:=hd
  cases hr with
  | pure hp' =>
   cases hp' with
   | rptr _ a cv hs hc h1 hr=>exact ⟨a,rfl,fun i y hi=>⟨cv i,by simpa using hc i y (by simpa using hi),h1 i y (by simpa using hi),.pure (hr i y (by simpa using hi))⟩⟩
 ·rename_i g ver off'
  split at hd
  ·rename_i ver' cells ho
   split at hd
   ·rename_i e
    subst e
    injection hd with hd
    simp only [Ah] at hd
    obtain ⟨rfl,rfl⟩:=hd
    obtain ⟨cs,el,hb,hsz,hh⟩:=hp.ob g _ ho
    refine ⟨⟨μ.b g,μ.o g+off',none⟩,hr.ptr_inv (by simp [cur,ho,AObj.ver]),fun i y hi=>?_⟩
    have hlt:μ.o g+(off'+i)<cs.size:=by have:=(Aa.1 hi).1;omega
    exact ⟨cs.getD (μ.o g+(off'+i)) undef,by rw [zg hb,Ag,getD_some hlt],(hh _ _ hi).2,(hh _ _ hi).1⟩
   ·cases hd
  ·rename_i ver' esz el cells fz ho
   split at hd
   ·rename_i e
    obtain ⟨rfl,hne⟩:=e
    injection hd with hd
    simp only [Ah] at hd
    obtain ⟨rfl,rfl⟩:=hd
    obtain ⟨cs,hb,hsz,hh,_⟩:=hp.ob g _ ho hne
    refine ⟨⟨μ.b g,μ.o g+off',none⟩,hr.ptr_inv (by simp [cur,ho,AObj.ver]),fun i y hi=>?_⟩
    have hlt:μ.o g+(off'+i)<cs.size:=by have:=(Aa.1 hi).1;omega
    exact ⟨cs.getD (μ.o g+(off'+i)) undef,by rw [zg hb,Ag,getD_some hlt],(hh _ _ hi).2,(hh _ _ hi).1⟩
   ·cases hd
  ·cases hd
 ·cases hd
theorem Jby {t:TypeId} {b:Bool} (hb:aggT P t=some b) (w:World):(isAgg t).run P w=.ok b w:=by
 unfold aggT at hb
 split at hb
 ·rename_i fs hu;injection hb with hb;subst hb;simp [isAgg,run_underlying hu]
 ·rename_i n e hu;injection hb with hb;subst hb;simp [isAgg,run_underlying hu]
 ·rename_i d h1 h2 hu
  injection hb with hb;subst hb
  cases hd:P.underlying t with
  | none=>simp_all
  | some d' =>
   simp only [isAgg,Sem.run_bind,run_underlying hd,Result.andThen_ok]
   cases d'<;>simp_all
   all_goals first|exact h1 _ hu.symm|exact h2 _ _ hu.symm
 ·cases hb
theorem J6 {t:TypeId} {n:Nat} (hn:szT P t=some n) (w:World):(sizeOf t).run P w=.ok n w:=by
 unfold szT at hn
 cases hi:P.info? t with
 | none=>rw [hi] at hn;cases hn
 | some i=>rw [hi] at hn;simp at hn;subst hn;simp [sizeOf,typeInfo,hi]
theorem Jgi {l:List AV} {off n:Nat} {ag:Bool} {v:AV} (hv:pack ag l off n=some v) {f:Nat→Value}
  (hf:∀i y,i<n→l[off+i]?=some y→(f i).oneCell'=true∧Rep w S h μ y (f i)) (hn:ag∨n=1) :
  Rep w S h μ v (if ag then .agg ((List.range n).map f).toArray else f 0):=by
 unfold pack at hv
 split at hv
 ·rename_i hle
  cases ag with
  | true =>
   simp at hv
   subst hv
   have key:∀i x,(cut l off n)[i]?=some x→i<n∧l[off+i]?=some x:=fun i x hi=>by
    simp only [cut,Am,Ai] at hi
    split at hi
    ·rename_i hlt;exact ⟨hlt,hi⟩
    ·cases hi
   simp only [if_true]
   refine .agg _ _ (by simp [cut];omega) (fun i x hi=>?_) (fun i x hi=>?_)
   ·obtain ⟨h1,h2⟩:=key i x hi
    simpa [h1] using (hf i x h1 h2).1
   ·obtain ⟨h1,h2⟩:=key i x hi
    simpa [h1] using (hf i x h1 h2).2
  | false =>
   simp at hv
   simp only [Af,if_false]
   have h1:n=1:=by simpa using hn
   exact (hf 0 v (by omega) (by simpa using hv)).2
 ·cases hv
theorem Y4 (hp:RepH w S h μ) {t:TypeId} {n:Nat} {ag:Bool} (hag:aggT P t=some ag) (hsz:szT P t=some n) (hn:ag∨n=1) {x v:AV} {cx:Value} (hr:Rep w S h μ x cx)
  (hl:Yk h ag n x=some v):∃cv,(Instr.loadAt t cx).run P w=.ok cv w∧Rep w S h μ v cv:=by
 unfold Yk at hl
 split at hl
 ·rename_i l off hd
  obtain ⟨a,rfl,hc⟩:=Jfd hp hr hd
  have hle:off+n≤l.length:=by
   unfold pack at hl
   split at hl
   ·assumption
   ·cases hl
  have hcell:∀j,j<n→w.cell? (a.add j)=some ((w.cell? (a.add j)).getD undef):=fun j hj=>by
   obtain ⟨c,h1,_⟩:=hc j (l[off+j]'(by omega)) (Ap (by omega))
   rw [h1];rfl
  have hrep:=Jgi (w:=w) (S:=S) (h:=h) (μ:=μ) hl (f:=fun j=>(w.cell? (a.add j)).getD undef) (fun i y _ hi=>by
   obtain ⟨c,h1,h2,h3⟩:=hc i y hi
   rw [h1];exact ⟨h2,h3⟩) hn
  refine ⟨_,?_,hrep⟩
  cases ag with
  | true=>simp [Instr.loadAt,Instr.sureAddr,loadVar,Jby hag,J6 hsz,run_loadCells w a n _ hcell]
  | false =>
   have h1:n=1:=by simpa using hn
   have h0:=hcell 0 (by omega)
   simp only [Addr.add_zero'] at h0 ⊢
   simp [Instr.loadAt,Instr.sureAddr,loadVar,Jby hag,load,Sem.run]
   cases hcc:w.cell? a with
   | none=>rw [hcc] at h0;cases h0
   | some c=>simp
 ·cases hl
theorem RepP.drop {l:List AV} {a:Addr} {cv:Nat→Value} {k:Nat} (hs:l≠[]→S a.block) (hc:∀i x,l[i]?=some x→w.cell? (a.add i)=some (cv i))
  (h1:∀i x,l[i]?=some x→(cv i).oneCell'=true) (hr:∀i x,l[i]?=some x→RepP w S x (cv i)):RepP w S (.rptr (l.drop k)) (.pointer (some (a.add k))):=by
 have hb:(a.add k).block=a.block:=by unfold Addr.add;split<;>rfl
 exact .rptr _ _ (fun i=>cv (k+i)) (fun h0=>by rw [hb];exact hs (by rintro rfl;simp at h0)) (fun i x hi=>by rw [Jhz];exact hc _ x (by simpa using hi)) (fun i x hi=>h1 _ x (by simpa using hi)) (fun i x hi=>hr _ x (by simpa using hi))
theorem RepP.cut {l:List AV} {a:Addr} {cv:Nat→Value} {k n:Nat} (hs:l≠[]→S a.block) (hc:∀i x,l[i]?=some x→w.cell? (a.add i)=some (cv i))
  (h1:∀i x,l[i]?=some x→(cv i).oneCell'=true) (hr:∀i x,l[i]?=some x→RepP w S x (cv i)):RepP w S (.rptr (Vv.cut l k n)) (.pointer (some (a.add k))):=by
 have hb:(a.add k).block=a.block:=by unfold Addr.add;split<;>rfl
 have key:∀i x,(Vv.cut l k n)[i]?=some x→l[k+i]?=some x:=fun i x hi=>by
  simp only [Vv.cut,Am,Ai] at hi
  split at hi
  ·exact hi
  ·cases hi
 exact .rptr _ _ (fun i=>cv (k+i)) (fun h0=>by rw [hb];exact hs (by rintro rfl;simp [Vv.cut] at h0)) (fun i x hi=>by rw [Jhz];exact hc _ x (key i x hi)) (fun i x hi=>h1 _ x (key i x hi)) (fun i x hi=>hr _ x (key i x hi))
theorem Jmt {s:TypeId} {fs:Array Field} {f:Nat} {fd:Field} {n:Nat} (hs:P.underlying s=some (.struct fs)) (hf:fs[f]?=some fd) (hn:szT P fd.type=some n) (hn0:n≠0)
  {x v:AV} {cx:Value} (hr:Rep w S h μ x cx) (hv:Xw h fd.offset x=some v):∃cv,(Instr.fieldAt s cx f).run P w=.ok cv w∧Rep w S h μ v cv:=by
 unfold Xw at hv
 split at hv
 ·rename_i g ver o
  split at hv
  ·rename_i hc
   injection hv with hv
   subst hv
   obtain ⟨ob,ho,e⟩:=Jix hc
   have hx:=hr.ptr_inv hc
   subst hx
   refine ⟨.pointer (some ⟨μ.b g,μ.o g+(o+fd.offset),none⟩),?_,.ptr _ _ _ _ ob ho (by omega) rfl fun _=>rfl⟩
   simp [Instr.fieldAt,run_underlying hs,hf,Instr.sureAddr,fieldPlace,J6 hn,hn0,Addr.add_lit,Ag]
  ·cases hv
 ·injection hv with hv
  subst hv
  cases hr with
  | pure hp =>
   cases hp with
   | rptr _ a cv hs' hc h1 hr =>
    refine ⟨.pointer (some (a.add fd.offset)),?_,.pure (RepP.drop hs' hc h1 hr)⟩
    simp [Instr.fieldAt,run_underlying hs,hf,Instr.sureAddr,fieldPlace,J6 hn,hn0]
 ·cases hv
theorem Jn2 {t e:TypeId} {n:Nat} (ht:P.underlying t=some (.slice e)) (hn:szT P e=some n) {x i v:AV} {cx ci:Value} (hr:Rep w S h μ x cx) (hi:Rep w S h μ i ci)
  (hv:Q6 h n x i=some v):∃cv,(Instr.indexAt t cx ci).run P w=.ok cv w∧Rep w S h μ v cv:=by
 unfold Q6 at hv
 split at hv
 ·rename_i m l k j
  split at hv
  ·rename_i hlt
   injection hv with hv
   subst hv
   rw [hi.int_inv]
   cases hr with
   | pure hp =>
    cases hp with
    | lst0=>omega
    | lst _ _ a cap cv hs hn' hc h1 hr =>
     refine ⟨.pointer (some (a.add (j.toNat * n))),?_,.pure (RepP.cut hs hc h1 hr)⟩
     simp [Instr.indexAt,run_underlying ht,asIntOf,hlt,J6 hn]
  ·cases hv
 ·rename_i g ver off len k j
  split at hv
  ·rename_i hlt
   obtain ⟨h0,h1,hc⟩:=hlt
   injection hv with hv
   subst hv
   rw [hi.int_inv]
   obtain ⟨el,cells,fz,ho⟩:=Jil hc
   obtain ⟨a,cap,cs,el',z,rfl,hl,hb,hsz,ha⟩:=hr.arr_inv ho (fun e=>by have:=((hr.arr_inv0 ho).1 e).2.1;omega)
   have hcap:0<cap:=by omega
   rw [ha hcap]
   refine ⟨.pointer (some ⟨μ.b g,μ.o g+(off+j.toNat) * n,none⟩),?_,.ptr _ _ _ _ _ ho (Ab _) rfl fun _=>rfl⟩
   simp [Instr.indexAt,run_underlying ht,asIntOf,h0,h1,J6 hn,Addr.add_lit,Ad,Ag]
  ·cases hv
 ·cases hv
theorem Jla {t e:TypeId} {n len:Nat} (ht:P.underlying t=some (.array len e)) (hn:szT P e=some n) {x i v:AV} {cx ci:Value} (hr:Rep w S h μ x cx) (hi:Rep w S h μ i ci)
  (hv:Ze h len n x i=some v):∃cv,(Instr.indexAt t cx ci).run P w=.ok cv w∧Rep w S h μ v cv:=by
 unfold Ze at hv
 split at hv
 ·rename_i g ver o k j
  split at hv
  ·rename_i hlt
   obtain ⟨h0,h1,hc⟩:=hlt
   injection hv with hv
   subst hv
   rw [hi.int_inv,hr.ptr_inv hc]
   obtain ⟨ob,ho,e⟩:=Jix hc
   refine ⟨.pointer (some ⟨μ.b g,μ.o g+(o+j.toNat * n),none⟩),?_,.ptr _ _ _ _ ob ho (by omega) rfl fun _=>rfl⟩
   simp [Instr.indexAt,run_underlying ht,asIntOf,Instr.sureAddr,h0,h1,J6 hn,Addr.add_lit,Ag]
  ·cases hv
 ·rename_i l k j
  split at hv
  ·rename_i hlt
   injection hv with hv
   subst hv
   rw [hi.int_inv]
   cases hr with
   | pure hp =>
    cases hp with
    | rptr _ a cv hs hc h1 hr =>
     refine ⟨.pointer (some (a.add (j.toNat * n))),?_,.pure (RepP.drop hs hc h1 hr)⟩
     simp [Instr.indexAt,run_underlying ht,asIntOf,Instr.sureAddr,hlt,J6 hn]
  ·cases hv
 ·cases hv
theorem Y2 {t:TypeId} {off n:Nat} {ag:Bool} (hag:aggT P t=some ag) (hsz:szT P t=some n) (hn:ag∨n=1) {l:List AV} {cs:Array Value} (hl:l.length=cs.size) (hh:Holds w S h μ l cs)
  {v:AV} (hv:pack ag l off n=some v):∃cv,(part t cs off).run P w=.ok cv w∧Rep w S h μ v cv:=by
 have hle:off+n≤l.length:=by
  unfold pack at hv
  split at hv
  ·assumption
  ·cases hv
 have hrep:=Jgi (w:=w) (S:=S) (h:=h) (μ:=μ) hv (f:=fun j=>cs.getD (off+j) undef) (fun i y _ hi=>⟨(hh _ y hi).2,(hh _ y hi).1⟩) hn
 refine ⟨_,?_,hrep⟩
 cases ag with
 | true =>
  simp only [part,Sem.run_bind,Jby hag,Result.andThen_ok,if_true,J6 hsz]
  simp only [Sem.run_pure]
  congr 2
  apply Array.ext
  ·simp;omega
  ·intro i h1 h2
   simp at h1 h2 ⊢
   rw [Array.getElem?_eq_getElem (by omega)]
   rfl
 | false =>
  have h1:n=1:=by simpa using hn
  simp only [part,Sem.run_bind,Jby hag,Result.andThen_ok,Af,if_false]
  rw [getD_some (cs:=cs) (i:=off) (by omega)]
  rfl
theorem Jty {s:TypeId} {fs:Array Field} {f:Nat} {fd:Field} {n:Nat} {ag:Bool} (hs:P.underlying s=some (.struct fs)) (hf:fs[f]?=some fd) (hag:aggT P fd.type=some ag) (hsz:szT P fd.type=some n) (hn:ag∨n=1)
  {l:List AV} {v:AV} {cx:Value} (hr:Rep w S h μ (.agg l) cx) (hv:pack ag l fd.offset n=some v):∃cv,(Instr.field s cx f).run P w=.ok cv w∧Rep w S h μ v cv:=by
 obtain ⟨cs,rfl,hl,hh⟩:=hr.agg_inv
 obtain ⟨cv,h1,h2⟩:=Y2 (P:=P) hag hsz hn hl hh hv
 exact ⟨cv,by simp [Instr.field,run_underlying hs,hf,asAgg,h1],h2⟩
theorem Js6 {t e:TypeId} {len n:Nat} {ag:Bool} (ht:P.underlying t=some (.array len e)) (hag:aggT P e=some ag) (hsz:szT P e=some n) (hn:ag∨n=1) {x i v:AV} {cx ci:Value}
  (hr:Rep w S h μ x cx) (hi:Rep w S h μ i ci) (hv:idxV len n ag x i=some v):∃cv,(Instr.index t cx ci).run P w=.ok cv w∧Rep w S h μ v cv:=by
 unfold idxV at hv
 split at hv
 ·rename_i l k j
  split at hv
  ·rename_i hlt
   obtain ⟨cs,rfl,hl,hh⟩:=hr.agg_inv
   rw [hi.int_inv]
   obtain ⟨cv,h1,h2⟩:=Y2 (P:=P) hag hsz hn hl hh hv
   exact ⟨cv,by simp [Instr.index,asIntOf,run_underlying ht,hlt,J6 hsz,h1],h2⟩
  ·cases hv
 ·cases hv
theorem Jse {l:List AV} {i:Nat} {v:AV} {cx:Value} (hr:Rep w S h μ (.tup l) cx) (hv:l[i]?=some v):∃cv,(Instr.extract cx i).run P w=.ok cv w∧Rep w S h μ v cv:=by
 obtain ⟨cs,rfl,hl,hh⟩:=hr.tup_inv
 have hlt:i<cs.size:=by have:=(Aa.1 hv).1;omega
 exact ⟨cs.getD i undef,by simp only [Instr.extract];rw [getD_some hlt];rfl,hh i v hv⟩
theorem Jth {t e ty:TypeId} (ht:P.underlying t=some (.slice e)) {x:AV} {cx:Value} {n:Int} (hr:Rep w S h μ x cx) (hv:lenV h x=some n):(Builtin.len_ #[t] ty #[cx]).run P w=.ok (.int .i64 n) w:=by
 unfold lenV at hv
 split at hv
 ·injection hv with hv;subst hv
  rw [hr.nils_inv];simp [Builtin.len_,run_underlying ht,goInt]
 ·injection hv with hv;subst hv
  cases hr with
  | pure hp=>cases hp<;>simp [Builtin.len_,run_underlying ht,goInt]
 ·split at hv
  ·rename_i hc
   injection hv with hv;subst hv
   obtain ⟨esz,el,cells,fz,ho⟩:=Jcu hc
   obtain ⟨a,cap,rfl,_⟩:=hr.arr_sl ho
   simp [Builtin.len_,run_underlying ht,goInt]
  ·cases hv
 ·cases hv
theorem Jr1 {t k e ty:TypeId} (ht:P.underlying t=some (.map k e)) (hp:RepH w S h μ) {x:AV} {cx:Value} {n:Int} (hr:Rep w S h μ x cx) (hv:lenM h x=some n):(Builtin.len_ #[t] ty #[cx]).run P w=.ok (.int .i64 n) w:=by
 unfold lenM at hv
 split at hv
 ·injection hv with hv;subst hv
  rw [hr.nilm_inv];simp [Builtin.len_,run_underlying ht,goInt]
 ·injection hv with hv;subst hv
  obtain ⟨b,es,clock,rfl,-,hb,hk,-⟩:=hr.mpr_inv
  simp [Builtin.len_,run_underlying ht,goInt,getObj,Sem.run,hb,hk]
 ·split at hv
  ·rename_i es hc
   injection hv with hv;subst hv
   have ho:=Jp6 hc
   obtain ⟨es',clock,hb,hsz,_⟩:=hp.ob _ _ ho
   rw [hr.map_inv ho]
   simp [Builtin.len_,run_underlying ht,goInt,getObj,Sem.run,hb,hsz]
  ·cases hv
 ·cases hv
theorem Jqu {t ty:TypeId} (ht:P.underlying t=some .string) {x:AV} {cx:Value} {n:Int} (hr:Rep w S h μ x cx) (hv:lenS x=some n):(Builtin.len_ #[t] ty #[cx]).run P w=.ok (.int .i64 n) w:=by
 unfold lenS at hv
 split at hv
 ·injection hv with hv;subst hv
  rw [hr.str_inv];simp [Builtin.len_,run_underlying ht,goInt]
 ·cases hv
end
end Go.Vv
namespace Go.Vv
open Go
set_option linter.unusedSimpArgs false
section
variable {w:World} {S:Nat→Prop} {h:Heap} {μ:Gh} {P:Program}
theorem Jb0 {t:TypeId} {op:BinOp} {k:IntKind} {a b:Int} {v:AV} (hv:Jf5 op k a b=some v):∃cv,(binOp op t (.int k a) (.int k b)).run P w=.ok cv w∧Rep w S h μ v cv:=by
  unfold Jf5 at hv
  split at hv
  all_goals first
    | cases hv;done
    | (injection hv with hv;subst hv;first
        | exact ⟨_,by simp only [go_sem];simp [go_sem],.pure (.int _ _)⟩
        | exact ⟨_,by simp only [go_sem];simp [go_sem],.pure (.bool _)⟩)
    | (split at hv
       · cases hv
       · rename_i hb
         injection hv with hv;subst hv
         exact ⟨_,by simp only [go_sem];simp [hb],.pure (.int _ _)⟩)
theorem Jdx {op:BinOp} {t:TypeId} {x y:Operand} {k:IntKind} {a:Int} {v:Value}:(eqGuard op t x y (.int k a) v).run P w=.ok () w:=by simp [go_sem]
theorem Jrr {s d:TypeId} {k k':IntKind} {n:Int} (hs:∃j,P.underlying s=some (.int j)) (hd:P.underlying d=some (.int k)):(convert s d (.int k' n)).run P w=.ok (.int k (k.wrap n)) w:=by
  obtain ⟨j,hs⟩:=hs
  simp [convert,run_underlying hs,run_underlying hd,Conv.intToInt]
theorem Zs:∀ {sh:List Bool} {l m:List AV} {b:Bool},Jl sh l m=some b→l.length=sh.length∧m.length=sh.length
  | [],[],[],_,_=>⟨rfl,rfl⟩
  | s::ss,x::xs,y::ys,b,h=>by
    unfold Jl at h
    split at h
    · rename_i h2
      obtain ⟨h3,h4⟩:=Zs h2
      exact ⟨by simp [h3],by simp [h4]⟩
    · cases h
  | [],_::_,_,_,h=>by simp [Jl] at h
  | [],[],_::_,_,h=>by simp [Jl] at h
  | _::_,[],_,_,h=>by simp [Jl] at h
  | _::_,_::_,[],_,h=>by simp [Jl] at h
theorem Yx:∀ {s1 s2:List Bool} {l m:List AV} {b:Bool},Jl (s1++s2) l m=some b →
    ∃b1 b2,Jl s1 (l.take s1.length) (m.take s1.length)=some b1∧Jl s2 (l.drop s1.length) (m.drop s1.length)=some b2∧b=(b1&&b2)
  | [],s2,l,m,b,h=>⟨true,b,by simp [Jl],by simpa using h,by simp⟩
  | s::s1,s2,[],m,b,h=>by simp [Jl] at h
  | s::s1,s2,x::l,[],b,h=>by simp [Jl] at h
  | s::s1,s2,x::l,y::m,b,h=>by
    simp only [List.cons_append,Jl] at h
    split at h
    · rename_i a c h1 h2
      injection h with h
      subst h
      obtain ⟨b1,b2,e1,e2,e3⟩:=Yx h2
      refine ⟨a&&b1,b2,?_,by simpa using e2,by rw [e3,Bool.and_assoc]⟩
      simp [Jl,h1,e1]
    · cases h
theorem Jsp (l:List AV) (off n i k:Nat):cut (cut l off n) i k=cut l (off+i) (min k (n - i)):=by
  simp only [cut,List.drop_take,List.take_take,List.drop_drop]
theorem Jk6 {g:TypeId→Option (List Bool)} {d:Nat} (ih:∀ {t:TypeId} {sh:List Bool} {ag:Bool} {x y:AV} {cx cy:Value} {b:Bool},g t=some sh→aggT P t=some ag →
    Rep w S h μ x cx→Rep w S h μ y cy→eqV ag sh x y=some b→(Op.equalIn d t cx cy).run P w=.ok b w):∀ {fs:List Field} {k:Nat} {sh:List Bool} {l m:List AV} {cs cs':Array Value} {b:Bool},Jn6 P g fs k=some sh →
    l.length=cs.size→Holds w S h μ l cs→m.length=cs'.size→Holds w S h μ m cs'→Jl sh (l.drop k) (m.drop k)=some b→l.length=k+sh.length→m.length=k+sh.length→(Op.eqFields d cs cs' fs).run P w=.ok b w
  | [],k,sh,l,m,cs,cs',b,hsh,hl,hh,hl',hh',he,h1,h2=>by
    simp [Jn6] at hsh
    subst hsh
    have e1:l.drop k=[]:=Au (by simp at h1;omega)
    have e2:m.drop k=[]:=Au (by simp at h2;omega)
    rw [e1,e2] at he
    simp [Jl] at he
    subst he
    simp [Op.eqFields]
  | f::r,k,sh,l,m,cs,cs',b,hsh,hl,hh,hl',hh',he,h1,h2=>by
    unfold Jn6 at hsh
    split at hsh
    · rename_i a ag q ha hag hq
      split at hsh
      · rename_i hc
        obtain ⟨ho,hn,hqa,hone⟩:=hc
        split at hsh
        · rename_i r' hr
          injection hsh with hsh
          subst hsh hqa
          obtain ⟨b1,b2,e1,e2,e3⟩:=Yx he
          have hk1:k+a.length≤l.length:=by simp at h1;omega
          have hk2:k+a.length≤m.length:=by simp at h2;omega
          have pk:∀(l:List AV),k+a.length≤l.length→∃v,pack ag l f.offset a.length=some v∧(ag=true→v=.agg (cut l k a.length))∧(ag=false→cut l k a.length=[v]):=by
            intro l hle
            rw [ho]
            cases ag with
            | true=>exact ⟨_,by simp [pack,hle],fun _=>rfl,fun h=>by cases h⟩
            | false =>
              have h1:a.length=1:=by simpa using hone
              have hlt:k<l.length:=by omega
              refine ⟨l[k],by simp [pack,hle,hlt],(fun h=>by cases h),fun _=>?_⟩
              simp only [cut,h1]
              rw [List.drop_eq_getElem_cons hlt]
              rfl
          obtain ⟨v1,p1,q1,r1⟩:=pk l hk1
          obtain ⟨v2,p2,q2,r2⟩:=pk m hk2
          obtain ⟨c1,s1,t1⟩:=Y2 (P:=P) hag hq hone hl hh p1
          obtain ⟨c2,s2,t2⟩:=Y2 (P:=P) hag hq hone hl' hh' p2
          have hev:eqV ag a v1 v2=some b1:=by
            cases ag with
            | true=>rw [q1 rfl,q2 rfl];simpa [eqV,cut] using e1
            | false =>
              simp only [eqV,Af,if_false]
              rw [←r1 rfl,←r2 rfl]
              exact e1
          have hrun:=ih ha hag t1 t2 hev
          simp only [Op.eqFields,hn,ne_eq,not_false_eq_true,if_true,Sem.run_bind,s1,s2,Result.andThen_ok,hrun,Sem.run_ite]
          cases b1 with
          | false=>simp at e3;simp [e3]
          | true =>
            simp at e3
            subst e3
            simp only [Bool.not_true,Af,if_false]
            refine Jk6 ih hr hl hh hl' hh' (by simpa [List.drop_drop] using e2) (by simp at h1;omega) (by simp at h2;omega)
        · cases hsh
      · cases hsh
    · cases hsh
theorem Jim:∀(n d:Nat) {t:TypeId} {sh:List Bool} {ag:Bool} {x y:AV} {cx cy:Value} {b:Bool},n≤d→eqSh P n t=some sh→aggT P t=some ag →
    Rep w S h μ x cx→Rep w S h μ y cy→eqV ag sh x y=some b→(Op.equalIn d t cx cy).run P w=.ok b w
  | 0,_,_,_,_,_,_,_,_,_,_,h,_,_,_,_=>by simp [eqSh] at h
  | n+1,0,_,_,_,_,_,_,_,_,hd,_,_,_,_,_=>by omega
  | n+1,d+1,t,sh,ag,x,y,cx,cy,b,hd,hsh,hag,hx,hy,he=>by
    unfold eqSh at hsh
    unfold aggT at hag
    split at hsh
    · rename_i hu
      rw [hu] at hag
      simp at hag
      injection hsh with hsh
      subst hsh hag
      simp only [eqV,Af,if_false,Jl] at he
      split at he
      · rename_i a c h1 h2
        injection he with he
        injection h2 with h2
        subst h2
        unfold Xt at h1
        split at h1
        · cases ‹true=false›
        · injection h1 with h1
          rw [hx.bool_inv,hy.bool_inv]
          simp only [Op.equalIn,Sem.run_bind,run_underlying hu,Result.andThen_ok,Sem.run_pure]
          rw [←he,←h1,Bool.and_true]
        · cases h1
      · cases he
    · rename_i k hu
      rw [hu] at hag
      simp at hag
      injection hsh with hsh
      subst hsh hag
      simp only [eqV,Af,if_false,Jl] at he
      split at he
      · rename_i a c h1 h2
        injection he with he
        injection h2 with h2
        subst h2
        unfold Xt at h1
        split at h1
        · split at h1
          · rename_i hk
            subst hk
            injection h1 with h1
            rw [hx.int_inv,hy.int_inv]
            simp only [Op.equalIn,Sem.run_bind,run_underlying hu,Result.andThen_ok,if_true,Sem.run_pure]
            rw [←he,←h1,Bool.and_true]
          · cases h1
        · cases ‹false=true›
        · cases h1
      · cases he
    · rename_i fs hu
      rw [hu] at hag
      simp at hag
      subst hag
      split at hsh
      · cases hsh
      · rename_i hst
        simp only [eqV,if_true] at he
        split at he
        · rename_i l m
          obtain ⟨cs,rfl,hl,hh⟩:=hx.agg_inv
          obtain ⟨cs',rfl,hl',hh'⟩:=hy.agg_inv
          have hf:P.fieldsOf t=fs:=by simp [Program.fieldsOf,hu]
          rw [run_equalIn_struct w d t cs cs' (by rw [hf];exact hu) (by simpa using hst),hf]
          have hlen:=Zs he
          refine Jk6 (fun hx hy=>Jim n d (by omega) hx hy) hsh hl hh hl' hh' (by simp;exact he) (by simp [hlen]) (by simp [hlen])
        · cases he
    · cases hsh
theorem Ju3 {t:TypeId} {ag ne:Bool} {sh:List Bool} (ht:eqT P t=some (ag,sh)) (hni:∀k,P.underlying t≠some (.int k)) {x y:AV} {cx cy:Value} {X Y:Operand} {b:Bool} (hx:Rep w S h μ x cx) (hy:Rep w S h μ y cy) (he:eqV ag sh x y=some b) :
    (eqGuard (if ne then .neq else .eql) t X Y cx cy).run P w=.ok () w∧(binOp (if ne then .neq else .eql) t cx cy).run P w=.ok (.bool (if ne then !b else b)) w:=by
  unfold eqT at ht
  split at ht
  · rename_i sh' ag' h1 h2
    split at ht
    · cases ht
    · rename_i hg
      simp at ht
      obtain ⟨rfl,rfl⟩:=ht
      have hrun:=Jim 6 10000 (by omega) h1 h2 hx hy he
      cases ag' with
      | true =>
        simp only [eqV,if_true] at he
        split at he
        · obtain ⟨cs,rfl,_⟩:=hx.agg_inv
          obtain ⟨cs',rfl,_⟩:=hy.agg_inv
          refine ⟨run_eqGuard_agg w _ t X Y cs cs' (by simpa using hg),?_⟩
          cases ne with
          | true=>simp only [if_true];rw [run_neq_struct,hrun];rfl
          | false=>simp only [Af,if_false];rw [run_eql_struct,hrun];rfl
        · cases he
      | false =>
        simp only [eqV,Af,if_false] at he
        match sh',he with
        | s::[],he =>
          simp only [Jl] at he
          split at he
          · rename_i a c h3 h4
            injection he with he
            injection h4 with h4
            subst h4
            unfold Xt at h3
            split at h3
            · exfalso
              unfold eqSh at h1
              split at h1
              · simp at h1
              · rename_i k hu;exact hni k hu
              · rename_i fs hu;unfold aggT at h2;rw [hu] at h2;simp at h2
              · cases h1
            · injection h3 with h3
              have e1:=hx.bool_inv
              have e2:=hy.bool_inv
              subst e1 e2
              refine ⟨by simp [go_sem],?_⟩
              cases ne with
              | true=>simp only [if_true];simp [binOp,Op.equal,Op.maxDepth,hrun]
              | false=>simp only [Af,if_false];simp [binOp,Op.equal,Op.maxDepth,hrun]
            · cases h3
          · cases he
        | [],he=>simp [Jl] at he
        | _::_::_,he=>simp [Jl] at he
  · cases ht
def Jgr (w:World) (S:Nat→Prop) (h:Heap) (μ:Gh):Option AV→Option Value→Prop
  | none,none=>True
  | some x,some c=>Rep w S h μ x c
  | _,_=>False
theorem Xl {len cap:Nat} {lo hi:Option AV} {clo chi:Option Value} (hlo:Jgr w S h μ lo clo) (hhi:Jgr w S h μ hi chi) {a b:Int} (ha:Q7 0 lo=some a) (hb:Q7 len hi=some b)
    (h0:0≤a) (hab:a≤b) (hbl:b≤len) (hlc:len≤cap):(Instr.sliceBounds true len cap clo chi none).run P w=.ok (a.toNat,b.toNat,cap) w:=by
  have bd:∀(y:Nat) (code:BoundsCode) (k:IntKind) (n:Int),0≤n→n≤y→(Instr.sliceBound (.int k n) y code).run P w=.ok n.toNat w:=fun y code k n h1 h2=>by
    simp [Instr.sliceBound,asIntOf,h1,h2]
  cases hi with
  | none=>cases chi with
    | some c=>exact hhi.elim
    | none =>
      simp [Q7] at hb
      cases lo with
      | none=>cases clo with
        | some c=>exact hlo.elim
        | none =>
          simp [Q7] at ha
          subst ha hb
          simp [Instr.sliceBounds]
      | some x=>cases clo with
        | none=>exact hlo.elim
        | some c =>
          cases x<;>simp [Q7] at ha
          have e:=Rep.int_inv hlo
          subst e ha hb
          simp [Instr.sliceBounds,bd len _ _ _ h0 hab]
  | some x=>cases chi with
    | none=>exact hhi.elim
    | some c =>
      cases x<;>simp [Q7] at hb
      have e:=Rep.int_inv hhi
      subst e hb
      rename_i kb nb
      have hb1:=bd cap .sliceAcap kb nb (by omega) (by omega)
      cases lo with
      | none=>cases clo with
        | some c=>exact hlo.elim
        | none =>
          simp [Q7] at ha
          subst ha
          simp [Instr.sliceBounds,hb1]
      | some x=>cases clo with
        | none=>exact hlo.elim
        | some c =>
          cases x<;>simp [Q7] at ha
          have e:=Rep.int_inv hlo
          subst e ha
          simp [Instr.sliceBounds,hb1,bd nb.toNat .sliceB _ _ h0 (by omega)]
theorem Jna {t e:TypeId} {n:Nat} (ht:P.underlying t=some (.slice e)) (hn:szT P e=some n) {x v:AV} {cx:Value} {lo hi:Option AV} {clo chi:Option Value} (hr:Rep w S h μ x cx)
    (hlo:Jgr w S h μ lo clo) (hhi:Jgr w S h μ hi chi) (hv:Xu h n x lo hi=some v):∃cv,(Instr.sliceAt t cx clo chi none).run P w=.ok cv w∧Rep w S h μ v cv:=by
  unfold Xu at hv
  split at hv
  · rename_i m l
    split at hv
    · rename_i a b ha hb
      split at hv
      · rename_i hc
        obtain ⟨h0,hab,hbl,hll⟩:=hc
        injection hv with hv
        subst hv
        cases hr with
        | pure hp =>
          cases hp with
          | lst0 =>
            have hb':b=0:=by omega
            have ha':a=0:=by omega
            subst hb' ha'
            have hbn:=Xl (P:=P) (len:=0) (cap:=0) hlo hhi ha hb h0 hab hbl (Ab _)
            exact ⟨.slice none 0 0,by simp [Instr.sliceAt,run_underlying ht,Instr.slice,hbn,J6 hn],by simpa [cut] using Rep.pure RepP.lst0⟩
          | lst _ _ ad cap cv hs hn' hc h1 hr =>
            have hbn:=Xl (P:=P) (len:=m) (cap:=cap) hlo hhi ha hb h0 hab hbl hn'
            refine ⟨.slice (some (if cap=a.toNat then ad else ad.add (a.toNat * n))) (b.toNat - a.toNat) (cap - a.toNat),?_,.pure ?_⟩
            · simp only [Instr.sliceAt,Sem.run_bind,run_underlying ht,Result.andThen_ok,Instr.slice,hbn,J6 hn,Sem.run_pure]
              split<;>simp
            · rw [show (b - a).toNat=b.toNat - a.toNat by omega]
              have hb:∀k,(ad.add k).block=ad.block:=fun k=>by unfold Addr.add;split<;>rfl
              by_cases hca:cap=a.toNat
              · have hz:b.toNat - a.toNat=0:=by omega
                rw [hz]
                simp only [Nat.zero_mul,cut,List.take_zero,hca,if_true]
                exact .lst 0 [] ad _ (fun _=>undef) (fun h0=>(h0 rfl).elim) (by omega) (fun i x hi=>by simp at hi) (fun i x hi=>by simp at hi) (fun i x hi=>by simp at hi)
              · rw [if_neg hca]
                have key:∀i x,(cut l (a.toNat * n) ((b.toNat - a.toNat) * n))[i]?=some x→l[a.toNat * n+i]?=some x:=fun i x hi=>by
                  simp only [cut,Am,Ai] at hi
                  split at hi
                  · exact hi
                  · cases hi
                exact .lst _ _ _ _ (fun i=>cv (a.toNat * n+i)) (fun h0=>by rw [hb];exact hs (by rintro rfl;simp [cut] at h0)) (by omega) (fun i x hi=>by rw [Jhz];exact hc _ x (key i x hi)) (fun i x hi=>h1 _ x (key i x hi)) (fun i x hi=>hr _ x (key i x hi))
      · cases hv
    · cases hv
  · rename_i g ver off len
    split at hv
    · rename_i a b ha hb
      split at hv
      · rename_i hc
        obtain ⟨h0,hab,hbl,hcur⟩:=hc
        injection hv with hv
        subst hv
        obtain ⟨el,cells,fz,ho⟩:=Jil hcur
        by_cases hne:cells=[]
        · obtain ⟨rfl,rfl,A,rfl⟩:=(hr.arr_inv0 ho).1 hne
          have hbn:=Xl (P:=P) (len:=0) (cap:=0) hlo hhi ha hb h0 hab hbl (Ab _)
          obtain rfl:a=0:=by omega
          obtain rfl:b=0:=by omega
          refine ⟨.slice A 0 0,?_,.arr _ _ _ _ _ _ ho (Ab _) rfl fun _=>⟨n,el,cells,fz,rfl,fun _=>⟨rfl,rfl,A,rfl⟩,fun q=>(q hne).elim⟩⟩
          cases A<;>simp [Instr.sliceAt,run_underlying ht,Instr.slice,hbn,J6 hn]
        obtain ⟨ad,cap,cs,el',z,rfl,hl,hbk,hsz,had⟩:=hr.arr_inv ho hne
        have hbn:=Xl (P:=P) (len:=len) (cap:=cap) hlo hhi ha hb h0 hab hbl hl.1
        refine ⟨.slice (some (if cap=a.toNat then ad else ad.add (a.toNat * n))) (b.toNat - a.toNat) (cap - a.toNat),?_,?_⟩
        · simp only [Instr.sliceAt,Sem.run_bind,run_underlying ht,Result.andThen_ok,Instr.slice,hbn,J6 hn,Sem.run_pure]
          split<;>simp
        · rw [show (b - a).toNat=b.toNat - a.toNat by omega]
          refine .arr _ _ _ _ _ _ ho (Ab _) rfl fun _=>⟨n,el,cells,fz,rfl,fun e=>(hne e).elim,fun _=>⟨_,_,cs,el',z,rfl,by omega,hbk,?_,fun hpos=>?_⟩⟩
          · have:off+a.toNat+(cap - a.toNat)=off+cap:=by omega
            rw [this];exact hsz
          · rw [if_neg (by omega),had (by omega),Addr.add_lit,Ad,Ag]
      · cases hv
    · cases hv
  · split at hv
    · rename_i a b ha hb
      split at hv
      · rename_i hc
        obtain ⟨rfl,rfl⟩:=hc
        injection hv with hv
        subst hv
        rw [hr.nils_inv]
        have hbn:=Xl (P:=P) (len:=0) (cap:=0) hlo hhi ha hb (by omega) (by omega) (by omega) (Ab _)
        exact ⟨.slice none 0 0,by simp [Instr.sliceAt,run_underlying ht,Instr.slice,hbn,J6 hn],.pure .nils⟩
      · cases hv
    · cases hv
  · cases hv
end
end Go.Vv
namespace Go.Vv
open Go
set_option linter.unusedSimpArgs false
theorem Jgt (cs:Array Value) (i j:Nat) (v:Value):(cs.setIfInBounds i v).getD j undef=if i=j∧i<cs.size then v else cs.getD j undef:=by
 by_cases hij:i=j
 ·subst hij
  by_cases hi:i<cs.size
  ·simp [hi]
  ·simp [hi]
 ·simp [hij,Array.getElem?_setIfInBounds_ne]
theorem Juy (off:Nat):∀(l:List Value) (k:Nat) (cs:Array Value),off+k+l.length≤cs.size →
  ((l.zipIdx k).foldl (fun cs (p:Value×Nat)=>cs.setIfInBounds (off+p.2) p.1) cs).size=cs.size ∧
  ∀i,((l.zipIdx k).foldl (fun cs (p:Value×Nat)=>cs.setIfInBounds (off+p.2) p.1) cs).getD i undef=if off+k≤i∧i<off+k+l.length then l.getD (i - (off+k)) undef else cs.getD i undef
 | [],k,cs,_=>⟨rfl,fun i=>by simp;omega⟩
 | v::l,k,cs,h=>by
  simp only [List.length_cons] at h
  simp only [List.zipIdx_cons,List.foldl_cons]
  obtain ⟨h1,h2⟩:=Juy off l (k+1) (cs.setIfInBounds (off+k) v) (by simp;omega)
  refine ⟨by rw [h1];simp,fun i=>?_⟩
  rw [h2 i,Jgt]
  simp only [List.length_cons]
  by_cases hi:i=off+k
  ·subst hi
   rw [if_neg (by omega),if_pos ⟨rfl,by omega⟩,if_pos (by omega)]
   simp
  ·by_cases h3:off+(k+1)≤i∧i<off+(k+1)+l.length
   ·rw [if_pos h3,if_pos (by omega),show i - (off+k)=(i - (off+(k+1)))+1 by omega]
    simp
   ·rw [if_neg h3,if_neg (by omega),if_neg (by omega)]
theorem Yz {l new:List AV} {off:Nat} (h:off+new.length≤l.length):(paste l off new).length=l.length:=by
 simp [paste];omega
theorem Xn {l new:List AV} {off:Nat} (h:off+new.length≤l.length) (i:Nat):(paste l off new)[i]?=if off≤i∧i<off+new.length then new[i - off]? else l[i]?:=by
 unfold paste
 by_cases h1:i<off
 ·rw [if_neg (by omega),Aq,Ae (by simp;omega),Am,if_pos h1]
 ·by_cases h2:i<off+new.length
  ·rw [if_pos (by omega),Aq,Ac (by simp;omega),Ae (by simp;omega)]
   congr 1
   simp;omega
  ·rw [if_neg (by omega),Ac (by simp;omega),Ai]
   congr 1
   simp;omega
section
variable {w:World} {S:Nat→Prop} {h:Heap} {μ:Gh} {P:Program}
theorem Holds.paste {l new:List AV} {cs vs r:Array Value} {off:Nat} (hl:Holds w S h μ l cs) (hn:Holds w S h μ new vs) (hvs:vs.size=new.length) (hle:off+new.length≤l.length)
  (hr:∀i,r.getD i undef=if off≤i∧i<off+vs.size then vs.getD (i - off) undef else cs.getD i undef):Holds w S h μ (paste l off new) r:=by
 intro i x hi
 rw [Xn hle] at hi
 rw [hr i,hvs]
 split
 ·rename_i hc;rw [if_pos hc] at hi;exact hn _ x hi
 ·rename_i hc;rw [if_neg hc] at hi;exact hl _ x hi
def Zm (ev:LO→AV) (w:World) (S:Nat→Prop) (h:Heap) (μ:Gh) (place:Nat→Option (Nat×Nat)):List (Nat×Nat×LO)→List (Nat×Value)→Prop
 | [],[]=>True
 | (off,n,x)::r,(i,v)::r'=>place i=some (off,n)∧Rep w S h μ (ev x) v∧Zm ev w S h μ place r r'
 | _,_=>False
theorem Zj {ev:LO→AV} {place:Nat→Option (Nat×Nat)}:∀ {ps:List (Nat×Nat×LO)} {cp:List (Nat×Value)} {z l:List AV} {cs:Array Value},Zm ev w S h μ place ps cp →
  Holds w S h μ z cs→z.length=cs.size→Jbz ev z ps=some l→∃r,Instr.fill place cs cp=some r∧Holds w S h μ l r∧l.length=r.size∧r.size=cs.size
 | [],[],z,l,cs,_,hz,hl,hf=>by
  simp [Jbz] at hf
  subst hf
  exact ⟨cs,rfl,hz,hl,rfl⟩
 | (off,n,x)::r,(i,v)::r',z,l,cs,hp,hz,hl,hf=>by
  obtain ⟨h1,h2,h3⟩:=hp
  unfold Jbz at hf
  split at hf
  ·rename_i c hc
   split at hf
   ·rename_i hcn
    obtain ⟨hn,hle⟩:=hcn
    obtain ⟨hs,hh⟩:=h2.cells hc
    have hfs:=Juy off v.cells.toList 0 cs (by simp;omega)
    have hfold:v.cells.zipIdx.foldl (fun cs (p:Value×Nat)=>cs.setIfInBounds (off+p.2) p.1) cs=(v.cells.toList.zipIdx 0).foldl (fun cs (p:Value×Nat)=>cs.setIfInBounds (off+p.2) p.1) cs:=by
     rw [←Array.foldl_toList];simp
    rw [←hfold] at hfs
    obtain ⟨f1,f2⟩:=hfs
    have hcell:=hz.paste hh hs (off:=off) (by omega) (r:=v.cells.zipIdx.foldl (fun cs (p:Value×Nat)=>cs.setIfInBounds (off+p.2) p.1) cs) (fun j=>by rw [f2 j];simp)
    obtain ⟨rr,g1,g2,g3,g4⟩:=Zj h3 hcell (by rw [Yz (by omega),f1];exact hl) hf
    refine ⟨rr,?_,g2,g3,g4.trans f1⟩
    unfold Instr.fill
    rw [h1]
    simp only
    rw [if_neg (by simp;omega)]
    exact g1
   ·cases hf
  ·cases hf
 | [],_::_,_,_,_,hp,_,_,_=>hp.elim
 | _::_,[],_,_,_,hp,_,_,_=>by simp [Zm] at hp
theorem Jev {t:TypeId} {z:List AV} (hz:zc P t=some z):∃i v,P.info? t=some i∧i.zero=some v∧cOfL v.cells.toList=some z∧z.length=i.size∧v.cells.size=i.size:=by
 unfold zc at hz
 split at hz
 ·rename_i i hi
  split at hz
  ·rename_i v hv
   split at hz
   ·rename_i l hl
    split at hz
    ·rename_i he
     injection hz with hz
     subst hz
     have:=(Jdl (w:=default) (S:=fun _=>False) hl).1
     exact ⟨i,v,hi,hv,hl,he,by rw [←he,this];simp⟩
    ·cases hz
   ·cases hz
  ·cases hz
 ·cases hz
theorem Jgp {g k:Nat} {o o':AObj} (hp:RepH w S h μ) (ho:h g=some o) (hv:o.ver<o'.ver) (hl:o'.live=true→o.live=true∧o.fz=false)
  (hob:∀h' μ',Evo w S h μ w S h' μ'→EvoV h μ h' μ'→μ'.o g=k→μ'.b g=μ.b g→RepObj w S h' μ' (μ.b g) k o') :
  RepH w S (upd h g (some o')) (μ.set g (μ.b g) k)∧Evo w S h μ w S (upd h g (some o')) (μ.set g (μ.b g) k)∧EvoV h μ (upd h g (some o')) (μ.set g (μ.b g) k):=by
 have hb:∀g',(μ.set g (μ.b g) k).b g'=μ.b g':=fun g'=>by
  by_cases hg:g'=g
  ·subst hg;simp [Gh.set,Jc]
  ·simp [Gh.set,Jb _ _ _ _ hg]
 have back:∀g' o1,upd h g (some o') g'=some o1→o1.live=true→∃o2,h g'=some o2∧o2.live=true∧(o1.fz=false→o2.fz=false):=fun g' o1 h' l'=>by
  by_cases hg:g'=g
  ·subst hg;rw [Jc] at h';injection h' with h';subst h';exact ⟨o,ho,(hl l').1,fun _=>(hl l').2⟩
  ·rw [Jb _ _ _ _ hg] at h';exact ⟨o1,h',l',fun q=>q⟩
 have ev:Evo w S h μ w S (upd h g (some o')) (μ.set g (μ.b g) k):=by
  refine ⟨rfl,rfl,⟨rfl,Ab _⟩,Ab _,fun _ _ _=>rfl,fun _ cs _ _ hc=>⟨cs,hc,rfl⟩,fun _ h=>h,fun _ h=>.inl h,?_,rfl⟩
  rintro b ⟨g',o1,ho',hz1,hl1,e⟩
  rw [hb] at e
  obtain ⟨o2,h2,l2,f2⟩:=back g' o1 ho' hl1
  exact .inl ⟨g',o2,h2,f2 hz1,l2,e⟩
 have vv:EvoV h μ (upd h g (some o')) (μ.set g (μ.b g) k):=by
  intro g' o1 ho'
  by_cases hg:g'=g
  ·subst hg
   rw [ho] at ho'
   injection ho' with e
   subst e
   exact ⟨o',Jc _ _ _,by omega,fun e=>by omega⟩
  ·exact ⟨o1,by rw [Jb _ _ _ _ hg];exact ho',Ab _,fun _=>⟨⟨hb _,by simp [Gh.set,Jb _ _ _ _ hg]⟩,.refl o1⟩⟩
 refine ⟨⟨fun g' o1 ho'=>?_,fun g1 g2 o1 o2 h1 h2 l1 l2 e=>?_,fun g' o1 ho' hz1 hl1=>?_,hp.lt⟩,ev,vv⟩
 ·rw [hb]
  by_cases hg:g'=g
  ·subst hg
   rw [Jc] at ho'
   injection ho' with e
   subst e
   have:=hob _ _ ev vv (by simp [Gh.set,Jc]) (hb _)
   simpa only [Gh.set,Jc] using this
  ·rw [Jb _ _ _ _ hg] at ho'
   have:=(hp.ob g' o1 ho').evo hp ev vv (fun _=>rfl)
   simpa only [Gh.set,Jb _ _ _ _ hg] using this
 ·rw [hb,hb] at e
  obtain ⟨a,ha,la,_⟩:=back g1 o1 h1 l1
  obtain ⟨b,hb,lb,_⟩:=back g2 o2 h2 l2
  exact hp.inj g1 g2 a b ha hb la lb e
 ·rw [hb]
  obtain ⟨o2,h2,l2,f2⟩:=back g' o1 ho' hl1
  exact hp.own g' o2 h2 (f2 hz1) l2
theorem Xk {g:Nat} {o:AObj} {cells:List AV} {cs:Array Value} {el:TypeId} (hp:RepH w S h μ) (hver:o.ver=Jp h g∨Jp h g<o.ver)
  (hh:Holds w S h μ cells cs) (ho:(∃v,o=.box v cells∧cs.size=cells.length)∨(∃v esz,o=.arr v esz el cells false∧cells.length≤cs.size)) :
  RepH (w.alloc (.cells cs el)) S (upd h g (some o)) (μ.set g w.heap.size 0)∧Evo w S h μ (w.alloc (.cells cs el)) S (upd h g (some o)) (μ.set g w.heap.size 0)∧EvoV h μ (upd h g (some o)) (μ.set g w.heap.size 0):=by
 obtain ⟨ev,vv⟩:=Jnq (w:=w) (S:=S) (h:=h) (μ:=μ) g o (.cells cs el) hver
 refine ⟨Joo hp hver ?_,ev,vv⟩
 have hnew:=heap_alloc_new w (.cells cs el)
 have hh':=(hh.evo hp ev vv).at0
 rcases ho with ⟨v,rfl,hs⟩|⟨v,esz,rfl,hs⟩
 ·exact ⟨cs,el,hnew,by omega,hh'⟩
 ·exact fun _=>⟨cs,hnew,by omega,hh',fun e=>by cases e⟩
theorem Jet {g:Nat} {cells:List AV} {w':World}:Rep w' S (upd h g (some (.box (Jp h g) cells))) (μ.set g w.heap.size 0) (.ptr g (Jp h g) 0) (.pointer (some ⟨w.heap.size,0,none⟩)) :=
 .ptr _ _ _ _ _ (Jc _ _ _) (Ab _) rfl fun _=>by simp [Gh.set,Jc]
theorem Ya {g v esz n cap:Nat} {el:TypeId} {cells:List AV} {cs:Array Value} (hn:n≤cap∧cap≤9223372036854775807) (hc:cap * esz≤cs.size) (h0:cells=[]→cap=0) :
  Rep (w.alloc (.cells cs el)) S (upd h g (some (.arr v esz el cells false))) (μ.set g w.heap.size 0) (.arr g v 0 n) (.slice (some ⟨w.heap.size,0,none⟩) n cap) :=
 .arr _ _ _ _ _ _ (Jc _ _ _) (Ab _) rfl fun _=>⟨esz,el,cells,false,rfl,fun e=>⟨rfl,by have:=h0 e;omega,some ⟨w.heap.size,0,none⟩,by have h1:=h0 e;subst h1;rw [show n=0 by omega]⟩,fun _=>⟨_,_,cs,el,(0,0),rfl,hn,by simp only [Gh.set,Jc];exact heap_alloc_new w _,by simpa [Gh.set,Jc] using hc,fun _=>by simp [Gh.set,Jc]⟩⟩
def Ran (w:World) (S:Nat→Prop) (h:Heap) (μ:Gh) (v:AV) (h':Heap) (cv:Value) (w':World):Prop :=
 ∃S' μ',Rep w' S' h' μ' v cv∧RepH w' S' h' μ'∧Evo w S h μ w' S' h' μ'∧EvoV h μ h' μ'
theorem Ran.same {v:AV} {cv:Value} (hp:RepH w S h μ) (hr:Rep w S h μ v cv):Ran w S h μ v h cv w:=⟨S,μ,hr,hp,.refl,.refl h μ⟩
theorem Jeo (hp:RepH w S h μ) {e:TypeId} {z:List AV} (hz:zc P e=some z) (g:Nat) :
  ∃cv w',(Instr.alloc e true (.tuple #[])).run P w=.ok cv w'∧Ran w S h μ (.ptr g (Jp h g) 0) (upd h g (some (.box (Jp h g) z))) cv w':=by
 obtain ⟨i,v,hi,hv,hl,hn,hs⟩:=Jev hz
 have hh:=X3 (w:=w) (S:=S) (h:=h) (μ:=μ) hl
 obtain ⟨h1,h2,h3⟩:=Xk (el:=e) (g:=g) (o:=.box (Jp h g) z) (cs:=v.cells) hp (.inl rfl) (by simpa using hh) (.inl ⟨_,rfl,by omega⟩)
 exact ⟨.pointer (some ⟨w.heap.size,0,none⟩),w.alloc (.cells v.cells e),by simp [Instr.alloc,zeroValue,typeInfo,hi,hv,newVar,newRow],S,_,Jet,h1,h2,h3⟩
theorem Jmg (hp:RepH w S h μ) {e:TypeId} {x:AV} {cx:Value} {c:List AV} (hr:Rep w S h μ x cx) (hc:x.cells=some c) (g:Nat) :
  ∃cv w',(Instr.box e cx).run P w=.ok cv w'∧Ran w S h μ (.ptr g (Jp h g) 0) (upd h g (some (.box (Jp h g) c))) cv w':=by
 obtain ⟨hs,hh⟩:=hr.cells hc
 obtain ⟨h1,h2,h3⟩:=Xk (el:=e) (g:=g) (o:=.box (Jp h g) c) (cs:=cx.cells) hp (.inl rfl) hh (.inl ⟨_,rfl,hs⟩)
 exact ⟨.pointer (some ⟨w.heap.size,0,none⟩),w.alloc (.cells cx.cells e),by simp [Instr.box,newVar,newRow],S,_,Jet,h1,h2,h3⟩
theorem ja {nt:Nat} {σ:St} {a:Act} (hs:RepS nt w S σ μ a) {place:Nat→Option (Nat×Nat)}:∀ {ps:List (Nat×Operand)} {l:List (Nat×Nat×LO)},Jan place ps=some l →
  Zm σ.ev w S σ.h μ place l (ps.map fun (i,x)=>(i,a.eval x))
 | [],l,hl=>by simp [Jan] at hl;subst hl;trivial
 | (i,x)::r,l,hl=>by
  unfold Jan at hl
  split at hl
  ·rename_i off n y l' h1 h2 h3
   injection hl with hl
   subst hl
   exact ⟨h1,Ji hs h2,ja hs h3⟩
  ·cases hl
theorem Jfv {t:TypeId} {z l:List AV} {ev:LO→AV} {ps:List (Nat×Nat×LO)} {cp:Array (Nat×Value)} (hz:zc P t=some z)
  (hd:(∃fs pl,P.underlying t=some (.struct fs)∧fs.toList.mapM (fun f=>(P.info? f.type).map fun i=>(f.offset,i.size))=some pl∧Zm ev w S h μ (fun i=>pl[i]?) ps cp.toList) ∨
   (∃n e i,P.underlying t=some (.array n e)∧P.info? e=some i∧Zm ev w S h μ (fun k=>some (k * i.size,i.size)) ps cp.toList))
  (hf:Jbz ev z ps=some l):∃cv,(Instr.build t cp).run P w=.ok cv w∧Rep w S h μ (.agg l) cv:=by
 obtain ⟨i,v,hi,hv,hl,hn,hs⟩:=Jev hz
 have hh:=X3 (w:=w) (S:=S) (h:=h) (μ:=μ) hl
 have fin:∀ {r:Array Value},Holds w S h μ l r→l.length=r.size→Rep w S h μ (.agg l) (.agg r):=fun hh hl=>.agg _ _ hl (fun i x hi=>(hh i x hi).2) (fun i x hi=>(hh i x hi).1)
 rcases hd with ⟨fs,pl,hu,hpl,hrel⟩|⟨n,e,ie,hu,hie,hrel⟩
 ·obtain ⟨r,g1,g2,g3,_⟩:=Zj hrel (by simpa using hh) (by omega) hf
  refine ⟨.agg r,run_build w t cp r ?_,fin g2 g3⟩
  simp only [Program.built,hi,hu,hv,hpl]
  simpa using g1
 ·obtain ⟨r,g1,g2,g3,_⟩:=Zj hrel (by simpa using hh) (by omega) hf
  refine ⟨.agg r,run_build w t cp r ?_,fin g2 g3⟩
  simp only [Program.built,hi,hu,hv,hie]
  exact g1
theorem Xe (z:List AV):∀n,(K2 z n).length=n * z.length
 | 0=>by simp [K2]
 | n+1=>by simp [K2,Xe z n,Ad,Nat.add_comm]
theorem Zg {z:List AV} (hz:0<z.length):∀(n i:Nat),i<n * z.length→(K2 z n)[i]?=z[i % z.length]?
 | 0,i,h=>by simp at h
 | n+1,i,h=>by
  unfold K2
  by_cases hi:i<z.length
  ·rw [Ae hi,Nat.mod_eq_of_lt hi]
  ·rw [Ac (by omega),Zg hz n _ (by rw [Ad] at h;omega)]
   congr 1
   rw [←Nat.mod_eq_sub_mod (by omega)]
theorem Jg0 {z:List AV} {zv:Array Value} (hh:Holds w S h μ z zv) (hs:zv.size=z.length) (hz:0<z.length) (n:Nat) :
  Holds w S h μ (K2 z n) ((Array.range (n * z.length)).map (zv[· % zv.size]!)):=by
 intro i x hi
 have hlt:i<n * z.length:=by have:=(Aa.1 hi).1;rwa [Xe] at this
 rw [Zg hz n i hlt] at hi
 have:=hh _ x hi
 have hm:i % z.length<zv.size:=by rw [hs];exact Nat.mod_lt _ hz
 have e:((Array.range (n * z.length)).map (zv[· % zv.size]!)).getD i undef=zv.getD (i % z.length) undef:=by
  have hb:zv[i % z.length]! = zv[i % z.length]?.getD undef:=by rw [getElem!_pos zv _ hm];simp [hm]
  simp [hlt,hs,hb]
 rw [e]
 exact this
theorem Jki (hp:RepH w S h μ) {t e:TypeId} {n:Nat} {i:TypeInfo} {z l:List AV} {ev:LO→AV} {ps:List (Nat×Nat×LO)} {cp:Array (Nat×Value)} (hu:P.underlying t=some (.slice e)) (hi:P.info? e=some i) (hz:zc P e=some z)
  (hsm:n * i.size≤16777216) (hi0:0<i.size) (hrel:Zm ev w S h μ (fun k=>some (k * i.size,i.size)) ps cp.toList) (hf:Jbz ev (K2 z n) ps=some l) (g:Nat) :
  ∃cv w',(Instr.buildSlice t n cp).run P w=.ok cv w'∧Ran w S h μ (.arr g (Jp h g) 0 n) (upd h g (some (.arr (Jp h g) i.size e l false))) cv w':=by
 obtain ⟨i',v,hi',hv,hl,hn,hs⟩:=Jev hz
 rw [hi] at hi'
 injection hi' with hi'
 subst hi'
 have hh:=X3 (w:=w) (S:=S) (h:=h) (μ:=μ) hl
 have hmade:=Jg0 (zv:=v.cells) (by simpa using hh) (by omega) (by omega) n
 obtain ⟨r,g1,g2,g3,g4⟩:=Zj hrel hmade (by simp [Xe]) hf
 have hrun:(Instr.buildSlice t n cp).run P w=.ok (.slice (some ⟨w.heap.size,0,none⟩) n n) (w.alloc (.cells r e)):=by
  rcases Aj n with hn0|hn0
  ·subst hn0
   have hg:Instr.fill (fun k=>some (k * i.size,i.size)) #[] cp.toList=some r:=by simpa [Array.range_zero'] using g1
   simp [Instr.buildSlice,run_underlying hu,sizeOf,typeInfo,hi,newRow,hg,Array.range_zero']
  ·exact run_buildSlice w t e n cp r i v hu hi hv (by omega) (by have:=Nat.mul_pos hn0 hi0;omega) (by rw [←hn];rw [←hn] at g1;exact g1)
 have hr:r.size=n * i.size:=by rw [g4];simp [hn]
 obtain ⟨h1,h2,h3⟩:=Xk (el:=e) (g:=g) (o:=.arr (Jp h g) i.size e l false) (cs:=r) hp (.inl rfl) g2 (.inr ⟨_,_,rfl,by omega⟩)
 exact ⟨_,_,hrun,S,_,Ya ⟨Ab _,Ao (Nat.le_mul_of_pos_right n hi0) (by omega)⟩ (by omega) (fun e=>by
  subst e
  have:n * i.size=0:=by rw [←hr];simpa using g3.symm
  rcases As.1 this with h4|h4<;>omega),h1,h2,h3⟩
theorem Ju4 (hp:RepH w S h μ) {t e:TypeId} {i:TypeInfo} {z:List AV} (hu:P.underlying t=some (.slice e)) (hi:P.info? e=some i) (hz:zc P e=some z) (hi0:0<i.size) {k k':IntKind} {n m:Int}
  (h0:0≤n) (hnm:n≤m) (hnz:n=0→m=0) (hb:m * i.bytes≤room) (hm:m≤9223372036854775807) (g:Nat) :
  ∃cv w',(Instr.makeSlice t (.int k n) (.int k' m)).run P w=.ok cv w'∧Ran w S h μ (.arr g (Jp h g) 0 n.toNat) (upd h g (some (.arr (Jp h g) i.size e (K2 z n.toNat) false))) cv w':=by
 obtain ⟨i',v,hi',hv,hl,hn,hs⟩:=Jev hz
 rw [hi] at hi'
 injection hi' with hi'
 subst hi'
 have hh:=X3 (w:=w) (S:=S) (h:=h) (μ:=μ) hl
 have hmade:=Jg0 (zv:=v.cells) (by simpa using hh) (by omega) (by omega) m.toNat
 have hrun:=run_make (P:=P) w t e i v hu hi hv k k' n m h0 hnm (by rw [Int.mul_comm];unfold room at hb;omega) hm
 have hle:n.toNat≤m.toNat:=by omega
 have hpre:Holds w S h μ (K2 z n.toNat) (madeCells v.cells (m.toNat * i.size)):=by
  intro j x hj
  have hlt:j<n.toNat * z.length:=by have:=(Aa.1 hj).1;rwa [Xe] at this
  have hlt2:j<m.toNat * z.length:=Nat.lt_of_lt_of_le hlt (Ak _ hle)
  rw [Zg (by omega) _ _ hlt] at hj
  have:=hmade j x (by rw [Zg (by omega) _ _ hlt2];exact hj)
  rw [hn] at this
  exact this
 obtain ⟨h1,h2,h3⟩:=Xk (el:=e) (g:=g) (o:=.arr (Jp h g) i.size e (K2 z n.toNat) false) (cs:=madeCells v.cells (m.toNat * i.size)) hp (.inl rfl) hpre
  (.inr ⟨_,_,rfl,by rw [Xe,size_madeCells,hn];exact Ak _ hle⟩)
 exact ⟨_,_,hrun,S,_,Ya ⟨hle,by omega⟩ (by rw [size_madeCells];exact Ab _) (fun e=>by
  have:=Xe z n.toNat
  rw [e] at this
  rcases As.1 this.symm with h4|h4
  ·have:=hnz (by omega);omega
  ·omega),h1,h2,h3⟩
end
end Go.Vv
namespace Go.Vv
open Go
set_option linter.unusedSimpArgs false
theorem Jfh (cur:Array Value) (vs:List Value) (o:Nat) (h:o+vs.length≤cur.size) (i:Nat) :
  (cur.toList.take o++vs++cur.toList.drop (o+vs.length)).toArray.getD i undef=if o≤i∧i<o+vs.length then vs.getD (i - o) undef else cur.getD i undef:=by
 have hl:o+vs.length≤cur.toList.length:=by simpa using h
 have e:((cur.toList.take o++vs++cur.toList.drop (o+vs.length)).toArray.getD i undef)=(cur.toList.take o++vs++cur.toList.drop (o+vs.length))[i]?.getD undef:=by simp
 rw [e]
 by_cases h1:i<o
 ·rw [if_neg (by omega),Aq,Ae (by simp;omega),Am,if_pos h1]
  simp
 ·by_cases h2:i<o+vs.length
  ·rw [if_pos (by omega),Aq,Ac (by simp;omega),Ae (by simp;omega)]
   simp only [List.getD_eq_getElem?_getD]
   congr 2
   simp;omega
  ·rw [if_neg (by omega),Ac (by simp;omega),Ai]
   have e2:(o+vs.length+(i - (cur.toList.take o++vs).length))=i:=by simp;omega
   rw [e2]
   simp
section
variable {w:World} {S:Nat→Prop} {h:Heap} {μ:Gh} {P:Program}
theorem HoldsAt.paste {l new:List AV} {cs vs r:Array Value} {o off:Nat} (hl:HoldsAt w S h μ o l cs) (hn:Holds w S h μ new vs) (hvs:vs.size=new.length) (hle:off+new.length≤l.length)
  (hr:∀i,r.getD i undef=if o+off≤i∧i<o+off+vs.size then vs.getD (i - (o+off)) undef else cs.getD i undef):HoldsAt w S h μ o (paste l off new) r:=by
 intro i x hi
 rw [Xn hle] at hi
 rw [hr (o+i),hvs]
 split at hi
 ·rename_i hc
  rw [if_pos (by omega),show o+i - (o+off)=i - off by omega]
  exact hn _ x hi
 ·rename_i hc
  rw [if_neg (by omega)]
  exact hl _ x hi
theorem Jpb {c:List AV} {vs:Array Value} (hh:Holds w S h μ c vs) (hs:vs.size=c.length):∀v∈vs.toList,v.oneCell'=true:=by
 intro v hv
 obtain ⟨i,hi,e⟩:=List.getElem_of_mem hv
 have hi':i<vs.size:=by simpa using hi
 have:=(hh i c[i] (Ap (by omega))).2
 rw [show vs.getD i undef=v by simp [hi'];simpa using e] at this
 exact this
theorem Jfz (hp:RepH w S h μ) {t:TypeId} {n:Nat} (hn:szT P t=some n) {x y:AV} {cx cy:Value} {h':Heap} (hx:Rep w S h μ x cx) (hy:Rep w S h μ y cy) (hv:jh h n x y=some h') :
  ∃w',(Instr.storeAt t cx cy).run P w=.ok () w'∧Ran w S h μ .any h' undef w':=by
 unfold jh at hv
 split at hv
 ·rename_i g ver off c hc
  obtain ⟨hs,hh⟩:=hy.cells hc
  split at hv
  ·rename_i hcn
   subst hcn
   have go:∀(o o':AObj) (cells:List AV) (cs:Array Value) (el:TypeId),h g=some o→o.fz=false→o.live=true→o'.ver=o.ver→o.like o'→ver=o.ver→w.heap[μ.b g]?=some (.cells cs el (0,0))→μ.o g+cells.length≤cs.size→HoldsAt w S h μ (μ.o g) cells cs →
     off+c.length≤cells.length →
     (∀r:Array Value,r.size=cs.size→∀S' h' μ' w',w'.heap[μ.b g]?=some (.cells r el (0,0))→HoldsAt w' S' h' μ' (μ.o g) (paste cells off c) r→RepObj w' S' h' μ' (μ.b g) (μ.o g) o') →
     ∃w',(Instr.storeAt t cx cy).run P w=.ok () w'∧Ran w S h μ .any (upd h g (some o')) undef w':=by
    intro o o' cells cs el ho hfz hlv hov hlike hver hb hsz hcells hle hobj
    have hx':=hx.ptr_inv (by simp [cur,ho,hver])
    subst hx'
    have hst:=run_storeCells_at P (μ.b g) (μ.o g+off) el cy.cells.toList 0 cs w hb (by simp;omega) (Jpb hh hs)
    simp only [Nat.add_zero] at hst
    have hspl:=Jfh cs cy.cells.toList (μ.o g+off) (by simp;omega)
    generalize hr:(cs.toList.take (μ.o g+off)++cy.cells.toList++cs.toList.drop (μ.o g+off+cy.cells.toList.length)).toArray=r at hst hspl
    have hrs:r.size=cs.size:=by rw [←hr];simp;omega
    have hcs':∀old el' z,w.heap[μ.b g]?=some (.cells old el' z)→r.size=old.size:=fun old el' z e=>by
     rw [hb] at e;injection e with e;injection e with e;subst e;exact hrs
    have hvv:o.ver<o'.ver∨o.ver=o'.ver∧μ.o g=μ.o g∧o.like o':=.inr ⟨hov.symm,rfl,hlike⟩
    obtain ⟨ev,vv⟩:=Jm7 (S:=S) ho hfz hlv hvv hcs'
    have hpaste:=(hcells.evo hp ev vv).paste (hh.evo hp ev vv) hs hle (r:=r) (fun i=>by rw [hspl i];simp)
    have hb':=setRow_heap w (μ.b g) cs r el (0,0) hb
    refine ⟨w.setRow (μ.b g) r,?_,S,_,.any _,Jol hp ho hfz hlv hvv hcs' (hobj r hrs _ _ _ _ hb' hpaste),ev,vv⟩
    simp [Instr.storeAt,Instr.sureAddr,storeVar,J6 hn,hs,hst]
   split at hv
   ·rename_i ver' cells ho
    split at hv
    ·rename_i hc2
     obtain ⟨rfl,hle⟩:=hc2
     injection hv with hv
     subst hv
     obtain ⟨cs,el,hb,hsz,hcells⟩:=hp.ob g _ ho
     exact go _ (.box ver _) cells cs el ho rfl rfl rfl rfl rfl hb hsz hcells hle (fun r hr S' h' μ' w' hb' hh'=>⟨r,el,hb',by rw [Yz hle];omega,hh'⟩)
    ·cases hv
   ·rename_i ver' esz el cells ho
    split at hv
    ·rename_i hc2
     obtain ⟨rfl,hle,hne⟩:=hc2
     injection hv with hv
     subst hv
     obtain ⟨cs,hb,hsz,hcells,_⟩:=hp.ob g _ ho hne
     have hpn:paste cells off c≠[]:=fun e=>hne (by have:=Yz hle;rw [e] at this;exact List.eq_nil_of_length_eq_zero this.symm)
     exact go _ (.arr ver esz el _ false) cells cs el ho rfl (J5.2 hne) rfl ⟨rfl,rfl,fun e=>(hne e).elim,fun e=>(hpn e).elim⟩ rfl hb hsz hcells hle (fun r hr S' h' μ' w' hb' hh'=>fun _=>⟨r,hb',by rw [Yz hle];omega,hh',fun e=>by cases e⟩)
    ·cases hv
   ·cases hv
  ·cases hv
 ·cases hv
theorem Jmu (hp:RepH w S h μ) {esz:Nat} {y:AV} {cy:Value} {m:Int} {new:List AV} (hy:Rep w S h μ y cy) (hm:lenV h y=some m) (he:Q5 h esz y=some new) :
  ∃(n:Nat) (A:Option Addr) (c:Nat),m=n∧cy=.slice A n c∧new.length=n * esz∧(A=none→n=0∧c=0)∧∀a,A=some a→∀i x,new[i]?=some x→∃v,w.cell? (a.add i)=some v∧v.oneCell'=true∧Rep w S h μ x v:=by
 unfold Q5 at he
 split at he
 ·simp [lenV] at hm
  injection he with he
  subst he hm
  exact ⟨0,none,0,rfl,hy.nils_inv,by simp,fun _=>⟨rfl,rfl⟩,fun a ha=>by cases ha⟩
 ·rename_i n l
  simp [lenV] at hm
  split at he
  ·rename_i hl
   injection he with he
   subst he hm
   cases hy with
   | pure hp' =>
    cases hp' with
    | lst0=>exact ⟨0,none,0,rfl,rfl,by simp,fun _=>⟨rfl,rfl⟩,fun a ha=>by cases ha⟩
    | lst _ _ a cap cv hs hn hc h1 hr=>exact ⟨n,some a,cap,rfl,rfl,hl,(fun e=>by cases e),fun a' ha i x hi=>by injection ha with ha;subst ha;exact ⟨cv i,hc i x hi,h1 i x hi,.pure (hr i x hi)⟩⟩
  ·cases he
 ·rename_i g ver off len
  split at he
  ·rename_i ver' esz' el cells fz ho
   split at he
   ·rename_i hc
    obtain ⟨rfl,rfl,hle⟩:=hc
    injection he with he
    subst he
    simp [lenV,Qa,ho] at hm
    subst hm
    by_cases hne0:cells=[]
    ·obtain ⟨rfl,rfl,A,rfl⟩:=(hy.arr_inv0 ho).1 hne0
     exact ⟨0,A,0,rfl,rfl,by simp [cut],fun _=>⟨rfl,rfl⟩,fun a _ i x hi=>by simp [cut] at hi⟩
    obtain ⟨a,cap,cs,el',z,rfl,hl,hb,hsz,ha⟩:=hy.arr_inv ho hne0
    obtain ⟨cs',hb',hsz',hcells,_⟩:=hp.ob g _ ho hne0
    refine ⟨len,some a,cap,rfl,rfl,by simp [cut];rw [Ad] at hle;omega,(fun e=>by cases e),fun a' ha' i x hi=>?_⟩
    injection ha' with ha'
    subst ha'
    simp only [cut,Am,Ai] at hi
    split at hi
    ·rename_i hlt
     have hpos:0<cap:=by
      rcases Aj len with h0|h0
      ·subst h0;simp at hlt
      ·omega
     have hlt2:μ.o g+(off * esz+i)<cs'.size:=by have:=(Aa.1 hi).1;omega
     refine ⟨cs'.getD (μ.o g+(off * esz+i)) undef,?_,(hcells _ x hi).2,(hcells _ x hi).1⟩
     rw [ha hpos,zg hb',Ag,getD_some hlt2]
    ·cases hi
   ·cases he
  ·cases he
 ·cases he
def K1 (w:World) (a:Addr) (n:Nat):List Value:=(List.range n).map fun i=>(w.cell? (a.add i)).getD undef
theorem Jq5 {a:Addr} {n i:Nat} {v:Value} (h:(K1 w a n)[i]?=some v) (hc:∃u,w.cell? (a.add i)=some u):w.cell? (a.add i)=some v:=by
 obtain ⟨u,hu⟩:=hc
 simp only [K1,List.getElem?_map] at h
 cases hr:(List.range n)[i]? with
 | none=>rw [hr] at h;cases h
 | some j =>
  rw [hr] at h
  have:j=i:=by have:=Aa.1 hr;obtain ⟨h1,h2⟩:=this;simpa using h2.symm
  subst this
  simp [hu] at h
  rw [hu,h]
theorem Yr {a:Addr} {l:List AV} (hc:∀(i:Nat) (x:AV),l[i]?=some x→∃v,w.cell? (a.add i)=some v∧v.oneCell'=true∧Rep w S h μ x v):Holds w S h μ l (K1 w a l.length).toArray:=by
 intro i x hi
 obtain ⟨v,h1,h2,h3⟩:=hc i x hi
 have hlt:=(Aa.1 hi).1
 have e:(K1 w a l.length).toArray.getD i undef=v:=by simp [K1,hlt,h1]
 rw [e]
 exact ⟨h3,h2⟩
theorem Yl {a:Addr} {l:List AV} (hc:∀(i:Nat) (x:AV),l[i]?=some x→∃v,w.cell? (a.add i)=some v∧v.oneCell'=true∧Rep w S h μ x v) :
  (K1 w a l.length).length=l.length∧∀j v,(K1 w a l.length)[j]?=some v→w.cell? (a.add j)=some v:=by
 refine ⟨by simp [K1],fun j v hv=>Jq5 hv ?_⟩
 have hlt:j<l.length:=by have:=(Aa.1 hv).1;simpa [K1] using this
 obtain ⟨v,h1,_⟩:=hc j l[j] (Ap hlt)
 exact ⟨v,h1⟩
theorem Holds.append {l m:List AV} {a b:Array Value} (hl:Holds w S h μ l a) (hs:a.size=l.length) (hm:Holds w S h μ m b) (hs2:b.size=m.length) (c:Array Value):Holds w S h μ (l++m) (a++b++c):=by
 intro i x hi
 by_cases h1:i<l.length
 ·rw [Ae h1] at hi
  have:=hl i x hi
  have e:(a++b++c).getD i undef=a.getD i undef:=by
   simp only [Array.getD_eq_getD_getElem?]
   rw [Array.getElem?_append_left (by simp;omega),Array.getElem?_append_left (by omega)]
  rw [e];exact this
 ·rw [Ac (by omega)] at hi
  have h2:=(Aa.1 hi).1
  have:=hm _ x hi
  have e:(a++b++c).getD i undef=b.getD (i - l.length) undef:=by
   simp only [Array.getD_eq_getD_getElem?]
   rw [Array.getElem?_append_left (by simp;omega),Array.getElem?_append_right (by omega),hs]
  rw [e];exact this
theorem Holds.front {m:List AV} {b:Array Value} (hm:Holds w S h μ m b) (hs:b.size=m.length) (c:Array Value):Holds w S h μ m (b++c):=by
 intro i x hi
 have h2:=(Aa.1 hi).1
 have e:(b++c).getD i undef=b.getD i undef:=by
  simp only [Array.getD_eq_getD_getElem?]
  rw [Array.getElem?_append_left (by omega)]
 rw [e]
 exact hm i x hi
theorem J3 {a:Addr} {n:Nat}:(K1 w a n).toArray.size=n:=by simp [K1]
theorem Jhn {n b:Nat} (h:(n:Int) * (b:Int)≤(room:Nat)):n * b≤140737488355328:=by
 unfold room at h
 exact_mod_cast h
theorem Ju0 {w:World} {need old:Nat} {e:TypeId} (h:(need:Int)≤9223372036854775807):grownCap w need old e≤9223372036854775807:=by
 have:=grownCap_le_maxLen w need old e (by unfold maxLen;omega)
 unfold maxLen at this
 omega
theorem Qz {t ty e:TypeId} {i:TypeInfo} (hu:P.underlying t=some (.slice e)) (hi:P.info? e=some i) (a:Addr) (len cap:Nat) (hlc:len≤cap) (A:Option Addr) (c:Nat) :
  (Builtin.append_ #[t,t] ty #[.slice (some a) len cap,.slice A 0 c]).run P w=.ok (.slice (some a) len cap) w:=by
 cases A<;>simp [Builtin.append_,run_underlying hu,sizeOf,typeInfo,hi,Builtin.lenOf,Builtin.firstCells,loadCells,loadCellsFrom,hlc,storeCells]
theorem jb {t ty e:TypeId} {i:TypeInfo} (hu:P.underlying t=some (.slice e)) (hi:P.info? e=some i) (A0:Option Addr) (A:Option Addr) (c:Nat) :
  (Builtin.append_ #[t,t] ty #[.slice A0 0 0,.slice A 0 c]).run P w=.ok (.slice A0 0 0) w:=by
 cases A<;>cases A0<;>simp [Builtin.append_,run_underlying hu,sizeOf,typeInfo,hi,Builtin.lenOf,Builtin.firstCells,loadCells,loadCellsFrom,storeCells]
theorem Jbp (hp:RepH w S h μ) {t ty e:TypeId} {i:TypeInfo} {z:List AV} (hu:P.underlying t=some (.slice e)) (hi:P.info? e=some i) (hz:zc P e=some z) (hi0:0<i.size) {x y v:AV} {cx cy:Value} {g0:Nat} {h':Heap}
  (hx:Rep w S h μ x cx) (hy:Rep w S h μ y cy) (hv:appV h g0 i.size i.bytes e x y=some (v,h')):∃cv w',(Builtin.append_ #[t,t] ty #[cx,cy]).run P w=.ok cv w'∧Ran w S h μ v h' cv w':=by
 obtain ⟨i',zv,hi',hzv,hzl,hzn,hzs⟩:=Jev hz
 rw [hi] at hi'
 injection hi' with hi'
 subst hi'
 unfold appV at hv
 split at hv
 ·rename_i m new hm he
  obtain ⟨n,A,c,rfl,rfl,hnl,hA,hcells⟩:=Jmu hp hy hm he
  have hzero:new=[]→n=0:=fun h0=>by
   subst h0
   rcases As.1 hnl.symm with h1|h1
   ·exact h1
   ·omega
  split at hv
  ·-- nil
   rw [hx.nils_inv]
   split at hv
   ·rename_i hne
    injection hv with hv
    simp only [Ah] at hv
    obtain ⟨rfl,rfl⟩:=hv
    have hn:=hzero hne
    subst hn
    refine ⟨.slice none 0 0,w,?_,Ran.same hp (.pure .nils)⟩
    cases A with
    | none=>simp [Builtin.append_,run_underlying hu,sizeOf,typeInfo,hi,Builtin.lenOf,Builtin.firstCells]
    | some a=>simp [Builtin.append_,run_underlying hu,sizeOf,typeInfo,hi,Builtin.lenOf,Builtin.firstCells,loadCells,loadCellsFrom]
   ·rename_i hne
    split at hv
    ·rename_i hb
     injection hv with hv
     simp only [Ah] at hv
     obtain ⟨rfl,rfl⟩:=hv
     have hn0:0<n:=by
      rcases Aj n with h0|h0
      ·subst h0;simp at hnl;exact absurd hnl hne
      ·exact h0
     cases A with
     | none=>have:=(hA rfl).1;omega
     | some a =>
      have hcl:=hcells a rfl
      obtain ⟨v1,v2⟩:=Yl hcl
      have hh:=Yr hcl
      have hrun:=run_append_nil (P:=P) w t ty e i zv hu hi hzv a n c (K1 w a new.length) (by rw [v1,hnl]) v2 hn0 hb.2 (by have:=Jhn hb.1;omega)
      have hge:=grownCap_ge w n 0 e
      obtain ⟨h1,h2,h3⟩:=Xk (w:=w.drew) (el:=e) (g:=g0) (o:=.arr (Jp h g0+1) i.size e new false) (cs:=(K1 w a new.length).toArray++Builtin.zeroCells zv.cells (grownCap w n 0 e - n))
       (hp.of_same (w':=w.drew) rfl rfl rfl ⟨rfl,Aw _⟩) (.inr (by simp [AObj.ver])) (fun j x hj=>⟨((hh.front J3 _) j x hj).1.evo hp Xh (.refl h μ),((hh.front J3 _) j x hj).2⟩) (.inr ⟨_,_,rfl,by rw [Array.size_append,J3];omega⟩)
      refine ⟨_,_,hrun,S,_,?_,h1,Xh.trans h2,h3⟩
      simp only [Ar]
      refine Ya ⟨hge,Ju0 hb.2⟩ ?_ (fun e=>(hne e).elim)
      simp only [Array.size_append,J3,hnl,size_zeroCells,hzs,←Ad]
      exact Ak _ (by omega)
    ·cases hv
  ·rename_i g ver off len
   split at hv
   ·rename_i ver' esz' el' cells ho
    split at hv
    case isFalse=>cases hv
    rename_i hcond
    obtain ⟨e1,e2,e3,hend,hbnd⟩:=hcond
    have cutg:∀(j:Nat) (x:AV),(cut cells (off * i.size) (len * i.size))[j]?=some x→j<len * i.size∧cells[off * i.size+j]?=some x:=fun j x hj=>by
     unfold cut at hj
     have hlt:=(Aa.1 hj).1
     rw [List.length_take] at hlt
     have hlt':j<len * i.size:=by omega
     rw [List.getElem?_take_of_lt hlt',Ai] at hj
     exact ⟨hlt',hj⟩
    subst e1 e2 e3
    by_cases hne0:cells=[]
    ·obtain ⟨rfl,rfl,A0,rfl⟩:=(hx.arr_inv0 ho).1 hne0
     subst hne0
     rw [if_neg (by simp)] at hv
     have hc0:cut ([]:List AV) (0 * i.size) (0 * i.size)++new=new:=by simp [cut]
     rw [hc0] at hv
     injection hv with hv
     simp only [Ah] at hv
     obtain ⟨rfl,rfl⟩:=hv
     by_cases hne:new=[]
     ·have hn:=hzero hne
      subst hn hne
      obtain ⟨b1,b2,b3⟩:=Jgp (k:=0) hp ho (o':=.arr (ver+1) i.size e [] false) (by simp [AObj.ver]) (fun q=>by simp [AObj.live] at q) (fun _ _ _ _ _ _ q=>(q rfl).elim)
      refine ⟨.slice A0 0 0,w,?_,S,_,.arr _ _ _ _ _ _ (Jc _ _ _) (Ab _) rfl fun _=>⟨_,_,_,_,rfl,fun _=>⟨rfl,rfl,A0,rfl⟩,fun q=>(q rfl).elim⟩,b1,b2,b3⟩
      cases A<;>cases A0<;>simp [Builtin.append_,run_underlying hu,sizeOf,typeInfo,hi,Builtin.lenOf,Builtin.firstCells,loadCells,loadCellsFrom,storeCells]
     ·have hn0:0<n:=by
       rcases Aj n with h0|h0
       ·subst h0;simp at hnl;exact absurd hnl hne
       ·exact h0
      cases A with
      | none=>have:=(hA rfl).1;omega
      | some ay =>
       have hcl:=hcells ay rfl
       obtain ⟨v1,v2⟩:=Yl hcl
       have hhn:=Yr hcl
       have hbd:n * i.bytes≤140737488355328:=Jhn (by simpa using hbnd.1)
       have hrun:(Builtin.append_ #[t,t] ty #[.slice A0 0 0,.slice (some ay) n c]).run P w=.ok (.slice (some ⟨w.heap.size,0,none⟩) n (grownCap w n 0 e)) (w.drew.alloc (.cells ((K1 w ay new.length).toArray++Builtin.zeroCells zv.cells (grownCap w n 0 e - n)) e)):=by
        cases A0 with
        | none=>exact run_append_nil (P:=P) w t ty e i zv hu hi hzv ay n c (K1 w ay new.length) (by rw [v1,hnl]) v2 hn0 (by have:=hbnd.2;omega) (by omega)
        | some a0 =>
         have:=run_append_grow (P:=P) w t ty e i zv hu hi hzv a0 0 0 [] (by simp) (fun j v hj=>by simp at hj) ay n c (K1 w ay new.length) (by rw [v1,hnl]) v2 (by omega) (by have:=hbnd.2;omega) (growslice_fits (by omega) (by simpa using hbd))
         simpa using this
       have hge:=grownCap_ge w n 0 e
       obtain ⟨h1,h2,h3⟩:=Xk (w:=w.drew) (el:=e) (g:=g) (o:=.arr (ver+1) i.size e new false) (cs:=(K1 w ay new.length).toArray++Builtin.zeroCells zv.cells (grownCap w n 0 e - n))
        (hp.of_same (w':=w.drew) rfl rfl rfl ⟨rfl,Aw _⟩) (.inl (by simp [AObj.ver,Jp,ho])) (fun j x hj=>⟨((hhn.front J3 _) j x hj).1.evo hp Xh (.refl h μ),((hhn.front J3 _) j x hj).2⟩) (.inr ⟨_,_,rfl,by rw [Array.size_append,J3];omega⟩)
       refine ⟨_,_,hrun,S,_,?_,h1,Xh.trans h2,h3⟩
       simp only [Ar,Nat.zero_add]
       refine Ya ⟨hge,Ju0 (by have:=hbnd.2;omega)⟩ ?_ (fun e=>(hne e).elim)
       simp only [Array.size_append,J3,hnl,size_zeroCells,hzs,←Ad]
       exact Ak _ (by omega)
    ·obtain ⟨a,cap,cs0,el0,z0,rfl,hlc,hb0,hsz0,ha⟩:=hx.arr_inv ho hne0
     obtain ⟨cs,hb,hsz,hh,_⟩:=hp.ob g _ ho hne0
     rw [hb] at hb0
     injection hb0 with hb0
     injection hb0 with e1 e2 e3
     subst e1 e2 e3
     have hlen:(cut cells (off * i.size) (len * i.size)).length=len * i.size:=by unfold cut;rw [List.length_take,List.length_drop];rw [Ad] at hend;omega
     split at hv
     ·rename_i hne
      obtain ⟨-,rfl,hne⟩:=hne
      injection hv with hv
      simp only [Ah] at hv
      obtain ⟨rfl,rfl⟩:=hv
      have hn:=hzero hne
      subst hn
      exact ⟨.slice (some a) 0 cap,w,Qz hu hi a 0 cap (Nat.zero_le _) A c,Ran.same hp hx⟩
     ·rename_i hcase
      injection hv with hv
      simp only [Ah] at hv
      obtain ⟨rfl,rfl⟩:=hv
      by_cases hne:new=[]
      ·have hn:=hzero hne
       subst hn hne
       have hl0:0<len:=by
        rcases Aj len with h0|h0
        ·exact (hcase ⟨hne0,h0,rfl⟩).elim
        ·exact h0
       rw [List.append_nil]
       have hcn:cut cells (off * i.size) (len * i.size)≠[]:=fun q=>by
        rw [q] at hlen
        rcases As.1 hlen.symm with h4|h4<;>omega
       obtain ⟨b1,b2,b3⟩:=Jgp (k:=μ.o g+off * i.size) hp ho (o':=.arr (ver+1) i.size e (cut cells (off * i.size) (len * i.size)) false) (by simp [AObj.ver]) (fun _=>⟨J5.2 hne0,rfl⟩)
        (fun h' μ' ev vv _ _ _=>⟨cs,hb,by rw [Ad] at hend;omega,fun j x hj=>by
         have:=(hh.evo hp ev vv) _ x (cutg j x hj).2
         rwa [←Ag] at this,fun q=>by cases q⟩)
       refine ⟨.slice (some a) len cap,w,?_,S,_,.arr _ _ _ _ _ _ (Jc _ _ _) (Ab _) rfl fun _=>⟨_,_,_,_,rfl,fun q=>(hcn q).elim,fun _=>⟨a,cap,cs,e,(0,0),by simp,by simpa using hlc,?_,?_,fun hc0=>?_⟩⟩,b1,b2,b3⟩
       ·exact Qz hu hi a len cap hlc.1 A c
       ·simpa [Gh.set,Jc] using hb
       ·simp only [Gh.set,Jc];rw [Ad] at hsz0;simp;omega
       ·rw [ha hc0];simp [Gh.set,Jc]
      ·have hn0:0<n:=by
        rcases Aj n with h0|h0
        ·subst h0;simp at hnl;exact absurd hnl hne
        ·exact h0
       cases A with
       | none=>have:=(hA rfl).1;omega
       | some ay =>
        have hcl:=hcells ay rfl
        obtain ⟨v1,v2⟩:=Yl hcl
        have hhn:=Yr hcl
        by_cases hroom:len+n≤cap
        ·-- in place
         have hpos:0<cap:=by omega
         rw [ha hpos]
         have hfit:μ.o g+(off+len) * i.size+new.length≤cs.size:=by
          have h5:(len+n) * i.size≤cap * i.size:=Ak _ hroom
          rw [Ad] at hsz0 h5
          rw [hnl,Ad]
          omega
         have hone:∀u∈K1 w ay new.length,u.oneCell'=true:=by
          have:=Jpb hhn J3
          simpa using this
         have hst:=run_storeCells_at P (μ.b g) (μ.o g+(off+len) * i.size) e (K1 w ay new.length) 0 cs w hb (by rw [v1];omega) hone
         simp only [Nat.add_zero] at hst
         have hspl:=Jfh cs (K1 w ay new.length) (μ.o g+(off+len) * i.size) (by rw [v1];omega)
         generalize hr:(cs.toList.take (μ.o g+(off+len) * i.size)++K1 w ay new.length++cs.toList.drop (μ.o g+(off+len) * i.size+(K1 w ay new.length).length)).toArray=r at hst hspl
         have hrs:r.size=cs.size:=by rw [←hr];simp [v1];omega
         have hcs':∀old el' z,w.heap[μ.b g]?=some (.cells old el' z)→r.size=old.size:=fun old el' z e=>by
          rw [hb] at e;injection e with e;injection e with e;subst e;exact hrs
         have hvv:(AObj.arr ver i.size e cells false).ver<(AObj.arr (ver+1) i.size e (cut cells (off * i.size) (len * i.size)++new) false).ver∨(AObj.arr ver i.size e cells false).ver=(AObj.arr (ver+1) i.size e (cut cells (off * i.size) (len * i.size)++new) false).ver∧μ.o g+off * i.size=μ.o g ∧
           (AObj.arr ver i.size e cells false).like (AObj.arr (ver+1) i.size e (cut cells (off * i.size) (len * i.size)++new) false):=.inl (by simp [AObj.ver])
         obtain ⟨ev,vv⟩:=Jm7 (S:=S) ho rfl (J5.2 hne0) hvv hcs'
         have hb':=setRow_heap w (μ.b g) cs r e (0,0) hb
         have hcont:HoldsAt (w.setRow (μ.b g) r) S (upd h g (some (.arr (ver+1) i.size e (cut cells (off * i.size) (len * i.size)++new) false))) (μ.set g (μ.b g) (μ.o g+off * i.size)) (μ.o g+off * i.size) (cut cells (off * i.size) (len * i.size)++new) r:=by
          intro j x hj
          rw [hspl]
          by_cases hj1:j<len * i.size
          ·rw [Ae (by omega)] at hj
           have hj:=(cutg j x hj).2
           have hlt:=(Aa.1 hj).1
           rw [if_neg (by rw [Ad];omega)]
           have:=(hh.evo hp ev vv) _ x hj
           rwa [←Ag] at this
          ·rw [Ac (by omega)] at hj
           have hlt:=(Aa.1 hj).1
           have hcl2:(off+len) * i.size=off * i.size+len * i.size:=by rw [Ad]
           rw [if_pos (by rw [v1];omega)]
           have:=(hhn.evo hp ev vv) _ x hj
           have e5:μ.o g+off * i.size+j - (μ.o g+(off+len) * i.size)=j - (cut cells (off * i.size) (len * i.size)).length:=by omega
           rw [e5]
           simpa using this
         have hcl2:(off+len) * i.size=off * i.size+len * i.size:=by rw [Ad]
         refine ⟨.slice (some ⟨μ.b g,μ.o g+off * i.size,none⟩) (len+n) cap,w.setRow (μ.b g) r,?_,S,_,?_,Jol hp ho rfl (J5.2 hne0) hvv hcs' (fun _=>⟨r,hb',by simp [hlen];omega,hcont,fun e=>by cases e⟩),ev,vv⟩
         ·have hf:=run_firstCells_some (P:=P) w i.size n ay n c (K1 w ay new.length) (by rw [v1,hnl]) v2
          have e6:μ.o g+off * i.size+len * i.size=μ.o g+(off+len) * i.size:=by omega
          simp [Builtin.append_,run_underlying hu,sizeOf,typeInfo,hi,Builtin.lenOf,hroom,hf,Addr.add_lit,e6,hst]
         ·simp only [Ar]
          refine .arr _ _ _ _ _ _ (Jc _ _ _) (Ab _) rfl fun _=>⟨i.size,e,_,false,rfl,fun q=>(by rw [Av] at q;exact (hne q.2).elim),fun _=>⟨_,cap,r,e,(0,0),rfl,⟨hroom,hlc.2⟩,?_,?_,fun _=>?_⟩⟩
          ·simpa [Gh.set,Jc] using hb'
          ·simp only [Gh.set,Jc];rw [hrs];rw [Ad] at hsz0;simp;omega
          ·simp [Gh.set,Jc]
        ·-- a new row
         have hold:∀(j:Nat) (x:AV),(cut cells (off * i.size) (len * i.size))[j]?=some x→∃v,w.cell? (a.add j)=some v∧v.oneCell'=true∧Rep w S h μ x v:=by
          intro j x hj
          have hlt:=(Aa.1 hj).1
          have hpos:0<cap:=by
           rcases Aj len with h0|h0
           ·have h5:=(cutg j x hj).1
            rw [h0,Nat.zero_mul] at h5;omega
           ·omega
          have hj:=(cutg j x hj).2
          have hlt2:μ.o g+(off * i.size+j)<cs.size:=by have:=(Aa.1 hj).1;omega
          refine ⟨cs.getD (μ.o g+(off * i.size+j)) undef,?_,(hh _ x hj).2,(hh _ x hj).1⟩
          rw [ha hpos,zg hb,Ag,getD_some hlt2]
         obtain ⟨u1,u2⟩:=Yl hold
         have hho:=Yr hold
         have hbd:(len+n) * i.bytes≤140737488355328:=Jhn (by simpa using hbnd.1)
         have hrun:=run_append_grow (P:=P) w t ty e i zv hu hi hzv a len cap (K1 w a (cut cells (off * i.size) (len * i.size)).length) (by rw [u1,hlen]) u2 ay n c (K1 w ay new.length) (by rw [v1,hnl]) v2 (by omega) (by have:=hbnd.2;omega) (growslice_fits (by omega) hbd)
         have hge:=grownCap_ge w (len+n) cap e
         obtain ⟨h1,h2,h3⟩:=Xk (w:=w.drew) (el:=e) (g:=g) (o:=.arr (ver+1) i.size e (cut cells (off * i.size) (len * i.size)++new) false)
          (cs:=(K1 w a (cut cells (off * i.size) (len * i.size)).length).toArray++(K1 w ay new.length).toArray++Builtin.zeroCells zv.cells (grownCap w (len+n) cap e - (len+n)))
          (hp.of_same (w':=w.drew) rfl rfl rfl ⟨rfl,Aw _⟩) (.inl (by simp [AObj.ver,Jp,ho])) (fun j x hj=>by
           have h0:=Holds.append hho J3 hhn J3 (Builtin.zeroCells zv.cells (grownCap w (len+n) cap e - (len+n))) j x hj
           exact ⟨h0.1.evo hp Xh (.refl h μ),h0.2⟩) (.inr ⟨_,_,rfl,by rw [Array.size_append,Array.size_append,J3,J3,List.length_append];omega⟩)
         refine ⟨_,_,hrun,S,_,?_,h1,Xh.trans h2,h3⟩
         simp only [Ar]
         refine Ya ⟨hge,Ju0 (by have:=hbnd.2;omega)⟩ ?_ (fun q=>by rw [Av] at q;exact (hne q.2).elim)
         simp only [Array.size_append,J3,hlen,hnl,size_zeroCells,hzs,←Ad]
         exact Ak _ (by omega)
   ·rename_i ver' esz' el' cells ho
    split at hv
    ·rename_i hc
     obtain ⟨rfl,hne⟩:=hc
     injection hv with hv
     simp only [Ah] at hv
     obtain ⟨rfl,rfl⟩:=hv
     have hn:=hzero hne
     subst hn
     by_cases hne0:cells=[]
     ·obtain ⟨rfl,rfl,A0,rfl⟩:=(hx.arr_inv0 ho).1 hne0
      exact ⟨.slice A0 0 0,w,jb hu hi A0 A c,Ran.same hp hx⟩
     ·obtain ⟨a,cap,cs0,el0,z0,rfl,hlc,hb0,hsz0,ha⟩:=hx.arr_inv ho hne0
      exact ⟨.slice (some a) len cap,w,Qz hu hi a len cap hlc.1 A c,Ran.same hp hx⟩
    ·cases hv
   ·cases hv
  ·rename_i n' l'
   split at hv
   ·rename_i hne
    injection hv with hv
    simp only [Ah] at hv
    obtain ⟨rfl,rfl⟩:=hv
    have hn:=hzero hne
    subst hn
    refine ⟨cx,w,?_,Ran.same hp hx⟩
    cases hx with
    | pure hp' =>
     cases hp' with
     | lst0=>exact jb hu hi none A c
     | lst _ _ a cap cv hs hlc hc h1 hr=>exact Qz hu hi a n' cap hlc A c
   ·cases hv
  ·cases hv
 ·cases hv
end
end Go.Vv
