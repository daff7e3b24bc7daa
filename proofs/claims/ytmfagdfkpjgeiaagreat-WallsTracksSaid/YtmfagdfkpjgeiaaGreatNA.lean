/- An evaluator over abstract values for a part of the language of the model: the values, the heap, the operations, the code. Definitions alone. -/
import Derived.Calls
import Derived.Laws.Entries
import Derived.Laws.Rows
import Derived.Laws.Append
import Derived.Laws.CopyRow
import Derived.Laws.Tables
import Derived.Laws.MakeOwn
import Derived.Deep.Draws
import Derived.Laws.Cells
import Derived.Laws.StructEq
import Derived.Great.BuildSlice
import Derived.Laws.AppendOwn
set_option linter.unusedSimpArgs false
open List renaming getElem?_eq_some_iff → Aa, getElem?_append_right → Ad, getElem?_append_left → Ae, getElem?_take → Aj, getElem?_drop → Ak, getElem?_eq_getElem → Av, append_assoc → Aw, eq_nil_of_length_eq_zero → Az, length_take → Ba, drop_eq_nil_of_le → Bb, append_eq_nil_iff → Bc, mem_map → Be
open Nat renaming le_refl → Ab, add_mul → Ac, mul_le_mul_right → Ag, add_assoc → Ah, eq_zero_or_pos → Am, le_trans → Aq, mul_eq_zero → Ay, le_succ → Bd, zero_mul → Bf, add_zero → Bg
open Bool renaming false_eq_true → Af
open Prod.mk renaming injEq → Ai
open _root_.Array renaming size_append → Ao, getElem?_append_left → Ap, getD_eq_getD_getElem? → As, getElem?_eq_some_iff → Au, eq_empty_of_size_eq_zero → Ax
open Int renaming toNat_natCast → Ar
namespace Go.Vv
inductive AV where
 | any
 | bool (b:Bool)
 | int (k:IntKind) (n:Int)
 | str (s:ByteArray)
 | BM
 | Hr
 | Ht
 | Fe
 | CB (n:Nat) (l:List AV)
 | CW (l:List AV)
 | fn (f:FuncId) (caps:List AV)
 | agg (l:List AV)
 | Cn (l:List AV)
 | arr (g ver off len:Nat)
 | ptr (g ver off:Nat)
 | map (g ver:Nat)
 | mpr (ks vs:List AV)
 | Hf (j:Nat)
 | Lf (f:FuncId) (l:List AV)
 deriving Inhabited
inductive AZ where
 | box (ver:Nat) (cells:List AV)
 | arr (ver esz:Nat) (el:TypeId) (cells:List AV) (fz:Bool)
 | map (ver:Nat) (es:List (AV×AV)) (fz:Bool)
 deriving Inhabited
def AZ.ver:AZ->Nat
 | .box v _=>v
 | .arr v _ _ _ _=>v
 | .map v _ _=>v
def AZ.fz:AZ->Bool
 | .arr _ _ _ _ z=>z
 | .map _ _ z=>z
 | _=>false
def AZ.live:AZ->Bool
 | .arr _ _ _ [] _=>false
 | _=>true
abbrev Heap:=Nat->Option AZ
structure St where
 f:Nat->AV
 h:Heap
def upd{α:Type}(f:Nat->α)(d:Nat)(v:α):Nat->α:=λn=>if n=d then v else f n
def fr:List (Nat×AV)->Nat->AV
 | []=>λ_=>.any
 | (d,v)::r=>λn=>if n=d then v else fr r n
def hl:List (Nat×AZ)->Heap
 | []=>λ_=>none
 | (d,v)::r=>λn=>if n=d then some v else hl r n
def Kg(h:Heap)(g:Nat):Nat:=match h g with|none=>0|some o=>o.ver+1
def St.put(σ:St)(d:Option Nat)(v:AV)(h:Heap):St:=
 match d with
 | some d=>⟨upd σ.f d v,h⟩
 | none=>⟨σ.f,h⟩
def AV.one:AV->Bool
 | .any|.agg _|.Cn _=>false
 | _=>true
def AV.flat:AV->Bool
 | .bool _|.int _ _|.str _|.BM|.Hr|.Ht|.Fe|.CB _ _|.CW _|.mpr _ _|.Lf _ _=>true
 | _=>false
def AV.cells:AV->Option (List AV)
 | .agg l=>some l
 | v=>if v.one then some [v] else none
def AV.scalar:AV->Bool
 | .bool _|.int _ _|.str _=>true
 | .agg l=>l.all λ|.bool _|.int _ _|.str _=>true|_=>false
 | .Cn l=>l.all λ|.bool _|.int _ _|.str _=>true|.agg l=>l.all (λ|.bool _|.int _ _|.str _=>true|_=>false)|_=>false
 | _=>false
def cut(l:List AV)(off n:Nat):List AV:=(l.drop off).take n
def pack(ag:Bool)(l:List AV)(off n:Nat):Option AV:=
 if off+n<=l.length then
  if ag then some (.agg (cut l off n)) else l[off]?
 else none
def paste(l:List AV)(off:Nat)(new:List AV):List AV:=l.take off++new++l.drop (off+new.length)
def snap(h:Heap):Nat->AV->Option (AV×List Nat)
 | 0,_=>none
 | k+1,v=>
  match v with
  | .any|.ptr .. | .Hf _=>none
  | .map _ _=>none
  | .arr g ver off len=>
   match h g with
   | some (.arr ver' esz _ cells _)=>
    if ver=ver'/\(off+len) * esz<=cells.length then
     let l:=cut cells (off * esz) (len * esz)
     if l.all AV.flat then some (.CB len l,[g]) else
     match l.mapM (snap h k) with
     | some ps=>some (.CB len (ps.map (·.1)),g::ps.flatMap (·.2))
     | none=>none
    else none
   | _=>none
  | .fn f caps=>
   match caps.mapM (snap h k) with
   | some ps=>some (.fn f (ps.map (·.1)),ps.flatMap (·.2))
   | none=>none
  | .agg l=>
   if l.all AV.flat then some (.agg l,[]) else
   match l.mapM (snap h k) with
   | some ps=>some (.agg (ps.map (·.1)),ps.flatMap (·.2))
   | none=>none
  | .Cn l=>
   match l.mapM (snap h k) with
   | some ps=>some (.Cn (ps.map (·.1)),ps.flatMap (·.2))
   | none=>none
  | v=>some (v,[])
def depth:Nat:=8
def KO(h:Heap)(l:List AV):Option (List AV×List Nat):=
 match l.mapM (snap h depth) with
 | some ps=>some (ps.map (·.1),ps.flatMap (·.2))
 | none=>none
def AZ.freeze:AZ->AZ
 | .arr v e t c _=>.arr v e t c true
 | o=>o
def Jl(h:Heap)(ns:List Nat):Heap:=λg=>if g∈ns then (h g).map AZ.freeze else h g
def mM(nt:Nat):Option Nat->Bool
 | some d=>decide (d<nt)
 | none=>true
inductive LO where
 | t (n:Nat)
 | c (v:AV)
 deriving Inhabited
def St.ev(σ:St):LO->AV
 | .t n=>σ.f n
 | .c v=>v
inductive CQ where
 | dS (x:LO)
 | pick (c a b:LO)
 | alloc (z:List AV)
 | box (x:LO)
 | build (z:List AV) (parts:List (Nat×Nat×LO))
 | EX (n esz:Nat) (el:TypeId) (z:List AV) (parts:List (Nat×Nat×LO))
 | load (ag:Bool) (n:Nat) (x:LO)
 | store (n:Nat) (x y:LO)
 | KJ (op:BinOp) (x y:LO)
 | eqv (ne ag:Bool) (sh:List Bool) (x y:LO)
 | un (op:UnOp) (x:LO)
 | conv (k:IntKind) (x:LO)
 | Ep (x:LO)
 | Lb (f:FuncId) (caps:List LO)
 | Ms (f:FuncId) (x:LO)
 | mkS (esz bytes:Nat) (el:TypeId) (z:List AV) (l c:LO)
 | slc (esz:Nat) (x:LO) (lo hi:Option LO)
 | Et (off:Nat) (x:LO)
 | jZ (ag:Bool) (off n:Nat) (x:LO)
 | Es (esz:Nat) (x i:LO)
 | EO (len esz:Nat) (x i:LO)
 | idx (len esz:Nat) (ag:Bool) (x i:LO)
 | ext (x:LO) (i:Nat)
 | len (x:LO)
 | Fh (x:LO)
 | Ia (x:LO)
 | app (esz bytes:Nat) (el:TypeId) (z:List AV) (x y:LO)
 | Cz (f:FuncId) (args:List LO)
 | Eu (f:FuncId) (args:List LO)
 | Fp (x:LO) (args:List LO)
 | FN (f:FuncId) (args:List LO)
 | dV (k e el:TypeId)
 | look (ok ag:Bool) (sh:List Bool) (z:AV) (x k:LO)
 | LV (ag:Bool) (sh:List Bool) (x k v:LO)
 | Mt (ag:Bool) (sh:List Bool) (x k:LO)
 | bZ (op:BinOp) (x y:LO)
 | mm (mx:Bool) (x y:LO)
 | Er (ne:Bool) (x:LO)
 | KM (ds:List Nat) (esz bytes:Nat) (el:TypeId) (zz:List AV) (x y:LO)
 | LP (ds:List Nat) (n:Nat) (x y:LO)
 | F7 (ds:List Nat) (op:CQ)
 | IK (esz:Nat) (t:TypeId) (z:List AV)
 | LU (n esz:Nat) (x:LO)
 | kD (esz:Nat) (x y:LO)
 deriving Inhabited
structure AX where
 dst:Option Nat
 op:CQ
 guard:Option (Nat×Bool)
 deriving Inhabited
abbrev Call:=FuncId->List AV->Option (Heap×Nat)->Option (AV×Heap)
def TU(op:BinOp)(k:IntKind)(a b:Int):Option AV:=
 match op with
 | .add=>some (.int k (k.wrap (a+b)))
 | .sub=>some (.int k (k.wrap (a - b)))
 | .mul=>some (.int k (k.wrap (a * b)))
 | .quo=>if b=0 then none else some (.int k (k.wrap (a.tdiv b)))
 | .rem=>if b=0 then none else some (.int k (a.tmod b))
 | .eql=>some (.bool (a==b))
 | .neq=>some (.bool (a != b))
 | .lss=>some (.bool (a<b))
 | .leq=>some (.bool (a<=b))
 | .gtr=>some (.bool (a > b))
 | .geq=>some (.bool (a>=b))
 | .and=>some (.int k (bits .and k a b))
 | .or=>some (.int k (bits .or k a b))
 | .xor=>some (.int k (bits .xor k a b))
 | .andNot=>some (.int k (bits .andNot k a b))
 | _=>none
def LB:Bool->AV->AV->Option Bool
 | false,.int k a,.int k' b=>if k=k' then some (a==b) else none
 | true,.bool a,.bool b=>some (a==b)
 | _,_,_=>none
def Kb:List Bool->List AV->List AV->Option Bool
 | [],[],[]=>some true
 | s::ss,x::xs,y::ys=>
  match LB s x y,Kb ss xs ys with
  | some a,some b=>some (a&&b)
  | _,_=>none
 | _,_,_=>none
def E9(ag:Bool)(sh:List Bool)(x y:AV):Option Bool:=
 if ag then (match x,y with|.agg l,.agg m=>Kb sh l m|_,_=>none) else Kb sh [x] [y]
def XY(ag:Bool)(sh:List Bool)(k:AV):Bool:=(E9 ag sh k k).isSome
def posM(ag:Bool)(sh:List Bool)(k:AV):Nat->List (AV×AV)->Option (Option Nat)
 | _,[]=>some none
 | i,p::r=>match E9 ag sh k p.1 with
  | some true=>some (some i)
  | some false=>posM ag sh k (i+1) r
  | none=>none
def TQ(es:List (AV×AV))(z:AV):Option Nat->AV
 | some j=>match es[j]? with|some p=>p.2|none=>z
 | none=>z
def FK(es:List (AV×AV))(k v:AV):Option Nat->List (AV×AV)
 | some j=>es.set j (k,v)
 | none=>es++[(k,v)]
def VI(es:List (AV×AV)):Option Nat->List (AV×AV)
 | some j=>es.eraseIdx j
 | none=>es
def M9(ev:LO->AV):List AV->List (Nat×Nat×LO)->Option (List AV)
 | z,[]=>some z
 | z,(off,n,x)::r=>
  match (ev x).cells with
  | some c=>if c.length=n/\off+n<=z.length then M9 ev (paste z off c) r else none
  | none=>none
def JK(h:Heap):AV->Option (List AV×Nat)
 | .CW l=>some (l,0)
 | .ptr g ver off=>
  match h g with
  | some (.box ver' cells)=>if ver=ver' then some (cells,off) else none
  | some (.arr ver' _ _ cells _)=>if ver=ver'/\cells≠[] then some (cells,off) else none
  | _=>none
 | _=>none
def IQ(h:Heap)(ag:Bool)(n:Nat)(x:AV):Option AV:=
 match JK h x with
 | some (l,off)=>pack ag l off n
 | none=>none
def Sn(h:Heap)(n:Nat)(x y:AV):Option Heap:=
 match x,y.cells with
 | .ptr g ver off,some c=>
  if c.length=n then
  match h g with
  | some (.box ver' cells)=>if ver=ver'/\off+n<=cells.length then some (upd h g (some (.box ver' (paste cells off c)))) else none
  | some (.arr ver' esz el cells false)=>if ver=ver'/\off+n<=cells.length/\cells≠[] then some (upd h g (some (.arr ver' esz el (paste cells off c) false))) else none
  | _=>none
  else none
 | _,_=>none
def cur(h:Heap)(g ver:Nat):Bool:=match h g with|some o=>o.ver==ver|none=>false
def Ee(h:Heap)(g ver esz:Nat):Bool:=match h g with|some (.arr v e _ _ _)=>v==ver&&e==esz|_=>false
def GX(h:Heap)(g ver:Nat):Bool:=match h g with|some (.arr v _ _ _ _)=>v==ver|_=>false
def GD(h:Heap)(g ver:Nat):Option (List (AV×AV)):=match h g with|some (.map v es false)=>if v=ver then some es else none|_=>none
def I8(h:Heap):AV->Option (List (AV×AV))
 | .Fe=>some []
 | .mpr ks vs=>some (ks.zip vs)
 | .map g ver=>GD h g ver
 | _=>none
def ML(ok:Bool)(z:AV)(es:List (AV×AV)):Option (Option Nat)->Option AV
 | some j=>some (if ok=true then .Cn [TQ es z j,.bool j.isSome] else TQ es z j)
 | none=>none
def mR(ok ag:Bool)(sh:List Bool)(z k:AV):Option (List (AV×AV))->Option AV
 | some es=>if XY ag sh k=true then ML ok z es (posM ag sh k 0 es) else none
 | none=>none
def bg(h:Heap)(g ver:Nat)(es:List (AV×AV))(k v:AV):Option (Option Nat)->Option Heap
 | some j=>some (upd h g (some (.map ver (FK es k v j) false)))
 | none=>none
def OL(h:Heap)(ag:Bool)(sh:List Bool)(k v:AV):AV->Option Heap
 | .map g ver=>match GD h g ver with
  | some es=>if XY ag sh k=true then bg h g ver es k v (posM ag sh k 0 es) else none
  | none=>none
 | _=>none
def fM(h:Heap)(g ver:Nat)(es:List (AV×AV)):Option (Option Nat)->Option Heap
 | some j=>some (upd h g (some (.map ver (VI es j) false)))
 | none=>none
def Rv(h:Heap)(ag:Bool)(sh:List Bool)(k:AV):AV->Option Heap
 | .map g ver=>match GD h g ver with
  | some es=>if XY ag sh k=true then fM h g ver es (posM ag sh k 0 es) else none
  | none=>none
 | _=>none
def jS:AV->AV
 | .BM=>.CB 0 []
 | v=>v
def zK(mx:Bool)(a b:Int):Int:=if mx=true then (if b > a then b else a) else (if b<a then b else a)
def UL(op:BinOp)(k:IntKind)(a b:Int):Option AV:=
 if b<0 then none else
 match op with
 | .shl=>some (.int k (k.wrap (a * 2 ^ (min b.toNat k.bits))))
 | .shr=>some (.int k (a.fdiv (2 ^ (min b.toNat k.bits))))
 | _=>none
def C9(h:Heap):AV->Option Int
 | .BM=>some 0
 | .CB n _=>some n
 | .arr g ver _ len=>if GX h g ver then some len else none
 | _=>none
def Fh(h:Heap):AV->Option Int
 | .Fe=>some 0
 | .mpr ks _=>some ks.length
 | .map g ver=>match GD h g ver with
  | some es=>some es.length
  | _=>none
 | _=>none
def Ia:AV->Option Int
 | .str s=>some s.size
 | _=>none
def YF(h:Heap):AV->Option Bool
 | .BM=>some true
 | .CB 0 []=>none
 | .CB _ _=>some false
 | .arr g ver _ len=>if GX h g ver=true/\len≠0 then some false else none
 | _=>none
def ME(g ver n esz:Nat):Option AZ->Option AV
 | some (.arr ver' esz' _ cells _)=>if ver=ver'/\esz=esz'/\cells.length=n * esz/\cells≠[] then some (.arr g ver 0 n) else none
 | _=>none
def ZX(h:Heap)(n esz:Nat):AV->Option AV
 | .ptr g ver 0=>ME g ver n esz (h g)
 | _=>none
def JR(d:Int):Option AV->Option Int
 | none=>some d
 | some (.int _ n)=>some n
 | _=>none
def Ij(h:Heap)(esz:Nat)(x:AV)(lo hi:Option AV):Option AV:=
 match x with
 | .CB n l=>
  match JR 0 lo,JR n hi with
  | some a,some b=>if 0<=a/\a<=b/\b<=n/\l.length=n * esz then some (.CB (b - a).toNat (cut l (a.toNat * esz) ((b - a).toNat * esz))) else none
  | _,_=>none
 | .arr g ver off len=>
  match JR 0 lo,JR len hi with
  | some a,some b=>if 0<=a/\a<=b/\b<=len/\Ee h g ver esz=true then some (.arr g ver (off+a.toNat) (b - a).toNat) else none
  | _,_=>none
 | .BM=>
  match JR 0 lo,JR 0 hi with
  | some a,some b=>if a=0/\b=0 then some .BM else none
  | _,_=>none
 | _=>none
def LD(h:Heap)(off:Nat):AV->Option AV
 | .ptr g ver o=>if cur h g ver then some (.ptr g ver (o+off)) else none
 | .CW l=>some (.CW (l.drop off))
 | _=>none
def JU(h:Heap)(esz:Nat)(x i:AV):Option AV:=
 match x,i with
 | .CB n l,.int _ i=>if 0<=i/\i<n then some (.CW (cut l (i.toNat * esz) esz)) else none
 | .arr g ver off len,.int _ i=>if 0<=i/\i<len/\Ee h g ver esz=true then some (.ptr g ver ((off+i.toNat) * esz)) else none
 | _,_=>none
def YK(h:Heap)(len esz:Nat)(x i:AV):Option AV:=
 match x,i with
 | .ptr g ver o,.int _ i=>if 0<=i/\i<len/\cur h g ver=true then some (.ptr g ver (o+i.toNat * esz)) else none
 | .CW l,.int _ i=>if 0<=i/\i<len then some (.CW (l.drop (i.toNat * esz))) else none
 | _,_=>none
def WM(len esz:Nat)(ag:Bool)(x i:AV):Option AV:=
 match x,i with
 | .agg l,.int _ i=>if 0<=i/\i<len then pack ag l (i.toNat * esz) esz else none
 | _,_=>none
def Ii(h:Heap)(esz:Nat):AV->Option (List AV)
 | .BM=>some []
 | .CB n l=>if l.length=n * esz then some l else none
 | .arr g ver off len=>
  match h g with
  | some (.arr ver' esz' _ cells _)=>if ver=ver'/\esz=esz'/\(off+len) * esz<=cells.length then some (cut cells (off * esz) (len * esz)) else none
  | _=>none
 | _=>none
def room:Nat:=140737488355328
def z8(z:List AV):Nat->List AV
 | 0=>[]
 | n+1=>z++z8 z n
def EN(h:Heap)(g0:Nat)(esz bytes:Nat)(el:TypeId)(x y:AV):Option (AV×Heap):=
 match C9 h y,Ii h esz y with
 | some m,some new=>
  match x with
  | .BM=>
   if new=[] then some (.BM,h)
   else if m * bytes<=room/\(m:Int)<=9223372036854775807 then some (.arr g0 (Kg h g0+1) 0 m.toNat,upd h g0 (some (.arr (Kg h g0+1) esz el new false)))
   else none
  | .arr g ver off len=>
   match h g with
   | some (.arr ver' esz' el' cells false)=>
    if ver=ver'/\esz=esz'/\el=el'/\(off+len) * esz<=cells.length/\(len+m) * bytes<=room/\(len+m:Int)<=9223372036854775807 then
     if cells≠[]/\len=0/\new=[] then some (.arr g ver off len,h)
     else some (.arr g (ver+1) 0 (len+m.toNat),upd h g (some (.arr (ver+1) esz el (cut cells (off * esz) (len * esz)++new) false)))
    else none
   | some (.arr ver' _ _ _ true)=>if ver=ver'/\new=[] then some (.arr g ver off len,h) else none
   | _=>none
  | .CB n l=>if new=[] then some (.CB n l,h) else none
  | _=>none
 | _,_=>none
def mK(h:Heap)(esz:Nat)(x y:AV):Option (AV×Heap):=
 match C9 h y,Ii h esz y with
 | some m,some new=>
  match x with
  | .arr g ver off len=>
   match h g with
   | some (.arr ver' esz' el cells false)=>
    if ver=ver'/\esz=esz'/\(off+len) * esz<=cells.length/\cells≠[] then
     some (.int .i64 (Nat.min m.toNat len:Nat),upd h g (some (.arr ver' esz' el (paste cells (off * esz) (new.take (Nat.min m.toNat len * esz))) false)))
    else none
   | _=>none
  | _=>none
 | _,_=>none
def sO(off g:Nat):Option (List (AV×List Nat))->Option (AV×List Nat)
 | some ps=>some (.CW ((ps.map (·.1)).drop off),g::ps.flatMap (·.2))
 | none=>none
def KE(h:Heap)(g ver off:Nat):Option AZ->Option (AV×List Nat)
 | some (.box v cells)=>if v=ver then (if cells.all AV.flat=true then some (.CW (cells.drop off),[g]) else sO off g (cells.mapM (snap h depth))) else none
 | _=>none
def XW(h:Heap):AV->Option (AV×List Nat)
 | .ptr g ver off=>KE h g ver off (h g)
 | v=>snap h depth v
def YB:Option (AV×List Nat)->Option (List AV×List Nat)->Option (List AV×List Nat)
 | some (u,ns),some (us,ms)=>some (u::us,ns++ms)
 | _,_=>none
def YD(h:Heap):List AV->Option (List AV×List Nat)
 | []=>some ([],[])
 | v::r=>YB (XW h v) (YD h r)
def tN(f:FuncId):Option (List AV×List Nat)->Option (AV×List Nat)
 | some (us,ns)=>some (.fn f us,ns)
 | none=>none
def Ho(h:Heap):AV->Option (AV×List Nat)
 | .fn f caps=>tN f (YD h caps)
 | v=>XW h v
def Sl(h:Heap):List AV->Option (List AV×List Nat)
 | []=>some ([],[])
 | v::r=>YB (Ho h v) (Sl h r)
def Oc(h:Heap):Option (AV×Heap)->Option (AV×Heap)
 | some (v,_)=>if v.scalar=true then some (v,h) else none
 | none=>none
def Mv(call:FuncId->List AV->Option (Heap×Nat)->Option (AV×Heap))(f:FuncId)(h:Heap):Option (List AV×List Nat)->Option (AV×Heap)
 | some (vs,_)=>Oc h (call f vs none)
 | none=>none
def CQ.cls:CQ->Nat
 | .dS _|.pick .. | .build .. | .KJ .. | .eqv .. | .un .. | .conv .. | .Lb .. | .Ms .. | .jZ .. | .idx .. | .ext .. | .Ia _|.bZ .. | .mm ..=>0
 | .load .. | .Ep _|.slc .. | .Et .. | .Es .. | .EO .. | .len _|.Fh _|.Cz .. | .Fp .. | .look .. | .FN .. | .Er .. | .LU .. | .F7 ..=>1
 | .alloc _|.IK .. | .box _|.EX .. | .mkS .. | .dV ..=>2
 | .store .. | .app .. | .KM .. | .LP .. | .Eu .. | .LV .. | .Mt .. | .kD ..=>3
def Ce(base:Nat)(ds:List Nat)(g:Nat):Bool:=ds.any λd=>base+d==g
def X3(base:Nat)(ds:List Nat)(h:Heap):Heap:=λg=>if Ce base ds g=true then none else h g
def dQ(h:Heap):Option (AV×Heap)->Option (AV×Heap)
 | some (v,_)=>some (v,h)
 | none=>none
def VP(base:Nat)(ds:List Nat)(g0:Nat):AV->Bool
 | .arr g _ _ _=>Ce base ds g
 | .BM=>Ce base ds g0
 | .ptr g _ _=>Ce base ds g
 | _=>false
def Mw(base:Nat)(ds:List Nat)(g0:Nat)(x:AV)(r:Option (AV×Heap)):Option (AV×Heap):=
 if VP base ds g0 x=true then r else none
def Ja(call:Call)(base:Nat)(σ:St)(g0:Nat):CQ->Option (AV×Heap)
 | .dS x=>some (σ.ev x,σ.h)
 | .pick c a b=>match σ.ev c with|.bool t=>some (if t then σ.ev a else σ.ev b,σ.h)|_=>none
 | .alloc z=>some (.ptr g0 (Kg σ.h g0) 0,upd σ.h g0 (some (.box (Kg σ.h g0) z)))
 | .box x=>match (σ.ev x).cells with
  | some c=>some (.ptr g0 (Kg σ.h g0) 0,upd σ.h g0 (some (.box (Kg σ.h g0) c)))
  | none=>none
 | .build z ps=>match M9 σ.ev z ps with|some l=>some (.agg l,σ.h)|none=>none
 | .EX n esz el z ps=>match M9 σ.ev (z8 z n) ps with
  | some l=>some (.arr g0 (Kg σ.h g0) 0 n,upd σ.h g0 (some (.arr (Kg σ.h g0) esz el l false)))
  | none=>none
 | .load ag n x=>match IQ σ.h ag n (σ.ev x) with|some v=>some (v,σ.h)|none=>none
 | .store n x y=>match Sn σ.h n (σ.ev x) (σ.ev y) with|some h=>some (.any,h)|none=>none
 | .KJ op x y=>match σ.ev x,σ.ev y with
  | .int k a,.int k' b=>if k=k' then (match TU op k a b with|some v=>some (v,σ.h)|none=>none) else none
  | _,_=>none
 | .eqv ne ag sh x y=>match E9 ag sh (σ.ev x) (σ.ev y) with|some b=>some (.bool (if ne then !b else b),σ.h)|none=>none
 | .un op x=>match op,σ.ev x with
  | .not,.bool b=>some (.bool !b,σ.h)
  | .neg,.int k n=>some (.int k (k.wrap (0 - n)),σ.h)
  | _,_=>none
 | .conv k x=>match σ.ev x with|.int _ n=>some (.int k (k.wrap n),σ.h)|_=>none
 | .Ep x=>match σ.ev x with
  | .ptr g v o=>if cur σ.h g v then some (.ptr g v o,σ.h) else none
  | .CW l=>some (.CW l,σ.h)
  | .fn f caps=>some (.fn f caps,σ.h)
  | .Lf f l=>some (.Lf f l,σ.h)
  | _=>none
 | .Lb f caps=>some (.fn f (caps.map σ.ev),σ.h)
 | .Ms f x=>match σ.ev x with
  | .agg l=>if l.all AV.flat=true then some (.Lf f l,σ.h) else none
  | _=>none
 | .mkS esz bytes el z l c=>match σ.ev l,σ.ev c with
  | .int _ n,.int _ m=>
   if 0<=n/\n<=m/\(n=0->m=0)/\m * bytes<=room/\m<=9223372036854775807 then some (.arr g0 (Kg σ.h g0) 0 n.toNat,upd σ.h g0 (some (.arr (Kg σ.h g0) esz el (z8 z n.toNat) false))) else none
  | _,_=>none
 | .slc esz x lo hi=>match Ij σ.h esz (σ.ev x) (lo.map σ.ev) (hi.map σ.ev) with|some v=>some (v,σ.h)|none=>none
 | .Et off x=>match LD σ.h off (σ.ev x) with|some v=>some (v,σ.h)|none=>none
 | .jZ ag off n x=>match σ.ev x with
  | .agg l=>(match pack ag l off n with|some v=>some (v,σ.h)|none=>none)
  | _=>none
 | .Es esz x i=>match JU σ.h esz (σ.ev x) (σ.ev i) with|some v=>some (v,σ.h)|none=>none
 | .EO len esz x i=>match YK σ.h len esz (σ.ev x) (σ.ev i) with|some v=>some (v,σ.h)|none=>none
 | .idx len esz ag x i=>match WM len esz ag (σ.ev x) (σ.ev i) with|some v=>some (v,σ.h)|none=>none
 | .ext x i=>match σ.ev x with
  | .Cn l=>(match l[i]? with|some v=>some (v,σ.h)|none=>none)
  | _=>none
 | .len x=>match C9 σ.h (σ.ev x) with|some n=>some (.int .i64 n,σ.h)|none=>none
 | .Fh x=>match Fh σ.h (σ.ev x) with|some n=>some (.int .i64 n,σ.h)|none=>none
 | .Ia x=>match Ia (σ.ev x) with|some n=>some (.int .i64 n,σ.h)|none=>none
 | .app esz bytes el _ x y=>EN σ.h g0 esz bytes el (σ.ev x) (σ.ev y)
 | .Cz f args=>match KO σ.h (args.map σ.ev) with
  | some (vs,ns)=>
   (match call f vs none with
    | some (v,_)=>if ns=[]\/v.scalar=true then some (v,σ.h) else none
    | none=>none)
  | none=>none
 | .Eu f args=>match KO σ.h (args.map σ.ev) with
  | some (vs,ns)=>
   (match call f vs none with
    | some (v,_)=>some (v,Jl σ.h ns)
    | none=>none)
  | none=>none
 | .Fp x args=>match KO σ.h (σ.ev x::args.map σ.ev) with
  | some (.fn f caps::vs,ns)=>
   (match call f (vs++caps) none with
    | some (v,_)=>if ns=[]\/v.scalar=true then some (v,σ.h) else none
    | none=>none)
  | _=>none
 | .FN f args=>Mv call f σ.h (Sl σ.h (args.map σ.ev))
 | .dV ..=>some (.map g0 (Kg σ.h g0),upd σ.h g0 (some (.map (Kg σ.h g0) [] false)))
 | .look ok ag sh z x k=>match mR ok ag sh z (σ.ev k) (I8 σ.h (σ.ev x)) with|some v=>some (v,σ.h)|none=>none
 | .LV ag sh x k v=>match OL σ.h ag sh (σ.ev k) (σ.ev v) (σ.ev x) with|some h=>some (.any,h)|none=>none
 | .Mt ag sh x k=>match Rv σ.h ag sh (σ.ev k) (σ.ev x) with|some h=>some (.Cn [],h)|none=>none
 | .bZ op x y=>match σ.ev x,σ.ev y with
  | .int k a,.int _ b=>(match UL op k a b with|some v=>some (v,σ.h)|none=>none)
  | _,_=>none
 | .mm mx x y=>match σ.ev x,σ.ev y with
  | .int k a,.int _ b=>some (.int k (zK mx a b),σ.h)
  | _,_=>none
 | .KM ds esz bytes el _ x y=>Mw base ds g0 (σ.ev x) (EN σ.h g0 esz bytes el (σ.ev x) (σ.ev y))
 | .LP ds n x y=>if VP base ds g0 (σ.ev x)=true then (match Sn σ.h n (σ.ev x) (σ.ev y) with|some h=>some (.any,h)|none=>none) else none
 | .F7 ds op=>if op.cls=1 then dQ σ.h (Ja call base ⟨σ.f,X3 base ds σ.h⟩ g0 op) else none
 | .Er ne x=>match YF σ.h (σ.ev x) with|some b=>some (.bool (if ne then !b else b),σ.h)|none=>none
 | .IK esz t z=>some (.ptr g0 (Kg σ.h g0) 0,upd σ.h g0 (some (.arr (Kg σ.h g0) esz t z false)))
 | .LU n esz x=>match ZX σ.h n esz (σ.ev x) with|some v=>some (v,σ.h)|none=>none
 | .kD esz x y=>mK σ.h esz (σ.ev x) (σ.ev y)
def Ih(call:Call)(base:Nat)(o:AX)(σ:St):Option St:=
 match o.guard with
 | none=>(match Ja call base σ (base+o.dst.getD 0) o.op with|some (v,h)=>some (σ.put o.dst v h)|none=>none)
 | some (g,want)=>
  match σ.f g with
  | .bool b=>if b=want then (match Ja call base σ (base+o.dst.getD 0) o.op with|some (v,h)=>some (σ.put o.dst v h)|none=>none) else some (σ.put o.dst (.Cn []) σ.h)
  | .Cn []=>some (σ.put o.dst (.Cn []) σ.h)
  | _=>none
def CQ.CJ:CQ->Bool
 | .alloc _|.IK .. | .box _|.EX .. | .mkS .. | .dV ..=>true
 | _=>false
def JW(call:Call)(base:Nat)(o:AX)(σ:St):Option St:=
 if o.op.CJ=true/\(σ.h (base+o.dst.getD 0)).isSome=true then none else Ih call base o σ
def Mi(call:Call)(base:Nat):List AX->St->Option St
 | [],σ=>some σ
 | o::r,σ=>match JW call base o σ with|some σ'=>Mi call base r σ'|none=>none
inductive RV where
 | tmp (t:Nat)
 | cell (t:Nat) (ag:Bool) (n:Nat)
 deriving Inhabited
def RV.get(σ:St):RV->Option AV
 | .tmp t=>some (σ.f t)
 | .cell t ag n=>IQ σ.h ag n (σ.f t)
theorem Jj{α:Type}(f:Nat->α)(d:Nat)(v:α):upd f d v d=v:=by simp [upd]
theorem Je{α:Type}(f:Nat->α)(d:Nat)(v:α)(n:Nat)(h:n≠d):upd f d v n=f n:=by simp [upd,h]
inductive BD (w:World) (S:Nat->Prop):AV->Value->Prop where
 | bool (b:Bool):BD w S (.bool b) (.bool b)
 | int (k:IntKind) (n:Int):BD w S (.int k n) (.int k n)
 | str (s:ByteArray):BD w S (.str s) (.string s)
 | BM:BD w S .BM (.slice none 0 0)
 | Hr:BD w S .Hr (.pointer none)
 | Ht:BD w S .Ht .nilFunc
 | Fe:BD w S .Fe (.map none)
 | mpr (ks vs:List AV) (b:Nat) (es:Array MapEntry) (clock:Nat) (hs:S b) (hb:w.heap[b]?=some (.map es clock)) (hk:es.size=ks.length) (hv:es.size=vs.length)
   (hrk:∀(i:Nat) (x:AV) (e:MapEntry),ks[i]?=some x->es[i]?=some e->BD w S x e.key) (hrv:∀(i:Nat) (x:AV) (e:MapEntry),vs[i]?=some x->es[i]?=some e->BD w S x e.val):BD w S (.mpr ks vs) (.map (some b))
 | ER:BD w S (.CB 0 []) (.slice none 0 0)
 | CB (n:Nat) (l:List AV) (a:Addr) (cap:Nat) (cv:Nat->Value) (hs:l≠[]->S a.block) (hn:n<=cap)
   (hc:∀i x,l[i]?=some x->w.cell? (a.add i)=some (cv i)) (h1:∀i x,l[i]?=some x->(cv i).oneCell'=true)
   (hr:∀i x,l[i]?=some x->BD w S x (cv i)):BD w S (.CB n l) (.slice (some a) n cap)
 | CW (l:List AV) (a:Addr) (cv:Nat->Value) (hs:l≠[]->S a.block)
   (hc:∀i x,l[i]?=some x->w.cell? (a.add i)=some (cv i)) (h1:∀i x,l[i]?=some x->(cv i).oneCell'=true)
   (hr:∀i x,l[i]?=some x->BD w S x (cv i)):BD w S (.CW l) (.pointer (some a))
 | fn (f:FuncId) (l:List AV) (cs:Array Value) (hl:l.length=cs.size) (hr:∀i x,l[i]?=some x->BD w S x (cs.getD i undef)):BD w S (.fn f l) (.func (.func f) #[] cs)
 | Lf (f:FuncId) (l:List AV) (cs:Array Value) (hl:l.length=cs.size) (h1:∀i x,l[i]?=some x->(cs.getD i undef).oneCell'=true)
   (hr:∀i x,l[i]?=some x->BD w S x (cs.getD i undef)):BD w S (.Lf f l) (.func (.func f) #[.agg cs] #[])
 | agg (l:List AV) (cs:Array Value) (hl:l.length=cs.size) (h1:∀i x,l[i]?=some x->(cs.getD i undef).oneCell'=true)
   (hr:∀i x,l[i]?=some x->BD w S x (cs.getD i undef)):BD w S (.agg l) (.agg cs)
 | Cn (l:List AV) (cs:Array Value) (hl:l.length=cs.size) (hr:∀i x,l[i]?=some x->BD w S x (cs.getD i undef)):BD w S (.Cn l) (.tuple cs)
theorem Jya{w w':World}{a:Addr}{n:Nat}(h:w'.heap[a.block]?=w.heap[a.block]?):w'.cell? (a.add n)=w.cell? (a.add n):=by
 have e:(a.add n).block=a.block:=by unfold Addr.add;split<;>rfl
 exact World.cell?_of_block (a:=a.add n) (by rw [e];exact h)
theorem BD.mono{w w':World}{S S':Nat->Prop}{x:AV}{v:Value}(h:BD w S x v)(hS:∀b,S b->S' b)(r:∀b,S b->w'.heap[b]?=w.heap[b]?):BD w' S' x v:=by
 induction h with
 | bool b=>exact .bool b
 | int k n=>exact .int k n
 | str s=>exact .str s
 | BM=>exact .BM
 | Hr=>exact .Hr
 | Ht=>exact .Ht
 | Fe=>exact .Fe
 | mpr ks vs b es clock hs J H B F E o m=>exact .mpr ks vs b es clock (hS _ hs) ((r b hs).trans J) H B o m
 | ER=>exact .ER
 | CB n l a cap cv hs G y g hr d=>exact .CB n l a cap cv (λA=>hS _ (hs A)) G (λi x hi=>(Jya (r _ (hs (by rintro rfl;simp at hi)))).trans (y i x hi)) g d
 | CW l a cv hs y g hr d=>exact .CW l a cv (λA=>hS _ (hs A)) (λi x hi=>(Jya (r _ (hs (by rintro rfl;simp at hi)))).trans (y i x hi)) g d
 | fn f l cs hl hr d=>exact .fn f l cs hl d
 | Lf f l cs hl g hr d=>exact .Lf f l cs hl g d
 | agg l cs hl g hr d=>exact .agg l cs hl g d
 | Cn l cs hl hr d=>exact .Cn l cs hl d
structure Gh where
 b:Nat->Nat
 o:Nat->Nat
 l:Nat->Nat
def Gh.set(μ:Gh)(g b o:Nat):Gh:=⟨upd μ.b g b,upd μ.o g o,μ.l⟩
def KV(w:World)(b o esz off len:Nat)(v:Value):Prop:=
 ∃(a:Addr) (cap:Nat) (cs:Array Value) (el:TypeId) (z:Nat×Nat),v=.slice (some a) len cap/\(len<=cap/\cap<=9223372036854775807)/\w.heap[b]?=some (.cells cs el z)/\o+(off+cap) * esz<=cs.size/\(0<cap->a=⟨b,o+off * esz,none⟩)
def KU(w:World)(cells:List AV)(b o esz off len:Nat)(v:Value):Prop:=
 (cells=[]->off=0/\len=0/\∃A,v=.slice A 0 0)/\(cells≠[]->KV w b o esz off len v)
inductive BF (w:World) (S:Nat->Prop) (h:Heap) (μ:Gh):AV->Value->Prop where
 | any (v:Value):BF w S h μ .any v
 | pure {x:AV} {v:Value} (hp:BD w S x v):BF w S h μ x v
 | fn (f:FuncId) (l:List AV) (cs:Array Value) (hl:l.length=cs.size) (hr:∀i x,l[i]?=some x->BF w S h μ x (cs.getD i undef)):BF w S h μ (.fn f l) (.func (.func f) #[] cs)
 | agg (l:List AV) (cs:Array Value) (hl:l.length=cs.size) (h1:∀i x,l[i]?=some x->(cs.getD i undef).oneCell'=true)
   (hr:∀i x,l[i]?=some x->BF w S h μ x (cs.getD i undef)):BF w S h μ (.agg l) (.agg cs)
 | Cn (l:List AV) (cs:Array Value) (hl:l.length=cs.size) (hr:∀i x,l[i]?=some x->BF w S h μ x (cs.getD i undef)):BF w S h μ (.Cn l) (.tuple cs)
 | arr (g ver off len:Nat) (v:Value) (o:AZ) (ho:h g=some o) (hv:ver<=o.ver) (h1:v.oneCell'=true)
   (hr:ver=o.ver->∃esz el cells fz,o=.arr ver esz el cells fz/\KU w cells (μ.b g) (μ.o g) esz off len v):BF w S h μ (.arr g ver off len) v
 | ptr (g ver off:Nat) (v:Value) (o:AZ) (ho:h g=some o) (hv:ver<=o.ver) (h1:v.oneCell'=true)
   (hr:ver=o.ver->v=.pointer (some ⟨μ.b g,μ.o g+off,none⟩)):BF w S h μ (.ptr g ver off) v
 | map (g ver:Nat) (v:Value) (o:AZ) (ho:h g=some o) (hv:ver<=o.ver) (h1:v.oneCell'=true)
   (hr:ver=o.ver->v=.map (some (μ.b g))):BF w S h μ (.map g ver) v
 | Hf (j:Nat):BF w S h μ (.Hf j) (.func (.yield (μ.l j)) #[] #[])
def Fu(es:Array MapEntry)(clock:Nat):Prop:=(∀x∈es.toList,x.born<clock)/\(es.toList.map (·.born)).Nodup
theorem SG(c:Nat):Fu #[] c:=⟨by simp,by simp⟩
theorem Jzq{es:Array MapEntry}{c:Nat}(h:Fu es c)(k v:Value):Fu (es.push { key:=k,val:=v,born:=c }) (c+1):=by
 obtain ⟨d,l⟩:=h;refine ⟨λx hx=>?_,?_⟩
 ·simp only [Array.toList_push,List.mem_append,List.mem_singleton] at hx;rcases hx with hx|rfl
  ·have:=d x hx;omega
  ·exact Nat.lt_succ_self _
 ·simp only [Array.toList_push,List.map_append,List.map_cons,List.map_nil];refine List.nodup_append.2 ⟨l,by simp,λa g b f e=>?_⟩;simp only [List.mem_singleton] at f;obtain ⟨x,hx,rfl⟩:=Be.1 g;have:=d x hx;omega
theorem Jmp{es:Array MapEntry}{c:Nat}(h:Fu es c)(j:Nat)(f:MapEntry->MapEntry)(g:∀e,(f e).born=e.born):Fu (es.modify j f) c:=by
 have key:∀(l:List MapEntry) (j:Nat),(l.modify j f).map (·.born)=l.map (·.born):=λl=>by
  induction l with
  | nil=>intro j;cases j<;>rfl
  | cons x r a=>
   intro j;cases j with
   | zero=>simp [g]
   | succ j=>simp [List.modify_succ_cons,a]
 have e:(es.modify j f).toList.map (·.born)=es.toList.map (·.born):=by rw [Array.toList_modify];exact key _ _
 refine ⟨λx hx=>?_,by rw [e];exact h.2⟩;have:x.born∈es.toList.map (·.born):=by rw [<-e];exact Be.2 ⟨x,hx,rfl⟩
 obtain ⟨y,d,m⟩:=Be.1 this;rw [<-m];exact h.1 y d
theorem SF{es es':Array MapEntry}{c:Nat}(h:Fu es c)(hs:List.Sublist es'.toList es.toList):Fu es' c:=
 ⟨λx hx=>h.1 x (hs.subset hx),h.2.sublist (hs.map _)⟩
def Holds(w:World)(S:Nat->Prop)(h:Heap)(μ:Gh)(cells:List AV)(cs:Array Value):Prop:=
 ∀i x,cells[i]?=some x->BF w S h μ x (cs.getD i undef)/\(cs.getD i undef).oneCell'=true
def Cv(w:World)(S:Nat->Prop)(h:Heap)(μ:Gh)(o:Nat)(cells:List AV)(cs:Array Value):Prop:=
 ∀i x,cells[i]?=some x->BF w S h μ x (cs.getD (o+i) undef)/\(cs.getD (o+i) undef).oneCell'=true
def EY(w:World)(S:Nat->Prop)(h:Heap)(μ:Gh)(b o:Nat):AZ->Prop
 | .box _ cells=>∃cs el,w.heap[b]?=some (.cells cs el (0,0))/\o+cells.length<=cs.size/\Cv w S h μ o cells cs
 | .arr _ _ el cells fz=>cells≠[]->∃cs,w.heap[b]?=some (.cells cs el (0,0))/\o+cells.length<=cs.size/\Cv w S h μ o cells cs/\(fz=true->S b)
 | .map _ es fz=>∃(es':Array MapEntry) (clock:Nat),w.heap[b]?=some (.map es' clock)/\(es'.size=es.length/\Fu es' clock)/\(fz=true->S b)/\∀(i:Nat) (k v:AV),es[i]?=some (k,v)->∃e:MapEntry,es'[i]?=some e/\BD w S k e.key/\BF w S h μ v e.val
def Own(h:Heap)(μ:Gh)(b:Nat):Prop:=∃g o,h g=some o/\o.fz=false/\o.live=true/\μ.b g=b
structure BK (w:World) (S:Nat->Prop) (h:Heap) (μ:Gh):Prop where
 ob:∀g o,h g=some o->EY w S h μ (μ.b g) (μ.o g) o
 inj:∀g g' o o',h g=some o->h g'=some o'->o.live=true->o'.live=true->μ.b g=μ.b g'->g=g'
 own:∀g o,h g=some o->o.fz=false->o.live=true->¬S (μ.b g)
 lt:∀b,S b->b<w.heap.size
def Marks(w:World)(S:Nat->Prop)(ds:List Deferred):Prop:=ds.Nodup/\∀d∈ds,∃r,d={ target:=.collected r,args:=#[] }/\w.heap[r]?=some (.deferred (some []))/\¬S r
structure DR (nt:Nat) (w:World) (S:Nat->Prop) (σ:St) (μ:Gh) (a:Act):Prop where
 fr:∀d,BF w S σ.h μ (σ.f d) (a.tmps.getD d undef)
 hp:BK w S σ.h μ
 df:Marks w S a.defers
 sz:nt<=a.tmps.size
structure Ci (w:World) (S:Nat->Prop) (h:Heap) (μ:Gh) (w':World) (S':Nat->Prop) (h':Heap) (μ':Gh):Prop where
 os:w'.os=w.os
 tape:w'.tape=w.tape
 output:w'.output=w.output/\w.drawn<=w'.drawn
 size:w.heap.size<=w'.heap.size
 keep:∀b,b<w.heap.size->¬Own h μ b->w'.heap[b]?=w.heap[b]?
 shape:∀(b:Nat) (cs:Array Value) (el:TypeId) (z:Nat×Nat),w.heap[b]?=some (.cells cs el z)->∃cs':Array Value,w'.heap[b]?=some (.cells cs' el z)/\cs'.size=cs.size
 st:∀b,S b->S' b
 st2:∀b,S' b->S b\/w.heap.size<=b\/Own h μ b
 ow:∀b,Own h' μ' b->Own h μ b\/w.heap.size<=b
 lp:μ'.l=μ.l
def AZ.kind:AZ->Nat
 | .box ..=>0
 | .arr ..=>1
 | .map ..=>2
def AZ.like:AZ->AZ->Prop
 | .arr _ e t c _,.arr _ d a c' _=>e=d/\t=a/\(c=[]↔c'=[])
 | x,y=>x.kind=y.kind
def Cj(h:Heap)(μ:Gh)(h':Heap)(μ':Gh):Prop:=
 ∀g o,h g=some o->∃o',h' g=some o'/\o.ver<=o'.ver/\(o'.ver=o.ver->(μ'.b g=μ.b g/\μ'.o g=μ.o g)/\o.like o')
theorem AZ.like.refl(o:AZ):o.like o:=by cases o<;>simp [AZ.like]
theorem AZ.like.trans{a b c:AZ}(h:a.like b)(k:b.like c):a.like c:=by cases a<;>cases b<;>cases c<;>simp_all [AZ.like,AZ.kind]
theorem Cj.refl(h:Heap)(μ:Gh):Cj h μ h μ:=λ_ o a=>⟨o,a,Ab _,λ_=>⟨⟨rfl,rfl⟩,.refl o⟩⟩
theorem Cj.trans{h h' h'':Heap}{μ μ' μ'':Gh}(a:Cj h μ h' μ')(b:Cj h' μ' h'' μ''):Cj h μ h'' μ'':=by
 intro g o y;obtain ⟨o',l,hl,r⟩:=a g o y;obtain ⟨o'',f,m,d⟩:=b g o' l;refine ⟨o'',f,Aq hl m,λe=>?_⟩;have w:o'.ver=o.ver:=by omega
 have v:o''.ver=o'.ver:=by omega
 exact ⟨⟨(d v).1.1.trans (r w).1.1,(d v).1.2.trans (r w).1.2⟩,(r w).2.trans (d v).2⟩
section
variable {w w' w'':World} {S S' S'':Nat->Prop} {h h' h'':Heap} {μ μ' μ'':Gh}
theorem Ci.refl:Ci w S h μ w S h μ:=⟨rfl,rfl,⟨rfl,Ab _⟩,Ab _,λ_ _ _=>rfl,λ_ cs _ _ a=>⟨cs,a,rfl⟩,λ_ h=>h,λ_ h=>.inl h,λ_ h=>.inl h,rfl⟩
theorem Ci.trans(a:Ci w S h μ w' S' h' μ')(b:Ci w' S' h' μ' w'' S'' h'' μ''):Ci w S h μ w'' S'' h'' μ'' where
 os:=b.os.trans a.os
 tape:=b.tape.trans a.tape
 output:=⟨b.output.1.trans a.output.1,Aq a.output.2 b.output.2⟩
 size:=Aq a.size b.size
 keep x hx g:=(b.keep x (Nat.lt_of_lt_of_le hx a.size) λl=>(a.ow x l).elim g (by omega)).trans (a.keep x hx g)
 shape x cs el z m:=by obtain ⟨y,d,r⟩:=a.shape x cs el z m;obtain ⟨v,f,o⟩:=b.shape x y el z d;exact ⟨v,f,o.trans r⟩
 st x hx:=b.st x (a.st x hx)
 st2 x hx:=by
  rcases b.st2 x hx with d|d|d
  ·exact a.st2 x d
  ·exact .inr (.inl (Aq a.size d))
  ·rcases a.ow x d with f|f
   ·exact .inr (.inr f)
   ·exact .inr (.inl f)
 ow x hx:=by
  rcases b.ow x hx with d|d
  ·exact a.ow x d
  ·exact .inr (Aq a.size d)
 lp:=b.lp.trans a.lp
theorem BK.VQ(d:BK w S h μ){b:Nat}(l:S b):¬Own h μ b:=λ⟨g,o,f,a,hl,e⟩=>d.own g o f a hl (e▸l)
theorem BK.kept(a:BK w S h μ)(ev:Ci w S h μ w' S' h' μ'){b:Nat}(d:S b):w'.heap[b]?=w.heap[b]?:=ev.keep b (a.lt b d) (a.VQ d)
theorem BD.DK{x:AV}{v:Value}(hr:BD w S x v)(a:BK w S h μ)(ev:Ci w S h μ w' S' h' μ'):BD w' S' x v:=hr.mono ev.st λ_ d=>a.kept ev d
theorem KV.DK{b o esz off len:Nat}{v:Value}(l:KV w b o esz off len v)(ev:Ci w S h μ w' S' h' μ'):KV w' b o esz off len v:=by obtain ⟨a,cap,cs,el,z,e,hl,g,hs,m⟩:=l;obtain ⟨cs',f,d⟩:=ev.shape _ _ _ _ g;exact ⟨a,cap,cs',el,z,e,hl,f,by rw [d];exact hs,m⟩
theorem KU.DK{cells cells':List AV}{b o esz off len:Nat}{v:Value}(d:KU w cells b o esz off len v)(ev:Ci w S h μ w' S' h' μ')(a:cells=[]↔cells'=[]):KU w' cells' b o esz off len v:=
 ⟨λe=>d.1 (a.2 e),λe=>(d.2 λq=>e (a.1 q)).DK ev⟩
theorem BF.DK{x:AV}{v:Value}(hr:BF w S h μ x v)(K:BK w S h μ)(ev:Ci w S h μ w' S' h' μ')(vv:Cj h μ h' μ'):BF w' S' h' μ' x v:=by
 induction hr with
 | any v=>exact .any v
 | pure F=>exact .pure (F.DK K ev)
 | fn f l cs hl hr A=>exact .fn f l cs hl A
 | agg l cs hl r hr A=>exact .agg l cs hl r A
 | Cn l cs hl hr A=>exact .Cn l cs hl A
 | arr g ver off len v o E B r hr=>
  obtain ⟨o',d,m,y⟩:=vv g o E;refine .arr g ver off len v o' d (Aq B m) r λe=>?_;have M:ver=o.ver:=by omega
  obtain ⟨esz,el,cells,fz,eq,L⟩:=hr M;obtain ⟨⟨em,eo⟩,a⟩:=y (by omega);subst eq;cases o' with
  | arr H O N c' J=>
   simp only [AZ.like] at a;obtain ⟨rfl,rfl,G⟩:=a;simp only [AZ.ver] at e;subst e;exact ⟨esz,el,c',J,rfl,by rw [em,eo];exact L.DK ev G⟩
  | box H c'=>simp [AZ.like,AZ.kind] at a
  | map H c'=>simp [AZ.like,AZ.kind] at a
 | ptr g ver off v o E B r hr=>
  obtain ⟨o',d,m,y⟩:=vv g o E;exact .ptr g ver off v o' d (Aq B m) r λe=>by rw [(y (by omega)).1.1,(y (by omega)).1.2];exact hr (by omega)
 | Hf j=>rw [<-ev.lp];exact .Hf j
 | map g ver v o E B r hr=>
  obtain ⟨o',d,m,y⟩:=vv g o E;exact .map g ver v o' d (Aq B m) r λe=>by rw [(y (by omega)).1.1];exact hr (by omega)
theorem Holds.DK{cells:List AV}{cs:Array Value}(a:Holds w S h μ cells cs)(d:BK w S h μ)(ev:Ci w S h μ w' S' h' μ')(vv:Cj h μ h' μ'):Holds w' S' h' μ' cells cs:=
 λi x hi=>⟨(a i x hi).1.DK d ev vv,(a i x hi).2⟩
theorem Cv.DK{o:Nat}{cells:List AV}{cs:Array Value}(a:Cv w S h μ o cells cs)(d:BK w S h μ)(ev:Ci w S h μ w' S' h' μ')(vv:Cj h μ h' μ'):Cv w' S' h' μ' o cells cs:=
 λi x hi=>⟨(a i x hi).1.DK d ev vv,(a i x hi).2⟩
theorem Holds.fq{cells:List AV}{cs:Array Value}(a:Holds w S h μ cells cs):Cv w S h μ 0 cells cs:=λi x hi=>by rw [Nat.zero_add];exact a i x hi
theorem EY.DK{b k:Nat}{o:AZ}(r:EY w S h μ b k o)(l:BK w S h μ)(ev:Ci w S h μ w' S' h' μ')(vv:Cj h μ h' μ')(y:o.live=true->w'.heap[b]?=w.heap[b]?):EY w' S' h' μ' b k o:=by
 cases o with
 | box v cells=>
  obtain ⟨cs,el,g,f,d⟩:=r;exact ⟨cs,el,(y rfl).trans g,f,d.DK l ev vv⟩
 | arr v e t cells z=>
  intro a;obtain ⟨cs,g,f,d,F⟩:=r a;exact ⟨cs,(y (by cases cells<;>first|rfl|exact (a rfl).elim)).trans g,f,d.DK l ev vv,λm=>ev.st _ (F m)⟩
 | map v es z=>
  obtain ⟨es',clock,g,f,m,d⟩:=r;refine ⟨es',clock,(y rfl).trans g,f,λq=>ev.st _ (m q),λi k v hi=>?_⟩;obtain ⟨e,E,B,A⟩:=d i k v hi;exact ⟨e,E,B.DK l ev,A.DK l ev vv⟩
theorem Qj{v e:Nat}{t:TypeId}{cells:List AV}{z:Bool}:(AZ.arr v e t cells z).live=true↔cells≠[]:=by cases cells<;>simp [AZ.live]
theorem EY.lt{b k:Nat}{o:AZ}(d:EY w S h μ b k o)(hl:o.live=true):b<w.heap.size:=by
 have:∃x,w.heap[b]?=some x:=by
  cases o with
  | box v cells=>obtain ⟨cs,el,a,_⟩:=d;exact ⟨_,a⟩
  | arr v e t cells z=>obtain ⟨cs,a,_⟩:=d (Qj.1 hl);exact ⟨_,a⟩
  | map v es z=>obtain ⟨es',clock,a,_⟩:=d;exact ⟨_,a⟩
 obtain ⟨x,hx⟩:=this;exact (Au.1 hx).1
theorem BK.PO(f:BK w S h μ){b:Nat}{ob:Obj}(a:w.heap[b]?=some ob)(d:∀cs el z,ob≠.cells cs el z)(m:∀es k,ob≠.map es k):¬Own h μ b:=by
 rintro ⟨g,o,l,r,hl,rfl⟩;have:=f.ob g o l;cases o with
 | box v cells=>obtain ⟨cs,el,q,_⟩:=this;rw [a] at q;injection q with q;exact d _ _ _ q
 | arr v e t cells z=>obtain ⟨cs,q,_⟩:=this (Qj.1 hl);rw [a] at q;injection q with q;exact d _ _ _ q
 | map v es z=>obtain ⟨es',clock,q,_⟩:=this;rw [a] at q;injection q with q;exact m _ _ q
theorem BK.marks(g:BK w S h μ){ds:List Deferred}(hd:Marks w S ds)(ev:Ci w S h μ w' S' h' μ'):Marks w' S' ds:=by
 refine ⟨hd.1,λd l=>?_⟩;obtain ⟨r,e,hr,hs⟩:=hd.2 d l;have f:=g.PO hr (by intros;simp) (by intros;simp);have a:=(Au.1 hr).1;refine ⟨r,e,(ev.keep r a f).trans hr,λq=>?_⟩;rcases ev.st2 r q with q|q|q
 ·exact hs q
 ·omega
 ·exact f q
theorem Marks.nil{w:World}{S:Nat->Prop}:Marks w S []:=⟨List.nodup_nil,λd hd=>(by cases hd)⟩
theorem Jsk(a:w'.heap=w.heap)(l:w'.os=w.os)(g:w'.tape=w.tape)(f:w'.output=w.output/\w.drawn<=w'.drawn):Ci w S h μ w' S h μ:=
 ⟨l,g,f,by rw [a];exact Ab _,λ_ _ _=>by rw [a],λ_ cs _ _ d=>⟨cs,by rw [a];exact d,rfl⟩,λ_ h=>h,λ_ h=>.inl h,λ_ h=>.inl h,rfl⟩
theorem BK.of_same(a:BK w S h μ)(d:w'.heap=w.heap)(v:w'.os=w.os)(r:w'.tape=w.tape)(m:w'.output=w.output/\w.drawn<=w'.drawn):BK w' S h μ:=
 ⟨λg o f=>(a.ob g o f).DK a (Jsk d v r m) (.refl h μ) (λ_=>by rw [d]),a.inj,a.own,λb l=>by rw [d];exact a.lt b l⟩
theorem Ti:Ci w S h μ w.drew S h μ:=Jsk rfl rfl rfl ⟨rfl,Bd _⟩
theorem J2w(g:Nat)(o:AZ)(ob:Obj)(l:o.ver=Kg h g\/Kg h g<o.ver) :
  Ci w S h μ (w.alloc ob) S (upd h g (some o)) (μ.set g w.heap.size 0)/\Cj h μ (upd h g (some o)) (μ.set g w.heap.size 0):=by
 refine ⟨⟨rfl,rfl,⟨rfl,Ab _⟩,by simp,λb v _=>heap_alloc_old w ob b v,λb cs el z m=>⟨cs,?_,rfl⟩,λ_ h=>h,λ_ h=>.inl h,?_,rfl⟩,?_⟩
 ·rw [heap_alloc_old w ob b (Au.1 m).1];exact m
 ·rintro b ⟨f,o',a,r,hl,e⟩;by_cases d:f=g
  ·subst d;simp only [Gh.set,Jj] at e;exact .inr (by omega)
  ·simp only [Gh.set,Je _ _ _ _ d] at a e;exact .inl ⟨f,o',a,r,hl,e⟩
 ·intro f o' a;by_cases d:f=g
  ·subst d;have:Kg h f=o'.ver+1:=by simp [Kg,a]
   exact ⟨o,Jj _ _ _,by omega,λe=>by omega⟩
  ·exact ⟨o',by rw [Je _ _ _ _ d];exact a,Ab _,λ_=>⟨⟨Je _ _ _ _ d,Je _ _ _ _ d⟩,.refl o'⟩⟩
theorem J42{g:Nat}{o:AZ}{ob:Obj}(d:BK w S h μ)(v:o.ver=Kg h g\/Kg h g<o.ver)
  (E:EY (w.alloc ob) S (upd h g (some o)) (μ.set g w.heap.size 0) w.heap.size 0 o):BK (w.alloc ob) S (upd h g (some o)) (μ.set g w.heap.size 0):=by
 obtain ⟨ev,vv⟩:=J2w (w:=w) (S:=S) (h:=h) (μ:=μ) g o ob v;refine ⟨λr o' a=>?_,λH G K J A y M L e=>?_,λr o' a B F hs=>?_,λb N=>by have:=d.lt b N;simp;omega⟩
 ·by_cases m:r=g
  ·subst m;simp only [Gh.set,Jj] at a ⊢;injection a with e;subst e;exact E
  ·rw [Je _ _ _ _ m] at a;have:=(d.ob r o' a).DK d ev vv (λhl=>heap_alloc_old w ob _ ((d.ob r o' a).lt hl));simpa only [Gh.set,Je _ _ _ _ m] using this
 ·by_cases l:H=g<;>by_cases f:G=g
  ·rw [l,f]
  ·subst l;simp only [Gh.set,Je _ _ _ _ f,Jj] at y e;have:=(d.ob G J y).lt L;omega
  ·subst f;simp only [Gh.set,Je _ _ _ _ l,Jj] at A e;have:=(d.ob H K A).lt M;omega
  ·simp only [Gh.set,Je _ _ _ _ l,Je _ _ _ _ f] at A y e;exact d.inj H G K J A y M L e
 ·by_cases m:r=g
  ·subst m;simp only [Gh.set,Jj] at hs;have:=d.lt _ hs;omega
  ·simp only [Gh.set,Je _ _ _ _ m] at a hs;exact d.own r o' a B F hs
theorem uh{g k:Nat}{o o':AZ}{cs:Array Value}(y:h g=some o)(G:o.fz=false)(hl:o.live=true)(r:o.ver<o'.ver\/o.ver=o'.ver/\k=μ.o g/\o.like o')
  (B:∀old el z,w.heap[μ.b g]?=some (.cells old el z)->cs.size=old.size) :
  Ci w S h μ (w.setRow (μ.b g) cs) S (upd h g (some o')) (μ.set g (μ.b g) k)/\Cj h μ (upd h g (some o')) (μ.set g (μ.b g) k):=by
 have F:∀d,(μ.set g (μ.b g) k).b d=μ.b d:=λd=>by
  by_cases f:d=g
  ·subst f;simp [Gh.set,Jj]
  ·simp [Gh.set,Je _ _ _ _ f]
 refine ⟨⟨rfl,rfl,⟨rfl,Ab _⟩,by simp,λb K H=>setRow_other w (μ.b g) b cs λe=>H ⟨g,o,y,G,hl,e.symm⟩,λb c el z E=>?_,λ_ h=>h,λ_ h=>.inl h,?_,rfl⟩,?_⟩
 ·by_cases l:b=μ.b g
  ·subst l;exact ⟨cs,setRow_heap w _ _ cs el z E,B _ _ _ E⟩
  ·exact ⟨c,by rw [setRow_other w (μ.b g) b cs l];exact E,rfl⟩
 ·rintro b ⟨d,m,a,v,A,e⟩;rw [F] at e;by_cases f:d=g
  ·subst f;exact .inl ⟨d,o,y,G,hl,e⟩
  ·rw [Je _ _ _ _ f] at a;exact .inl ⟨d,m,a,v,A,e⟩
 ·intro d m a;by_cases f:d=g
  ·subst f;rw [y] at a;injection a with e;subst e;exact ⟨o',Jj _ _ _,by omega,λe=>⟨⟨F _,by
    rcases r with r|⟨_,J,_⟩
    ·omega
    ·simp only [Gh.set,Jj];exact J⟩,by
    rcases r with r|⟨_,_,hl⟩
    ·omega
    ·exact hl⟩⟩
  ·exact ⟨m,by rw [Je _ _ _ _ f];exact a,Ab _,λ_=>⟨⟨F _,by simp [Gh.set,Je _ _ _ _ f]⟩,.refl m⟩⟩
theorem Jxn{g k:Nat}{o o':AZ}{cs:Array Value}(v:BK w S h μ)(A:h g=some o)(J:o.fz=false)(hl:o.live=true)(O:o.ver<o'.ver\/o.ver=o'.ver/\k=μ.o g/\o.like o')
  (H:∀old el z,w.heap[μ.b g]?=some (.cells old el z)->cs.size=old.size)
  (F:EY (w.setRow (μ.b g) cs) S (upd h g (some o')) (μ.set g (μ.b g) k) (μ.b g) k o'):BK (w.setRow (μ.b g) cs) S (upd h g (some o')) (μ.set g (μ.b g) k):=by
 obtain ⟨ev,vv⟩:=uh (S:=S) A J hl O H;have r:∀f,(μ.set g (μ.b g) k).b f=μ.b f:=λf=>by
  by_cases l:f=g
  ·subst l;simp [Gh.set,Jj]
  ·simp [Gh.set,Je _ _ _ _ l]
 refine ⟨λf m d=>?_,λL K m y R Q B M e=>?_,λf m d E G hs=>?_,λb r=>by rw [setRow_size];exact v.lt b r⟩
 ·rw [r];by_cases l:f=g
  ·subst l;rw [Jj] at d;injection d with e;subst e;simpa only [Gh.set,Jj] using F
  ·rw [Je _ _ _ _ l] at d;have:=(v.ob f m d).DK v ev vv (λB=>setRow_other w _ _ cs λe=>l (v.inj f g m o d A B hl e));simpa only [Gh.set,Je _ _ _ _ l] using this
 ·rw [r,r] at e;have key:∀f m,upd h g (some o') f=some m->m.live=true->∃y,h f=some y/\y.live=true:=λf m h' N=>by
   by_cases l:f=g
   ·subst l;exact ⟨o,A,hl⟩
   ·rw [Je _ _ _ _ l] at h';exact ⟨m,h',N⟩
  obtain ⟨a,P,la⟩:=key L m R B;obtain ⟨b,r,lb⟩:=key K y Q M;exact v.inj L K a b P r la lb e
 ·rw [r] at hs;by_cases l:f=g
  ·subst l;exact v.own f o A J hl hs
  ·rw [Je _ _ _ _ l] at d;exact v.own f m d E G hs
end
section
variable {w:World} {S:Nat->Prop} {h:Heap} {μ:Gh} {v:Value}
theorem BF.BI{k:IntKind}{n:Int}(hr:BF w S h μ (.int k n) v):v=.int k n:=by cases hr with|pure a=>cases a;rfl
theorem BF.Ch{b:Bool}(hr:BF w S h μ (.bool b) v):v=.bool b:=by cases hr with|pure a=>cases a;rfl
theorem BF.Cg(hr:BF w S h μ .BM v):v=.slice none 0 0:=by cases hr with|pure a=>cases a;rfl
theorem BF.MK{ks vs:List AV}(hr:BF w S h μ (.mpr ks vs) v):∃(b:Nat) (es:Array MapEntry) (clock:Nat),v=.map (some b)/\S b/\w.heap[b]?=some (.map es clock)/\es.size=ks.length/\es.size=vs.length/\(∀(i:Nat) (x:AV) (e:MapEntry),ks[i]?=some x->es[i]?=some e->BD w S x e.key)/\∀(i:Nat) (x:AV) (e:MapEntry),vs[i]?=some x->es[i]?=some e->BD w S x e.val:=by
 cases hr with
 | pure g=>cases g with|mpr _ _ b es clock hs m l f d a=>exact ⟨b,es,clock,rfl,hs,m,l,f,d,a⟩
theorem BF.PU(hr:BF w S h μ .Fe v):v=.map none:=by cases hr with|pure a=>cases a;rfl
theorem BF.MB{s:ByteArray}(hr:BF w S h μ (.str s) v):v=.string s:=by cases hr with|pure a=>cases a;rfl
theorem BF.JX(hr:BF w S h μ (.Cn []) v):v=.tuple #[]:=by
 cases hr with
 | pure a=>cases a with|Cn _ cs hl _=>simp at hl;rw [Ax hl.symm]
 | Cn _ cs hl _=>simp at hl;rw [Ax hl.symm]
theorem BF.CP{l:List AV}(hr:BF w S h μ (.agg l) v):∃cs:Array Value,v=.agg cs/\l.length=cs.size/\Holds w S h μ l cs:=by
 cases hr with
 | pure d=>cases d with|agg _ cs hl a hr=>exact ⟨cs,rfl,hl,λi x hi=>⟨.pure (hr i x hi),a i x hi⟩⟩
 | agg _ cs hl a hr=>exact ⟨cs,rfl,hl,λi x hi=>⟨hr i x hi,a i x hi⟩⟩
theorem BF.FY{l:List AV}(hr:BF w S h μ (.Cn l) v):∃cs:Array Value,v=.tuple cs/\l.length=cs.size/\∀i x,l[i]?=some x->BF w S h μ x (cs.getD i undef):=by
 cases hr with
 | pure a=>cases a with|Cn _ cs hl hr=>exact ⟨cs,rfl,hl,λi x hi=>.pure (hr i x hi)⟩
 | Cn _ cs hl hr=>exact ⟨cs,rfl,hl,λi x hi=>hr i x hi⟩
theorem BF.FU{f:FuncId}{l:List AV}(hr:BF w S h μ (.fn f l) v):∃cs:Array Value,v=.func (.func f) #[] cs/\l.length=cs.size/\∀i x,l[i]?=some x->BF w S h μ x (cs.getD i undef):=by
 cases hr with
 | pure a=>cases a with|fn _ _ cs hl hr=>exact ⟨cs,rfl,hl,λi x hi=>.pure (hr i x hi)⟩
 | fn _ _ cs hl hr=>exact ⟨cs,rfl,hl,λi x hi=>hr i x hi⟩
theorem BF.MU{f:FuncId}{l:List AV}(hr:BF w S h μ (.Lf f l) v):∃cs:Array Value,v=.func (.func f) #[.agg cs] #[]/\BF w S h μ (.agg l) (.agg cs):=by
 cases hr with
 | pure a=>cases a with|Lf _ _ cs hl d hr=>exact ⟨cs,rfl,.pure (.agg _ _ hl d hr)⟩
theorem BF.one{x:AV}(hr:BF w S h μ x v)(a:x.one=true):v.oneCell'=true:=by
 cases hr with
 | any=>simp [AV.one] at a
 | pure d=>cases d<;>simp_all [AV.one,Value.oneCell']
 | fn=>rfl
 | agg=>simp [AV.one] at a
 | Cn=>simp [AV.one] at a
 | arr _ _ _ _ _ _ _ _ h=>exact h
 | ptr _ _ _ _ _ _ _ h=>exact h
 | map _ _ _ _ _ _ h=>exact h
 | Hf=>rfl
theorem Jx3(v:Value)(a:v.oneCell'=true):v.cells=#[v]:=by cases v<;>simp_all [Value.oneCell',Value.cells]
theorem BF.cells{x:AV}{c:List AV}(hr:BF w S h μ x v)(f:x.cells=some c):v.cells.size=c.length/\Holds w S h μ c v.cells:=by
 by_cases a:x.one=true
 ·have:c=[x]:=by cases x<;>simp_all [AV.cells,AV.one]
  subst this;rw [Jx3 v (hr.one a)];refine ⟨rfl,λi y hi=>?_⟩
  match i,hi with
  | 0,hi=>simp at hi;subst hi;exact ⟨hr,hr.one a⟩
 ·cases x<;>simp_all [AV.cells,AV.one];obtain ⟨cs,rfl,hl,d⟩:=hr.CP;exact ⟨hl.symm,d⟩
end
def Ww:Value->Option AV
 | .bool b=>some (.bool b)
 | .int k n=>some (.int k n)
 | .string s=>some (.str s)
 | .slice none 0 0=>some .BM
 | .pointer none=>some .Hr
 | .nilFunc=>some .Ht
 | .map none=>some .Fe
 | _=>none
def JC:List Value->Option (List AV)
 | []=>some []
 | v::r=>
  match Ww v,JC r with
  | some x,some l=>some (x::l)
  | _,_=>none
def oF:Value->Option AV
 | .agg cs=>(JC cs.toList).map .agg
 | .tuple cs=>if cs.size=0 then some (.Cn []) else none
 | v=>Ww v
def EG:Operand->Option LO
 | .tmp t=>some (.t t)
 | .const v=>(oF v).map .c
 | .func f=>some (.c (.fn f []))
 | .global _=>none
def II:List Operand->Option (List LO)
 | []=>some []
 | x::r=>
  match EG x,II r with
  | some a,some l=>some (a::l)
  | _,_=>none
def zc(P:Program)(t:TypeId):Option (List AV):=
 match P.info? t with
 | some i=>(match i.zero with|some z=>(match JC z.cells.toList with|some l=>if l.length=i.size then some l else none|none=>none)|none=>none)
 | none=>none
def mX(P:Program)(t:TypeId):Option AV:=
 match P.info? t with
 | some i=>(match i.zero with|some z=>oF z|none=>none)
 | none=>none
def E8(P:Program)(t:TypeId):Option Nat:=(P.info? t).map (·.size)
def Ct(P:Program)(t:TypeId):Option Bool:=
 match P.underlying t with
 | some (.struct _)|some (.array _ _)=>some true
 | some _=>some false
 | none=>none
def jM(P:Program)(g:TypeId->Option (List Bool)):List Field->Nat->Option (List Bool)
 | [],_=>some []
 | f::r,k=>
  match g f.type,Ct P f.type,E8 P f.type with
  | some a, some ag, some m => if f.offset = k /\ f.name ≠ "_" /\ m = a.length /\ (ag \/ m = 1) then (match jM P g r (k + m) with | some b => some (a ++ b) | none => none) else none
  | _,_,_=>none
def EU(P:Program):Nat->TypeId->Option (List Bool)
 | 0,_=>none
 | n+1,t=>
  match P.underlying t with
  | some .bool=>some [true]
  | some (.int _)=>some [false]
  | some (.struct fs)=>if P.stoodInHeld t then none else jM P (EU P n) fs.toList 0
  | _=>none
def oC(P:Program)(t:TypeId):Option (Bool×List Bool):=
 match EU P 6 t,Ct P t with
 | some sh,some ag=>if P.eqGuardType P.depth t then none else some (ag,sh)
 | _,_=>none
def iJ(place:Nat->Option (Nat×Nat)):List (Nat×Operand)->Option (List (Nat×Nat×LO))
 | []=>some []
 | (i,x)::r=>
  match place i,EG x,iJ place r with
  | some (off,n),some x,some l=>some ((off,n,x)::l)
  | _,_,_=>none
inductive CM where
 | p
 | z
 | q
def kE(cm:List (Nat×CM))(d:Option Nat):CM:=
 match cm.find? (λx=>x.1==d.getD 0) with
 | some (_,m)=>m
 | none=>.p
def JI(P:Program)(cm:List (Nat×CM))(dst:Option Nat):Op->Option CQ
 | .move x|.assign x=>(EG x).map .dS
 | .pick c a b=>match EG c,EG a,EG b with|some c,some a,some b=>some (.pick c a b)|_,_,_=>none
 | .alloc e=>(match kE cm dst with
  | .z=>(match P.underlying e with
   | some (.array _ el)=>(match E8 P el,zc P e with|some n,some z=>some (.IK n e z)|_,_=>none)
   | _=>none)
  | _=>(zc P e).map .alloc)
 | .box _ x=>(EG x).map .box
 | .build t ps=>match zc P t,P.underlying t with
  | some z,some (.struct fs)=>(match fs.toList.mapM (λf=>(P.info? f.type).map λi=>(f.offset,i.size)) with
   | some pl=>(iJ (λi=>pl[i]?) ps.toList).map (.build z)
   | none=>none)
  | some z,some (.array _ e)=>(match P.info? e with|some i=>(iJ (λk=>some (k * i.size,i.size)) ps.toList).map (.build z)|none=>none)
  | _,_=>none
 | .buildSlice t n ps=>match P.underlying t with
  | some (.slice e)=>(match P.info? e,zc P e with
   | some i,some z=>if n * i.size<=16777216/\0<i.size then (iJ (λk=>some (k * i.size,i.size)) ps.toList).map (.EX n i.size e z) else none
   | _,_=>none)
  | _=>none
 | .load t x=>match Ct P t,E8 P t,EG x with
  | some ag,some n,some x=>if ag\/n=1 then some (.load ag n x) else none
  | _,_,_=>none
 | .store t x y=>match E8 P t,EG x,EG y with
  | some n,some x,some y=>some (.store n x y)
  | _,_,_=>none
 | .binOp op t x y yt=>match P.underlying t,EG x,EG y with
  | some (.int _),some x,some y=>(match op with|.shl|.shr=>(match P.underlying yt with|some (.int _)=>some (.bZ op x y)|_=>none)|_=>some (.KJ op x y))
  | some (.slice _),some x,some (.c .BM)=>(match op with|.eql=>some (.Er false x)|.neq=>some (.Er true x)|_=>none)
  | some _,some x,some y=>(match op with
   | .eql=>(match oC P t with|some (ag,sh)=>some (.eqv false ag sh x y)|none=>none)
   | .neq=>(match oC P t with|some (ag,sh)=>some (.eqv true ag sh x y)|none=>none)
   | _=>none)
  | _,_,_=>none
 | .unOp op _ x=>(EG x).map (.un op)
 | .convert s d x=>match P.underlying s,P.underlying d,EG x with
  | some (.int _),some (.int k),some x=>some (.conv k x)
  | _,_,_=>none
 | .nilCheck x=>(EG x).map .Ep
 | .makeFunc (.func f) first caps=>if first.size=0 then (II caps.toList).map (.Lb f) else if caps.size=0 then (match II first.toList with|some [x]=>some (.Ms f x)|_=>none) else none
 | .makeSlice t l c=>match P.underlying t with
  | some (.slice e)=>(match P.info? e,zc P e,EG l,EG c with
   | some i,some z,some l,some c=>if 0<i.size then some (.mkS i.size i.bytes e z l c) else none
   | _,_,_,_=>none)
  | _=>none
 | .makeMap t none=>match P.underlying t with
  | some (.map kt et)=>some (.dV kt et (match P.underlying et with|some (.slice x)=>x|_=>0))
  | _=>none
 | .lookup t x k ok=>match P.underlying t with
  | some (.map kt et)=>(match EU P 6 kt,Ct P kt,mX P et with
   | some sh,some ag,some z=>(match EG x,EG k with
    | some x,some k=>some (.look ok ag sh (jS z) x k)
    | _,_=>none)
   | _,_,_=>none)
  | _=>none
 | .mapUpdate t x k v|.insert t x k v=>match P.underlying t with
  | some (.map kt _)=>(match EU P 6 kt,Ct P kt with
   | some sh,some ag=>(match EG x,EG k,EG v with
    | some x,some k,some v=>some (.LV ag sh x k v)
    | _,_,_=>none)
   | _,_=>none)
  | _=>none
 | .slice t x lo hi none=>match P.underlying t with
  | some (.slice e)=>(match E8 P e,EG x with
   | some n,some x=>
    (match lo,hi with
     | none,none=>some (.slc n x none none)
     | some a,none=>(match EG a with|some a=>some (.slc n x (some a) none)|none=>none)
     | none,some b=>(match EG b with|some b=>some (.slc n x none (some b))|none=>none)
     | some a,some b=>(match EG a,EG b with|some a,some b=>some (.slc n x (some a) (some b))|_,_=>none))
   | _,_=>none)
  | some (.array n el)=>(match lo,hi with
   | none,none=>(match E8 P el,EG x with|some s,some x=>(match Nat.ble n 9223372036854775807 with|true=>some (.LU n s x)|false=>none)|_,_=>none)
   | _,_=>none)
  | _=>none
 | .fieldAddr s x f=>match P.underlying s with
  | some (.struct fs)=>(match fs[f]?,EG x with
   | some fd,some x=>(match E8 P fd.type with|some n=>if n≠0 then some (.Et fd.offset x) else none|none=>none)
   | _,_=>none)
  | _=>none
 | .field s x f=>match P.underlying s with
  | some (.struct fs)=>(match fs[f]?,EG x with
   | some fd,some x=>(match Ct P fd.type,E8 P fd.type with|some ag,some n=>if ag\/n=1 then some (.jZ ag fd.offset n x) else none|_,_=>none)
   | _,_=>none)
  | _=>none
 | .indexAddr t x i=>match P.underlying t,EG x,EG i with
  | some (.slice e),some x,some i=>(match E8 P e with|some n=>some (.Es n x i)|none=>none)
  | some (.array len e),some x,some i=>(match E8 P e with|some n=>some (.EO len n x i)|none=>none)
  | _,_,_=>none
 | .index t x i=>match P.underlying t,EG x,EG i with
  | some (.array len e),some x,some i=>(match Ct P e,E8 P e with|some ag,some n=>if ag\/n=1 then some (.idx len n ag x i) else none|_,_=>none)
  | _,_,_=>none
 | .extract x i=>(EG x).map (.ext · i)
 | .call c=>match c.callee with
  | .builtin .len=>(match c.args.toList,c.argTypes.toList with
   | [x],[t]=>(match P.underlying t,EG x with
    | some (.slice _),some x=>some (.len x)
    | some (.map _ _),some x=>some (.Fh x)
    | some .string,some x=>some (.Ia x)
    | _,_=>none)
   | _,_=>none)
  | .builtin .append=>(match c.args.toList,c.argTypes.toList with
   | [x,y],[t,g]=>if t=g then (match P.underlying t,EG x,EG y with
    | some (.slice e),some x,some y=>(match P.info? e,zc P e with
     | some i,some z=>if 0<i.size then some (.app i.size i.bytes e z x y) else none
     | _,_=>none)
    | _,_,_=>none) else none
   | _,_=>none)
  | .builtin .delete=>(match c.args.toList,c.argTypes.toList with
   | [x,k],t::_=>(match P.underlying t with
    | some (.map kt _)=>(match EU P 6 kt,Ct P kt with
     | some sh,some ag=>(match EG x,EG k with
      | some x,some k=>some (.Mt ag sh x k)
      | _,_=>none)
     | _,_=>none)
    | _=>none)
   | _,_=>none)
  | .builtin .copy=>(match c.args.toList,c.argTypes.toList with
   | [x,y],t::_=>(match P.underlying t,EG x,EG y with
    | some (.slice e),some x,some y=>(match E8 P e with
     | some n=>some (.kD n x y)
     | none=>none)
    | _,_,_=>none)
   | _,_=>none)
  | .builtin .max=>(match c.args.toList with
   | [x,y]=>(match EG x,EG y with|some x,some y=>some (.mm true x y)|_,_=>none)
   | _=>none)
  | .builtin .min=>(match c.args.toList with
   | [x,y]=>(match EG x,EG y with|some x,some y=>some (.mm false x y)|_,_=>none)
   | _=>none)
  | .value (.func f)=>(match II c.args.toList with
   | some as=>some (match kE cm dst with|.p=>.Cz f as|.z=>.Eu f as|.q=>.FN f as)
   | none=>none)
  | .value (.tmp x)=>(II c.args.toList).map (.Fp (.t x))
  | _=>none
 | _=>none
def comp(P:Program)(cm:List (Nat×CM))(nt:Nat)(ops:Array Oper)(o:Oper):Option AX:=
 match JI P cm o.dst o.op with
 | none=>none
 | some op=>
  if mM nt o.dst then
   match o.guard with
   | none=>some ⟨o.dst,op,none⟩
   | some (j,want)=>(match (ops[j]?).bind (·.dst) with|some d=>if d<nt then some ⟨o.dst,op,some (d,want)⟩ else none|none=>none)
  else none
section
variable {w:World} {S:Nat->Prop} {h:Heap} {μ:Gh}
theorem J37{v:Value}{x:AV}(hx:Ww v=some x):BD w S x v/\v.oneCell'=true:=by unfold Ww at hx;split at hx<;>first|(injection hx with hx;subst hx;refine ⟨?_,rfl⟩;constructor)|cases hx
theorem vP:∀ {l:List Value} {m:List AV},JC l=some m->m.length=l.length/\∀(i:Nat) (x:AV),m[i]?=some x->∃v:Value,l[i]?=some v/\BD w S x v/\v.oneCell'=true
 | [],m,a=>by simp [JC] at a;subst a;exact ⟨rfl,λi x hi=>by simp at hi⟩
 | v::r,m,a=>by
  unfold JC at a;split at a
  ·rename_i x l hx hl;injection a with a;subst a;obtain ⟨f,d⟩:=vP hl;refine ⟨by simp [f],λi y hi=>?_⟩;cases i with
   | zero=>simp at hi;subst hi;exact ⟨v,rfl,J37 hx⟩
   | succ i=>simpa using d i y (by simpa using hi)
  ·cases a
theorem lN{l:List Value}{m:List AV}(d:JC l=some m):Holds w S h μ m l.toArray:=by
 intro i x hi;obtain ⟨v,a,hr,f⟩:=(vP d).2 i x hi;have e:l.toArray.getD i undef=v:=by simp [a]
 rw [e];exact ⟨.pure hr,f⟩
theorem J1x{v:Value}{x:AV}(hx:oF v=some x):BF w S h μ x v:=by
 unfold oF at hx;split at hx
 ·rename_i cs;cases hl:JC cs.toList with
  | none=>rw [hl] at hx;cases hx
  | some l=>
   rw [hl] at hx;simp at hx;subst hx;have:=lN (w:=w) (S:=S) (h:=h) (μ:=μ) hl;refine .agg l cs (by simpa using (vP (w:=w) (S:=S) hl).1) (λi x hi=>?_) (λi x hi=>?_)
   ·simpa using (this i x hi).2
   ·simpa using (this i x hi).1
 ·rename_i cs;split at hx
  ·rename_i hs;injection hx with hx;subst hx;exact .Cn [] cs (by simp [hs]) (λi x hi=>by simp at hi)
  ·cases hx
 ·exact .pure (J37 hx).1
end
theorem Jx{nt:Nat}{w:World}{S:Nat->Prop}{σ:St}{μ:Gh}{a:Act}(hs:DR nt w S σ μ a){x:Operand}{y:LO}(hx:EG x=some y):BF w S σ.h μ (σ.ev y) (a.eval x):=by
 unfold EG at hx;split at hx
 ·injection hx with hx;subst hx;exact hs.fr _
 ·rename_i v;cases d:oF v with
  | none=>rw [d] at hx;cases hx
  | some u=>rw [d] at hx;simp at hx;subst hx;exact J1x d
 ·injection hx with hx;subst hx;exact .fn _ [] #[] rfl (λi x hi=>by simp at hi)
 ·cases hx
theorem J4n{nt:Nat}{w:World}{S:Nat->Prop}{σ:St}{μ:Gh}{a:Act}(hs:DR nt w S σ μ a):∀ {l:List Operand} {m:List LO},II l=some m ->
  m.length=l.length/\∀(i:Nat) (y:LO),m[i]?=some y->∃x,l[i]?=some x/\BF w S σ.h μ (σ.ev y) (a.eval x)
 | [],m,d=>by simp [II] at d;subst d;exact ⟨rfl,λi x hi=>by simp at hi⟩
 | x::r,m,d=>by
  unfold II at d;split at d
  ·rename_i y l hx hl;injection d with d;subst d;obtain ⟨g,f⟩:=J4n hs hl;refine ⟨by simp [g],λi z hi=>?_⟩;cases i with
   | zero=>simp at hi;subst hi;exact ⟨x,rfl,Jx hs hx⟩
   | succ i=>simpa using f i z (by simpa using hi)
  ·cases d
end Go.Vv
namespace Go.Vv
open Go
theorem ug(a:Addr)(m n:Nat):(a.add m).add n=a.add (m+n):=by unfold Addr.add;by_cases f:m=0<;>by_cases d:n=0<;>simp_all [Ah]
theorem iV{w:World}{b o i:Nat}{cs:Array Value}{t:TypeId}{z:Nat×Nat}(a:w.heap[b]?=some (.cells cs t z)):w.cell? ((⟨b,o,none⟩:Addr).add i)=cs[o+i]?:=by rw [Addr.add_lit,cell_of_row w b (o+i) cs t z a]
theorem getD_some{cs:Array Value}{i:Nat}(h:i<cs.size):cs[i]?=some (cs.getD i undef):=by simp [h]
theorem uR{h:Heap}{g ver:Nat}(a:cur h g ver=true):∃o,h g=some o/\ver=o.ver:=by
 unfold cur at a;split at a
 ·rename_i o d;exact ⟨o,d,by simpa using (beq_iff_eq.1 a).symm⟩
 ·cases a
theorem Jwl{h:Heap}{g ver esz:Nat}(a:Ee h g ver esz=true):∃el cells fz,h g=some (.arr ver esz el cells fz):=by
 unfold Ee at a;split at a
 ·rename_i v e t c z d;simp at a;obtain ⟨rfl,rfl⟩:=a;exact ⟨t,c,z,d⟩
 ·cases a
theorem Jo1{h:Heap}{g ver:Nat}(a:GX h g ver=true):∃esz el cells fz,h g=some (.arr ver esz el cells fz):=by
 unfold GX at a;split at a
 ·rename_i v e t c z d;simp at a;obtain rfl:=a;exact ⟨e,t,c,z,d⟩
 ·cases a
theorem J28{h:Heap}{g ver:Nat}{es:List (AV×AV)}(a:GD h g ver=some es):h g=some (.map ver es false):=by
 unfold GD at a;split at a
 ·rename_i v es' d;split at a
  ·rename_i e;subst e;injection a with a;subst a;exact d
  ·cases a
 ·cases a
section
variable {w:World} {S:Nat->Prop} {h:Heap} {μ:Gh} {P:Program}
theorem BF.Eh{g ver off:Nat}{v:Value}(hr:BF w S h μ (.ptr g ver off) v)(l:cur h g ver=true):v=.pointer (some ⟨μ.b g,μ.o g+off,none⟩):=by
 obtain ⟨o,f,e⟩:=uR l;cases hr with
 | pure d=>cases d
 | ptr _ _ _ _ o' a _ _ hr=>rw [f] at a;injection a with a;subst a;exact hr e
theorem BF.DJ{g ver off len esz:Nat}{v:Value}{el:TypeId}{cells:List AV}{fz:Bool}(hr:BF w S h μ (.arr g ver off len) v)(f:h g=some (.arr ver esz el cells fz)):KU w cells (μ.b g) (μ.o g) esz off len v:=by
 cases hr with
 | pure d=>cases d
 | arr _ _ _ _ _ o' a _ _ hr=>
  rw [f] at a;injection a with a;subst a;obtain ⟨esz',el',cells',fz',e,l⟩:=hr rfl;injection e with _ o _ m;subst o m;exact l
theorem BF.EB{g ver off len esz:Nat}{v:Value}{el:TypeId}{cells:List AV}{fz:Bool}(hr:BF w S h μ (.arr g ver off len) v)(d:h g=some (.arr ver esz el cells fz))(a:cells≠[]):KV w (μ.b g) (μ.o g) esz off len v:=(hr.DJ d).2 a
theorem BF.gB{g ver off len esz:Nat}{v:Value}{el:TypeId}{cells:List AV}{fz:Bool}(hr:BF w S h μ (.arr g ver off len) v)(f:h g=some (.arr ver esz el cells fz)):∃A cap,v=.slice A len cap/\len<=cap/\(A=none->len=0/\cap=0):=by
 obtain ⟨m,l⟩:=hr.DJ f;by_cases d:cells=[]
 ·obtain ⟨-,rfl,A,rfl⟩:=m d;exact ⟨A,0,rfl,Ab _,λ_=>⟨rfl,rfl⟩⟩
 ·obtain ⟨a,cap,cs,el',z,rfl,hl,_⟩:=l d;exact ⟨some a,cap,rfl,hl.1,λe=>by cases e⟩
theorem BF.Iy{g ver:Nat}{v:Value}{es:List (AV×AV)}(hr:BF w S h μ (.map g ver) v){fz:Bool}(f:h g=some (.map ver es fz)):v=.map (some (μ.b g)):=by
 cases hr with
 | pure d=>cases d
 | map _ _ _ o' a _ _ hr=>rw [f] at a;injection a with a;subst a;exact hr rfl
theorem Jst(B:BK w S h μ){x:AV}{cx:Value}(hr:BF w S h μ x cx){l:List AV}{off:Nat}(hd:JK h x=some (l,off)) :
  ∃a,cx=.pointer (some a)/\∀i y,l[off+i]?=some y->∃c,w.cell? (a.add i)=some c/\c.oneCell'=true/\BF w S h μ y c:=by
 unfold JK at hd;split at hd
 ·injection hd with hd;simp only [Ai] at hd;obtain ⟨rfl,rfl⟩:=hd;cases hr with
  | pure r=>
   cases r with
   | CW _ a cv hs E F hr=>exact ⟨a,rfl,λi y hi=>⟨cv i,by simpa using E i y (by simpa using hi),F i y (by simpa using hi),.pure (hr i y (by simpa using hi))⟩⟩
 ·rename_i g ver off';split at hd
  ·rename_i ver' cells f;split at hd
   ·rename_i e;subst e;injection hd with hd;simp only [Ai] at hd;obtain ⟨rfl,rfl⟩:=hd;obtain ⟨cs,el,A,o,m⟩:=B.ob g _ f;refine ⟨⟨μ.b g,μ.o g+off',none⟩,hr.Eh (by simp [cur,f,AZ.ver]),λi y hi=>?_⟩;have d:μ.o g+(off'+i)<cs.size:=by have:=(Aa.1 hi).1;omega
    exact ⟨cs.getD (μ.o g+(off'+i)) undef,by rw [iV A,Ah,getD_some d],(m _ _ hi).2,(m _ _ hi).1⟩
   ·cases hd
  ·rename_i ver' esz el cells fz f;split at hd
   ·rename_i e;obtain ⟨rfl,v⟩:=e;injection hd with hd;simp only [Ai] at hd;obtain ⟨rfl,rfl⟩:=hd;obtain ⟨cs,A,o,m,_⟩:=B.ob g _ f v;refine ⟨⟨μ.b g,μ.o g+off',none⟩,hr.Eh (by simp [cur,f,AZ.ver]),λi y hi=>?_⟩;have d:μ.o g+(off'+i)<cs.size:=by have:=(Aa.1 hi).1;omega
    exact ⟨cs.getD (μ.o g+(off'+i)) undef,by rw [iV A,Ah,getD_some d],(m _ _ hi).2,(m _ _ hi).1⟩
   ·cases hd
  ·cases hd
 ·cases hd
theorem wB{t:TypeId}{b:Bool}(a:Ct P t=some b)(w:World):(isAgg t).run P w=.ok b w:=by
 unfold Ct at a;split at a
 ·rename_i fs f;injection a with a;subst a;simp [isAgg,run_underlying f]
 ·rename_i n e f;injection a with a;subst a;simp [isAgg,run_underlying f]
 ·rename_i d h g f;injection a with a;subst a;cases hd:P.underlying t with
  | none=>simp_all
  | some l=>
   simp only [isAgg,Sem.run_bind,run_underlying hd,Result.andThen_ok];cases l<;>simp_all
   all_goals first|exact h _ f.symm|exact g _ _ f.symm
 ·cases a
theorem run_sizeOf{t:TypeId}{n:Nat}(a:E8 P t=some n)(w:World):(sizeOf t).run P w=.ok n w:=by
 unfold E8 at a;cases hi:P.info? t with
 | none=>rw [hi] at a;cases a
 | some i=>rw [hi] at a;simp at a;subst a;simp [sizeOf,typeInfo,hi]
theorem Jul{l:List AV}{off n:Nat}{ag:Bool}{v:AV}(a:pack ag l off n=some v){f:Nat->Value}
  (m:∀i y,i<n->l[off+i]?=some y->(f i).oneCell'=true/\BF w S h μ y (f i)) (r:ag\/n=1) :
  BF w S h μ v (if ag then .agg ((List.range n).map f).toArray else f 0):=by
 unfold pack at a;split at a
 ·rename_i A;cases ag with
  | true=>
   simp at a;subst a;have key:∀i x,(cut l off n)[i]?=some x->i<n/\l[off+i]?=some x:=λi x hi=>by
    simp only [cut,Aj,Ak] at hi;split at hi
    ·rename_i g;exact ⟨g,hi⟩
    ·cases hi
   simp only [if_true];refine .agg _ _ (by simp [cut];omega) (λi x hi=>?_) (λi x hi=>?_)
   ·obtain ⟨d,o⟩:=key i x hi;simpa [d] using (m i x d o).1
   ·obtain ⟨d,o⟩:=key i x hi;simpa [d] using (m i x d o).2
  | false=>
   simp at a;simp only [Af,if_false];have d:n=1:=by simpa using r
   exact (m 0 v (by omega) (by simpa using a)).2
 ·cases a
theorem rF(G:BK w S h μ){t:TypeId}{n:Nat}{ag:Bool}(m:Ct P t=some ag)(r:E8 P t=some n)(E:ag\/n=1){x v:AV}{cx:Value}(hr:BF w S h μ x cx)
  (hl:IQ h ag n x=some v):∃cv,(Instr.loadAt t cx).run P w=.ok cv w/\BF w S h μ v cv:=by
 unfold IQ at hl;split at hl
 ·rename_i l off hd;obtain ⟨a,rfl,F⟩:=Jst G hr hd;have H:off+n<=l.length:=by
   unfold pack at hl;split at hl
   ·assumption
   ·cases hl
  have d:∀j,j<n->w.cell? (a.add j)=some ((w.cell? (a.add j)).getD undef):=λj L=>by obtain ⟨c,o,_⟩:=F j (l[off+j]'(by omega)) (Av (by omega));rw [o];rfl
  have g:=Jul (w:=w) (S:=S) (h:=h) (μ:=μ) hl (f:=λj=>(w.cell? (a.add j)).getD undef) (λi y _ hi=>by obtain ⟨c,o,K,J⟩:=F i y hi;rw [o];exact ⟨K,J⟩) E
  refine ⟨_,?_,g⟩;cases ag with
  | true=>simp [Instr.loadAt,Instr.sureAddr,loadVar,wB m,run_sizeOf r,run_loadCells w a n _ d]
  | false=>
   have o:n=1:=by simpa using E
   have B:=d 0 (by omega);simp only [Addr.add_zero'] at B ⊢;simp [Instr.loadAt,Instr.sureAddr,loadVar,wB m,load,Sem.run];cases A:w.cell? a with
   | none=>rw [A] at B;cases B
   | some c=>simp
 ·cases hl
theorem BD.drop{l:List AV}{a:Addr}{cv:Nat->Value}{k:Nat}(hs:l≠[]->S a.block)(d:∀i x,l[i]?=some x->w.cell? (a.add i)=some (cv i))
  (g:∀i x,l[i]?=some x->(cv i).oneCell'=true) (hr:∀i x,l[i]?=some x->BD w S x (cv i)):BD w S (.CW (l.drop k)) (.pointer (some (a.add k))):=by
 have f:(a.add k).block=a.block:=by unfold Addr.add;split<;>rfl
 exact .CW _ _ (λi=>cv (k+i)) (λh=>by rw [f];exact hs (by rintro rfl;simp at h)) (λi x hi=>by rw [ug];exact d _ x (by simpa using hi)) (λi x hi=>g _ x (by simpa using hi)) (λi x hi=>hr _ x (by simpa using hi))
theorem BD.cut{l:List AV}{a:Addr}{cv:Nat->Value}{k n:Nat}(hs:l≠[]->S a.block)(d:∀i x,l[i]?=some x->w.cell? (a.add i)=some (cv i))
  (g:∀i x,l[i]?=some x->(cv i).oneCell'=true) (hr:∀i x,l[i]?=some x->BD w S x (cv i)):BD w S (.CW (Vv.cut l k n)) (.pointer (some (a.add k))):=by
 have f:(a.add k).block=a.block:=by unfold Addr.add;split<;>rfl
 have key:∀i x,(Vv.cut l k n)[i]?=some x->l[k+i]?=some x:=λi x hi=>by
  simp only [Vv.cut,Aj,Ak] at hi;split at hi
  ·exact hi
  ·cases hi
 exact .CW _ _ (λi=>cv (k+i)) (λh=>by rw [f];exact hs (by rintro rfl;simp [Vv.cut] at h)) (λi x hi=>by rw [ug];exact d _ x (key i x hi)) (λi x hi=>g _ x (key i x hi)) (λi x hi=>hr _ x (key i x hi))
theorem J21{s:TypeId}{fs:Array Field}{f:Nat}{fd:Field}{n:Nat}(hs:P.underlying s=some (.struct fs))(A:fs[f]?=some fd)(y:E8 P fd.type=some n)(l:n≠0)
  {x v:AV} {cx:Value} (hr:BF w S h μ x cx) (d:LD h fd.offset x=some v):∃cv,(Instr.fieldAt s cx f).run P w=.ok cv w/\BF w S h μ v cv:=by
 unfold LD at d;split at d
 ·rename_i g ver o;split at d
  ·rename_i m;injection d with d;subst d;obtain ⟨ob,E,e⟩:=uR m;have hx:=hr.Eh m;subst hx;refine ⟨.pointer (some ⟨μ.b g,μ.o g+(o+fd.offset),none⟩),?_,.ptr _ _ _ _ ob E (by omega) rfl λ_=>rfl⟩;simp [Instr.fieldAt,run_underlying hs,A,Instr.sureAddr,fieldPlace,run_sizeOf y,l,Addr.add_lit,Ah]
  ·cases d
 ·injection d with d;subst d;cases hr with
  | pure B=>
   cases B with
   | CW _ a cv r m F hr=>
    refine ⟨.pointer (some (a.add fd.offset)),?_,.pure (BD.drop r m F hr)⟩;simp [Instr.fieldAt,run_underlying hs,A,Instr.sureAddr,fieldPlace,run_sizeOf y,l]
 ·cases d
theorem J09{t e:TypeId}{n:Nat}(B:P.underlying t=some (.slice e))(E:E8 P e=some n){x i v:AV}{cx ci:Value}(hr:BF w S h μ x cx)(hi:BF w S h μ i ci)
  (d:JU h n x i=some v):∃cv,(Instr.indexAt t cx ci).run P w=.ok cv w/\BF w S h μ v cv:=by
 unfold JU at d;split at d
 ·rename_i m l k j;split at d
  ·rename_i f;injection d with d;subst d;rw [hi.BI];cases hr with
   | pure G=>
    cases G with
    | ER=>omega
    | CB _ _ a cap cv hs H y A hr=>
     refine ⟨.pointer (some (a.add (j.toNat * n))),?_,.pure (BD.cut hs y A hr)⟩;simp [Instr.indexAt,run_underlying B,asIntOf,f,run_sizeOf E]
  ·cases d
 ·rename_i g ver off len k j;split at d
  ·rename_i f;obtain ⟨K,A,y⟩:=f;injection d with d;subst d;rw [hi.BI];obtain ⟨el,cells,fz,r⟩:=Jwl y;obtain ⟨a,cap,cs,el',z,rfl,hl,L,F,J⟩:=hr.EB r (λe=>by have:=((hr.DJ r).1 e).2.1;omega);have o:0<cap:=by omega
   rw [J o];refine ⟨.pointer (some ⟨μ.b g,μ.o g+(off+j.toNat) * n,none⟩),?_,.ptr _ _ _ _ _ r (Ab _) rfl λ_=>rfl⟩;simp [Instr.indexAt,run_underlying B,asIntOf,K,A,run_sizeOf E,Addr.add_lit,Ac,Ah]
  ·cases d
 ·cases d
theorem Jz1{t e:TypeId}{n len:Nat}(y:P.underlying t=some (.array len e))(A:E8 P e=some n){x i v:AV}{cx ci:Value}(hr:BF w S h μ x cx)(hi:BF w S h μ i ci)
  (d:YK h len n x i=some v):∃cv,(Instr.indexAt t cx ci).run P w=.ok cv w/\BF w S h μ v cv:=by
 unfold YK at d;split at d
 ·rename_i g ver o k j;split at d
  ·rename_i f;obtain ⟨F,r,m⟩:=f;injection d with d;subst d;rw [hi.BI,hr.Eh m];obtain ⟨ob,E,e⟩:=uR m;refine ⟨.pointer (some ⟨μ.b g,μ.o g+(o+j.toNat * n),none⟩),?_,.ptr _ _ _ _ ob E (by omega) rfl λ_=>rfl⟩;simp [Instr.indexAt,run_underlying y,asIntOf,Instr.sureAddr,F,r,run_sizeOf A,Addr.add_lit,Ah]
  ·cases d
 ·rename_i l k j;split at d
  ·rename_i f;injection d with d;subst d;rw [hi.BI];cases hr with
   | pure B=>
    cases B with
    | CW _ a cv hs m r hr=>
     refine ⟨.pointer (some (a.add (j.toNat * n))),?_,.pure (BD.drop hs m r hr)⟩;simp [Instr.indexAt,run_underlying y,asIntOf,Instr.sureAddr,f,run_sizeOf A]
  ·cases d
 ·cases d
theorem rH{t:TypeId}{off n:Nat}{ag:Bool}(d:Ct P t=some ag)(m:E8 P t=some n)(o:ag\/n=1){l:List AV}{cs:Array Value}(hl:l.length=cs.size)(r:Holds w S h μ l cs)
  {v:AV} (g:pack ag l off n=some v):∃cv,(part t cs off).run P w=.ok cv w/\BF w S h μ v cv:=by
 have B:off+n<=l.length:=by
  unfold pack at g;split at g
  ·assumption
  ·cases g
 have a:=Jul (w:=w) (S:=S) (h:=h) (μ:=μ) g (f:=λj=>cs.getD (off+j) undef) (λi y _ hi=>⟨(r _ y hi).2,(r _ y hi).1⟩) o;refine ⟨_,?_,a⟩;cases ag with
 | true=>
  simp only [part,Sem.run_bind,wB d,Result.andThen_ok,if_true,run_sizeOf m];simp only [Sem.run_pure]
  congr 2
  apply Array.ext
  ·simp;omega
  ·intro i A E;simp at A E ⊢;rw [Array.getElem?_eq_getElem (by omega)];rfl
 | false=>
  have A:n=1:=by simpa using o
  simp only [part,Sem.run_bind,wB d,Result.andThen_ok,Af,if_false];rw [getD_some (cs:=cs) (i:=off) (by omega)];rfl
theorem Kay{s:TypeId}{fs:Array Field}{f:Nat}{fd:Field}{n:Nat}{ag:Bool}(hs:P.underlying s=some (.struct fs))(r:fs[f]?=some fd)(d:Ct P fd.type=some ag)(a:E8 P fd.type=some n)(m:ag\/n=1)
  {l:List AV} {v:AV} {cx:Value} (hr:BF w S h μ (.agg l) cx) (g:pack ag l fd.offset n=some v):∃cv,(Instr.field s cx f).run P w=.ok cv w/\BF w S h μ v cv:=by obtain ⟨cs,rfl,hl,o⟩:=hr.CP;obtain ⟨cv,A,y⟩:=rH (P:=P) d a m hl o g;exact ⟨cv,by simp [Instr.field,run_underlying hs,r,asAgg,A],y⟩
theorem J7h{t e:TypeId}{len n:Nat}{ag:Bool}(m:P.underlying t=some (.array len e))(g:Ct P e=some ag)(d:E8 P e=some n)(o:ag\/n=1){x i v:AV}{cx ci:Value}
  (hr:BF w S h μ x cx) (hi:BF w S h μ i ci) (a:WM len n ag x i=some v):∃cv,(Instr.index t cx ci).run P w=.ok cv w/\BF w S h μ v cv:=by
 unfold WM at a;split at a
 ·rename_i l k j;split at a
  ·rename_i f;obtain ⟨cs,rfl,hl,r⟩:=hr.CP;rw [hi.BI];obtain ⟨cv,A,y⟩:=rH (P:=P) g d o hl r a;exact ⟨cv,by simp [Instr.index,asIntOf,run_underlying m,f,run_sizeOf d,A],y⟩
  ·cases a
 ·cases a
theorem J9o{l:List AV}{i:Nat}{v:AV}{cx:Value}(hr:BF w S h μ (.Cn l) cx)(d:l[i]?=some v):∃cv,(Instr.extract cx i).run P w=.ok cv w/\BF w S h μ v cv:=by
 obtain ⟨cs,rfl,hl,f⟩:=hr.FY;have a:i<cs.size:=by have:=(Aa.1 d).1;omega
 exact ⟨cs.getD i undef,by simp only [Instr.extract];rw [getD_some a];rfl,f i v d⟩
theorem J86{t e ty:TypeId}(f:P.underlying t=some (.slice e)){x:AV}{cx:Value}{n:Int}(hr:BF w S h μ x cx)(d:C9 h x=some n):(Builtin.len_ #[t] ty #[cx]).run P w=.ok (.int .i64 n) w:=by
 unfold C9 at d;split at d
 ·injection d with d;subst d;rw [hr.Cg];simp [Builtin.len_,run_underlying f,goInt]
 ·injection d with d;subst d;cases hr with
  | pure g=>cases g<;>simp [Builtin.len_,run_underlying f,goInt]
 ·split at d
  ·rename_i m;injection d with d;subst d;obtain ⟨esz,el,cells,fz,l⟩:=Jo1 m;obtain ⟨a,cap,rfl,_⟩:=hr.gB l;simp [Builtin.len_,run_underlying f,goInt]
  ·cases d
 ·cases d
theorem J6c{t k e ty:TypeId}(d:P.underlying t=some (.map k e))(m:BK w S h μ){x:AV}{cx:Value}{n:Int}(hr:BF w S h μ x cx)(a:Fh h x=some n):(Builtin.len_ #[t] ty #[cx]).run P w=.ok (.int .i64 n) w:=by
 unfold Fh at a;split at a
 ·injection a with a;subst a;rw [hr.PU];simp [Builtin.len_,run_underlying d,goInt]
 ·injection a with a;subst a;obtain ⟨b,es,clock,rfl,-,g,o,-⟩:=hr.MK;simp [Builtin.len_,run_underlying d,goInt,getObj,Sem.run,g,o]
 ·split at a
  ·rename_i es r;injection a with a;subst a;have l:=J28 r;obtain ⟨es',clock,g,f,_⟩:=m.ob _ _ l;rw [hr.Iy l];simp [Builtin.len_,run_underlying d,goInt,getObj,Sem.run,g,f]
  ·cases a
 ·cases a
theorem J6h{t ty:TypeId}(d:P.underlying t=some .string){x:AV}{cx:Value}{n:Int}(hr:BF w S h μ x cx)(a:Ia x=some n):(Builtin.len_ #[t] ty #[cx]).run P w=.ok (.int .i64 n) w:=by
 unfold Ia at a;split at a
 ·injection a with a;subst a;rw [hr.MB];simp [Builtin.len_,run_underlying d,goInt]
 ·cases a
end
section
variable {w:World} {S:Nat->Prop} {h:Heap} {μ:Gh} {P:Program}
theorem Joc{t:TypeId}{op:BinOp}{k:IntKind}{a b:Int}{v:AV}(d:TU op k a b=some v):∃cv,(binOp op t (.int k a) (.int k b)).run P w=.ok cv w/\BF w S h μ v cv:=by
  unfold TU at d;split at d
  all_goals first
    | cases d;done
    | (injection d with d;subst d;first
        | exact ⟨_,by simp only [go_sem];simp [go_sem],.pure (.int _ _)⟩
        | exact ⟨_,by simp only [go_sem];simp [go_sem],.pure (.bool _)⟩)
    | (split at d
       · cases d
       · rename_i f
         injection d with d;subst d;exact ⟨_,by simp only [go_sem];simp [f],.pure (.int _ _)⟩)
theorem Jsg{op:BinOp}{t:TypeId}{x y:Operand}{k:IntKind}{a:Int}{v:Value}:(eqGuard op t x y (.int k a) v).run P w=.ok () w:=by simp [go_sem]
theorem J6d{s d:TypeId}{k k':IntKind}{n:Int}(hs:∃j,P.underlying s=some (.int j))(hd:P.underlying d=some (.int k)):(convert s d (.int k' n)).run P w=.ok (.int k (k.wrap n)) w:=by obtain ⟨j,hs⟩:=hs;simp [convert,run_underlying hs,run_underlying hd,Conv.intToInt]
theorem wu:∀ {sh:List Bool} {l m:List AV} {b:Bool},Kb sh l m=some b->l.length=sh.length/\m.length=sh.length
  | [],[],[],_,_=>⟨rfl,rfl⟩
  | s::ss,x::xs,y::ys,b,h=>by
    unfold Kb at h;split at h
    · rename_i f
      obtain ⟨d,a⟩:=wu f;exact ⟨by simp [d],by simp [a]⟩
    · cases h
  | [],_::_,_,_,h=>by simp [Kb] at h
  | [],[],_::_,_,h=>by simp [Kb] at h
  | _::_,[],_,_,h=>by simp [Kb] at h
  | _::_,_::_,[],_,h=>by simp [Kb] at h
theorem Jgr:∀ {d f:List Bool} {l m:List AV} {b:Bool},Kb (d++f) l m=some b ->
    ∃o g,Kb d (l.take d.length) (m.take d.length)=some o/\Kb f (l.drop d.length) (m.drop d.length)=some g/\b=(o&&g)
  | [],f,l,m,b,h=>⟨true,b,by simp [Kb],by simpa using h,by simp⟩
  | s::d,f,[],m,b,h=>by simp [Kb] at h
  | s::d,f,x::l,[],b,h=>by simp [Kb] at h
  | s::d,f,x::l,y::m,b,h=>by
    simp only [List.cons_append,Kb] at h;split at h
    · rename_i a c v r
      injection h with h;subst h;obtain ⟨o,g,B,A,w⟩:=Jgr r;refine ⟨a&&o,g,?_,by simpa using A,by rw [w,Bool.and_assoc]⟩;simp [Kb,v,B]
    · cases h
theorem J9q(l:List AV)(off n i k:Nat):cut (cut l off n) i k=cut l (off+i) (min k (n - i)):=by simp only [cut,List.drop_take,List.take_take,List.drop_drop]
theorem J0r{g:TypeId->Option (List Bool)}{d:Nat}(ih:∀ {t:TypeId} {sh:List Bool} {ag:Bool} {x y:AV} {cx cy:Value} {b:Bool},g t=some sh->Ct P t=some ag ->
    BF w S h μ x cx->BF w S h μ y cy->E9 ag sh x y=some b->(Op.equalIn d t cx cy).run P w=.ok b w):∀ {fs:List Field} {k:Nat} {sh:List Bool} {l m:List AV} {cs cs':Array Value} {b:Bool},jM P g fs k=some sh ->
    l.length=cs.size->Holds w S h μ l cs->m.length=cs'.size->Holds w S h μ m cs'->Kb sh (l.drop k) (m.drop k)=some b->l.length=k+sh.length->m.length=k+sh.length->(Op.eqFields d cs cs' fs).run P w=.ok b w
  | [],k,sh,l,m,cs,cs',b,o,hl,Y,B,E,L,G,M=>by simp [jM] at o;subst o;have O:l.drop k=[]:=Bb (by simp at G;omega);have e2:m.drop k=[]:=Bb (by simp at M;omega);rw [O,e2] at L;simp [Kb] at L;subst L;simp [Op.eqFields]
  | f::r,k,sh,l,m,cs,cs',b,o,hl,Y,B,E,L,G,M=>by
    unfold jM at o;split at o
    · rename_i a ag q ha F hq
      split at o
      · rename_i hc
        obtain ⟨ho,hn,Q,A⟩:=hc;split at o
        · rename_i r' hr
          injection o with o;subst o Q;obtain ⟨b1,b2,O,e2,N⟩:=Jgr L;have X:k+a.length<=l.length:=by simp at G;omega
          have R:k+a.length<=m.length:=by simp at M;omega
          have pk:∀(l:List AV),k+a.length<=l.length->∃v,pack ag l f.offset a.length=some v/\(ag=true->v=.agg (cut l k a.length))/\(ag=false->cut l k a.length=[v]):=by
            intro l K;rw [ho];cases ag with
            | true=>exact ⟨_,by simp [pack,K],λ_=>rfl,λh=>by cases h⟩
            | false=>
              have G:a.length=1:=by simpa using A
              have J:k<l.length:=by omega
              refine ⟨l[k],by simp [pack,K,J],(λh=>by cases h),λ_=>?_⟩;simp only [cut,G];rw [List.drop_eq_getElem_cons J];rfl
          obtain ⟨v1,p1,q1,r1⟩:=pk l X;obtain ⟨v2,p2,q2,r2⟩:=pk m R;obtain ⟨c1,s1,t1⟩:=rH (P:=P) F hq A hl Y p1;obtain ⟨c2,s2,t2⟩:=rH (P:=P) F hq A B E p2;have Z:E9 ag a v1 v2=some b1:=by
            cases ag with
            | true=>rw [q1 rfl,q2 rfl];simpa [E9,cut] using O
            | false=>
              simp only [E9,Af,if_false];rw [<-r1 rfl,<-r2 rfl];exact O
          have H:=ih ha F t1 t2 Z;simp only [Op.eqFields,hn,ne_eq,not_false_eq_true,if_true,Sem.run_bind,s1,s2,Result.andThen_ok,H,Sem.run_ite];cases b1 with
          | false=>simp at N;simp [N]
          | true=>
            simp at N;subst N;simp only [Bool.not_true,Af,if_false];refine J0r ih hr hl Y B E (by simpa [List.drop_drop] using e2) (by simp at G;omega) (by simp at M;omega)
        · cases o
      · cases o
    · cases o
theorem Jxw:∀(n d:Nat) {t:TypeId} {sh:List Bool} {ag:Bool} {x y:AV} {cx cy:Value} {b:Bool},n<=d->EU P n t=some sh->Ct P t=some ag ->
    BF w S h μ x cx->BF w S h μ y cy->E9 ag sh x y=some b->(Op.equalIn d t cx cy).run P w=.ok b w
  | 0,_,_,_,_,_,_,_,_,_,_,h,_,_,_,_=>by simp [EU] at h
  | n+1,0,_,_,_,_,_,_,_,_,hd,_,_,_,_,_=>by omega
  | n+1,d+1,t,sh,ag,x,y,cx,cy,b,hd,f,g,hx,E,o=>by
    unfold EU at f;unfold Ct at g;split at f
    · rename_i v
      rw [v] at g;simp at g;injection f with f;subst f g;simp only [E9,Af,if_false,Kb] at o;split at o
      · rename_i a c r B
        injection o with o;injection B with B;subst B;unfold LB at r;split at r
        · cases ‹true=false›
        · injection r with r
          rw [hx.Ch,E.Ch];simp only [Op.equalIn,Sem.run_bind,run_underlying v,Result.andThen_ok,Sem.run_pure];rw [<-o,<-r,Bool.and_true]
        · cases r
      · cases o
    · rename_i k v
      rw [v] at g;simp at g;injection f with f;subst f g;simp only [E9,Af,if_false,Kb] at o;split at o
      · rename_i a c r B
        injection o with o;injection B with B;subst B;unfold LB at r;split at r
        · split at r
          · rename_i K
            subst K;injection r with r;rw [hx.BI,E.BI];simp only [Op.equalIn,Sem.run_bind,run_underlying v,Result.andThen_ok,if_true,Sem.run_pure];rw [<-o,<-r,Bool.and_true]
          · cases r
        · cases ‹false=true›
        · cases r
      · cases o
    · rename_i fs v
      rw [v] at g;simp at g;subst g;split at f
      · cases f
      · rename_i F
        simp only [E9,if_true] at o;split at o
        · rename_i l m
          obtain ⟨cs,rfl,hl,L⟩:=hx.CP;obtain ⟨cs',rfl,G,H⟩:=E.CP;have J:P.fieldsOf t=fs:=by simp [Program.fieldsOf,v]
          rw [run_equalIn_struct w d t cs cs' (by rw [J];exact v) (by simpa using F),J];have A:=wu o;refine J0r (λhx E=>Jxw n d (by omega) hx E) f hl L G H (by simp;exact o) (by simp [A]) (by simp [A])
        · cases o
    · cases f
theorem J9b{t:TypeId}{ag ne:Bool}{sh:List Bool}(g:oC P t=some (ag,sh))(A:∀k,P.underlying t≠some (.int k)){x y:AV}{cx cy:Value}{X Y:Operand}{b:Bool}(hx:BF w S h μ x cx)(r:BF w S h μ y cy)(d:E9 ag sh x y=some b) :
    (eqGuard (if ne then .neq else .eql) t X Y cx cy).run P w=.ok () w/\(binOp (if ne then .neq else .eql) t cx cy).run P w=.ok (.bool (if ne then !b else b)) w:=by
  unfold oC at g;split at g
  · rename_i sh' ag' m o
    split at g
    · cases g
    · rename_i E
      simp at g;obtain ⟨rfl,rfl⟩:=g;have f:=Jxw 6 10000 (by omega) m o hx r d;cases ag' with
      | true=>
        simp only [E9,if_true] at d;split at d
        · obtain ⟨cs,rfl,_⟩:=hx.CP
          obtain ⟨cs',rfl,_⟩:=r.CP;refine ⟨run_eqGuard_agg w _ t X Y cs cs' (by simpa using E),?_⟩;cases ne with
          | true=>simp only [if_true];rw [run_neq_struct,f];rfl
          | false=>simp only [Af,if_false];rw [run_eql_struct,f];rfl
        · cases d
      | false=>
        simp only [E9,Af,if_false] at d
        match sh',d with
        | s::[],d=>
          simp only [Kb] at d;split at d
          · rename_i a c l B
            injection d with d;injection B with B;subst B;unfold LB at l;split at l
            · exfalso
              unfold EU at m;split at m
              · simp at m
              · rename_i k v;exact A k v
              · rename_i fs v;unfold Ct at o;rw [v] at o;simp at o
              · cases m
            · injection l with l
              have G:=hx.Ch;have F:=r.Ch;subst G F;refine ⟨by simp [go_sem],?_⟩;cases ne with
              | true=>simp only [if_true];simp [binOp,Op.equal,Op.maxDepth,f]
              | false=>simp only [Af,if_false];simp [binOp,Op.equal,Op.maxDepth,f]
            · cases l
          · cases d
        | [],d=>simp [Kb] at d
        | _::_::_,d=>simp [Kb] at d
  · cases g
def kL(w:World)(S:Nat->Prop)(h:Heap)(μ:Gh):Option AV->Option Value->Prop
  | none,none=>True
  | some x,some c=>BF w S h μ x c
  | _,_=>False
theorem rQ{len cap:Nat}{lo hi:Option AV}{clo chi:Option Value}(d:kL w S h μ lo clo)(g:kL w S h μ hi chi){a b:Int}(f:JR 0 lo=some a)(m:JR len hi=some b)
    (r:0<=a) (o:a<=b) (A:b<=len) (v:len<=cap):(Instr.sliceBounds true len cap clo chi none).run P w=.ok (a.toNat,b.toNat,cap) w:=by
  have bd:∀(y:Nat) (code:BoundsCode) (k:IntKind) (n:Int),0<=n->n<=y->(Instr.sliceBound (.int k n) y code).run P w=.ok n.toNat w:=λy code k n E B=>by simp [Instr.sliceBound,asIntOf,E,B]
  cases hi with
  | none=>cases chi with
    | some c=>exact g.elim
    | none=>
      simp [JR] at m;cases lo with
      | none=>cases clo with
        | some c=>exact d.elim
        | none=>
          simp [JR] at f;subst f m;simp [Instr.sliceBounds]
      | some x=>cases clo with
        | none=>exact d.elim
        | some c=>
          cases x<;>simp [JR] at f;have e:=BF.BI d;subst e f m;simp [Instr.sliceBounds,bd len _ _ _ r o]
  | some x=>cases chi with
    | none=>exact g.elim
    | some c=>
      cases x<;>simp [JR] at m;have e:=BF.BI g;subst e m;rename_i kb nb;have l:=bd cap .sliceAcap kb nb (by omega) (by omega);cases lo with
      | none=>cases clo with
        | some c=>exact d.elim
        | none=>
          simp [JR] at f;subst f;simp [Instr.sliceBounds,l]
      | some x=>cases clo with
        | none=>exact d.elim
        | some c=>
          cases x<;>simp [JR] at f;have e:=BF.BI d;subst e f;simp [Instr.sliceBounds,l,bd nb.toNat .sliceB _ _ r (by omega)]
theorem J1b{t e:TypeId}{n:Nat}(K:P.underlying t=some (.slice e))(L:E8 P e=some n){x v:AV}{cx:Value}{lo hi:Option AV}{clo chi:Option Value}(hr:BF w S h μ x cx)
    (o:kL w S h μ lo clo) (r:kL w S h μ hi chi) (d:Ij h n x lo hi=some v):∃cv,(Instr.sliceAt t cx clo chi none).run P w=.ok cv w/\BF w S h μ v cv:=by
  unfold Ij at d;split at d
  · rename_i m l
    split at d
    · rename_i a b J F
      split at d
      · rename_i H
        obtain ⟨G,B,y,hll⟩:=H;injection d with d;subst d;cases hr with
        | pure hp=>
          cases hp with
          | ER=>
            have Y:b=0:=by omega
            have Z:a=0:=by omega
            subst Y Z;have f:=rQ (P:=P) (len:=0) (cap:=0) o r J F G B y (Ab _);exact ⟨.slice none 0 0,by simp [Instr.sliceAt,run_underlying K,Instr.slice,f,run_sizeOf L],by simpa [cut] using BF.pure BD.ER⟩
          | CB _ _ ad cap cv hs R H h1 hr=>
            have f:=rQ (P:=P) (len:=m) (cap:=cap) o r J F G B y R;refine ⟨.slice (some (if cap=a.toNat then ad else ad.add (a.toNat * n))) (b.toNat - a.toNat) (cap - a.toNat),?_,.pure ?_⟩
            · simp only [Instr.sliceAt,Sem.run_bind,run_underlying K,Result.andThen_ok,Instr.slice,f,run_sizeOf L,Sem.run_pure]
              split<;>simp
            · rw [show (b - a).toNat=b.toNat - a.toNat by omega]
              have F:∀k,(ad.add k).block=ad.block:=λk=>by unfold Addr.add;split<;>rfl
              by_cases N:cap=a.toNat
              · have hz:b.toNat - a.toNat=0:=by omega
                rw [hz];simp only [Bf,cut,List.take_zero,N,if_true];exact .CB 0 [] ad _ (λ_=>undef) (λG=>(G rfl).elim) (by omega) (λi x hi=>by simp at hi) (λi x hi=>by simp at hi) (λi x hi=>by simp at hi)
              · rw [if_neg N]
                have key:∀i x,(cut l (a.toNat * n) ((b.toNat - a.toNat) * n))[i]?=some x->l[a.toNat * n+i]?=some x:=λi x hi=>by
                  simp only [cut,Aj,Ak] at hi;split at hi
                  · exact hi
                  · cases hi
                exact .CB _ _ _ _ (λi=>cv (a.toNat * n+i)) (λG=>by rw [F];exact hs (by rintro rfl;simp [cut] at G)) (by omega) (λi x hi=>by rw [ug];exact H _ x (key i x hi)) (λi x hi=>h1 _ x (key i x hi)) (λi x hi=>hr _ x (key i x hi))
      · cases d
    · cases d
  · rename_i g ver off len
    split at d
    · rename_i a b J F
      split at d
      · rename_i H
        obtain ⟨G,B,y,M⟩:=H;injection d with d;subst d;obtain ⟨el,cells,fz,O⟩:=Jwl M;by_cases E:cells=[]
        · obtain ⟨rfl,rfl,A,rfl⟩:=(hr.DJ O).1 E
          have f:=rQ (P:=P) (len:=0) (cap:=0) o r J F G B y (Ab _);obtain rfl:a=0:=by omega
          obtain rfl:b=0:=by omega
          refine ⟨.slice A 0 0,?_,.arr _ _ _ _ _ _ O (Ab _) rfl λ_=>⟨n,el,cells,fz,rfl,λ_=>⟨rfl,rfl,A,rfl⟩,λq=>(q E).elim⟩⟩;cases A<;>simp [Instr.sliceAt,run_underlying K,Instr.slice,f,run_sizeOf L]
        obtain ⟨ad,cap,cs,el',z,rfl,hl,X,Q,had⟩:=hr.EB O E;have f:=rQ (P:=P) (len:=len) (cap:=cap) o r J F G B y hl.1;refine ⟨.slice (some (if cap=a.toNat then ad else ad.add (a.toNat * n))) (b.toNat - a.toNat) (cap - a.toNat),?_,?_⟩
        · simp only [Instr.sliceAt,Sem.run_bind,run_underlying K,Result.andThen_ok,Instr.slice,f,run_sizeOf L,Sem.run_pure]
          split<;>simp
        · rw [show (b - a).toNat=b.toNat - a.toNat by omega]
          refine .arr _ _ _ _ _ _ O (Ab _) rfl λ_=>⟨n,el,cells,fz,rfl,λe=>(E e).elim,λ_=>⟨_,_,cs,el',z,rfl,by omega,X,?_,λhpos=>?_⟩⟩
          · have:off+a.toNat+(cap - a.toNat)=off+cap:=by omega
            rw [this];exact Q
          · rw [if_neg (by omega),had (by omega),Addr.add_lit,Ac,Ah]
      · cases d
    · cases d
  · split at d
    · rename_i a b J F
      split at d
      · rename_i H
        obtain ⟨rfl,rfl⟩:=H;injection d with d;subst d;rw [hr.Cg];have f:=rQ (P:=P) (len:=0) (cap:=0) o r J F (by omega) (by omega) (by omega) (Ab _);exact ⟨.slice none 0 0,by simp [Instr.sliceAt,run_underlying K,Instr.slice,f,run_sizeOf L],.pure .BM⟩
      · cases d
    · cases d
  · cases d
end
theorem Ju1(cs:Array Value)(i j:Nat)(v:Value):(cs.setIfInBounds i v).getD j undef=if i=j/\i<cs.size then v else cs.getD j undef:=by
 by_cases a:i=j
 ·subst a;by_cases hi:i<cs.size
  ·simp [hi]
  ·simp [hi]
 ·simp [a,Array.getElem?_setIfInBounds_ne]
theorem J92(off:Nat):∀(l:List Value) (k:Nat) (cs:Array Value),off+k+l.length<=cs.size ->
  ((l.zipIdx k).foldl (λcs (p:Value×Nat)=>cs.setIfInBounds (off+p.2) p.1) cs).size=cs.size /\
  ∀i,((l.zipIdx k).foldl (λcs (p:Value×Nat)=>cs.setIfInBounds (off+p.2) p.1) cs).getD i undef=if off+k<=i/\i<off+k+l.length then l.getD (i - (off+k)) undef else cs.getD i undef
 | [],k,cs,_=>⟨rfl,λi=>by simp;omega⟩
 | v::l,k,cs,h=>by
  simp only [List.length_cons] at h;simp only [List.zipIdx_cons,List.foldl_cons];obtain ⟨f,d⟩:=J92 off l (k+1) (cs.setIfInBounds (off+k) v) (by simp;omega);refine ⟨by rw [f];simp,λi=>?_⟩;rw [d i,Ju1];simp only [List.length_cons];by_cases hi:i=off+k
  ·subst hi;rw [if_neg (by omega),if_pos ⟨rfl,by omega⟩,if_pos (by omega)];simp
  ·by_cases a:off+(k+1)<=i/\i<off+(k+1)+l.length
   ·rw [if_pos a,if_pos (by omega),show i - (off+k)=(i - (off+(k+1)))+1 by omega];simp
   ·rw [if_neg a,if_neg (by omega),if_neg (by omega)]
theorem aY{l new:List AV}{off:Nat}(h:off+new.length<=l.length):(paste l off new).length=l.length:=by simp [paste];omega
theorem aj{l new:List AV}{off:Nat}(h:off+new.length<=l.length)(i:Nat):(paste l off new)[i]?=if off<=i/\i<off+new.length then new[i - off]? else l[i]?:=by
 unfold paste;by_cases a:i<off
 ·rw [if_neg (by omega),Aw,Ae (by simp;omega),Aj,if_pos a]
 ·by_cases d:i<off+new.length
  ·rw [if_pos (by omega),Aw,Ad (by simp;omega),Ae (by simp;omega)]
   congr 1
   simp;omega
  ·rw [if_neg (by omega),Ad (by simp;omega),Ak]
   congr 1
   simp;omega
section
variable {w:World} {S:Nat->Prop} {h:Heap} {μ:Gh} {P:Program}
theorem Holds.paste{l new:List AV}{cs vs r:Array Value}{off:Nat}(hl:Holds w S h μ l cs)(g:Holds w S h μ new vs)(a:vs.size=new.length)(d:off+new.length<=l.length)
  (hr:∀i,r.getD i undef=if off<=i/\i<off+vs.size then vs.getD (i - off) undef else cs.getD i undef):Holds w S h μ (paste l off new) r:=by
 intro i x hi;rw [aj d] at hi;rw [hr i,a];split
 ·rename_i f;rw [if_pos f] at hi;exact g _ x hi
 ·rename_i f;rw [if_neg f] at hi;exact hl _ x hi
def iL(ev:LO->AV)(w:World)(S:Nat->Prop)(h:Heap)(μ:Gh)(place:Nat->Option (Nat×Nat)):List (Nat×Nat×LO)->List (Nat×Value)->Prop
 | [],[]=>True
 | (off,n,x)::r,(i,v)::a=>place i=some (off,n)/\BF w S h μ (ev x) v/\iL ev w S h μ place r a
 | _,_=>False
theorem wo{ev:LO->AV}{place:Nat->Option (Nat×Nat)}:∀ {ps:List (Nat×Nat×LO)} {cp:List (Nat×Value)} {z l:List AV} {cs:Array Value},iL ev w S h μ place ps cp ->
  Holds w S h μ z cs->z.length=cs.size->M9 ev z ps=some l->∃r,Instr.fill place cs cp=some r/\Holds w S h μ l r/\l.length=r.size/\r.size=cs.size
 | [],[],z,l,cs,_,o,hl,a=>by simp [M9] at a;subst a;exact ⟨cs,rfl,o,hl,rfl⟩
 | (off,n,x)::r,(i,v)::r',z,l,cs,g,o,hl,a=>by
  obtain ⟨J,H,G⟩:=g;unfold M9 at a;split at a
  ·rename_i c F;split at a
   ·rename_i y;obtain ⟨P,B⟩:=y;obtain ⟨hs,E⟩:=H.cells F;have m:=J92 off v.cells.toList 0 cs (by simp;omega);have d:v.cells.zipIdx.foldl (λcs (p:Value×Nat)=>cs.setIfInBounds (off+p.2) p.1) cs=(v.cells.toList.zipIdx 0).foldl (λcs (p:Value×Nat)=>cs.setIfInBounds (off+p.2) p.1) cs:=by rw [<-Array.foldl_toList];simp
    rw [<-d] at m;obtain ⟨A,O⟩:=m;have f:=o.paste E hs (off:=off) (by omega) (r:=v.cells.zipIdx.foldl (λcs (p:Value×Nat)=>cs.setIfInBounds (off+p.2) p.1) cs) (λj=>by rw [O j];simp);obtain ⟨rr,N,M,L,K⟩:=wo G f (by rw [aY (by omega),A];exact hl) a;refine ⟨rr,?_,M,L,K.trans A⟩;unfold Instr.fill;rw [J];simp only;rw [if_neg (by simp;omega)];exact N
   ·cases a
  ·cases a
 | [],_::_,_,_,_,g,_,_,_=>g.elim
 | _::_,[],_,_,_,g,_,_,_=>by simp [iL] at g
theorem gu{t:TypeId}{z:List AV}(a:zc P t=some z):∃i v,P.info? t=some i/\i.zero=some v/\JC v.cells.toList=some z/\z.length=i.size/\v.cells.size=i.size:=by
 unfold zc at a;split at a
 ·rename_i i hi;split at a
  ·rename_i v f;split at a
   ·rename_i l hl;split at a
    ·rename_i d;injection a with a;subst a;have:=(vP (w:=default) (S:=λ_=>False) hl).1;exact ⟨i,v,hi,f,hl,d,by rw [<-d,this];simp⟩
    ·cases a
   ·cases a
  ·cases a
 ·cases a
theorem Ju0{g k:Nat}{o o':AZ}(E:BK w S h μ)(K:h g=some o)(R:o.ver<o'.ver)(hl:o'.live=true->o.live=true/\o.fz=false)
  (H:∀h' μ',Ci w S h μ w S h' μ'->Cj h μ h' μ'->μ'.o g=k->μ'.b g=μ.b g->EY w S h' μ' (μ.b g) k o') :
  BK w S (upd h g (some o')) (μ.set g (μ.b g) k)/\Ci w S h μ w S (upd h g (some o')) (μ.set g (μ.b g) k)/\Cj h μ (upd h g (some o')) (μ.set g (μ.b g) k):=by
 have v:∀f,(μ.set g (μ.b g) k).b f=μ.b f:=λf=>by
  by_cases m:f=g
  ·subst m;simp [Gh.set,Jj]
  ·simp [Gh.set,Je _ _ _ _ m]
 have back:∀f l,upd h g (some o') f=some l->l.live=true->∃r,h f=some r/\r.live=true/\(l.fz=false->r.fz=false):=λf l h' G=>by
  by_cases m:f=g
  ·subst m;rw [Jj] at h';injection h' with h';subst h';exact ⟨o,K,(hl G).1,λ_=>(hl G).2⟩
  ·rw [Je _ _ _ _ m] at h';exact ⟨l,h',G,λq=>q⟩
 have ev:Ci w S h μ w S (upd h g (some o')) (μ.set g (μ.b g) k):=by refine ⟨rfl,rfl,⟨rfl,Ab _⟩,Ab _,λ_ _ _=>rfl,λ_ cs _ _ O=>⟨cs,O,rfl⟩,λ_ h=>h,λ_ h=>.inl h,?_,rfl⟩;rintro b ⟨f,l,d,y,A,e⟩;rw [v] at e;obtain ⟨r,F,B,J⟩:=back f l d A;exact .inl ⟨f,r,F,J y,B,e⟩
 have vv:Cj h μ (upd h g (some o')) (μ.set g (μ.b g) k):=by
  intro f l d;by_cases m:f=g
  ·subst m;rw [K] at d;injection d with e;subst e;exact ⟨o',Jj _ _ _,by omega,λe=>by omega⟩
  ·exact ⟨l,by rw [Je _ _ _ _ m];exact d,Ab _,λ_=>⟨⟨v _,by simp [Gh.set,Je _ _ _ _ m]⟩,.refl l⟩⟩
 refine ⟨⟨λf l d=>?_,λM L l r Q F N B e=>?_,λf l d y A=>?_,E.lt⟩,ev,vv⟩
 ·rw [v];by_cases m:f=g
  ·subst m;rw [Jj] at d;injection d with e;subst e;have:=H _ _ ev vv (by simp [Gh.set,Jj]) (v _);simpa only [Gh.set,Jj] using this
  ·rw [Je _ _ _ _ m] at d;have:=(E.ob f l d).DK E ev vv (λ_=>rfl);simpa only [Gh.set,Je _ _ _ _ m] using this
 ·rw [v,v] at e;obtain ⟨a,P,la,_⟩:=back M l Q N;obtain ⟨b,v,lb,_⟩:=back L r F B;exact E.inj M L a b P v la lb e
 ·rw [v];obtain ⟨r,F,B,J⟩:=back f l d A;exact E.own f r F (J y) B
theorem aX{g:Nat}{o:AZ}{cells:List AV}{cs:Array Value}{el:TypeId}(l:BK w S h μ)(a:o.ver=Kg h g\/Kg h g<o.ver)
  (r:Holds w S h μ cells cs) (m:(∃v,o=.box v cells/\cs.size=cells.length)\/(∃v esz,o=.arr v esz el cells false/\cells.length<=cs.size)) :
  BK (w.alloc (.cells cs el)) S (upd h g (some o)) (μ.set g w.heap.size 0)/\Ci w S h μ (w.alloc (.cells cs el)) S (upd h g (some o)) (μ.set g w.heap.size 0)/\Cj h μ (upd h g (some o)) (μ.set g w.heap.size 0):=by
 obtain ⟨ev,vv⟩:=J2w (w:=w) (S:=S) (h:=h) (μ:=μ) g o (.cells cs el) a;refine ⟨J42 l a ?_,ev,vv⟩;have d:=heap_alloc_new w (.cells cs el);have f:=(r.DK l ev vv).fq;rcases m with ⟨v,rfl,hs⟩|⟨v,esz,rfl,hs⟩
 ·exact ⟨cs,el,d,by omega,f⟩
 ·exact λ_=>⟨cs,d,by omega,f,λe=>by cases e⟩
theorem Jrt{g:Nat}{cells:List AV}{w':World}:BF w' S (upd h g (some (.box (Kg h g) cells))) (μ.set g w.heap.size 0) (.ptr g (Kg h g) 0) (.pointer (some ⟨w.heap.size,0,none⟩)):=
 .ptr _ _ _ _ _ (Jj _ _ _) (Ab _) rfl λ_=>by simp [Gh.set,Jj]
theorem rM{g v esz n cap:Nat}{el:TypeId}{cells:List AV}{cs:Array Value}(d:n<=cap/\cap<=9223372036854775807)(f:cap * esz<=cs.size)(a:cells=[]->cap=0) :
  BF (w.alloc (.cells cs el)) S (upd h g (some (.arr v esz el cells false))) (μ.set g w.heap.size 0) (.arr g v 0 n) (.slice (some ⟨w.heap.size,0,none⟩) n cap):=
 .arr _ _ _ _ _ _ (Jj _ _ _) (Ab _) rfl λ_=>⟨esz,el,cells,false,rfl,λe=>⟨rfl,by have:=a e;omega,some ⟨w.heap.size,0,none⟩,by have l:=a e;subst l;rw [show n=0 by omega]⟩,λ_=>⟨_,_,cs,el,(0,0),rfl,d,by simp only [Gh.set,Jj];exact heap_alloc_new w _,by simpa [Gh.set,Jj] using f,λ_=>by simp [Gh.set,Jj]⟩⟩
def Ran(w:World)(S:Nat->Prop)(h:Heap)(μ:Gh)(v:AV)(h':Heap)(cv:Value)(w':World):Prop:=
 ∃S' μ',BF w' S' h' μ' v cv/\BK w' S' h' μ'/\Ci w S h μ w' S' h' μ'/\Cj h μ h' μ'
theorem Ran.same{v:AV}{cv:Value}(a:BK w S h μ)(hr:BF w S h μ v cv):Ran w S h μ v h cv w:=⟨S,μ,hr,a,.refl,.refl h μ⟩
theorem Jsr(f:BK w S h μ){e:TypeId}{z:List AV}(a:zc P e=some z)(g:Nat) :
  ∃cv w',(Instr.alloc e true (.tuple #[])).run P w=.ok cv w'/\Ran w S h μ (.ptr g (Kg h g) 0) (upd h g (some (.box (Kg h g) z))) cv w':=by obtain ⟨i,v,hi,d,hl,A,hs⟩:=gu a;have l:=lN (w:=w) (S:=S) (h:=h) (μ:=μ) hl;obtain ⟨y,r,m⟩:=aX (el:=e) (g:=g) (o:=.box (Kg h g) z) (cs:=v.cells) f (.inl rfl) (by simpa using l) (.inl ⟨_,rfl,by omega⟩);exact ⟨.pointer (some ⟨w.heap.size,0,none⟩),w.alloc (.cells v.cells e),by simp [Instr.alloc,zeroValue,typeInfo,hi,d,newVar,newRow],S,_,Jrt,y,r,m⟩
theorem Jy7(a:BK w S h μ){e:TypeId}{x:AV}{cx:Value}{c:List AV}(hr:BF w S h μ x cx)(f:x.cells=some c)(g:Nat) :
  ∃cv w',(Instr.box e cx).run P w=.ok cv w'/\Ran w S h μ (.ptr g (Kg h g) 0) (upd h g (some (.box (Kg h g) c))) cv w':=by obtain ⟨hs,d⟩:=hr.cells f;obtain ⟨r,m,l⟩:=aX (el:=e) (g:=g) (o:=.box (Kg h g) c) (cs:=cx.cells) a (.inl rfl) d (.inl ⟨_,rfl,hs⟩);exact ⟨.pointer (some ⟨w.heap.size,0,none⟩),w.alloc (.cells cx.cells e),by simp [Instr.box,newVar,newRow],S,_,Jrt,r,m,l⟩
theorem wY{nt:Nat}{σ:St}{a:Act}(hs:DR nt w S σ μ a){place:Nat->Option (Nat×Nat)}:∀ {ps:List (Nat×Operand)} {l:List (Nat×Nat×LO)},iJ place ps=some l ->
  iL σ.ev w S σ.h μ place l (ps.map λ(i,x)=>(i,a.eval x))
 | [],l,hl=>by simp [iJ] at hl;subst hl;trivial
 | (i,x)::r,l,hl=>by
  unfold iJ at hl;split at hl
  ·rename_i off n y h g f d;injection hl with hl;subst hl;exact ⟨g,Jx hs f,wY hs d⟩
  ·cases hl
theorem Jsh{t:TypeId}{z l:List AV}{ev:LO->AV}{ps:List (Nat×Nat×LO)}{cp:Array (Nat×Value)}(G:zc P t=some z)
  (hd:(∃fs pl,P.underlying t=some (.struct fs)/\fs.toList.mapM (λf=>(P.info? f.type).map λi=>(f.offset,i.size))=some pl/\iL ev w S h μ (λi=>pl[i]?) ps cp.toList) \/
   (∃n e i,P.underlying t=some (.array n e)/\P.info? e=some i/\iL ev w S h μ (λk=>some (k * i.size,i.size)) ps cp.toList))
  (F:M9 ev z ps=some l):∃cv,(Instr.build t cp).run P w=.ok cv w/\BF w S h μ (.agg l) cv:=by
 obtain ⟨i,v,hi,E,hl,H,hs⟩:=gu G;have d:=lN (w:=w) (S:=S) (h:=h) (μ:=μ) hl;have fin:∀ {r:Array Value},Holds w S h μ l r->l.length=r.size->BF w S h μ (.agg l) (.agg r):=λd hl=>.agg _ _ hl (λi x hi=>(d i x hi).2) (λi x hi=>(d i x hi).1);rcases hd with ⟨fs,pl,g,m,a⟩|⟨n,e,ie,g,o,a⟩
 ·obtain ⟨r,B,A,y,_⟩:=wo a (by simpa using d) (by omega) F;refine ⟨.agg r,run_build w t cp r ?_,fin A y⟩;simp only [Program.built,hi,g,E,m];simpa using B
 ·obtain ⟨r,B,A,y,_⟩:=wo a (by simpa using d) (by omega) F;refine ⟨.agg r,run_build w t cp r ?_,fin A y⟩;simp only [Program.built,hi,g,E,o];exact B
theorem lU(z:List AV):∀n,(z8 z n).length=n * z.length
 | 0=>by simp [z8]
 | n+1=>by simp [z8,lU z n,Ac,Nat.add_comm]
theorem wm{z:List AV}(a:0<z.length):∀(n i:Nat),i<n * z.length->(z8 z n)[i]?=z[i % z.length]?
 | 0,i,h=>by simp at h
 | n+1,i,h=>by
  unfold z8;by_cases hi:i<z.length
  ·rw [Ae hi,Nat.mod_eq_of_lt hi]
  ·rw [Ad (by omega),wm a n _ (by rw [Ac] at h;omega)]
   congr 1
   rw [<-Nat.mod_eq_sub_mod (by omega)]
theorem Juv{z:List AV}{zv:Array Value}(g:Holds w S h μ z zv)(hs:zv.size=z.length)(d:0<z.length)(n:Nat) :
  Holds w S h μ (z8 z n) ((Array.range (n * z.length)).map (zv[· % zv.size]!)):=by
 intro i x hi;have a:i<n * z.length:=by have:=(Aa.1 hi).1;rwa [lU] at this
 rw [wm d n i a] at hi;have:=g _ x hi;have f:i % z.length<zv.size:=by rw [hs];exact Nat.mod_lt _ d
 have e:((Array.range (n * z.length)).map (zv[· % zv.size]!)).getD i undef=zv.getD (i % z.length) undef:=by
  have l:zv[i % z.length]! = zv[i % z.length]?.getD undef:=by rw [getElem!_pos zv _ f];simp [f]
  simp [a,hs,l]
 rw [e];exact this
theorem Jx5(K:BK w S h μ){t e:TypeId}{n:Nat}{i:TypeInfo}{z l:List AV}{ev:LO->AV}{ps:List (Nat×Nat×LO)}{cp:Array (Nat×Value)}(F:P.underlying t=some (.slice e))(hi:P.info? e=some i)(G:zc P e=some z)
  (J:n * i.size<=16777216) (A:0<i.size) (y:iL ev w S h μ (λk=>some (k * i.size,i.size)) ps cp.toList) (N:M9 ev (z8 z n) ps=some l) (g:Nat) :
  ∃cv w',(Instr.buildSlice t n cp).run P w=.ok cv w'/\Ran w S h μ (.arr g (Kg h g) 0 n) (upd h g (some (.arr (Kg h g) i.size e l false))) cv w':=by
 obtain ⟨i',v,a,H,hl,B,hs⟩:=gu G;rw [hi] at a;injection a with a;subst a;have L:=lN (w:=w) (S:=S) (h:=h) (μ:=μ) hl;have f:=Juv (zv:=v.cells) (by simpa using L) (by omega) (by omega) n;obtain ⟨r,E,g2,Z,Y⟩:=wo y f (by simp [lU]) N;have m:(Instr.buildSlice t n cp).run P w=.ok (.slice (some ⟨w.heap.size,0,none⟩) n n) (w.alloc (.cells r e)):=by
  rcases Am n with d|d
  ·subst d;have M:Instr.fill (λk=>some (k * i.size,i.size)) #[] cp.toList=some r:=by simpa [Array.range_zero'] using E
   simp [Instr.buildSlice,run_underlying F,sizeOf,typeInfo,hi,newRow,M,Array.range_zero']
  ·exact run_buildSlice w t e n cp r i v F hi H (by omega) (by have:=Nat.mul_pos d A;omega) (by rw [<-B];rw [<-B] at E;exact E)
 have hr:r.size=n * i.size:=by rw [Y];simp [B]
 obtain ⟨X,R,Q⟩:=aX (el:=e) (g:=g) (o:=.arr (Kg h g) i.size e l false) (cs:=r) K (.inl rfl) g2 (.inr ⟨_,_,rfl,by omega⟩);exact ⟨_,_,m,S,_,rM ⟨Ab _,Aq (Nat.le_mul_of_pos_right n A) (by omega)⟩ (by omega) (λe=>by
  subst e;have:n * i.size=0:=by rw [<-hr];simpa using Z.symm
  rcases Ay.1 this with O|O<;>omega),X,R,Q⟩
theorem J67(L:BK w S h μ){t e:TypeId}{i:TypeInfo}{z:List AV}(K:P.underlying t=some (.slice e))(hi:P.info? e=some i)(H:zc P e=some z)(N:0<i.size){k k':IntKind}{n m:Int}
  (h0:0<=n) (E:n<=m) (B:n=0->m=0) (Q:m * i.bytes<=room) (M:m<=9223372036854775807) (g:Nat) :
  ∃cv w',(Instr.makeSlice t (.int k n) (.int k' m)).run P w=.ok cv w'/\Ran w S h μ (.arr g (Kg h g) 0 n.toNat) (upd h g (some (.arr (Kg h g) i.size e (z8 z n.toNat) false))) cv w':=by
 obtain ⟨i',v,a,J,hl,G,hs⟩:=gu H;rw [hi] at a;injection a with a;subst a;have O:=lN (w:=w) (S:=S) (h:=h) (μ:=μ) hl;have d:=Juv (zv:=v.cells) (by simpa using O) (by omega) (by omega) m.toNat;have l:=run_make (P:=P) w t e i v K hi J k k' n m h0 E (by rw [Int.mul_comm];unfold room at Q;omega) M;have f:n.toNat<=m.toNat:=by omega
 have r:Holds w S h μ (z8 z n.toNat) (madeCells v.cells (m.toNat * i.size)):=by
  intro j x F;have A:j<n.toNat * z.length:=by have:=(Aa.1 F).1;rwa [lU] at this
  have y:j<m.toNat * z.length:=Nat.lt_of_lt_of_le A (Ag _ f);rw [wm (by omega) _ _ A] at F;have:=d j x (by rw [wm (by omega) _ _ y];exact F);rw [G] at this;exact this
 obtain ⟨Z,Y,X⟩:=aX (el:=e) (g:=g) (o:=.arr (Kg h g) i.size e (z8 z n.toNat) false) (cs:=madeCells v.cells (m.toNat * i.size)) L (.inl rfl) r
  (.inr ⟨_,_,rfl,by rw [lU,size_madeCells,G];exact Ag _ f⟩)
 exact ⟨_,_,l,S,_,rM ⟨f,by omega⟩ (by rw [size_madeCells];exact Ab _) (λe=>by
  have:=lU z n.toNat;rw [e] at this;rcases Ay.1 this.symm with R|R
  ·have:=B (by omega);omega
  ·omega),Z,Y,X⟩
end
theorem Jmt(cur:Array Value)(vs:List Value)(o:Nat)(h:o+vs.length<=cur.size)(i:Nat) :
  (cur.toList.take o++vs++cur.toList.drop (o+vs.length)).toArray.getD i undef=if o<=i/\i<o+vs.length then vs.getD (i - o) undef else cur.getD i undef:=by
 have hl:o+vs.length<=cur.toList.length:=by simpa using h
 have e:((cur.toList.take o++vs++cur.toList.drop (o+vs.length)).toArray.getD i undef)=(cur.toList.take o++vs++cur.toList.drop (o+vs.length))[i]?.getD undef:=by simp
 rw [e];by_cases a:i<o
 ·rw [if_neg (by omega),Aw,Ae (by simp;omega),Aj,if_pos a];simp
 ·by_cases f:i<o+vs.length
  ·rw [if_pos (by omega),Aw,Ad (by simp;omega),Ae (by simp;omega)];simp only [List.getD_eq_getElem?_getD]
   congr 2
   simp;omega
  ·rw [if_neg (by omega),Ad (by simp;omega),Ak];have d:(o+vs.length+(i - (cur.toList.take o++vs).length))=i:=by simp;omega
   rw [d];simp
section
variable {w:World} {S:Nat->Prop} {h:Heap} {μ:Gh} {P:Program}
theorem Cv.paste{l new:List AV}{cs vs r:Array Value}{o off:Nat}(hl:Cv w S h μ o l cs)(f:Holds w S h μ new vs)(a:vs.size=new.length)(d:off+new.length<=l.length)
  (hr:∀i,r.getD i undef=if o+off<=i/\i<o+off+vs.size then vs.getD (i - (o+off)) undef else cs.getD i undef):Cv w S h μ o (paste l off new) r:=by
 intro i x hi;rw [aj d] at hi;rw [hr (o+i),a];split at hi
 ·rename_i g;rw [if_pos (by omega),show o+i - (o+off)=i - off by omega];exact f _ x hi
 ·rename_i g;rw [if_neg (by omega)];exact hl _ x hi
theorem Jxp{c:List AV}{vs:Array Value}(f:Holds w S h μ c vs)(hs:vs.size=c.length):∀v∈vs.toList,v.oneCell'=true:=by
 intro v d;obtain ⟨i,hi,e⟩:=List.getElem_of_mem d;have a:i<vs.size:=by simpa using hi
 have:=(f i c[i] (Av (by omega))).2;rw [show vs.getD i undef=v by simp [a];simpa using e] at this;exact this
theorem Jqq(Q:BK w S h μ){t:TypeId}{n:Nat}(hn:E8 P t=some n){x y:AV}{cx cy:Value}{h':Heap}(hx:BF w S h μ x cx)(hy:BF w S h μ y cy)(d:Sn h n x y=some h') :
  ∃w',(Instr.storeAt t cx cy).run P w=.ok () w'/\Ran w S h μ .any h' undef w':=by
 unfold Sn at d;split at d
 ·rename_i g ver off c hc;obtain ⟨hs,hh⟩:=hy.cells hc;split at d
  ·rename_i hcn;subst hcn;have go:∀(o o':AZ) (cells:List AV) (cs:Array Value) (el:TypeId),h g=some o->o.fz=false->o.live=true->o'.ver=o.ver->o.like o'->ver=o.ver->w.heap[μ.b g]?=some (.cells cs el (0,0))->μ.o g+cells.length<=cs.size->Cv w S h μ (μ.o g) cells cs ->
     off+c.length<=cells.length ->
     (∀r:Array Value,r.size=cs.size->∀S' h' μ' w',w'.heap[μ.b g]?=some (.cells r el (0,0))->Cv w' S' h' μ' (μ.o g) (paste cells off c) r->EY w' S' h' μ' (μ.b g) (μ.o g) o') ->
     ∃w',(Instr.storeAt t cx cy).run P w=.ok () w'/\Ran w S h μ .any (upd h g (some o')) undef w':=by
    intro o o' cells cs el A Y X hov H N L m a f R;have Z:=hx.Eh (by simp [cur,A,N]);subst Z;have G:=run_storeCells_at P (μ.b g) (μ.o g+off) el cy.cells.toList 0 cs w L (by simp;omega) (Jxp hh hs);simp only [Bg] at G;have E:=Jmt cs cy.cells.toList (μ.o g+off) (by simp;omega);generalize hr:(cs.toList.take (μ.o g+off)++cy.cells.toList++cs.toList.drop (μ.o g+off+cy.cells.toList.length)).toArray=r at G E;have O:r.size=cs.size:=by rw [<-hr];simp;omega
    have F:∀old el' z,w.heap[μ.b g]?=some (.cells old el' z)->r.size=old.size:=λold el' z e=>by rw [L] at e;injection e with e;injection e with e;subst e;exact O
    have M:o.ver<o'.ver\/o.ver=o'.ver/\μ.o g=μ.o g/\o.like o':=.inr ⟨hov.symm,rfl,H⟩;obtain ⟨ev,vv⟩:=uh (S:=S) A Y X M F;have v:=(a.DK Q ev vv).paste (hh.DK Q ev vv) hs f (r:=r) (λi=>by rw [E i];simp);have l:=setRow_heap w (μ.b g) cs r el (0,0) L;refine ⟨w.setRow (μ.b g) r,?_,S,_,.any _,Jxn Q A Y X M F (R r O _ _ _ _ l v),ev,vv⟩;simp [Instr.storeAt,Instr.sureAddr,storeVar,run_sizeOf hn,hs,G]
   split at d
   ·rename_i ver' cells A;split at d
    ·rename_i K;obtain ⟨rfl,f⟩:=K;injection d with d;subst d;obtain ⟨cs,el,L,m,a⟩:=Q.ob g _ A;exact go _ (.box ver _) cells cs el A rfl rfl rfl rfl rfl L m a f (λr hr S' h' μ' w' l J=>⟨r,el,l,by rw [aY f];omega,J⟩)
    ·cases d
   ·rename_i ver' esz el cells A;split at d
    ·rename_i K;obtain ⟨rfl,f,B⟩:=K;injection d with d;subst d;obtain ⟨cs,L,m,a,_⟩:=Q.ob g _ A B;have hpn:paste cells off c≠[]:=λe=>B (by have:=aY f;rw [e] at this;exact Az this.symm);exact go _ (.arr ver esz el _ false) cells cs el A rfl (Qj.2 B) rfl ⟨rfl,rfl,λe=>(B e).elim,λe=>(hpn e).elim⟩ rfl L m a f (λr hr S' h' μ' w' l J=>λ_=>⟨r,l,by rw [aY f];omega,J,λe=>by cases e⟩)
    ·cases d
   ·cases d
  ·cases d
 ·cases d
theorem Jqy(X:BK w S h μ){esz:Nat}{y:AV}{cy:Value}{m:Int}{new:List AV}(H:BF w S h μ y cy)(E:C9 h y=some m)(d:Ii h esz y=some new) :
  ∃(n:Nat) (A:Option Addr) (c:Nat),m=n/\cy=.slice A n c/\new.length=n * esz/\(A=none->n=0/\c=0)/\∀a,A=some a->∀i x,new[i]?=some x->∃v,w.cell? (a.add i)=some v/\v.oneCell'=true/\BF w S h μ x v:=by
 unfold Ii at d;split at d
 ·simp [C9] at E;injection d with d;subst d E;exact ⟨0,none,0,rfl,H.Cg,by simp,λ_=>⟨rfl,rfl⟩,λa r=>by cases r⟩
 ·rename_i n l;simp [C9] at E;split at d
  ·rename_i hl;injection d with d;subst d E;cases H with
   | pure K=>
    cases K with
    | ER=>exact ⟨0,none,0,rfl,rfl,by simp,λ_=>⟨rfl,rfl⟩,λa r=>by cases r⟩
    | CB _ _ a cap cv hs Z N Y hr=>exact ⟨n,some a,cap,rfl,rfl,hl,(λe=>by cases e),λa' r i x hi=>by injection r with r;subst r;exact ⟨cv i,N i x hi,Y i x hi,.pure (hr i x hi)⟩⟩
  ·cases d
 ·rename_i g ver off len;split at d
  ·rename_i ver' esz' el cells fz J;split at d
   ·rename_i N;obtain ⟨rfl,rfl,M⟩:=N;injection d with d;subst d;simp [C9,GX,J] at E;subst E;by_cases o:cells=[]
    ·obtain ⟨rfl,rfl,A,rfl⟩:=(H.DJ J).1 o;exact ⟨0,A,0,rfl,rfl,by simp [cut],λ_=>⟨rfl,rfl⟩,λa _ i x hi=>by simp [cut] at hi⟩
    obtain ⟨a,cap,cs,el',z,rfl,hl,hb,R,r⟩:=H.EB J o;obtain ⟨cs',O,P,f,_⟩:=X.ob g _ J o;refine ⟨len,some a,cap,rfl,rfl,by simp [cut];rw [Ac] at M;omega,(λe=>by cases e),λa' B i x hi=>?_⟩;injection B with B;subst B;simp only [cut,Aj,Ak] at hi;split at hi
    ·rename_i L;have F:0<cap:=by
      rcases Am len with Q|Q
      ·subst Q;simp at L
      ·omega
     have G:μ.o g+(off * esz+i)<cs'.size:=by have:=(Aa.1 hi).1;omega
     refine ⟨cs'.getD (μ.o g+(off * esz+i)) undef,?_,(f _ x hi).2,(f _ x hi).1⟩;rw [r F,iV O,Ah,getD_some G]
    ·cases hi
   ·cases d
  ·cases d
 ·cases d
def zj(w:World)(a:Addr)(n:Nat):List Value:=(List.range n).map λi=>(w.cell? (a.add i)).getD undef
theorem J5k{a:Addr}{n i:Nat}{v:Value}(h:(zj w a n)[i]?=some v)(f:∃u,w.cell? (a.add i)=some u):w.cell? (a.add i)=some v:=by
 obtain ⟨u,d⟩:=f;simp only [zj,List.getElem?_map] at h;cases hr:(List.range n)[i]? with
 | none=>rw [hr] at h;cases h
 | some j=>
  rw [hr] at h;have:j=i:=by have:=Aa.1 hr;obtain ⟨l,g⟩:=this;simpa using g.symm
  subst this;simp [d] at h;rw [d,h]
theorem rV{a:Addr}{l:List AV}(f:∀(i:Nat) (x:AV),l[i]?=some x->∃v,w.cell? (a.add i)=some v/\v.oneCell'=true/\BF w S h μ x v):Holds w S h μ l (zj w a l.length).toArray:=by
 intro i x hi;obtain ⟨v,o,m,g⟩:=f i x hi;have d:=(Aa.1 hi).1;have e:(zj w a l.length).toArray.getD i undef=v:=by simp [zj,d,o]
 rw [e];exact ⟨g,m⟩
theorem rW{a:Addr}{l:List AV}(g:∀(i:Nat) (x:AV),l[i]?=some x->∃v,w.cell? (a.add i)=some v/\v.oneCell'=true/\BF w S h μ x v) :
  (zj w a l.length).length=l.length/\∀j v,(zj w a l.length)[j]?=some v->w.cell? (a.add j)=some v:=by
 refine ⟨by simp [zj],λj v f=>J5k f ?_⟩;have d:j<l.length:=by have:=(Aa.1 f).1;simpa [zj] using this
 obtain ⟨v,m,_⟩:=g j l[j] (Av d);exact ⟨v,m⟩
theorem Holds.append{l m:List AV}{a b:Array Value}(hl:Holds w S h μ l a)(hs:a.size=l.length)(f:Holds w S h μ m b)(d:b.size=m.length)(c:Array Value):Holds w S h μ (l++m) (a++b++c):=by
 intro i x hi;by_cases g:i<l.length
 ·rw [Ae g] at hi;have:=hl i x hi;have e:(a++b++c).getD i undef=a.getD i undef:=by simp only [As];rw [Ap (by simp;omega),Ap (by omega)]
  rw [e];exact this
 ·rw [Ad (by omega)] at hi;have o:=(Aa.1 hi).1;have:=f _ x hi;have e:(a++b++c).getD i undef=b.getD (i - l.length) undef:=by simp only [As];rw [Ap (by simp;omega),Array.getElem?_append_right (by omega),hs]
  rw [e];exact this
theorem Holds.front{m:List AV}{b:Array Value}(a:Holds w S h μ m b)(hs:b.size=m.length)(c:Array Value):Holds w S h μ m (b++c):=by
 intro i x hi;have d:=(Aa.1 hi).1;have e:(b++c).getD i undef=b.getD i undef:=by simp only [As];rw [Ap (by omega)]
 rw [e];exact a i x hi
theorem J6o(N:BK w S h μ){t ty e:TypeId}{ts:Array TypeId}(H:ts[0]?=some t){sz:Nat}(Z:P.underlying t=some (.slice e))(J:E8 P e=some sz){x y v:AV}{cx cy:Value}{h':Heap}
  (hx:BF w S h μ x cx) (hy:BF w S h μ y cy) (d:mK h sz x y=some (v,h')):∃cv w',(Builtin.copy_ ts ty #[cx,cy]).run P w=.ok cv w'/\Ran w S h μ v h' cv w':=by
 unfold mK at d;split at d
 case h_2=>cases d
 rename_i m new hm he;obtain ⟨n,A,c,rfl,rfl,hnl,hA,B⟩:=Jqy N hy hm he;split at d
 case h_2=>cases d
 rename_i g ver off len;split at d
 case h_2=>cases d
 rename_i ver' esz' el cells R;split at d
 case isFalse=>cases d
 rename_i hc;obtain ⟨rfl,rfl,hle,f⟩:=hc;injection d with d;simp only [Ai,Ar] at d;obtain ⟨rfl,rfl⟩:=d;obtain ⟨a,cap,cs0,el0,z0,rfl,hl,hb0,hsz0,ha⟩:=hx.EB R f;obtain ⟨cs,hb,hszc,hcs,_⟩:=N.ob g _ R f;generalize X:Nat.min n len=k;have hkn:k<=n:=by rw [<-X];exact Nat.min_le_left ..
 have hkl:k<=len:=by rw [<-X];exact Nat.min_le_right ..
 have hkz:k * sz<=len * sz:=Ag _ hkl;have hkz2:k * sz<=n * sz:=Ag _ hkn;rw [Ac] at hle;have F:(new.take (k * sz)).length=k * sz:=by rw [Ba];omega
 have L:off * sz+(new.take (k * sz)).length<=cells.length:=by omega
 by_cases M:k * sz=0
 ·have e1:paste cells (off * sz) (new.take (k * sz))=cells:=by rw [M];simp [paste]
  have e2:upd h g (some (.arr ver sz el (paste cells (off * sz) (new.take (k * sz))) false))=h:=by
   rw [e1];funext q;simp only [upd];split
   ·rename_i hq;rw [hq,R]
   ·rfl
  rw [e2];refine ⟨.int .i64 (k:Nat),w,?_,Ran.same N (.pure (.int _ _))⟩;cases A with
  | none=>simp [Builtin.copy_,H,run_underlying Z,Builtin.lenOf,Builtin.firstCells,run_sizeOf J,X,storeCells,goInt]
  | some a'=>simp [Builtin.copy_,H,run_underlying Z,Builtin.lenOf,Builtin.firstCells,run_sizeOf J,X,M,loadCells,loadCellsFrom,storeCells,goInt]
 ·have hk1:0<k:=Nat.pos_of_ne_zero λq=>M (by rw [q,Bf]);obtain rfl:=ha (by omega);cases A with
  | none=>have:=(hA rfl).1;omega
  | some a'=>
   have Y:∀(i:Nat) (x:AV),(new.take (k * sz))[i]?=some x->∃v,w.cell? (a'.add i)=some v/\v.oneCell'=true/\BF w S h μ x v:=λi x hi=>by
    rw [Aj] at hi;split at hi
    ·exact B a' rfl i x hi
    ·cases hi
   obtain ⟨v1,v2⟩:=rW Y;have hh:=rV Y;generalize zj w a' (new.take (k * sz)).length=vs at v1 v2 hh;rw [F] at v1;have l:=run_loadCells_list (P:=P) w a' vs v2;rw [v1] at l;have Q:vs.toArray.size=(new.take (k * sz)).length:=by rw [F,<-v1];simp
   have K:=run_storeCells_at P (μ.b g) (μ.o g+off * sz) el vs 0 cs w hb (by omega) (by simpa using Jxp hh Q);simp only [Bg] at K;have E:=Jmt cs vs (μ.o g+off * sz) (by omega);generalize hr:(cs.toList.take (μ.o g+off * sz)++vs++cs.toList.drop (μ.o g+off * sz+vs.length)).toArray=r at K E;have hrs:r.size=cs.size:=by rw [<-hr];simp;omega
   have G:∀old el' z,w.heap[μ.b g]?=some (.cells old el' z)->r.size=old.size:=λold el' z e=>by rw [hb] at e;injection e with e;injection e with e;subst e;exact hrs
   have hpn:paste cells (off * sz) (new.take (k * sz))≠[]:=λe=>f (by have:=aY L;rw [e] at this;exact Az this.symm);have O:(AZ.arr ver sz el cells false).ver<(AZ.arr ver sz el (paste cells (off * sz) (new.take (k * sz))) false).ver\/(AZ.arr ver sz el cells false).ver=(AZ.arr ver sz el (paste cells (off * sz) (new.take (k * sz))) false).ver/\μ.o g=μ.o g/\(AZ.arr ver sz el cells false).like (AZ.arr ver sz el (paste cells (off * sz) (new.take (k * sz))) false):=
    .inr ⟨rfl,rfl,rfl,rfl,λe=>(f e).elim,λe=>(hpn e).elim⟩
   obtain ⟨ev,vv⟩:=uh (S:=S) R rfl (Qj.2 f) O G;have o:=(hcs.DK N ev vv).paste (hh.DK N ev vv) Q L (r:=r) (λi=>by rw [E i];simp);have hb':=setRow_heap w (μ.b g) cs r el (0,0) hb;refine ⟨.int .i64 (k:Nat),w.setRow (μ.b g) r,?_,S,_,.pure (.int _ _),Jxn N R rfl (Qj.2 f) O G (λ_=>⟨r,hb',by rw [aY L];omega,o,λe=>by cases e⟩),ev,vv⟩;simp [Builtin.copy_,H,run_underlying Z,Builtin.lenOf,Builtin.firstCells,run_sizeOf J,X,l,K,goInt]
theorem Xe{a:Addr}{n:Nat}:(zj w a n).toArray.size=n:=by simp [zj]
theorem Jw4{n b:Nat}(h:(n:Int) * (b:Int)<=(room:Nat)):n * b<=140737488355328:=by
 unfold room at h
 exact_mod_cast h
theorem J99{w:World}{need old:Nat}{e:TypeId}(h:(need:Int)<=9223372036854775807):grownCap w need old e<=9223372036854775807:=by have:=grownCap_le_maxLen w need old e (by unfold maxLen;omega);unfold maxLen at this;omega
theorem mG{t ty e:TypeId}{i:TypeInfo}(f:P.underlying t=some (.slice e))(hi:P.info? e=some i)(a:Addr)(len cap:Nat)(d:len<=cap)(A:Option Addr)(c:Nat) :
  (Builtin.append_ #[t,t] ty #[.slice (some a) len cap,.slice A 0 c]).run P w=.ok (.slice (some a) len cap) w:=by cases A<;>simp [Builtin.append_,run_underlying f,sizeOf,typeInfo,hi,Builtin.lenOf,Builtin.firstCells,loadCells,loadCellsFrom,d,storeCells]
theorem xU{t ty e:TypeId}{i:TypeInfo}(a:P.underlying t=some (.slice e))(hi:P.info? e=some i)(A0:Option Addr)(A:Option Addr)(c:Nat) :
  (Builtin.append_ #[t,t] ty #[.slice A0 0 0,.slice A 0 c]).run P w=.ok (.slice A0 0 0) w:=by cases A<;>cases A0<;>simp [Builtin.append_,run_underlying a,sizeOf,typeInfo,hi,Builtin.lenOf,Builtin.firstCells,loadCells,loadCellsFrom,storeCells]
theorem vZ(J:BK w S h μ){t ty e:TypeId}{i:TypeInfo}{z:List AV}(R:P.underlying t=some (.slice e))(hi:P.info? e=some i)(hz:zc P e=some z)(hi0:0<i.size){x y v:AV}{cx cy:Value}{g0:Nat}{h':Heap}
  (hx:BF w S h μ x cx) (hy:BF w S h μ y cy) (d:EN h g0 i.size i.bytes e x y=some (v,h')):∃cv w',(Builtin.append_ #[t,t] ty #[cx,cy]).run P w=.ok cv w'/\Ran w S h μ v h' cv w':=by
 obtain ⟨i',zv,hi',hzv,hzl,hzn,hzs⟩:=gu hz;rw [hi] at hi';injection hi' with hi';subst hi';unfold EN at d;split at d
 ·rename_i m new hm he;obtain ⟨n,A,c,rfl,rfl,B,hA,K⟩:=Jqy J hy hm he;have F:new=[]->n=0:=λH=>by
   subst H;rcases Ay.1 B.symm with h1|h1
   ·exact h1
   ·omega
  split at d
  ·-- nil
   rw [hx.Cg];split at d
   ·rename_i f;injection d with d;simp only [Ai] at d;obtain ⟨rfl,rfl⟩:=d;have hn:=F f;subst hn;refine ⟨.slice none 0 0,w,?_,Ran.same J (.pure .BM)⟩;cases A with
    | none=>simp [Builtin.append_,run_underlying R,sizeOf,typeInfo,hi,Builtin.lenOf,Builtin.firstCells]
    | some a=>simp [Builtin.append_,run_underlying R,sizeOf,typeInfo,hi,Builtin.lenOf,Builtin.firstCells,loadCells,loadCellsFrom]
   ·rename_i f;split at d
    ·rename_i hb;injection d with d;simp only [Ai] at d;obtain ⟨rfl,rfl⟩:=d;have hn0:0<n:=by
      rcases Am n with H|H
      ·subst H;simp at B;exact absurd B f
      ·exact H
     cases A with
     | none=>have:=(hA rfl).1;omega
     | some a=>
      have N:=K a rfl;obtain ⟨v1,v2⟩:=rW N;have hh:=rV N;have L:=run_append_nil (P:=P) w t ty e i zv R hi hzv a n c (zj w a new.length) (by rw [v1,B]) v2 hn0 hb.2 (by have:=Jw4 hb.1;omega);have hge:=grownCap_ge w n 0 e;obtain ⟨h1,h2,h3⟩:=aX (w:=w.drew) (el:=e) (g:=g0) (o:=.arr (Kg h g0+1) i.size e new false) (cs:=(zj w a new.length).toArray++Builtin.zeroCells zv.cells (grownCap w n 0 e - n))
       (J.of_same (w':=w.drew) rfl rfl rfl ⟨rfl,Bd _⟩) (.inr (by simp [AZ.ver])) (λj x E=>⟨((hh.front Xe _) j x E).1.DK J Ti (.refl h μ),((hh.front Xe _) j x E).2⟩) (.inr ⟨_,_,rfl,by rw [Ao,Xe];omega⟩)
      refine ⟨_,_,L,S,_,?_,h1,Ti.trans h2,h3⟩;simp only [Ar];refine rM ⟨hge,J99 hb.2⟩ ?_ (λe=>(f e).elim);simp only [Ao,Xe,B,size_zeroCells,hzs,<-Ac];exact Ag _ (by omega)
    ·cases d
  ·rename_i g ver off len;split at d
   ·rename_i ver' esz' el' cells Z;split at d
    case isFalse=>cases d
    rename_i hcond;obtain ⟨e1,e2,e3,hend,G⟩:=hcond;have cutg:∀(j:Nat) (x:AV),(cut cells (off * i.size) (len * i.size))[j]?=some x->j<len * i.size/\cells[off * i.size+j]?=some x:=λj x E=>by
     unfold cut at E;have hlt:=(Aa.1 E).1;rw [Ba] at hlt;have hlt':j<len * i.size:=by omega
     rw [List.getElem?_take_of_lt hlt',Ak] at E;exact ⟨hlt',E⟩
    subst e1 e2 e3;by_cases l:cells=[]
    ·obtain ⟨rfl,rfl,A0,rfl⟩:=(hx.DJ Z).1 l;subst l;rw [if_neg (by simp)] at d;have hc0:cut ([]:List AV) (0 * i.size) (0 * i.size)++new=new:=by simp [cut]
     rw [hc0] at d;injection d with d;simp only [Ai] at d;obtain ⟨rfl,rfl⟩:=d;by_cases f:new=[]
     ·have hn:=F f;subst hn f;obtain ⟨b1,b2,b3⟩:=Ju0 (k:=0) J Z (o':=.arr (ver+1) i.size e [] false) (by simp [AZ.ver]) (λq=>by simp [AZ.live] at q) (λ_ _ _ _ _ _ q=>(q rfl).elim);refine ⟨.slice A0 0 0,w,?_,S,_,.arr _ _ _ _ _ _ (Jj _ _ _) (Ab _) rfl λ_=>⟨_,_,_,_,rfl,λ_=>⟨rfl,rfl,A0,rfl⟩,λq=>(q rfl).elim⟩,b1,b2,b3⟩;cases A<;>cases A0<;>simp [Builtin.append_,run_underlying R,sizeOf,typeInfo,hi,Builtin.lenOf,Builtin.firstCells,loadCells,loadCellsFrom,storeCells]
     ·have hn0:0<n:=by
       rcases Am n with H|H
       ·subst H;simp at B;exact absurd B f
       ·exact H
      cases A with
      | none=>have:=(hA rfl).1;omega
      | some ay=>
       have N:=K ay rfl;obtain ⟨v1,v2⟩:=rW N;have Y:=rV N;have hbd:n * i.bytes<=140737488355328:=Jw4 (by simpa using G.1);have L:(Builtin.append_ #[t,t] ty #[.slice A0 0 0,.slice (some ay) n c]).run P w=.ok (.slice (some ⟨w.heap.size,0,none⟩) n (grownCap w n 0 e)) (w.drew.alloc (.cells ((zj w ay new.length).toArray++Builtin.zeroCells zv.cells (grownCap w n 0 e - n)) e)):=by
        cases A0 with
        | none=>exact run_append_nil (P:=P) w t ty e i zv R hi hzv ay n c (zj w ay new.length) (by rw [v1,B]) v2 hn0 (by have:=G.2;omega) (by omega)
        | some a0=>
         have:=run_append_grow (P:=P) w t ty e i zv R hi hzv a0 0 0 [] (by simp) (λj v E=>by simp at E) ay n c (zj w ay new.length) (by rw [v1,B]) v2 (by omega) (by have:=G.2;omega) (growslice_fits (by omega) (by simpa using hbd));simpa using this
       have hge:=grownCap_ge w n 0 e;obtain ⟨h1,h2,h3⟩:=aX (w:=w.drew) (el:=e) (g:=g) (o:=.arr (ver+1) i.size e new false) (cs:=(zj w ay new.length).toArray++Builtin.zeroCells zv.cells (grownCap w n 0 e - n))
        (J.of_same (w':=w.drew) rfl rfl rfl ⟨rfl,Bd _⟩) (.inl (by simp [AZ.ver,Kg,Z])) (λj x E=>⟨((Y.front Xe _) j x E).1.DK J Ti (.refl h μ),((Y.front Xe _) j x E).2⟩) (.inr ⟨_,_,rfl,by rw [Ao,Xe];omega⟩)
       refine ⟨_,_,L,S,_,?_,h1,Ti.trans h2,h3⟩;simp only [Ar,Nat.zero_add];refine rM ⟨hge,J99 (by have:=G.2;omega)⟩ ?_ (λe=>(f e).elim);simp only [Ao,Xe,B,size_zeroCells,hzs,<-Ac];exact Ag _ (by omega)
    ·obtain ⟨a,cap,cs0,el0,z0,rfl,Q,hb0,X,ha⟩:=hx.EB Z l;obtain ⟨cs,hb,hsz,hh,_⟩:=J.ob g _ Z l;rw [hb] at hb0;injection hb0 with hb0;injection hb0 with e1 e2 e3;subst e1 e2 e3;have M:(cut cells (off * i.size) (len * i.size)).length=len * i.size:=by unfold cut;rw [Ba,List.length_drop];rw [Ac] at hend;omega
     split at d
     ·rename_i f;obtain ⟨-,rfl,f⟩:=f;injection d with d;simp only [Ai] at d;obtain ⟨rfl,rfl⟩:=d;have hn:=F f;subst hn;exact ⟨.slice (some a) 0 cap,w,mG R hi a 0 cap (Nat.zero_le _) A c,Ran.same J hx⟩
     ·rename_i hcase;injection d with d;simp only [Ai] at d;obtain ⟨rfl,rfl⟩:=d;by_cases f:new=[]
      ·have hn:=F f;subst hn f;have hl0:0<len:=by
        rcases Am len with H|H
        ·exact (hcase ⟨l,H,rfl⟩).elim
        ·exact H
       rw [List.append_nil];have hcn:cut cells (off * i.size) (len * i.size)≠[]:=λq=>by rw [q] at M;rcases Ay.1 M.symm with h4|h4<;>omega
       obtain ⟨b1,b2,b3⟩:=Ju0 (k:=μ.o g+off * i.size) J Z (o':=.arr (ver+1) i.size e (cut cells (off * i.size) (len * i.size)) false) (by simp [AZ.ver]) (λ_=>⟨Qj.2 l,rfl⟩)
        (λh' μ' ev vv _ _ _=>⟨cs,hb,by rw [Ac] at hend;omega,λj x E=>by have:=(hh.DK J ev vv) _ x (cutg j x E).2;rwa [<-Ah] at this,λq=>by cases q⟩)
       refine ⟨.slice (some a) len cap,w,?_,S,_,.arr _ _ _ _ _ _ (Jj _ _ _) (Ab _) rfl λ_=>⟨_,_,_,_,rfl,λq=>(hcn q).elim,λ_=>⟨a,cap,cs,e,(0,0),by simp,by simpa using Q,?_,?_,λhc0=>?_⟩⟩,b1,b2,b3⟩
       ·exact mG R hi a len cap Q.1 A c
       ·simpa [Gh.set,Jj] using hb
       ·simp only [Gh.set,Jj];rw [Ac] at X;simp;omega
       ·rw [ha hc0];simp [Gh.set,Jj]
      ·have hn0:0<n:=by
        rcases Am n with H|H
        ·subst H;simp at B;exact absurd B f
        ·exact H
       cases A with
       | none=>have:=(hA rfl).1;omega
       | some ay=>
        have N:=K ay rfl;obtain ⟨v1,v2⟩:=rW N;have Y:=rV N;by_cases O:len+n<=cap
        ·-- in place
         have hpos:0<cap:=by omega
         rw [ha hpos];have hfit:μ.o g+(off+len) * i.size+new.length<=cs.size:=by have h5:(len+n) * i.size<=cap * i.size:=Ag _ O;rw [Ac] at X h5;rw [B,Ac];omega
         have hone:∀u∈zj w ay new.length,u.oneCell'=true:=by have:=Jxp Y Xe;simpa using this
         have hst:=run_storeCells_at P (μ.b g) (μ.o g+(off+len) * i.size) e (zj w ay new.length) 0 cs w hb (by rw [v1];omega) hone;simp only [Bg] at hst;have hspl:=Jmt cs (zj w ay new.length) (μ.o g+(off+len) * i.size) (by rw [v1];omega);generalize hr:(cs.toList.take (μ.o g+(off+len) * i.size)++zj w ay new.length++cs.toList.drop (μ.o g+(off+len) * i.size+(zj w ay new.length).length)).toArray=r at hst hspl;have hrs:r.size=cs.size:=by rw [<-hr];simp [v1];omega
         have hcs':∀old el' z,w.heap[μ.b g]?=some (.cells old el' z)->r.size=old.size:=λold el' z e=>by rw [hb] at e;injection e with e;injection e with e;subst e;exact hrs
         have hvv:(AZ.arr ver i.size e cells false).ver<(AZ.arr (ver+1) i.size e (cut cells (off * i.size) (len * i.size)++new) false).ver\/(AZ.arr ver i.size e cells false).ver=(AZ.arr (ver+1) i.size e (cut cells (off * i.size) (len * i.size)++new) false).ver/\μ.o g+off * i.size=μ.o g /\
           (AZ.arr ver i.size e cells false).like (AZ.arr (ver+1) i.size e (cut cells (off * i.size) (len * i.size)++new) false):=.inl (by simp [AZ.ver])
         obtain ⟨ev,vv⟩:=uh (S:=S) Z rfl (Qj.2 l) hvv hcs';have hb':=setRow_heap w (μ.b g) cs r e (0,0) hb;have hcont:Cv (w.setRow (μ.b g) r) S (upd h g (some (.arr (ver+1) i.size e (cut cells (off * i.size) (len * i.size)++new) false))) (μ.set g (μ.b g) (μ.o g+off * i.size)) (μ.o g+off * i.size) (cut cells (off * i.size) (len * i.size)++new) r:=by
          intro j x E;rw [hspl];by_cases hj1:j<len * i.size
          ·rw [Ae (by omega)] at E;have E:=(cutg j x E).2;have hlt:=(Aa.1 E).1;rw [if_neg (by rw [Ac];omega)];have:=(hh.DK J ev vv) _ x E;rwa [<-Ah] at this
          ·rw [Ad (by omega)] at E;have hlt:=(Aa.1 E).1;have hcl2:(off+len) * i.size=off * i.size+len * i.size:=by rw [Ac]
           rw [if_pos (by rw [v1];omega)];have:=(Y.DK J ev vv) _ x E;have e5:μ.o g+off * i.size+j - (μ.o g+(off+len) * i.size)=j - (cut cells (off * i.size) (len * i.size)).length:=by omega
           rw [e5];simpa using this
         have hcl2:(off+len) * i.size=off * i.size+len * i.size:=by rw [Ac]
         refine ⟨.slice (some ⟨μ.b g,μ.o g+off * i.size,none⟩) (len+n) cap,w.setRow (μ.b g) r,?_,S,_,?_,Jxn J Z rfl (Qj.2 l) hvv hcs' (λ_=>⟨r,hb',by simp [M];omega,hcont,λe=>by cases e⟩),ev,vv⟩
         ·have hf:=run_firstCells_some (P:=P) w i.size n ay n c (zj w ay new.length) (by rw [v1,B]) v2;have e6:μ.o g+off * i.size+len * i.size=μ.o g+(off+len) * i.size:=by omega
          simp [Builtin.append_,run_underlying R,sizeOf,typeInfo,hi,Builtin.lenOf,O,hf,Addr.add_lit,e6,hst]
         ·simp only [Ar];refine .arr _ _ _ _ _ _ (Jj _ _ _) (Ab _) rfl λ_=>⟨i.size,e,_,false,rfl,λq=>(by rw [Bc] at q;exact (f q.2).elim),λ_=>⟨_,cap,r,e,(0,0),rfl,⟨O,Q.2⟩,?_,?_,λ_=>?_⟩⟩
          ·simpa [Gh.set,Jj] using hb'
          ·simp only [Gh.set,Jj];rw [hrs];rw [Ac] at X;simp;omega
          ·simp [Gh.set,Jj]
        ·-- a new row
         have hold:∀(j:Nat) (x:AV),(cut cells (off * i.size) (len * i.size))[j]?=some x->∃v,w.cell? (a.add j)=some v/\v.oneCell'=true/\BF w S h μ x v:=by
          intro j x E;have hlt:=(Aa.1 E).1;have hpos:0<cap:=by
           rcases Am len with H|H
           ·have h5:=(cutg j x E).1;rw [H,Bf] at h5;omega
           ·omega
          have E:=(cutg j x E).2;have hlt2:μ.o g+(off * i.size+j)<cs.size:=by have:=(Aa.1 E).1;omega
          refine ⟨cs.getD (μ.o g+(off * i.size+j)) undef,?_,(hh _ x E).2,(hh _ x E).1⟩;rw [ha hpos,iV hb,Ah,getD_some hlt2]
         obtain ⟨u1,u2⟩:=rW hold;have hho:=rV hold;have hbd:(len+n) * i.bytes<=140737488355328:=Jw4 (by simpa using G.1);have L:=run_append_grow (P:=P) w t ty e i zv R hi hzv a len cap (zj w a (cut cells (off * i.size) (len * i.size)).length) (by rw [u1,M]) u2 ay n c (zj w ay new.length) (by rw [v1,B]) v2 (by omega) (by have:=G.2;omega) (growslice_fits (by omega) hbd);have hge:=grownCap_ge w (len+n) cap e;obtain ⟨h1,h2,h3⟩:=aX (w:=w.drew) (el:=e) (g:=g) (o:=.arr (ver+1) i.size e (cut cells (off * i.size) (len * i.size)++new) false)
          (cs:=(zj w a (cut cells (off * i.size) (len * i.size)).length).toArray++(zj w ay new.length).toArray++Builtin.zeroCells zv.cells (grownCap w (len+n) cap e - (len+n)))
          (J.of_same (w':=w.drew) rfl rfl rfl ⟨rfl,Bd _⟩) (.inl (by simp [AZ.ver,Kg,Z])) (λj x E=>by have H:=Holds.append hho Xe Y Xe (Builtin.zeroCells zv.cells (grownCap w (len+n) cap e - (len+n))) j x E;exact ⟨H.1.DK J Ti (.refl h μ),H.2⟩) (.inr ⟨_,_,rfl,by rw [Ao,Ao,Xe,Xe,List.length_append];omega⟩)
         refine ⟨_,_,L,S,_,?_,h1,Ti.trans h2,h3⟩;simp only [Ar];refine rM ⟨hge,J99 (by have:=G.2;omega)⟩ ?_ (λq=>by rw [Bc] at q;exact (f q.2).elim);simp only [Ao,Xe,M,B,size_zeroCells,hzs,<-Ac];exact Ag _ (by omega)
   ·rename_i ver' esz' el' cells Z;split at d
    ·rename_i hc;obtain ⟨rfl,f⟩:=hc;injection d with d;simp only [Ai] at d;obtain ⟨rfl,rfl⟩:=d;have hn:=F f;subst hn;by_cases l:cells=[]
     ·obtain ⟨rfl,rfl,A0,rfl⟩:=(hx.DJ Z).1 l;exact ⟨.slice A0 0 0,w,xU R hi A0 A c,Ran.same J hx⟩
     ·obtain ⟨a,cap,cs0,el0,z0,rfl,Q,hb0,X,ha⟩:=hx.EB Z l;exact ⟨.slice (some a) len cap,w,mG R hi a len cap Q.1 A c,Ran.same J hx⟩
    ·cases d
   ·cases d
  ·rename_i n' l';split at d
   ·rename_i f;injection d with d;simp only [Ai] at d;obtain ⟨rfl,rfl⟩:=d;have hn:=F f;subst hn;refine ⟨cx,w,?_,Ran.same J hx⟩;cases hx with
    | pure hp'=>
     cases hp' with
     | ER=>exact xU R hi none A c
     | CB _ _ a cap cv hs Q hc h1 hr=>exact mG R hi a n' cap Q A c
   ·cases d
  ·cases d
 ·cases d
end
end Go.Vv
