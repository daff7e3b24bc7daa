/- An evaluator over abstract values for a part of the language of the model: the values, the heap, the operations, the code. Definitions alone. -/
import Derived.Calls
import Derived.Laws.Entries
import Derived.Laws.Rows
import Derived.Laws.Append
import Derived.Laws.CopyRow
import Derived.Laws.Tables
import Derived.Laws.MakeOwn
import Derived.Deep.Draws
import Derived.Laws.Cells
import Derived.Laws.StructEq
import Derived.Great.BuildSlice
import Derived.Laws.AppendOwn
set_option linter.unusedSimpArgs false
open List renaming getElem?_eq_some_iff → Aa, getElem?_append_right → Ad, getElem?_append_left → Ae, getElem?_take → Aj, getElem?_drop → Ak, getElem?_eq_getElem → Au, append_assoc → Av, eq_nil_of_length_eq_zero → Ay, length_take → Az, drop_eq_nil_of_le → Ba, append_eq_nil_iff → Bb, mem_map → Bd
open Nat renaming le_refl → Ab, add_mul → Ac, mul_le_mul_right → Ag, add_assoc → Ah, eq_zero_or_pos → Al, le_trans → Ap, mul_eq_zero → Ax, le_succ → Bc, zero_mul → Be, add_zero → Bf
open Bool renaming false_eq_true → Af
open Prod.mk renaming injEq → Ai
open _root_.Array renaming size_append → Am, getElem?_append_left → Ao, getD_eq_getD_getElem? → Ar, getElem?_eq_some_iff → As, eq_empty_of_size_eq_zero → Aw
open Int renaming toNat_natCast → Aq
namespace Go.Vv
inductive AV where
 | any
 | bool (b:Bool)
 | int (k:IntKind) (n:Int)
 | str (s:ByteArray)
 | nils
 | nilp
 | nilf
 | nilm
 | lst (n:Nat) (l:List AV)
 | rptr (l:List AV)
 | fn (f:FuncId) (caps:List AV)
 | agg (l:List AV)
 | tup (l:List AV)
 | arr (g ver off len:Nat)
 | ptr (g ver off:Nat)
 | map (g ver:Nat)
 | mpr (ks vs:List AV)
 | yld (j:Nat)
 | bfn (f:FuncId) (l:List AV)
 deriving Inhabited
inductive AObj where
 | box (ver:Nat) (cells:List AV)
 | arr (ver esz:Nat) (el:TypeId) (cells:List AV) (fz:Bool)
 | map (ver:Nat) (es:List (AV×AV)) (fz:Bool)
 deriving Inhabited
def AObj.ver:AObj->Nat
 | .box v _=>v
 | .arr v _ _ _ _=>v
 | .map v _ _=>v
def AObj.fz:AObj->Bool
 | .arr _ _ _ _ z=>z
 | .map _ _ z=>z
 | _=>false
def AObj.live:AObj->Bool
 | .arr _ _ _ [] _=>false
 | _=>true
abbrev Heap:=Nat->Option AObj
structure St where
 f:Nat->AV
 h:Heap
def upd{α:Type}(f:Nat->α)(d:Nat)(v:α):Nat->α:=λn=>if n=d then v else f n
def fr:List (Nat×AV)->Nat->AV
 | []=>λ_=>.any
 | (d,v)::r=>λn=>if n=d then v else fr r n
def hl:List (Nat×AObj)->Heap
 | []=>λ_=>none
 | (d,v)::r=>λn=>if n=d then some v else hl r n
def Jv(h:Heap)(g:Nat):Nat:=match h g with|none=>0|some o=>o.ver+1
def St.put(σ:St)(d:Option Nat)(v:AV)(h:Heap):St:=
 match d with
 | some d=>⟨upd σ.f d v,h⟩
 | none=>⟨σ.f,h⟩
def AV.one:AV->Bool
 | .any|.agg _|.tup _=>false
 | _=>true
def AV.flat:AV->Bool
 | .bool _|.int _ _|.str _|.nils|.nilp|.nilf|.nilm|.lst _ _|.rptr _|.mpr _ _|.bfn _ _=>true
 | _=>false
def AV.cells:AV->Option (List AV)
 | .agg l=>some l
 | v=>if v.one then some [v] else none
def AV.scalar:AV->Bool
 | .bool _|.int _ _|.str _=>true
 | .agg l=>l.all λ|.bool _|.int _ _|.str _=>true|_=>false
 | .tup l=>l.all λ|.bool _|.int _ _|.str _=>true|.agg l=>l.all (λ|.bool _|.int _ _|.str _=>true|_=>false)|_=>false
 | _=>false
def cut(l:List AV)(off n:Nat):List AV:=(l.drop off).take n
def pack(ag:Bool)(l:List AV)(off n:Nat):Option AV:=
 if off+n<=l.length then
  if ag then some (.agg (cut l off n)) else l[off]?
 else none
def paste(l:List AV)(off:Nat)(new:List AV):List AV:=l.take off++new++l.drop (off+new.length)
mutual
def AV.noNm:AV->Bool
 | .any|.arr .. | .ptr .. | .map .. | .yld _=>false
 | .fn _ l|.agg l|.tup l=>Jvr l
 | _=>true
def Jvr:List AV->Bool
 | []=>true
 | v::r=>v.noNm&&Jvr r
end
def snap(h:Heap):Nat->AV->Option (AV×List Nat)
 | 0,_=>none
 | k+1,v=>
  match v with
  | .any|.ptr .. | .yld _=>none
  | .map _ _=>none
  | .arr g ver off len=>
   match h g with
   | some (.arr ver' esz _ cells _)=>
    if ver=ver'/\(off+len) * esz<=cells.length then
     let l:=cut cells (off * esz) (len * esz)
     if l.all AV.flat then some (.lst len l,[g]) else
     match l.mapM (snap h k) with
     | some ps=>some (.lst len (ps.map (·.1)),g::ps.flatMap (·.2))
     | none=>none
    else none
   | _=>none
  | .fn f caps=>
   match caps.mapM (snap h k) with
   | some ps=>some (.fn f (ps.map (·.1)),ps.flatMap (·.2))
   | none=>none
  | .agg l=>
   if l.all AV.flat then some (.agg l,[]) else
   match l.mapM (snap h k) with
   | some ps=>some (.agg (ps.map (·.1)),ps.flatMap (·.2))
   | none=>none
  | .tup l=>
   match l.mapM (snap h k) with
   | some ps=>some (.tup (ps.map (·.1)),ps.flatMap (·.2))
   | none=>none
  | v=>some (v,[])
def depth:Nat:=8
def Jco(h:Heap)(l:List AV):Option (List AV×List Nat):=
 match l.mapM (snap h depth) with
 | some ps=>some (ps.map (·.1),ps.flatMap (·.2))
 | none=>none
def AObj.freeze:AObj->AObj
 | .arr v e t c _=>.arr v e t c true
 | o=>o
def Jd(h:Heap)(ns:List Nat):Heap:=λg=>if g∈ns then (h g).map AObj.freeze else h g
def Jvl(nt:Nat):Option Nat->Bool
 | some d=>decide (d<nt)
 | none=>true
inductive LO where
 | t (n:Nat)
 | c (v:AV)
 deriving Inhabited
def St.ev(σ:St):LO->AV
 | .t n=>σ.f n
 | .c v=>v
inductive LOp where
 | mov (x:LO)
 | pick (c a b:LO)
 | alloc (z:List AV)
 | box (x:LO)
 | build (z:List AV) (parts:List (Nat×Nat×LO))
 | bslice (n esz:Nat) (el:TypeId) (z:List AV) (parts:List (Nat×Nat×LO))
 | load (ag:Bool) (n:Nat) (x:LO)
 | store (n:Nat) (x y:LO)
 | ibin (op:BinOp) (x y:LO)
 | eqv (ne ag:Bool) (sh:List Bool) (x y:LO)
 | un (op:UnOp) (x:LO)
 | conv (k:IntKind) (x:LO)
 | nilck (x:LO)
 | mkfn (f:FuncId) (caps:List LO)
 | mkbf (f:FuncId) (x:LO)
 | mkS (esz bytes:Nat) (el:TypeId) (z:List AV) (l c:LO)
 | slc (esz:Nat) (x:LO) (lo hi:Option LO)
 | faddr (off:Nat) (x:LO)
 | fld (ag:Bool) (off n:Nat) (x:LO)
 | iaddr (esz:Nat) (x i:LO)
 | iaddrA (len esz:Nat) (x i:LO)
 | idx (len esz:Nat) (ag:Bool) (x i:LO)
 | ext (x:LO) (i:Nat)
 | len (x:LO)
 | lenM (x:LO)
 | lenS (x:LO)
 | app (esz bytes:Nat) (el:TypeId) (z:List AV) (x y:LO)
 | callp (f:FuncId) (args:List LO)
 | callz (f:FuncId) (args:List LO)
 | callv (x:LO) (args:List LO)
 | callq (f:FuncId) (args:List LO)
 | mkM (k e el:TypeId)
 | look (ok ag:Bool) (sh:List Bool) (z:AV) (x k:LO)
 | setM (ag:Bool) (sh:List Bool) (x k v:LO)
 | delM (ag:Bool) (sh:List Bool) (x k:LO)
 | shf (op:BinOp) (x y:LO)
 | mm (mx:Bool) (x y:LO)
 | isnil (ne:Bool) (x:LO)
 | appn (ds:List Nat) (esz bytes:Nat) (el:TypeId) (zz:List AV) (x y:LO)
 | ston (ds:List Nat) (n:Nat) (x y:LO)
 | msk (ds:List Nat) (op:LOp)
 | allocA (esz:Nat) (t:TypeId) (z:List AV)
 | slcA (n esz:Nat) (x:LO)
 | cpy (esz:Nat) (x y:LO)
 deriving Inhabited
structure LOper where
 dst:Option Nat
 op:LOp
 guard:Option (Nat×Bool)
 deriving Inhabited
abbrev Call:=FuncId->List AV->Option (Heap×Nat)->Option (AV×Heap)
def Jnq(op:BinOp)(k:IntKind)(a b:Int):Option AV:=
 match op with
 | .add=>some (.int k (k.wrap (a+b)))
 | .sub=>some (.int k (k.wrap (a - b)))
 | .mul=>some (.int k (k.wrap (a * b)))
 | .quo=>if b=0 then none else some (.int k (k.wrap (a.tdiv b)))
 | .rem=>if b=0 then none else some (.int k (a.tmod b))
 | .eql=>some (.bool (a==b))
 | .neq=>some (.bool (a != b))
 | .lss=>some (.bool (a<b))
 | .leq=>some (.bool (a<=b))
 | .gtr=>some (.bool (a > b))
 | .geq=>some (.bool (a>=b))
 | .and=>some (.int k (bits .and k a b))
 | .or=>some (.int k (bits .or k a b))
 | .xor=>some (.int k (bits .xor k a b))
 | .andNot=>some (.int k (bits .andNot k a b))
 | _=>none
def zq:Bool->AV->AV->Option Bool
 | false,.int k a,.int k' b=>if k=k' then some (a==b) else none
 | true,.bool a,.bool b=>some (a==b)
 | _,_,_=>none
def Jm:List Bool->List AV->List AV->Option Bool
 | [],[],[]=>some true
 | s::ss,x::xs,y::ys=>
  match zq s x y,Jm ss xs ys with
  | some a,some b=>some (a&&b)
  | _,_=>none
 | _,_,_=>none
def eqV(ag:Bool)(sh:List Bool)(x y:AV):Option Bool:=
 if ag then (match x,y with|.agg l,.agg m=>Jm sh l m|_,_=>none) else Jm sh [x] [y]
def Jrc(ag:Bool)(sh:List Bool)(k:AV):Bool:=(eqV ag sh k k).isSome
def posM(ag:Bool)(sh:List Bool)(k:AV):Nat->List (AV×AV)->Option (Option Nat)
 | _,[]=>some none
 | i,p::r=>match eqV ag sh k p.1 with
  | some true=>some (some i)
  | some false=>posM ag sh k (i+1) r
  | none=>none
def atM(es:List (AV×AV))(z:AV):Option Nat->AV
 | some j=>match es[j]? with|some p=>p.2|none=>z
 | none=>z
def putM(es:List (AV×AV))(k v:AV):Option Nat->List (AV×AV)
 | some j=>es.set j (k,v)
 | none=>es++[(k,v)]
def outM(es:List (AV×AV)):Option Nat->List (AV×AV)
 | some j=>es.eraseIdx j
 | none=>es
def Jgs(ev:LO->AV):List AV->List (Nat×Nat×LO)->Option (List AV)
 | z,[]=>some z
 | z,(off,n,x)::r=>
  match (ev x).cells with
  | some c=>if c.length=n/\off+n<=z.length then Jgs ev (paste z off c) r else none
  | none=>none
def zp(h:Heap):AV->Option (List AV×Nat)
 | .rptr l=>some (l,0)
 | .ptr g ver off=>
  match h g with
  | some (.box ver' cells)=>if ver=ver' then some (cells,off) else none
  | some (.arr ver' _ _ cells _)=>if ver=ver'/\cells≠[] then some (cells,off) else none
  | _=>none
 | _=>none
def Jbg(h:Heap)(ag:Bool)(n:Nat)(x:AV):Option AV:=
 match zp h x with
 | some (l,off)=>pack ag l off n
 | none=>none
def Jcz(h:Heap)(n:Nat)(x y:AV):Option Heap:=
 match x,y.cells with
 | .ptr g ver off,some c=>
  if c.length=n then
  match h g with
  | some (.box ver' cells)=>if ver=ver'/\off+n<=cells.length then some (upd h g (some (.box ver' (paste cells off c)))) else none
  | some (.arr ver' esz el cells false)=>if ver=ver'/\off+n<=cells.length/\cells≠[] then some (upd h g (some (.arr ver' esz el (paste cells off c) false))) else none
  | _=>none
  else none
 | _,_=>none
def cur(h:Heap)(g ver:Nat):Bool:=match h g with|some o=>o.ver==ver|none=>false
def curA(h:Heap)(g ver esz:Nat):Bool:=match h g with|some (.arr v e _ _ _)=>v==ver&&e==esz|_=>false
def X2(h:Heap)(g ver:Nat):Bool:=match h g with|some (.arr v _ _ _ _)=>v==ver|_=>false
def curM(h:Heap)(g ver:Nat):Option (List (AV×AV)):=match h g with|some (.map v es false)=>if v=ver then some es else none|_=>none
def esOf(h:Heap):AV->Option (List (AV×AV))
 | .nilm=>some []
 | .mpr ks vs=>some (ks.zip vs)
 | .map g ver=>curM h g ver
 | _=>none
def lookP(ok:Bool)(z:AV)(es:List (AV×AV)):Option (Option Nat)->Option AV
 | some j=>some (if ok=true then .tup [atM es z j,.bool j.isSome] else atM es z j)
 | none=>none
def Jyk(ok ag:Bool)(sh:List Bool)(z k:AV):Option (List (AV×AV))->Option AV
 | some es=>if Jrc ag sh k=true then lookP ok z es (posM ag sh k 0 es) else none
 | none=>none
def setE(h:Heap)(g ver:Nat)(es:List (AV×AV))(k v:AV):Option (Option Nat)->Option Heap
 | some j=>some (upd h g (some (.map ver (putM es k v j) false)))
 | none=>none
def setV(h:Heap)(ag:Bool)(sh:List Bool)(k v:AV):AV->Option Heap
 | .map g ver=>match curM h g ver with
  | some es=>if Jrc ag sh k=true then setE h g ver es k v (posM ag sh k 0 es) else none
  | none=>none
 | _=>none
def delE(h:Heap)(g ver:Nat)(es:List (AV×AV)):Option (Option Nat)->Option Heap
 | some j=>some (upd h g (some (.map ver (outM es j) false)))
 | none=>none
def delV(h:Heap)(ag:Bool)(sh:List Bool)(k:AV):AV->Option Heap
 | .map g ver=>match curM h g ver with
  | some es=>if Jrc ag sh k=true then delE h g ver es (posM ag sh k 0 es) else none
  | none=>none
 | _=>none
def upZ:AV->AV
 | .nils=>.lst 0 []
 | v=>v
def mmV(mx:Bool)(a b:Int):Int:=if mx=true then (if b > a then b else a) else (if b<a then b else a)
def shfV(op:BinOp)(k:IntKind)(a b:Int):Option AV:=
 if b<0 then none else
 match op with
 | .shl=>some (.int k (k.wrap (a * 2 ^ (min b.toNat k.bits))))
 | .shr=>some (.int k (a.fdiv (2 ^ (min b.toNat k.bits))))
 | _=>none
def lenV(h:Heap):AV->Option Int
 | .nils=>some 0
 | .lst n _=>some n
 | .arr g ver _ len=>if X2 h g ver then some len else none
 | _=>none
def lenM(h:Heap):AV->Option Int
 | .nilm=>some 0
 | .mpr ks _=>some ks.length
 | .map g ver=>match curM h g ver with
  | some es=>some es.length
  | _=>none
 | _=>none
def lenS:AV->Option Int
 | .str s=>some s.size
 | _=>none
def Je7(h:Heap):AV->Option Bool
 | .nils=>some true
 | .lst 0 []=>none
 | .lst _ _=>some false
 | .arr g ver _ len=>if X2 h g ver=true/\len≠0 then some false else none
 | _=>none
def slcAO(g ver n esz:Nat):Option AObj->Option AV
 | some (.arr ver' esz' _ cells _)=>if ver=ver'/\esz=esz'/\cells.length=n * esz/\cells≠[] then some (.arr g ver 0 n) else none
 | _=>none
def Jqj(h:Heap)(n esz:Nat):AV->Option AV
 | .ptr g ver 0=>slcAO g ver n esz (h g)
 | _=>none
def jh(d:Int):Option AV->Option Int
 | none=>some d
 | some (.int _ n)=>some n
 | _=>none
def Y3(h:Heap)(esz:Nat)(x:AV)(lo d:Option AV):Option AV:=
 match x with
 | .lst n l=>
  match jh 0 lo,jh n d with
  | some a,some b=>if 0<=a/\a<=b/\b<=n/\l.length=n * esz then some (.lst (b - a).toNat (cut l (a.toNat * esz) ((b - a).toNat * esz))) else none
  | _,_=>none
 | .arr g ver off len=>
  match jh 0 lo,jh len d with
  | some a,some b=>if 0<=a/\a<=b/\b<=len/\curA h g ver esz=true then some (.arr g ver (off+a.toNat) (b - a).toNat) else none
  | _,_=>none
 | .nils=>
  match jh 0 lo,jh 0 d with
  | some a,some b=>if a=0/\b=0 then some .nils else none
  | _,_=>none
 | _=>none
def zu(h:Heap)(off:Nat):AV->Option AV
 | .ptr g ver o=>if cur h g ver then some (.ptr g ver (o+off)) else none
 | .rptr l=>some (.rptr (l.drop off))
 | _=>none
def je(h:Heap)(esz:Nat)(x i:AV):Option AV:=
 match x,i with
 | .lst n l,.int _ i=>if 0<=i/\i<n then some (.rptr (cut l (i.toNat * esz) esz)) else none
 | .arr g ver off len,.int _ i=>if 0<=i/\i<len/\curA h g ver esz=true then some (.ptr g ver ((off+i.toNat) * esz)) else none
 | _,_=>none
def Jbq(h:Heap)(len esz:Nat)(x i:AV):Option AV:=
 match x,i with
 | .ptr g ver o,.int _ i=>if 0<=i/\i<len/\cur h g ver=true then some (.ptr g ver (o+i.toNat * esz)) else none
 | .rptr l,.int _ i=>if 0<=i/\i<len then some (.rptr (l.drop (i.toNat * esz))) else none
 | _,_=>none
def idxV(len esz:Nat)(ag:Bool)(x i:AV):Option AV:=
 match x,i with
 | .agg l,.int _ i=>if 0<=i/\i<len then pack ag l (i.toNat * esz) esz else none
 | _,_=>none
def Zj(h:Heap)(esz:Nat):AV->Option (List AV)
 | .nils=>some []
 | .lst n l=>if l.length=n * esz then some l else none
 | .arr g ver off len=>
  match h g with
  | some (.arr ver' esz' _ cells _)=>if ver=ver'/\esz=esz'/\(off+len) * esz<=cells.length then some (cut cells (off * esz) (len * esz)) else none
  | _=>none
 | _=>none
def room:Nat:=140737488355328
def Xt(z:List AV):Nat->List AV
 | 0=>[]
 | n+1=>z++Xt z n
def appV(h:Heap)(g0:Nat)(esz bytes:Nat)(el:TypeId)(x y:AV):Option (AV×Heap):=
 match lenV h y,Zj h esz y with
 | some m,some new=>
  match x with
  | .nils=>
   if new=[] then some (.nils,h)
   else if m * bytes<=room/\(m:Int)<=9223372036854775807 then some (.arr g0 (Jv h g0+1) 0 m.toNat,upd h g0 (some (.arr (Jv h g0+1) esz el new false)))
   else none
  | .arr g ver off len=>
   match h g with
   | some (.arr ver' esz' el' cells false)=>
    if ver=ver'/\esz=esz'/\el=el'/\(off+len) * esz<=cells.length/\(len+m) * bytes<=room/\(len+m:Int)<=9223372036854775807 then
     if cells≠[]/\len=0/\new=[] then some (.arr g ver off len,h)
     else some (.arr g (ver+1) 0 (len+m.toNat),upd h g (some (.arr (ver+1) esz el (cut cells (off * esz) (len * esz)++new) false)))
    else none
   | some (.arr ver' _ _ _ true)=>if ver=ver'/\new=[] then some (.arr g ver off len,h) else none
   | _=>none
  | .lst n l=>if new=[] then some (.lst n l,h) else none
  | _=>none
 | _,_=>none
def Ju7(h:Heap)(esz:Nat)(x y:AV):Option (AV×Heap):=
 match lenV h y,Zj h esz y with
 | some m,some new=>
  match x with
  | .arr g ver off len=>
   match h g with
   | some (.arr ver' esz' el cells false)=>
    if ver=ver'/\esz=esz'/\(off+len) * esz<=cells.length/\cells≠[] then
     some (.int .i64 (Nat.min m.toNat len:Nat),upd h g (some (.arr ver' esz' el (paste cells (off * esz) (new.take (Nat.min m.toNat len * esz))) false)))
    else none
   | _=>none
  | _=>none
 | _,_=>none
def J0d(off g:Nat):Option (List (AV×List Nat))->Option (AV×List Nat)
 | some ps=>some (.rptr ((ps.map (·.1)).drop off),g::ps.flatMap (·.2))
 | none=>none
def qbox(h:Heap)(g ver off:Nat):Option AObj->Option (AV×List Nat)
 | some (.box v cells)=>if v=ver then (if cells.all AV.flat=true then some (.rptr (cells.drop off),[g]) else J0d off g (cells.mapM (snap h depth))) else none
 | _=>none
def Jks(h:Heap):AV->Option (AV×List Nat)
 | .ptr g ver off=>qbox h g ver off (h g)
 | v=>snap h depth v
def Jmv:Option (AV×List Nat)->Option (List AV×List Nat)->Option (List AV×List Nat)
 | some (u,ns),some (us,ms)=>some (u::us,ns++ms)
 | _,_=>none
def Jm7(h:Heap):List AV->Option (List AV×List Nat)
 | []=>some ([],[])
 | v::r=>Jmv (Jks h v) (Jm7 h r)
def qfn(f:FuncId):Option (List AV×List Nat)->Option (AV×List Nat)
 | some (us,ns)=>some (.fn f us,ns)
 | none=>none
def qarg(h:Heap):AV->Option (AV×List Nat)
 | .fn f caps=>qfn f (Jm7 h caps)
 | v=>Jks h v
def Jkp(h:Heap):List AV->Option (List AV×List Nat)
 | []=>some ([],[])
 | v::r=>Jmv (qarg h v) (Jkp h r)
def retQ(h:Heap):Option (AV×Heap)->Option (AV×Heap)
 | some (v,_)=>if v.scalar=true then some (v,h) else none
 | none=>none
def calQ(call:FuncId->List AV->Option (Heap×Nat)->Option (AV×Heap))(f:FuncId)(h:Heap):Option (List AV×List Nat)->Option (AV×Heap)
 | some (vs,_)=>retQ h (call f vs none)
 | none=>none
def LOp.cls:LOp->Nat
 | .mov _|.pick .. | .build .. | .ibin .. | .eqv .. | .un .. | .conv .. | .mkfn .. | .mkbf .. | .fld .. | .idx .. | .ext .. | .lenS _|.shf .. | .mm ..=>0
 | .load .. | .nilck _|.slc .. | .faddr .. | .iaddr .. | .iaddrA .. | .len _|.lenM _|.callp .. | .callv .. | .look .. | .callq .. | .isnil .. | .slcA .. | .msk ..=>1
 | .alloc _|.allocA .. | .box _|.bslice .. | .mkS .. | .mkM ..=>2
 | .store .. | .app .. | .appn .. | .ston .. | .callz .. | .setM .. | .delM .. | .cpy ..=>3
def inNm(base:Nat)(ds:List Nat)(g:Nat):Bool:=ds.any λd=>base+d==g
def K2(base:Nat)(ds:List Nat)(h:Heap):Heap:=λg=>if inNm base ds g=true then none else h g
def mskR(h:Heap):Option (AV×Heap)->Option (AV×Heap)
 | some (v,_)=>some (v,h)
 | none=>none
def nwOK(base:Nat)(ds:List Nat)(g0:Nat):AV->Bool
 | .arr g _ _ _=>inNm base ds g
 | .nils=>inNm base ds g0
 | .ptr g _ _=>inNm base ds g
 | _=>false
def apnV(base:Nat)(ds:List Nat)(g0:Nat)(x:AV)(r:Option (AV×Heap)):Option (AV×Heap):=
 if nwOK base ds g0 x=true then r else none
def Ja(call:Call)(base:Nat)(σ:St)(g0:Nat):LOp->Option (AV×Heap)
 | .mov x=>some (σ.ev x,σ.h)
 | .pick c a b=>match σ.ev c with|.bool t=>some (if t then σ.ev a else σ.ev b,σ.h)|_=>none
 | .alloc z=>some (.ptr g0 (Jv σ.h g0) 0,upd σ.h g0 (some (.box (Jv σ.h g0) z)))
 | .box x=>match (σ.ev x).cells with
  | some c=>some (.ptr g0 (Jv σ.h g0) 0,upd σ.h g0 (some (.box (Jv σ.h g0) c)))
  | none=>none
 | .build z ps=>match Jgs σ.ev z ps with|some l=>some (.agg l,σ.h)|none=>none
 | .bslice n esz el z ps=>match Jgs σ.ev (Xt z n) ps with
  | some l=>some (.arr g0 (Jv σ.h g0) 0 n,upd σ.h g0 (some (.arr (Jv σ.h g0) esz el l false)))
  | none=>none
 | .load ag n x=>match Jbg σ.h ag n (σ.ev x) with|some v=>some (v,σ.h)|none=>none
 | .store n x y=>match Jcz σ.h n (σ.ev x) (σ.ev y) with|some h=>some (.any,h)|none=>none
 | .ibin op x y=>match σ.ev x,σ.ev y with
  | .int k a,.int k' b=>if k=k' then (match Jnq op k a b with|some v=>some (v,σ.h)|none=>none) else none
  | _,_=>none
 | .eqv ne ag sh x y=>match eqV ag sh (σ.ev x) (σ.ev y) with|some b=>some (.bool (if ne then !b else b),σ.h)|none=>none
 | .un op x=>match op,σ.ev x with
  | .not,.bool b=>some (.bool !b,σ.h)
  | .neg,.int k n=>some (.int k (k.wrap (0 - n)),σ.h)
  | _,_=>none
 | .conv k x=>match σ.ev x with|.int _ n=>some (.int k (k.wrap n),σ.h)|_=>none
 | .nilck x=>match σ.ev x with
  | .ptr g v o=>if cur σ.h g v then some (.ptr g v o,σ.h) else none
  | .rptr l=>some (.rptr l,σ.h)
  | .fn f caps=>some (.fn f caps,σ.h)
  | .bfn f l=>some (.bfn f l,σ.h)
  | _=>none
 | .mkfn f caps=>some (.fn f (caps.map σ.ev),σ.h)
 | .mkbf f x=>match σ.ev x with
  | .agg l=>if l.all AV.flat=true then some (.bfn f l,σ.h) else none
  | _=>none
 | .mkS esz bytes el z l c=>match σ.ev l,σ.ev c with
  | .int _ n,.int _ m=>
   if 0<=n/\n<=m/\(n=0->m=0)/\m * bytes<=room/\m<=9223372036854775807 then some (.arr g0 (Jv σ.h g0) 0 n.toNat,upd σ.h g0 (some (.arr (Jv σ.h g0) esz el (Xt z n.toNat) false))) else none
  | _,_=>none
 | .slc esz x lo d=>match Y3 σ.h esz (σ.ev x) (lo.map σ.ev) (d.map σ.ev) with|some v=>some (v,σ.h)|none=>none
 | .faddr off x=>match zu σ.h off (σ.ev x) with|some v=>some (v,σ.h)|none=>none
 | .fld ag off n x=>match σ.ev x with
  | .agg l=>(match pack ag l off n with|some v=>some (v,σ.h)|none=>none)
  | _=>none
 | .iaddr esz x i=>match je σ.h esz (σ.ev x) (σ.ev i) with|some v=>some (v,σ.h)|none=>none
 | .iaddrA len esz x i=>match Jbq σ.h len esz (σ.ev x) (σ.ev i) with|some v=>some (v,σ.h)|none=>none
 | .idx len esz ag x i=>match idxV len esz ag (σ.ev x) (σ.ev i) with|some v=>some (v,σ.h)|none=>none
 | .ext x i=>match σ.ev x with
  | .tup l=>(match l[i]? with|some v=>some (v,σ.h)|none=>none)
  | _=>none
 | .len x=>match lenV σ.h (σ.ev x) with|some n=>some (.int .i64 n,σ.h)|none=>none
 | .lenM x=>match lenM σ.h (σ.ev x) with|some n=>some (.int .i64 n,σ.h)|none=>none
 | .lenS x=>match lenS (σ.ev x) with|some n=>some (.int .i64 n,σ.h)|none=>none
 | .app esz bytes el _ x y=>appV σ.h g0 esz bytes el (σ.ev x) (σ.ev y)
 | .callp f args=>match Jco σ.h (args.map σ.ev) with
  | some (vs,ns)=>
   (match call f vs none with
    | some (v,_)=>if ns=[]\/v.scalar=true\/(call f vs (some (λ_=>none,0))).isSome=true then some (v,σ.h) else none
    | none=>none)
  | none=>none
 | .callz f args=>match Jco σ.h (args.map σ.ev) with
  | some (vs,ns)=>
   (match call f vs none with
    | some (v,_)=>some (v,Jd σ.h ns)
    | none=>none)
  | none=>none
 | .callv x args=>match Jco σ.h (σ.ev x::args.map σ.ev) with
  | some (.fn f caps::vs,ns)=>
   (match call f (vs++caps) none with
    | some (v,_)=>if ns=[]\/v.scalar=true then some (v,σ.h) else none
    | none=>none)
  | _=>none
 | .callq f args=>calQ call f σ.h (Jkp σ.h (args.map σ.ev))
 | .mkM ..=>some (.map g0 (Jv σ.h g0),upd σ.h g0 (some (.map (Jv σ.h g0) [] false)))
 | .look ok ag sh z x k=>match Jyk ok ag sh z (σ.ev k) (esOf σ.h (σ.ev x)) with|some v=>some (v,σ.h)|none=>none
 | .setM ag sh x k v=>match setV σ.h ag sh (σ.ev k) (σ.ev v) (σ.ev x) with|some h=>some (.any,h)|none=>none
 | .delM ag sh x k=>match delV σ.h ag sh (σ.ev k) (σ.ev x) with|some h=>some (.tup [],h)|none=>none
 | .shf op x y=>match σ.ev x,σ.ev y with
  | .int k a,.int _ b=>(match shfV op k a b with|some v=>some (v,σ.h)|none=>none)
  | _,_=>none
 | .mm mx x y=>match σ.ev x,σ.ev y with
  | .int k a,.int _ b=>some (.int k (mmV mx a b),σ.h)
  | _,_=>none
 | .appn ds esz bytes el _ x y=>apnV base ds g0 (σ.ev x) (appV σ.h g0 esz bytes el (σ.ev x) (σ.ev y))
 | .ston ds n x y=>if nwOK base ds g0 (σ.ev x)=true then (match Jcz σ.h n (σ.ev x) (σ.ev y) with|some h=>some (.any,h)|none=>none) else none
 | .msk ds op=>if op.cls=1 then mskR σ.h (Ja call base ⟨σ.f,K2 base ds σ.h⟩ g0 op) else none
 | .isnil ne x=>match Je7 σ.h (σ.ev x) with|some b=>some (.bool (if ne then !b else b),σ.h)|none=>none
 | .allocA esz t z=>some (.ptr g0 (Jv σ.h g0) 0,upd σ.h g0 (some (.arr (Jv σ.h g0) esz t z false)))
 | .slcA n esz x=>match Jqj σ.h n esz (σ.ev x) with|some v=>some (v,σ.h)|none=>none
 | .cpy esz x y=>Ju7 σ.h esz (σ.ev x) (σ.ev y)
def Y4(call:Call)(base:Nat)(o:LOper)(σ:St):Option St:=
 match o.guard with
 | none=>(match Ja call base σ (base+o.dst.getD 0) o.op with|some (v,h)=>some (σ.put o.dst v h)|none=>none)
 | some (g,want)=>
  match σ.f g with
  | .bool b=>if b=want then (match Ja call base σ (base+o.dst.getD 0) o.op with|some (v,h)=>some (σ.put o.dst v h)|none=>none) else some (σ.put o.dst (.tup []) σ.h)
  | .tup []=>some (σ.put o.dst (.tup []) σ.h)
  | _=>none
def LOp.isNew:LOp->Bool
 | .alloc _|.allocA .. | .box _|.bslice .. | .mkS .. | .mkM ..=>true
 | _=>false
def X9(call:Call)(base:Nat)(o:LOper)(σ:St):Option St:=
 if o.op.isNew=true/\(σ.h (base+o.dst.getD 0)).isSome=true then none else Y4 call base o σ
def Ye(call:Call)(base:Nat):List LOper->St->Option St
 | [],σ=>some σ
 | o::r,σ=>match X9 call base o σ with|some σ'=>Ye call base r σ'|none=>none
inductive RV where
 | tmp (t:Nat)
 | cell (t:Nat) (ag:Bool) (n:Nat)
 deriving Inhabited
def RV.get(σ:St):RV->Option AV
 | .tmp t=>some (σ.f t)
 | .cell t ag n=>Jbg σ.h ag n (σ.f t)
theorem Jh{α:Type}(f:Nat->α)(d:Nat)(v:α):upd f d v d=v:=by simp [upd]
theorem Jc{α:Type}(f:Nat->α)(d:Nat)(v:α)(n:Nat)(h:n≠d):upd f d v n=f n:=by simp [upd,h]
inductive RepP (w:World) (S:Nat->Prop):AV->Value->Prop where
 | bool (b:Bool):RepP w S (.bool b) (.bool b)
 | int (k:IntKind) (n:Int):RepP w S (.int k n) (.int k n)
 | str (s:ByteArray):RepP w S (.str s) (.string s)
 | nils:RepP w S .nils (.slice none 0 0)
 | nilp:RepP w S .nilp (.pointer none)
 | nilf:RepP w S .nilf .nilFunc
 | nilm:RepP w S .nilm (.map none)
 | mpr (ks vs:List AV) (b:Nat) (es:Array MapEntry) (clock:Nat) (hs:S b) (hb:w.heap[b]?=some (.map es clock)) (hk:es.size=ks.length) (hv:es.size=vs.length)
   (hrk:∀(i:Nat) (x:AV) (e:MapEntry),ks[i]?=some x->es[i]?=some e->RepP w S x e.key) (hrv:∀(i:Nat) (x:AV) (e:MapEntry),vs[i]?=some x->es[i]?=some e->RepP w S x e.val):RepP w S (.mpr ks vs) (.map (some b))
 | lst0:RepP w S (.lst 0 []) (.slice none 0 0)
 | lst (n:Nat) (l:List AV) (a:Addr) (cap:Nat) (cv:Nat->Value) (hs:l≠[]->S a.block) (hn:n<=cap)
   (hc:∀i x,l[i]?=some x->w.cell? (a.add i)=some (cv i)) (h1:∀i x,l[i]?=some x->(cv i).oneCell'=true)
   (hr:∀i x,l[i]?=some x->RepP w S x (cv i)):RepP w S (.lst n l) (.slice (some a) n cap)
 | rptr (l:List AV) (a:Addr) (cv:Nat->Value) (hs:l≠[]->S a.block)
   (hc:∀i x,l[i]?=some x->w.cell? (a.add i)=some (cv i)) (h1:∀i x,l[i]?=some x->(cv i).oneCell'=true)
   (hr:∀i x,l[i]?=some x->RepP w S x (cv i)):RepP w S (.rptr l) (.pointer (some a))
 | fn (f:FuncId) (l:List AV) (cs:Array Value) (hl:l.length=cs.size) (hr:∀i x,l[i]?=some x->RepP w S x (cs.getD i undef)):RepP w S (.fn f l) (.func (.func f) #[] cs)
 | bfn (f:FuncId) (l:List AV) (cs:Array Value) (hl:l.length=cs.size) (h1:∀i x,l[i]?=some x->(cs.getD i undef).oneCell'=true)
   (hr:∀i x,l[i]?=some x->RepP w S x (cs.getD i undef)):RepP w S (.bfn f l) (.func (.func f) #[.agg cs] #[])
 | agg (l:List AV) (cs:Array Value) (hl:l.length=cs.size) (h1:∀i x,l[i]?=some x->(cs.getD i undef).oneCell'=true)
   (hr:∀i x,l[i]?=some x->RepP w S x (cs.getD i undef)):RepP w S (.agg l) (.agg cs)
 | tup (l:List AV) (cs:Array Value) (hl:l.length=cs.size) (hr:∀i x,l[i]?=some x->RepP w S x (cs.getD i undef)):RepP w S (.tup l) (.tuple cs)
theorem Jq8{w w':World}{a:Addr}{n:Nat}(h:w'.heap[a.block]?=w.heap[a.block]?):w'.cell? (a.add n)=w.cell? (a.add n):=by
 have e:(a.add n).block=a.block:=by unfold Addr.add;split<;>rfl
 exact World.cell?_of_block (a:=a.add n) (by rw [e];exact h)
theorem RepP.mono{w w':World}{S S':Nat->Prop}{x:AV}{v:Value}(h:RepP w S x v)(hS:∀b,S b->S' b)(y:∀b,S b->w'.heap[b]?=w.heap[b]?):RepP w' S' x v:=by
 induction h with
 | bool b=>exact .bool b
 | int k n=>exact .int k n
 | str s=>exact .str s
 | nils=>exact .nils
 | nilp=>exact .nilp
 | nilf=>exact .nilf
 | nilm=>exact .nilm
 | mpr ks vs b es clock hs K J E G F r o=>exact .mpr ks vs b es clock (hS _ hs) ((y b hs).trans K) J E r o
 | lst0=>exact .lst0
 | lst n l a cap cv hs H A e g d=>exact .lst n l a cap cv (λB=>hS _ (hs B)) H (λi x m=>(Jq8 (y _ (hs (by rintro rfl;simp at m)))).trans (A i x m)) e d
 | rptr l a cv hs A e g d=>exact .rptr l a cv (λB=>hS _ (hs B)) (λi x m=>(Jq8 (y _ (hs (by rintro rfl;simp at m)))).trans (A i x m)) e d
 | fn f l cs hl g d=>exact .fn f l cs hl d
 | bfn f l cs hl e g d=>exact .bfn f l cs hl e d
 | agg l cs hl e g d=>exact .agg l cs hl e d
 | tup l cs hl g d=>exact .tup l cs hl d
structure Gh where
 b:Nat->Nat
 o:Nat->Nat
 l:Nat->Nat
def Gh.set(μ:Gh)(g b o:Nat):Gh:=⟨upd μ.b g b,upd μ.o g o,μ.l⟩
def ArrOK(w:World)(b o esz off len:Nat)(v:Value):Prop:=
 ∃(a:Addr) (cap:Nat) (cs:Array Value) (el:TypeId) (z:Nat×Nat),v=.slice (some a) len cap/\(len<=cap/\cap<=9223372036854775807)/\w.heap[b]?=some (.cells cs el z)/\o+(off+cap) * esz<=cs.size/\(0<cap->a=⟨b,o+off * esz,none⟩)
def ArrV(w:World)(cells:List AV)(b o esz off len:Nat)(v:Value):Prop:=
 (cells=[]->off=0/\len=0/\∃A,v=.slice A 0 0)/\(cells≠[]->ArrOK w b o esz off len v)
inductive Rep (w:World) (S:Nat->Prop) (h:Heap) (μ:Gh):AV->Value->Prop where
 | any (v:Value):Rep w S h μ .any v
 | pure {x:AV} {v:Value} (hp:RepP w S x v):Rep w S h μ x v
 | fn (f:FuncId) (l:List AV) (cs:Array Value) (hl:l.length=cs.size) (hr:∀i x,l[i]?=some x->Rep w S h μ x (cs.getD i undef)):Rep w S h μ (.fn f l) (.func (.func f) #[] cs)
 | agg (l:List AV) (cs:Array Value) (hl:l.length=cs.size) (h1:∀i x,l[i]?=some x->(cs.getD i undef).oneCell'=true)
   (hr:∀i x,l[i]?=some x->Rep w S h μ x (cs.getD i undef)):Rep w S h μ (.agg l) (.agg cs)
 | tup (l:List AV) (cs:Array Value) (hl:l.length=cs.size) (hr:∀i x,l[i]?=some x->Rep w S h μ x (cs.getD i undef)):Rep w S h μ (.tup l) (.tuple cs)
 | arr (g ver off len:Nat) (v:Value) (o:AObj) (ho:h g=some o) (hv:ver<=o.ver) (h1:v.oneCell'=true)
   (hr:ver=o.ver->∃esz el cells fz,o=.arr ver esz el cells fz/\ArrV w cells (μ.b g) (μ.o g) esz off len v):Rep w S h μ (.arr g ver off len) v
 | ptr (g ver off:Nat) (v:Value) (o:AObj) (ho:h g=some o) (hv:ver<=o.ver) (h1:v.oneCell'=true)
   (hr:ver=o.ver->v=.pointer (some ⟨μ.b g,μ.o g+off,none⟩)):Rep w S h μ (.ptr g ver off) v
 | map (g ver:Nat) (v:Value) (o:AObj) (ho:h g=some o) (hv:ver<=o.ver) (h1:v.oneCell'=true)
   (hr:ver=o.ver->v=.map (some (μ.b g))):Rep w S h μ (.map g ver) v
 | yld (j:Nat):Rep w S h μ (.yld j) (.func (.yield (μ.l j)) #[] #[])
def Born(es:Array MapEntry)(clock:Nat):Prop:=(∀x∈es.toList,x.born<clock)/\(es.toList.map (·.born)).Nodup
theorem born_nil(c:Nat):Born #[] c:=⟨by simp,by simp⟩
theorem Jzj{es:Array MapEntry}{c:Nat}(h:Born es c)(k v:Value):Born (es.push { key:=k,val:=v,born:=c }) (c+1):=by
 obtain ⟨d,l⟩:=h;refine ⟨λx hx=>?_,?_⟩
 ·simp only [Array.toList_push,List.mem_append,List.mem_singleton] at hx;rcases hx with hx|rfl
  ·have:=d x hx;omega
  ·exact Nat.lt_succ_self _
 ·simp only [Array.toList_push,List.map_append,List.map_cons,List.map_nil];refine List.nodup_append.2 ⟨l,by simp,λa g b f e=>?_⟩;simp only [List.mem_singleton] at f;obtain ⟨x,hx,rfl⟩:=Bd.1 g;have:=d x hx;omega
theorem Jr6{es:Array MapEntry}{c:Nat}(h:Born es c)(j:Nat)(f:MapEntry->MapEntry)(g:∀e,(f e).born=e.born):Born (es.modify j f) c:=by
 have key:∀(l:List MapEntry) (j:Nat),(l.modify j f).map (·.born)=l.map (·.born):=λl=>by
  induction l with
  | nil=>intro j;cases j<;>rfl
  | cons x r a=>
   intro j;cases j with
   | zero=>simp [g]
   | succ j=>simp [List.modify_succ_cons,a]
 have e:(es.modify j f).toList.map (·.born)=es.toList.map (·.born):=by rw [Array.toList_modify];exact key _ _
 refine ⟨λx hx=>?_,by rw [e];exact h.2⟩;have:x.born∈es.toList.map (·.born):=by rw [<-e];exact Bd.2 ⟨x,hx,rfl⟩
 obtain ⟨y,d,m⟩:=Bd.1 this;rw [<-m];exact h.1 y d
theorem born_sub{es es':Array MapEntry}{c:Nat}(h:Born es c)(hs:List.Sublist es'.toList es.toList):Born es' c:=
 ⟨λx hx=>h.1 x (hs.subset hx),h.2.sublist (hs.map _)⟩
def Holds(w:World)(S:Nat->Prop)(h:Heap)(μ:Gh)(cells:List AV)(cs:Array Value):Prop:=
 ∀i x,cells[i]?=some x->Rep w S h μ x (cs.getD i undef)/\(cs.getD i undef).oneCell'=true
def HoldsAt(w:World)(S:Nat->Prop)(h:Heap)(μ:Gh)(o:Nat)(cells:List AV)(cs:Array Value):Prop:=
 ∀i x,cells[i]?=some x->Rep w S h μ x (cs.getD (o+i) undef)/\(cs.getD (o+i) undef).oneCell'=true
def RepObj(w:World)(S:Nat->Prop)(h:Heap)(μ:Gh)(b o:Nat):AObj->Prop
 | .box _ cells=>∃cs el,w.heap[b]?=some (.cells cs el (0,0))/\o+cells.length<=cs.size/\HoldsAt w S h μ o cells cs
 | .arr _ _ el cells fz=>cells≠[]->∃cs,w.heap[b]?=some (.cells cs el (0,0))/\o+cells.length<=cs.size/\HoldsAt w S h μ o cells cs/\(fz=true->S b)
 | .map _ es fz=>∃(es':Array MapEntry) (clock:Nat),w.heap[b]?=some (.map es' clock)/\(es'.size=es.length/\Born es' clock)/\(fz=true->S b)/\∀(i:Nat) (k v:AV),es[i]?=some (k,v)->∃e:MapEntry,es'[i]?=some e/\RepP w S k e.key/\Rep w S h μ v e.val
def Own(h:Heap)(μ:Gh)(b:Nat):Prop:=∃g o,h g=some o/\o.fz=false/\o.live=true/\μ.b g=b
structure RepH (w:World) (S:Nat->Prop) (h:Heap) (μ:Gh):Prop where
 ob:∀g o,h g=some o->RepObj w S h μ (μ.b g) (μ.o g) o
 inj:∀g g' o o',h g=some o->h g'=some o'->o.live=true->o'.live=true->μ.b g=μ.b g'->g=g'
 own:∀g o,h g=some o->o.fz=false->o.live=true->¬S (μ.b g)
 lt:∀b,S b->b<w.heap.size
def Marks(w:World)(S:Nat->Prop)(ds:List Deferred):Prop:=ds.Nodup/\∀d∈ds,∃r,d={ target:=.collected r,args:=#[] }/\w.heap[r]?=some (.deferred (some []))/\¬S r
structure RepS (nt:Nat) (w:World) (S:Nat->Prop) (σ:St) (μ:Gh) (a:Act):Prop where
 fr:∀d,Rep w S σ.h μ (σ.f d) (a.tmps.getD d undef)
 hp:RepH w S σ.h μ
 df:Marks w S a.defers
 sz:nt<=a.tmps.size
structure Evo (w:World) (S:Nat->Prop) (h:Heap) (μ:Gh) (w':World) (S':Nat->Prop) (h':Heap) (μ':Gh):Prop where
 os:w'.os=w.os
 tape:w'.tape=w.tape
 output:w'.output=w.output/\w.drawn<=w'.drawn
 size:w.heap.size<=w'.heap.size
 keep:∀b,b<w.heap.size->¬Own h μ b->w'.heap[b]?=w.heap[b]?
 shape:∀(b:Nat) (cs:Array Value) (el:TypeId) (z:Nat×Nat),w.heap[b]?=some (.cells cs el z)->∃cs':Array Value,w'.heap[b]?=some (.cells cs' el z)/\cs'.size=cs.size
 st:∀b,S b->S' b
 st2:∀b,S' b->S b\/w.heap.size<=b\/Own h μ b
 ow:∀b,Own h' μ' b->Own h μ b\/w.heap.size<=b
 lp:μ'.l=μ.l
def AObj.kind:AObj->Nat
 | .box ..=>0
 | .arr ..=>1
 | .map ..=>2
def AObj.like:AObj->AObj->Prop
 | .arr _ e t c _,.arr _ d a c' _=>e=d/\t=a/\(c=[]↔c'=[])
 | x,y=>x.kind=y.kind
def EvoV(h:Heap)(μ:Gh)(h':Heap)(μ':Gh):Prop:=
 ∀g o,h g=some o->∃o',h' g=some o'/\o.ver<=o'.ver/\(o'.ver=o.ver->(μ'.b g=μ.b g/\μ'.o g=μ.o g)/\o.like o')
theorem AObj.like.refl(o:AObj):o.like o:=by cases o<;>simp [AObj.like]
theorem AObj.like.trans{a b c:AObj}(h:a.like b)(k:b.like c):a.like c:=by cases a<;>cases b<;>cases c<;>simp_all [AObj.like,AObj.kind]
theorem EvoV.refl(h:Heap)(μ:Gh):EvoV h μ h μ:=λ_ o a=>⟨o,a,Ab _,λ_=>⟨⟨rfl,rfl⟩,.refl o⟩⟩
theorem EvoV.trans{h h' h'':Heap}{μ μ' μ'':Gh}(a:EvoV h μ h' μ')(b:EvoV h' μ' h'' μ''):EvoV h μ h'' μ'':=by
 intro g o y;obtain ⟨o',l,hl,r⟩:=a g o y;obtain ⟨o'',f,m,d⟩:=b g o' l;refine ⟨o'',f,Ap hl m,λe=>?_⟩;have w:o'.ver=o.ver:=by omega
 have v:o''.ver=o'.ver:=by omega
 exact ⟨⟨(d v).1.1.trans (r w).1.1,(d v).1.2.trans (r w).1.2⟩,(r w).2.trans (d v).2⟩
section
variable {w w' w'':World} {S S' S'':Nat->Prop} {h h' h'':Heap} {μ μ' μ'':Gh}
theorem Evo.refl:Evo w S h μ w S h μ:=⟨rfl,rfl,⟨rfl,Ab _⟩,Ab _,λ_ _ _=>rfl,λ_ cs _ _ a=>⟨cs,a,rfl⟩,λ_ h=>h,λ_ h=>.inl h,λ_ h=>.inl h,rfl⟩
theorem Evo.trans(a:Evo w S h μ w' S' h' μ')(b:Evo w' S' h' μ' w'' S'' h'' μ''):Evo w S h μ w'' S'' h'' μ'' where
 os:=b.os.trans a.os
 tape:=b.tape.trans a.tape
 output:=⟨b.output.1.trans a.output.1,Ap a.output.2 b.output.2⟩
 size:=Ap a.size b.size
 keep x hx f:=(b.keep x (Nat.lt_of_lt_of_le hx a.size) λg=>(a.ow x g).elim f (by omega)).trans (a.keep x hx f)
 shape x cs el z l:=by obtain ⟨v,d,o⟩:=a.shape x cs el z l;obtain ⟨r,e,m⟩:=b.shape x v el z d;exact ⟨r,e,m.trans o⟩
 st x hx:=b.st x (a.st x hx)
 st2 x hx:=by
  rcases b.st2 x hx with d|d|d
  ·exact a.st2 x d
  ·exact .inr (.inl (Ap a.size d))
  ·rcases a.ow x d with e|e
   ·exact .inr (.inr e)
   ·exact .inr (.inl e)
 ow x hx:=by
  rcases b.ow x hx with d|d
  ·exact a.ow x d
  ·exact .inr (Ap a.size d)
 lp:=b.lp.trans a.lp
theorem RepH.not_own(d:RepH w S h μ){b:Nat}(l:S b):¬Own h μ b:=λ⟨g,o,f,a,hl,e⟩=>d.own g o f a hl (e▸l)
theorem RepH.kept(a:RepH w S h μ)(ev:Evo w S h μ w' S' h' μ'){b:Nat}(d:S b):w'.heap[b]?=w.heap[b]?:=ev.keep b (a.lt b d) (a.not_own d)
theorem RepP.evo{x:AV}{v:Value}(a:RepP w S x v)(d:RepH w S h μ)(ev:Evo w S h μ w' S' h' μ'):RepP w' S' x v:=a.mono ev.st λ_ e=>d.kept ev e
theorem ArrOK.evo{b o esz off len:Nat}{v:Value}(l:ArrOK w b o esz off len v)(ev:Evo w S h μ w' S' h' μ'):ArrOK w' b o esz off len v:=by obtain ⟨a,cap,cs,el,z,e,hl,g,hs,m⟩:=l;obtain ⟨cs',f,d⟩:=ev.shape _ _ _ _ g;exact ⟨a,cap,cs',el,z,e,hl,f,by rw [d];exact hs,m⟩
theorem ArrV.evo{cells cells':List AV}{b o esz off len:Nat}{v:Value}(d:ArrV w cells b o esz off len v)(ev:Evo w S h μ w' S' h' μ')(a:cells=[]↔cells'=[]):ArrV w' cells' b o esz off len v:=
 ⟨λe=>d.1 (a.2 e),λe=>(d.2 λq=>e (a.1 q)).evo ev⟩
theorem Rep.evo{x:AV}{v:Value}(r:Rep w S h μ x v)(L:RepH w S h μ)(ev:Evo w S h μ w' S' h' μ')(vv:EvoV h μ h' μ'):Rep w' S' h' μ' x v:=by
 induction r with
 | any v=>exact .any v
 | pure G=>exact .pure (G.evo L ev)
 | fn f l cs hl r B=>exact .fn f l cs hl B
 | agg l cs hl y r B=>exact .agg l cs hl y B
 | tup l cs hl r B=>exact .tup l cs hl B
 | arr g ver off len v o F E y r=>
  obtain ⟨o',d,m,A⟩:=vv g o F;refine .arr g ver off len v o' d (Ap E m) y λe=>?_;have N:ver=o.ver:=by omega
  obtain ⟨esz,el,cells,fz,eq,M⟩:=r N;obtain ⟨⟨em,eo⟩,a⟩:=A (by omega);subst eq;cases o' with
  | arr J P O c' K=>
   simp only [AObj.like] at a;obtain ⟨rfl,rfl,H⟩:=a;simp only [AObj.ver] at e;subst e;exact ⟨esz,el,c',K,rfl,by rw [em,eo];exact M.evo ev H⟩
  | box J c'=>simp [AObj.like,AObj.kind] at a
  | map J c'=>simp [AObj.like,AObj.kind] at a
 | ptr g ver off v o F E y r=>
  obtain ⟨o',d,m,A⟩:=vv g o F;exact .ptr g ver off v o' d (Ap E m) y λe=>by rw [(A (by omega)).1.1,(A (by omega)).1.2];exact r (by omega)
 | yld j=>rw [<-ev.lp];exact .yld j
 | map g ver v o F E y r=>
  obtain ⟨o',d,m,A⟩:=vv g o F;exact .map g ver v o' d (Ap E m) y λe=>by rw [(A (by omega)).1.1];exact r (by omega)
theorem Holds.evo{cells:List AV}{cs:Array Value}(d:Holds w S h μ cells cs)(e:RepH w S h μ)(ev:Evo w S h μ w' S' h' μ')(vv:EvoV h μ h' μ'):Holds w' S' h' μ' cells cs:=
 λi x a=>⟨(d i x a).1.evo e ev vv,(d i x a).2⟩
theorem HoldsAt.evo{o:Nat}{cells:List AV}{cs:Array Value}(d:HoldsAt w S h μ o cells cs)(e:RepH w S h μ)(ev:Evo w S h μ w' S' h' μ')(vv:EvoV h μ h' μ'):HoldsAt w' S' h' μ' o cells cs:=
 λi x a=>⟨(d i x a).1.evo e ev vv,(d i x a).2⟩
theorem Holds.at0{cells:List AV}{cs:Array Value}(d:Holds w S h μ cells cs):HoldsAt w S h μ 0 cells cs:=λi x a=>by rw [Nat.zero_add];exact d i x a
theorem RepObj.evo{b k:Nat}{o:AObj}(r:RepObj w S h μ b k o)(l:RepH w S h μ)(ev:Evo w S h μ w' S' h' μ')(vv:EvoV h μ h' μ')(y:o.live=true->w'.heap[b]?=w.heap[b]?):RepObj w' S' h' μ' b k o:=by
 cases o with
 | box v cells=>
  obtain ⟨cs,el,g,f,d⟩:=r;exact ⟨cs,el,(y rfl).trans g,f,d.evo l ev vv⟩
 | arr v e t cells z=>
  intro a;obtain ⟨cs,g,f,d,G⟩:=r a;exact ⟨cs,(y (by cases cells<;>first|rfl|exact (a rfl).elim)).trans g,f,d.evo l ev vv,λm=>ev.st _ (G m)⟩
 | map v es z=>
  obtain ⟨es',clock,g,f,m,d⟩:=r;refine ⟨es',clock,(y rfl).trans g,f,λq=>ev.st _ (m q),λi k v E=>?_⟩;obtain ⟨e,F,B,A⟩:=d i k v E;exact ⟨e,F,B.evo l ev,A.evo l ev vv⟩
theorem Ki{v e:Nat}{t:TypeId}{cells:List AV}{z:Bool}:(AObj.arr v e t cells z).live=true↔cells≠[]:=by cases cells<;>simp [AObj.live]
theorem RepObj.lt{b k:Nat}{o:AObj}(d:RepObj w S h μ b k o)(hl:o.live=true):b<w.heap.size:=by
 have:∃x,w.heap[b]?=some x:=by
  cases o with
  | box v cells=>obtain ⟨cs,el,a,_⟩:=d;exact ⟨_,a⟩
  | arr v e t cells z=>obtain ⟨cs,a,_⟩:=d (Ki.1 hl);exact ⟨_,a⟩
  | map v es z=>obtain ⟨es',clock,a,_⟩:=d;exact ⟨_,a⟩
 obtain ⟨x,hx⟩:=this;exact (As.1 hx).1
theorem RepH.no_own(f:RepH w S h μ){b:Nat}{ob:Obj}(a:w.heap[b]?=some ob)(d:∀cs el z,ob≠.cells cs el z)(m:∀es k,ob≠.map es k):¬Own h μ b:=by
 rintro ⟨g,o,l,r,hl,rfl⟩;have:=f.ob g o l;cases o with
 | box v cells=>obtain ⟨cs,el,q,_⟩:=this;rw [a] at q;injection q with q;exact d _ _ _ q
 | arr v e t cells z=>obtain ⟨cs,q,_⟩:=this (Ki.1 hl);rw [a] at q;injection q with q;exact d _ _ _ q
 | map v es z=>obtain ⟨es',clock,q,_⟩:=this;rw [a] at q;injection q with q;exact m _ _ q
theorem RepH.marks(l:RepH w S h μ){ds:List Deferred}(hd:Marks w S ds)(ev:Evo w S h μ w' S' h' μ'):Marks w' S' ds:=by
 refine ⟨hd.1,λd m=>?_⟩;obtain ⟨r,e,a,hs⟩:=hd.2 d m;have g:=l.no_own a (by intros;simp) (by intros;simp);have f:=(As.1 a).1;refine ⟨r,e,(ev.keep r f g).trans a,λq=>?_⟩;rcases ev.st2 r q with q|q|q
 ·exact hs q
 ·omega
 ·exact g q
theorem Marks.nil{w:World}{S:Nat->Prop}:Marks w S []:=⟨List.nodup_nil,λd hd=>(by cases hd)⟩
theorem Jjs(a:w'.heap=w.heap)(g:w'.os=w.os)(f:w'.tape=w.tape)(e:w'.output=w.output/\w.drawn<=w'.drawn):Evo w S h μ w' S h μ:=
 ⟨g,f,e,by rw [a];exact Ab _,λ_ _ _=>by rw [a],λ_ cs _ _ d=>⟨cs,by rw [a];exact d,rfl⟩,λ_ h=>h,λ_ h=>.inl h,λ_ h=>.inl h,rfl⟩
theorem RepH.of_same(a:RepH w S h μ)(d:w'.heap=w.heap)(r:w'.os=w.os)(m:w'.tape=w.tape)(l:w'.output=w.output/\w.drawn<=w'.drawn):RepH w' S h μ:=
 ⟨λg o e=>(a.ob g o e).evo a (Jjs d r m l) (.refl h μ) (λ_=>by rw [d]),a.inj,a.own,λb f=>by rw [d];exact a.lt b f⟩
theorem j8:Evo w S h μ w.drew S h μ:=Jjs rfl rfl rfl ⟨rfl,Bc _⟩
theorem Jrr(g:Nat)(o:AObj)(ob:Obj)(l:o.ver=Jv h g\/Jv h g<o.ver) :
  Evo w S h μ (w.alloc ob) S (upd h g (some o)) (μ.set g w.heap.size 0)/\EvoV h μ (upd h g (some o)) (μ.set g w.heap.size 0):=by
 refine ⟨⟨rfl,rfl,⟨rfl,Ab _⟩,by simp,λb v _=>heap_alloc_old w ob b v,λb cs el z m=>⟨cs,?_,rfl⟩,λ_ h=>h,λ_ h=>.inl h,?_,rfl⟩,?_⟩
 ·rw [heap_alloc_old w ob b (As.1 m).1];exact m
 ·rintro b ⟨f,o',a,r,hl,e⟩;by_cases d:f=g
  ·subst d;simp only [Gh.set,Jh] at e;exact .inr (by omega)
  ·simp only [Gh.set,Jc _ _ _ _ d] at a e;exact .inl ⟨f,o',a,r,hl,e⟩
 ·intro f o' a;by_cases d:f=g
  ·subst d;have:Jv h f=o'.ver+1:=by simp [Jv,a]
   exact ⟨o,Jh _ _ _,by omega,λe=>by omega⟩
  ·exact ⟨o',by rw [Jc _ _ _ _ d];exact a,Ab _,λ_=>⟨⟨Jc _ _ _ _ d,Jc _ _ _ _ d⟩,.refl o'⟩⟩
theorem Juj{g:Nat}{o:AObj}{ob:Obj}(d:RepH w S h μ)(v:o.ver=Jv h g\/Jv h g<o.ver)
  (E:RepObj (w.alloc ob) S (upd h g (some o)) (μ.set g w.heap.size 0) w.heap.size 0 o):RepH (w.alloc ob) S (upd h g (some o)) (μ.set g w.heap.size 0):=by
 obtain ⟨ev,vv⟩:=Jrr (w:=w) (S:=S) (h:=h) (μ:=μ) g o ob v;refine ⟨λr o' a=>?_,λH G K J A y M L e=>?_,λr o' a B F hs=>?_,λb N=>by have:=d.lt b N;simp;omega⟩
 ·by_cases m:r=g
  ·subst m;simp only [Gh.set,Jh] at a ⊢;injection a with e;subst e;exact E
  ·rw [Jc _ _ _ _ m] at a;have:=(d.ob r o' a).evo d ev vv (λhl=>heap_alloc_old w ob _ ((d.ob r o' a).lt hl));simpa only [Gh.set,Jc _ _ _ _ m] using this
 ·by_cases l:H=g<;>by_cases f:G=g
  ·rw [l,f]
  ·subst l;simp only [Gh.set,Jc _ _ _ _ f,Jh] at y e;have:=(d.ob G J y).lt L;omega
  ·subst f;simp only [Gh.set,Jc _ _ _ _ l,Jh] at A e;have:=(d.ob H K A).lt M;omega
  ·simp only [Gh.set,Jc _ _ _ _ l,Jc _ _ _ _ f] at A y e;exact d.inj H G K J A y M L e
 ·by_cases m:r=g
  ·subst m;simp only [Gh.set,Jh] at hs;have:=d.lt _ hs;omega
  ·simp only [Gh.set,Jc _ _ _ _ m] at a hs;exact d.own r o' a B F hs
theorem Jmn{g k:Nat}{o o':AObj}{cs:Array Value}(y:h g=some o)(G:o.fz=false)(hl:o.live=true)(r:o.ver<o'.ver\/o.ver=o'.ver/\k=μ.o g/\o.like o')
  (B:∀old el z,w.heap[μ.b g]?=some (.cells old el z)->cs.size=old.size) :
  Evo w S h μ (w.setRow (μ.b g) cs) S (upd h g (some o')) (μ.set g (μ.b g) k)/\EvoV h μ (upd h g (some o')) (μ.set g (μ.b g) k):=by
 have F:∀d,(μ.set g (μ.b g) k).b d=μ.b d:=λd=>by
  by_cases f:d=g
  ·subst f;simp [Gh.set,Jh]
  ·simp [Gh.set,Jc _ _ _ _ f]
 refine ⟨⟨rfl,rfl,⟨rfl,Ab _⟩,by simp,λb K H=>setRow_other w (μ.b g) b cs λe=>H ⟨g,o,y,G,hl,e.symm⟩,λb c el z E=>?_,λ_ h=>h,λ_ h=>.inl h,?_,rfl⟩,?_⟩
 ·by_cases l:b=μ.b g
  ·subst l;exact ⟨cs,setRow_heap w _ _ cs el z E,B _ _ _ E⟩
  ·exact ⟨c,by rw [setRow_other w (μ.b g) b cs l];exact E,rfl⟩
 ·rintro b ⟨d,m,a,v,A,e⟩;rw [F] at e;by_cases f:d=g
  ·subst f;exact .inl ⟨d,o,y,G,hl,e⟩
  ·rw [Jc _ _ _ _ f] at a;exact .inl ⟨d,m,a,v,A,e⟩
 ·intro d m a;by_cases f:d=g
  ·subst f;rw [y] at a;injection a with e;subst e;exact ⟨o',Jh _ _ _,by omega,λe=>⟨⟨F _,by
    rcases r with r|⟨_,J,_⟩
    ·omega
    ·simp only [Gh.set,Jh];exact J⟩,by
    rcases r with r|⟨_,_,hl⟩
    ·omega
    ·exact hl⟩⟩
  ·exact ⟨m,by rw [Jc _ _ _ _ f];exact a,Ab _,λ_=>⟨⟨F _,by simp [Gh.set,Jc _ _ _ _ f]⟩,.refl m⟩⟩
theorem Jna{g k:Nat}{o o':AObj}{cs:Array Value}(v:RepH w S h μ)(A:h g=some o)(J:o.fz=false)(hl:o.live=true)(O:o.ver<o'.ver\/o.ver=o'.ver/\k=μ.o g/\o.like o')
  (H:∀old el z,w.heap[μ.b g]?=some (.cells old el z)->cs.size=old.size)
  (F:RepObj (w.setRow (μ.b g) cs) S (upd h g (some o')) (μ.set g (μ.b g) k) (μ.b g) k o'):RepH (w.setRow (μ.b g) cs) S (upd h g (some o')) (μ.set g (μ.b g) k):=by
 obtain ⟨ev,vv⟩:=Jmn (S:=S) A J hl O H;have r:∀f,(μ.set g (μ.b g) k).b f=μ.b f:=λf=>by
  by_cases l:f=g
  ·subst l;simp [Gh.set,Jh]
  ·simp [Gh.set,Jc _ _ _ _ l]
 refine ⟨λf m d=>?_,λL K m y R Q B M e=>?_,λf m d E G hs=>?_,λb r=>by rw [setRow_size];exact v.lt b r⟩
 ·rw [r];by_cases l:f=g
  ·subst l;rw [Jh] at d;injection d with e;subst e;simpa only [Gh.set,Jh] using F
  ·rw [Jc _ _ _ _ l] at d;have:=(v.ob f m d).evo v ev vv (λB=>setRow_other w _ _ cs λe=>l (v.inj f g m o d A B hl e));simpa only [Gh.set,Jc _ _ _ _ l] using this
 ·rw [r,r] at e;have key:∀f m,upd h g (some o') f=some m->m.live=true->∃y,h f=some y/\y.live=true:=λf m h' N=>by
   by_cases l:f=g
   ·subst l;exact ⟨o,A,hl⟩
   ·rw [Jc _ _ _ _ l] at h';exact ⟨m,h',N⟩
  obtain ⟨a,P,la⟩:=key L m R B;obtain ⟨b,r,lb⟩:=key K y Q M;exact v.inj L K a b P r la lb e
 ·rw [r] at hs;by_cases l:f=g
  ·subst l;exact v.own f o A J hl hs
  ·rw [Jc _ _ _ _ l] at d;exact v.own f m d E G hs
end
section
variable {w:World} {S:Nat->Prop} {h:Heap} {μ:Gh} {v:Value}
theorem Rep.int_inv{k:IntKind}{n:Int}(a:Rep w S h μ (.int k n) v):v=.int k n:=by cases a with|pure d=>cases d;rfl
theorem Rep.bool_inv{b:Bool}(a:Rep w S h μ (.bool b) v):v=.bool b:=by cases a with|pure d=>cases d;rfl
theorem Rep.nils_inv(a:Rep w S h μ .nils v):v=.slice none 0 0:=by cases a with|pure d=>cases d;rfl
theorem Rep.mpr_inv{ks vs:List AV}(g:Rep w S h μ (.mpr ks vs) v):∃(b:Nat) (es:Array MapEntry) (clock:Nat),v=.map (some b)/\S b/\w.heap[b]?=some (.map es clock)/\es.size=ks.length/\es.size=vs.length/\(∀(i:Nat) (x:AV) (e:MapEntry),ks[i]?=some x->es[i]?=some e->RepP w S x e.key)/\∀(i:Nat) (x:AV) (e:MapEntry),vs[i]?=some x->es[i]?=some e->RepP w S x e.val:=by
 cases g with
 | pure l=>cases l with|mpr _ _ b es clock hs o m f d a=>exact ⟨b,es,clock,rfl,hs,o,m,f,d,a⟩
theorem Rep.nilm_inv(a:Rep w S h μ .nilm v):v=.map none:=by cases a with|pure d=>cases d;rfl
theorem Rep.str_inv{s:ByteArray}(a:Rep w S h μ (.str s) v):v=.string s:=by cases a with|pure d=>cases d;rfl
theorem Rep.tup0_inv(a:Rep w S h μ (.tup []) v):v=.tuple #[]:=by
 cases a with
 | pure d=>cases d with|tup _ cs hl _=>simp at hl;rw [Aw hl.symm]
 | tup _ cs hl _=>simp at hl;rw [Aw hl.symm]
theorem Rep.agg_inv{l:List AV}(a:Rep w S h μ (.agg l) v):∃cs:Array Value,v=.agg cs/\l.length=cs.size/\Holds w S h μ l cs:=by
 cases a with
 | pure f=>cases f with|agg _ cs hl e a=>exact ⟨cs,rfl,hl,λi x d=>⟨.pure (a i x d),e i x d⟩⟩
 | agg _ cs hl e a=>exact ⟨cs,rfl,hl,λi x d=>⟨a i x d,e i x d⟩⟩
theorem Rep.tup_inv{l:List AV}(a:Rep w S h μ (.tup l) v):∃cs:Array Value,v=.tuple cs/\l.length=cs.size/\∀i x,l[i]?=some x->Rep w S h μ x (cs.getD i undef):=by
 cases a with
 | pure e=>cases e with|tup _ cs hl a=>exact ⟨cs,rfl,hl,λi x d=>.pure (a i x d)⟩
 | tup _ cs hl a=>exact ⟨cs,rfl,hl,λi x d=>a i x d⟩
theorem Rep.fn_inv{f:FuncId}{l:List AV}(a:Rep w S h μ (.fn f l) v):∃cs:Array Value,v=.func (.func f) #[] cs/\l.length=cs.size/\∀i x,l[i]?=some x->Rep w S h μ x (cs.getD i undef):=by
 cases a with
 | pure e=>cases e with|fn _ _ cs hl a=>exact ⟨cs,rfl,hl,λi x d=>.pure (a i x d)⟩
 | fn _ _ cs hl a=>exact ⟨cs,rfl,hl,λi x d=>a i x d⟩
theorem Rep.bfn_inv{f:FuncId}{l:List AV}(a:Rep w S h μ (.bfn f l) v):∃cs:Array Value,v=.func (.func f) #[.agg cs] #[]/\Rep w S h μ (.agg l) (.agg cs):=by
 cases a with
 | pure d=>cases d with|bfn _ _ cs hl e a=>exact ⟨cs,rfl,.pure (.agg _ _ hl e a)⟩
theorem Rep.one{x:AV}(d:Rep w S h μ x v)(a:x.one=true):v.oneCell'=true:=by
 cases d with
 | any=>simp [AV.one] at a
 | pure e=>cases e<;>simp_all [AV.one,Value.oneCell']
 | fn=>rfl
 | agg=>simp [AV.one] at a
 | tup=>simp [AV.one] at a
 | arr _ _ _ _ _ _ _ _ h=>exact h
 | ptr _ _ _ _ _ _ _ h=>exact h
 | map _ _ _ _ _ _ h=>exact h
 | yld=>rfl
theorem Jpn(v:Value)(a:v.oneCell'=true):v.cells=#[v]:=by cases v<;>simp_all [Value.oneCell',Value.cells]
theorem Rep.cells{x:AV}{c:List AV}(a:Rep w S h μ x v)(g:x.cells=some c):v.cells.size=c.length/\Holds w S h μ c v.cells:=by
 by_cases e:x.one=true
 ·have:c=[x]:=by cases x<;>simp_all [AV.cells,AV.one]
  subst this;rw [Jpn v (a.one e)];refine ⟨rfl,λi y d=>?_⟩
  match i,d with
  | 0,d=>simp at d;subst d;exact ⟨a,a.one e⟩
 ·cases x<;>simp_all [AV.cells,AV.one];obtain ⟨cs,rfl,hl,f⟩:=a.agg_inv;exact ⟨hl.symm,f⟩
end
def cOf1:Value->Option AV
 | .bool b=>some (.bool b)
 | .int k n=>some (.int k n)
 | .string s=>some (.str s)
 | .slice none 0 0=>some .nils
 | .pointer none=>some .nilp
 | .nilFunc=>some .nilf
 | .map none=>some .nilm
 | _=>none
def cOfL:List Value->Option (List AV)
 | []=>some []
 | v::r=>
  match cOf1 v,cOfL r with
  | some x,some l=>some (x::l)
  | _,_=>none
def cOf:Value->Option AV
 | .agg cs=>(cOfL cs.toList).map .agg
 | .tuple cs=>if cs.size=0 then some (.tup []) else none
 | v=>cOf1 v
def cLO:Operand->Option LO
 | .tmp t=>some (.t t)
 | .const v=>(cOf v).map .c
 | .func f=>some (.c (.fn f []))
 | .global _=>none
def cLOs:List Operand->Option (List LO)
 | []=>some []
 | x::r=>
  match cLO x,cLOs r with
  | some a,some l=>some (a::l)
  | _,_=>none
def zc(P:Program)(t:TypeId):Option (List AV):=
 match P.info? t with
 | some i=>(match i.zero with|some z=>(match cOfL z.cells.toList with|some l=>if l.length=i.size then some l else none|none=>none)|none=>none)
 | none=>none
def zvC(P:Program)(t:TypeId):Option AV:=
 match P.info? t with
 | some i=>(match i.zero with|some z=>cOf z|none=>none)
 | none=>none
def szT(P:Program)(t:TypeId):Option Nat:=(P.info? t).map (·.size)
def aggT(P:Program)(t:TypeId):Option Bool:=
 match P.underlying t with
 | some (.struct _)|some (.array _ _)=>some true
 | some _=>some false
 | none=>none
def Jrj(P:Program)(g:TypeId->Option (List Bool)):List Field->Nat->Option (List Bool)
 | [],_=>some []
 | f::r,k=>
  match g f.type,aggT P f.type,szT P f.type with
  | some a, some ag, some m => if f.offset = k /\ f.name ≠ "_" /\ m = a.length /\ (ag \/ m = 1) then (match Jrj P g r (k + m) with | some b => some (a ++ b) | none => none) else none
  | _,_,_=>none
def eqSh(P:Program):Nat->TypeId->Option (List Bool)
 | 0,_=>none
 | n+1,t=>
  match P.underlying t with
  | some .bool=>some [true]
  | some (.int _)=>some [false]
  | some (.struct fs)=>if P.stoodInHeld t then none else Jrj P (eqSh P n) fs.toList 0
  | _=>none
def eqT(P:Program)(t:TypeId):Option (Bool×List Bool):=
 match eqSh P 6 t,aggT P t with
 | some sh,some ag=>if P.eqGuardType P.depth t then none else some (ag,sh)
 | _,_=>none
def Jeu(place:Nat->Option (Nat×Nat)):List (Nat×Operand)->Option (List (Nat×Nat×LO))
 | []=>some []
 | (i,x)::r=>
  match place i,cLO x,Jeu place r with
  | some (off,n),some x,some l=>some ((off,n,x)::l)
  | _,_,_=>none
inductive CM where
 | p
 | z
 | q
def Jll(cm:List (Nat×CM))(d:Option Nat):CM:=
 match cm.find? (λx=>x.1==d.getD 0) with
 | some (_,m)=>m
 | none=>.p
def Zq(P:Program)(cm:List (Nat×CM))(dst:Option Nat):Op->Option LOp
 | .move x|.assign x=>(cLO x).map .mov
 | .pick c a b=>match cLO c,cLO a,cLO b with|some c,some a,some b=>some (.pick c a b)|_,_,_=>none
 | .alloc e=>(match Jll cm dst with
  | .z=>(match P.underlying e with
   | some (.array _ el)=>(match szT P el,zc P e with|some n,some z=>some (.allocA n e z)|_,_=>none)
   | _=>none)
  | _=>(zc P e).map .alloc)
 | .box _ x=>(cLO x).map .box
 | .build t ps=>match zc P t,P.underlying t with
  | some z,some (.struct fs)=>(match fs.toList.mapM (λf=>(P.info? f.type).map λi=>(f.offset,i.size)) with
   | some pl=>(Jeu (λi=>pl[i]?) ps.toList).map (.build z)
   | none=>none)
  | some z,some (.array _ e)=>(match P.info? e with|some i=>(Jeu (λk=>some (k * i.size,i.size)) ps.toList).map (.build z)|none=>none)
  | _,_=>none
 | .buildSlice t n ps=>match P.underlying t with
  | some (.slice e)=>(match P.info? e,zc P e with
   | some i,some z=>if n * i.size<=16777216/\0<i.size then (Jeu (λk=>some (k * i.size,i.size)) ps.toList).map (.bslice n i.size e z) else none
   | _,_=>none)
  | _=>none
 | .load t x=>match aggT P t,szT P t,cLO x with
  | some ag,some n,some x=>if ag\/n=1 then some (.load ag n x) else none
  | _,_,_=>none
 | .store t x y=>match szT P t,cLO x,cLO y with
  | some n,some x,some y=>some (.store n x y)
  | _,_,_=>none
 | .binOp op t x y yt=>match P.underlying t,cLO x,cLO y with
  | some (.int _),some x,some y=>(match op with|.shl|.shr=>(match P.underlying yt with|some (.int _)=>some (.shf op x y)|_=>none)|_=>some (.ibin op x y))
  | some (.slice _),some x,some (.c .nils)=>(match op with|.eql=>some (.isnil false x)|.neq=>some (.isnil true x)|_=>none)
  | some _,some x,some y=>(match op with
   | .eql=>(match eqT P t with|some (ag,sh)=>some (.eqv false ag sh x y)|none=>none)
   | .neq=>(match eqT P t with|some (ag,sh)=>some (.eqv true ag sh x y)|none=>none)
   | _=>none)
  | _,_,_=>none
 | .unOp op _ x=>(cLO x).map (.un op)
 | .convert s d x=>match P.underlying s,P.underlying d,cLO x with
  | some (.int _),some (.int k),some x=>some (.conv k x)
  | _,_,_=>none
 | .nilCheck x=>(cLO x).map .nilck
 | .makeFunc (.func f) first caps=>if first.size=0 then (cLOs caps.toList).map (.mkfn f) else if caps.size=0 then (match cLOs first.toList with|some [x]=>some (.mkbf f x)|_=>none) else none
 | .makeSlice t l c=>match P.underlying t with
  | some (.slice e)=>(match P.info? e,zc P e,cLO l,cLO c with
   | some i,some z,some l,some c=>if 0<i.size then some (.mkS i.size i.bytes e z l c) else none
   | _,_,_,_=>none)
  | _=>none
 | .makeMap t none=>match P.underlying t with
  | some (.map kt et)=>some (.mkM kt et (match P.underlying et with|some (.slice x)=>x|_=>0))
  | _=>none
 | .lookup t x k ok=>match P.underlying t with
  | some (.map kt et)=>(match eqSh P 6 kt,aggT P kt,zvC P et with
   | some sh,some ag,some z=>(match cLO x,cLO k with
    | some x,some k=>some (.look ok ag sh (upZ z) x k)
    | _,_=>none)
   | _,_,_=>none)
  | _=>none
 | .mapUpdate t x k v|.insert t x k v=>match P.underlying t with
  | some (.map kt _)=>(match eqSh P 6 kt,aggT P kt with
   | some sh,some ag=>(match cLO x,cLO k,cLO v with
    | some x,some k,some v=>some (.setM ag sh x k v)
    | _,_,_=>none)
   | _,_=>none)
  | _=>none
 | .slice t x lo g none=>match P.underlying t with
  | some (.slice e)=>(match szT P e,cLO x with
   | some n,some x=>
    (match lo,g with
     | none,none=>some (.slc n x none none)
     | some a,none=>(match cLO a with|some a=>some (.slc n x (some a) none)|none=>none)
     | none,some b=>(match cLO b with|some b=>some (.slc n x none (some b))|none=>none)
     | some a,some b=>(match cLO a,cLO b with|some a,some b=>some (.slc n x (some a) (some b))|_,_=>none))
   | _,_=>none)
  | some (.array n el)=>(match lo,g with
   | none,none=>(match szT P el,cLO x with|some s,some x=>(match Nat.ble n 9223372036854775807 with|true=>some (.slcA n s x)|false=>none)|_,_=>none)
   | _,_=>none)
  | _=>none
 | .fieldAddr s x f=>match P.underlying s with
  | some (.struct fs)=>(match fs[f]?,cLO x with
   | some fd,some x=>(match szT P fd.type with|some n=>if n≠0 then some (.faddr fd.offset x) else none|none=>none)
   | _,_=>none)
  | _=>none
 | .field s x f=>match P.underlying s with
  | some (.struct fs)=>(match fs[f]?,cLO x with
   | some fd,some x=>(match aggT P fd.type,szT P fd.type with|some ag,some n=>if ag\/n=1 then some (.fld ag fd.offset n x) else none|_,_=>none)
   | _,_=>none)
  | _=>none
 | .indexAddr t x i=>match P.underlying t,cLO x,cLO i with
  | some (.slice e),some x,some i=>(match szT P e with|some n=>some (.iaddr n x i)|none=>none)
  | some (.array len e),some x,some i=>(match szT P e with|some n=>some (.iaddrA len n x i)|none=>none)
  | _,_,_=>none
 | .index t x i=>match P.underlying t,cLO x,cLO i with
  | some (.array len e),some x,some i=>(match aggT P e,szT P e with|some ag,some n=>if ag\/n=1 then some (.idx len n ag x i) else none|_,_=>none)
  | _,_,_=>none
 | .extract x i=>(cLO x).map (.ext · i)
 | .call c=>match c.callee with
  | .builtin .len=>(match c.args.toList,c.argTypes.toList with
   | [x],[t]=>(match P.underlying t,cLO x with
    | some (.slice _),some x=>some (.len x)
    | some (.map _ _),some x=>some (.lenM x)
    | some .string,some x=>some (.lenS x)
    | _,_=>none)
   | _,_=>none)
  | .builtin .append=>(match c.args.toList,c.argTypes.toList with
   | [x,y],[t,h]=>if t=h then (match P.underlying t,cLO x,cLO y with
    | some (.slice e),some x,some y=>(match P.info? e,zc P e with
     | some i,some z=>if 0<i.size then some (.app i.size i.bytes e z x y) else none
     | _,_=>none)
    | _,_,_=>none) else none
   | _,_=>none)
  | .builtin .delete=>(match c.args.toList,c.argTypes.toList with
   | [x,k],t::_=>(match P.underlying t with
    | some (.map kt _)=>(match eqSh P 6 kt,aggT P kt with
     | some sh,some ag=>(match cLO x,cLO k with
      | some x,some k=>some (.delM ag sh x k)
      | _,_=>none)
     | _,_=>none)
    | _=>none)
   | _,_=>none)
  | .builtin .copy=>(match c.args.toList,c.argTypes.toList with
   | [x,y],t::_=>(match P.underlying t,cLO x,cLO y with
    | some (.slice e),some x,some y=>(match szT P e with
     | some n=>some (.cpy n x y)
     | none=>none)
    | _,_,_=>none)
   | _,_=>none)
  | .builtin .max=>(match c.args.toList with
   | [x,y]=>(match cLO x,cLO y with|some x,some y=>some (.mm true x y)|_,_=>none)
   | _=>none)
  | .builtin .min=>(match c.args.toList with
   | [x,y]=>(match cLO x,cLO y with|some x,some y=>some (.mm false x y)|_,_=>none)
   | _=>none)
  | .value (.func f)=>(match cLOs c.args.toList with
   | some as=>some (match Jll cm dst with|.p=>.callp f as|.z=>.callz f as|.q=>.callq f as)
   | none=>none)
  | .value (.tmp x)=>(cLOs c.args.toList).map (.callv (.t x))
  | _=>none
 | _=>none
def comp(P:Program)(cm:List (Nat×CM))(nt:Nat)(ops:Array Oper)(o:Oper):Option LOper:=
 match Zq P cm o.dst o.op with
 | none=>none
 | some op=>
  if Jvl nt o.dst then
   match o.guard with
   | none=>some ⟨o.dst,op,none⟩
   | some (j,want)=>(match (ops[j]?).bind (·.dst) with|some d=>if d<nt then some ⟨o.dst,op,some (d,want)⟩ else none|none=>none)
  else none
section
variable {w:World} {S:Nat->Prop} {h:Heap} {μ:Gh}
theorem Jut{v:Value}{x:AV}(hx:cOf1 v=some x):RepP w S x v/\v.oneCell'=true:=by unfold cOf1 at hx;split at hx<;>first|(injection hx with hx;subst hx;refine ⟨?_,rfl⟩;constructor)|cases hx
theorem Jhy:∀ {l:List Value} {m:List AV},cOfL l=some m->m.length=l.length/\∀(i:Nat) (x:AV),m[i]?=some x->∃v:Value,l[i]?=some v/\RepP w S x v/\v.oneCell'=true
 | [],m,a=>by simp [cOfL] at a;subst a;exact ⟨rfl,λi x d=>by simp at d⟩
 | v::r,m,a=>by
  unfold cOfL at a;split at a
  ·rename_i x l hx hl;injection a with a;subst a;obtain ⟨f,e⟩:=Jhy hl;refine ⟨by simp [f],λi y d=>?_⟩;cases i with
   | zero=>simp at d;subst d;exact ⟨v,rfl,Jut hx⟩
   | succ i=>simpa using e i y (by simpa using d)
  ·cases a
theorem z8{l:List Value}{m:List AV}(f:cOfL l=some m):Holds w S h μ m l.toArray:=by
 intro i x g;obtain ⟨v,a,d,o⟩:=(Jhy f).2 i x g;have e:l.toArray.getD i undef=v:=by simp [a]
 rw [e];exact ⟨.pure d,o⟩
theorem Jw1{v:Value}{x:AV}(hx:cOf v=some x):Rep w S h μ x v:=by
 unfold cOf at hx;split at hx
 ·rename_i cs;cases hl:cOfL cs.toList with
  | none=>rw [hl] at hx;cases hx
  | some l=>
   rw [hl] at hx;simp at hx;subst hx;have:=z8 (w:=w) (S:=S) (h:=h) (μ:=μ) hl;refine .agg l cs (by simpa using (Jhy (w:=w) (S:=S) hl).1) (λi x a=>?_) (λi x a=>?_)
   ·simpa using (this i x a).2
   ·simpa using (this i x a).1
 ·rename_i cs;split at hx
  ·rename_i hs;injection hx with hx;subst hx;exact .tup [] cs (by simp [hs]) (λi x a=>by simp at a)
  ·cases hx
 ·exact .pure (Jut hx).1
end
theorem Ji{nt:Nat}{w:World}{S:Nat->Prop}{σ:St}{μ:Gh}{a:Act}(hs:RepS nt w S σ μ a){x:Operand}{y:LO}(hx:cLO x=some y):Rep w S σ.h μ (σ.ev y) (a.eval x):=by
 unfold cLO at hx;split at hx
 ·injection hx with hx;subst hx;exact hs.fr _
 ·rename_i v;cases d:cOf v with
  | none=>rw [d] at hx;cases hx
  | some u=>rw [d] at hx;simp at hx;subst hx;exact Jw1 d
 ·injection hx with hx;subst hx;exact .fn _ [] #[] rfl (λi x e=>by simp at e)
 ·cases hx
theorem Ju0{nt:Nat}{w:World}{S:Nat->Prop}{σ:St}{μ:Gh}{a:Act}(hs:RepS nt w S σ μ a):∀ {l:List Operand} {m:List LO},cLOs l=some m ->
  m.length=l.length/\∀(i:Nat) (y:LO),m[i]?=some y->∃x,l[i]?=some x/\Rep w S σ.h μ (σ.ev y) (a.eval x)
 | [],m,d=>by simp [cLOs] at d;subst d;exact ⟨rfl,λi x e=>by simp at e⟩
 | x::r,m,d=>by
  unfold cLOs at d;split at d
  ·rename_i y l hx hl;injection d with d;subst d;obtain ⟨g,f⟩:=Ju0 hs hl;refine ⟨by simp [g],λi z e=>?_⟩;cases i with
   | zero=>simp at e;subst e;exact ⟨x,rfl,Ji hs hx⟩
   | succ i=>simpa using f i z (by simpa using e)
  ·cases d
end Go.Vv
namespace Go.Vv
open Go
theorem Jn8(a:Addr)(m n:Nat):(a.add m).add n=a.add (m+n):=by unfold Addr.add;by_cases e:m=0<;>by_cases d:n=0<;>simp_all [Ah]
theorem Jff{w:World}{b o i:Nat}{cs:Array Value}{t:TypeId}{z:Nat×Nat}(a:w.heap[b]?=some (.cells cs t z)):w.cell? ((⟨b,o,none⟩:Addr).add i)=cs[o+i]?:=by rw [Addr.add_lit,cell_of_row w b (o+i) cs t z a]
theorem getD_some{cs:Array Value}{i:Nat}(h:i<cs.size):cs[i]?=some (cs.getD i undef):=by simp [h]
theorem Jmx{h:Heap}{g ver:Nat}(a:cur h g ver=true):∃o,h g=some o/\ver=o.ver:=by
 unfold cur at a;split at a
 ·rename_i o d;exact ⟨o,d,by simpa using (beq_iff_eq.1 a).symm⟩
 ·cases a
theorem Jnm{h:Heap}{g ver esz:Nat}(a:curA h g ver esz=true):∃el cells fz,h g=some (.arr ver esz el cells fz):=by
 unfold curA at a;split at a
 ·rename_i v e t c z d;simp at a;obtain ⟨rfl,rfl⟩:=a;exact ⟨t,c,z,d⟩
 ·cases a
theorem Jg4{h:Heap}{g ver:Nat}(a:X2 h g ver=true):∃esz el cells fz,h g=some (.arr ver esz el cells fz):=by
 unfold X2 at a;split at a
 ·rename_i v e t c z d;simp at a;obtain rfl:=a;exact ⟨e,t,c,z,d⟩
 ·cases a
theorem Juq{h:Heap}{g ver:Nat}{es:List (AV×AV)}(a:curM h g ver=some es):h g=some (.map ver es false):=by
 unfold curM at a;split at a
 ·rename_i v es' d;split at a
  ·rename_i e;subst e;injection a with a;subst a;exact d
  ·cases a
 ·cases a
section
variable {w:World} {S:Nat->Prop} {h:Heap} {μ:Gh} {P:Program}
theorem Rep.ptr_inv{g ver off:Nat}{v:Value}(d:Rep w S h μ (.ptr g ver off) v)(m:cur h g ver=true):v=.pointer (some ⟨μ.b g,μ.o g+off,none⟩):=by
 obtain ⟨o,l,e⟩:=Jmx m;cases d with
 | pure f=>cases f
 | ptr _ _ _ _ o' a _ _ d=>rw [l] at a;injection a with a;subst a;exact d e
theorem Rep.arr_inv0{g ver off len esz:Nat}{v:Value}{el:TypeId}{cells:List AV}{fz:Bool}(d:Rep w S h μ (.arr g ver off len) v)(l:h g=some (.arr ver esz el cells fz)):ArrV w cells (μ.b g) (μ.o g) esz off len v:=by
 cases d with
 | pure f=>cases f
 | arr _ _ _ _ _ o' a _ _ d=>
  rw [l] at a;injection a with a;subst a;obtain ⟨esz',el',cells',fz',e,m⟩:=d rfl;injection e with _ r _ o;subst r o;exact m
theorem Rep.arr_inv{g ver off len esz:Nat}{v:Value}{el:TypeId}{cells:List AV}{fz:Bool}(d:Rep w S h μ (.arr g ver off len) v)(e:h g=some (.arr ver esz el cells fz))(a:cells≠[]):ArrOK w (μ.b g) (μ.o g) esz off len v:=(d.arr_inv0 e).2 a
theorem Rep.arr_sl{g ver off len esz:Nat}{v:Value}{el:TypeId}{cells:List AV}{fz:Bool}(f:Rep w S h μ (.arr g ver off len) v)(l:h g=some (.arr ver esz el cells fz)):∃A cap,v=.slice A len cap/\len<=cap/\(A=none->len=0/\cap=0):=by
 obtain ⟨o,m⟩:=f.arr_inv0 l;by_cases d:cells=[]
 ·obtain ⟨-,rfl,A,rfl⟩:=o d;exact ⟨A,0,rfl,Ab _,λ_=>⟨rfl,rfl⟩⟩
 ·obtain ⟨a,cap,cs,el',z,rfl,hl,_⟩:=m d;exact ⟨some a,cap,rfl,hl.1,λe=>by cases e⟩
theorem Rep.map_inv{g ver:Nat}{v:Value}{es:List (AV×AV)}(d:Rep w S h μ (.map g ver) v){fz:Bool}(f:h g=some (.map ver es fz)):v=.map (some (μ.b g)):=by
 cases d with
 | pure e=>cases e
 | map _ _ _ o' a _ _ d=>rw [f] at a;injection a with a;subst a;exact d rfl
theorem Jj2(F:RepH w S h μ){x:AV}{cx:Value}(m:Rep w S h μ x cx){l:List AV}{off:Nat}(hd:zp h x=some (l,off)) :
  ∃a,cx=.pointer (some a)/\∀i y,l[off+i]?=some y->∃c,w.cell? (a.add i)=some c/\c.oneCell'=true/\Rep w S h μ y c:=by
 unfold zp at hd;split at hd
 ·injection hd with hd;simp only [Ai] at hd;obtain ⟨rfl,rfl⟩:=hd;cases m with
  | pure A=>
   cases A with
   | rptr _ a cv hs G H m=>exact ⟨a,rfl,λi y d=>⟨cv i,by simpa using G i y (by simpa using d),H i y (by simpa using d),.pure (m i y (by simpa using d))⟩⟩
 ·rename_i g ver off';split at hd
  ·rename_i ver' cells o;split at hd
   ·rename_i e;subst e;injection hd with hd;simp only [Ai] at hd;obtain ⟨rfl,rfl⟩:=hd;obtain ⟨cs,el,E,v,r⟩:=F.ob g _ o;refine ⟨⟨μ.b g,μ.o g+off',none⟩,m.ptr_inv (by simp [cur,o,AObj.ver]),λi y d=>?_⟩;have f:μ.o g+(off'+i)<cs.size:=by have:=(Aa.1 d).1;omega
    exact ⟨cs.getD (μ.o g+(off'+i)) undef,by rw [Jff E,Ah,getD_some f],(r _ _ d).2,(r _ _ d).1⟩
   ·cases hd
  ·rename_i ver' esz el cells fz o;split at hd
   ·rename_i e;obtain ⟨rfl,B⟩:=e;injection hd with hd;simp only [Ai] at hd;obtain ⟨rfl,rfl⟩:=hd;obtain ⟨cs,E,v,r,_⟩:=F.ob g _ o B;refine ⟨⟨μ.b g,μ.o g+off',none⟩,m.ptr_inv (by simp [cur,o,AObj.ver]),λi y d=>?_⟩;have f:μ.o g+(off'+i)<cs.size:=by have:=(Aa.1 d).1;omega
    exact ⟨cs.getD (μ.o g+(off'+i)) undef,by rw [Jff E,Ah,getD_some f],(r _ _ d).2,(r _ _ d).1⟩
   ·cases hd
  ·cases hd
 ·cases hd
theorem Jfp{t:TypeId}{b:Bool}(a:aggT P t=some b)(w:World):(isAgg t).run P w=.ok b w:=by
 unfold aggT at a;split at a
 ·rename_i fs f;injection a with a;subst a;simp [isAgg,run_underlying f]
 ·rename_i n e f;injection a with a;subst a;simp [isAgg,run_underlying f]
 ·rename_i d h g f;injection a with a;subst a;cases hd:P.underlying t with
  | none=>simp_all
  | some l=>
   simp only [isAgg,Sem.run_bind,run_underlying hd,Result.andThen_ok];cases l<;>simp_all
   all_goals first|exact h _ f.symm|exact g _ _ f.symm
 ·cases a
theorem Ka{t:TypeId}{n:Nat}(a:szT P t=some n)(w:World):(sizeOf t).run P w=.ok n w:=by
 unfold szT at a;cases d:P.info? t with
 | none=>rw [d] at a;cases a
 | some i=>rw [d] at a;simp at a;subst a;simp [sizeOf,typeInfo,d]
theorem Jmd{l:List AV}{off n:Nat}{ag:Bool}{v:AV}(d:pack ag l off n=some v){f:Nat->Value}
  (m:∀i y,i<n->l[off+i]?=some y->(f i).oneCell'=true/\Rep w S h μ y (f i)) (r:ag\/n=1) :
  Rep w S h μ v (if ag then .agg ((List.range n).map f).toArray else f 0):=by
 unfold pack at d;split at d
 ·rename_i A;cases ag with
  | true=>
   simp at d;subst d;have key:∀i x,(cut l off n)[i]?=some x->i<n/\l[off+i]?=some x:=λi x a=>by
    simp only [cut,Aj,Ak] at a;split at a
    ·rename_i g;exact ⟨g,a⟩
    ·cases a
   simp only [if_true];refine .agg _ _ (by simp [cut];omega) (λi x a=>?_) (λi x a=>?_)
   ·obtain ⟨e,o⟩:=key i x a;simpa [e] using (m i x e o).1
   ·obtain ⟨e,o⟩:=key i x a;simpa [e] using (m i x e o).2
  | false=>
   simp at d;simp only [Af,if_false];have e:n=1:=by simpa using r
   exact (m 0 v (by omega) (by simpa using d)).2
 ·cases d
theorem Jgq(G:RepH w S h μ){t:TypeId}{n:Nat}{ag:Bool}(g:aggT P t=some ag)(o:szT P t=some n)(B:ag\/n=1){x v:AV}{cx:Value}(F:Rep w S h μ x cx)
  (hl:Jbg h ag n x=some v):∃cv,(Instr.loadAt t cx).run P w=.ok cv w/\Rep w S h μ v cv:=by
 unfold Jbg at hl;split at hl
 ·rename_i l off hd;obtain ⟨a,rfl,E⟩:=Jj2 G F hd;have H:off+n<=l.length:=by
   unfold pack at hl;split at hl
   ·assumption
   ·cases hl
  have d:∀j,j<n->w.cell? (a.add j)=some ((w.cell? (a.add j)).getD undef):=λj M=>by obtain ⟨c,m,_⟩:=E j (l[off+j]'(by omega)) (Au (by omega));rw [m];rfl
  have e:=Jmd (w:=w) (S:=S) (h:=h) (μ:=μ) hl (f:=λj=>(w.cell? (a.add j)).getD undef) (λi y _ J=>by obtain ⟨c,m,L,K⟩:=E i y J;rw [m];exact ⟨L,K⟩) B
  refine ⟨_,?_,e⟩;cases ag with
  | true=>simp [Instr.loadAt,Instr.sureAddr,loadVar,Jfp g,Ka o,run_loadCells w a n _ d]
  | false=>
   have m:n=1:=by simpa using B
   have A:=d 0 (by omega);simp only [Addr.add_zero'] at A ⊢;simp [Instr.loadAt,Instr.sureAddr,loadVar,Jfp g,load,Sem.run];cases r:w.cell? a with
   | none=>rw [r] at A;cases A
   | some c=>simp
 ·cases hl
theorem RepP.drop{l:List AV}{a:Addr}{cv:Nat->Value}{k:Nat}(hs:l≠[]->S a.block)(f:∀i x,l[i]?=some x->w.cell? (a.add i)=some (cv i))
  (h:∀i x,l[i]?=some x->(cv i).oneCell'=true) (e:∀i x,l[i]?=some x->RepP w S x (cv i)):RepP w S (.rptr (l.drop k)) (.pointer (some (a.add k))):=by
 have g:(a.add k).block=a.block:=by unfold Addr.add;split<;>rfl
 exact .rptr _ _ (λi=>cv (k+i)) (λm=>by rw [g];exact hs (by rintro rfl;simp at m)) (λi x d=>by rw [Jn8];exact f _ x (by simpa using d)) (λi x d=>h _ x (by simpa using d)) (λi x d=>e _ x (by simpa using d))
theorem RepP.cut{l:List AV}{a:Addr}{cv:Nat->Value}{k n:Nat}(hs:l≠[]->S a.block)(f:∀i x,l[i]?=some x->w.cell? (a.add i)=some (cv i))
  (h:∀i x,l[i]?=some x->(cv i).oneCell'=true) (e:∀i x,l[i]?=some x->RepP w S x (cv i)):RepP w S (.rptr (Vv.cut l k n)) (.pointer (some (a.add k))):=by
 have g:(a.add k).block=a.block:=by unfold Addr.add;split<;>rfl
 have key:∀i x,(Vv.cut l k n)[i]?=some x->l[k+i]?=some x:=λi x d=>by
  simp only [Vv.cut,Aj,Ak] at d;split at d
  ·exact d
  ·cases d
 exact .rptr _ _ (λi=>cv (k+i)) (λm=>by rw [g];exact hs (by rintro rfl;simp [Vv.cut] at m)) (λi x d=>by rw [Jn8];exact f _ x (key i x d)) (λi x d=>h _ x (key i x d)) (λi x d=>e _ x (key i x d))
theorem Jrv{s:TypeId}{fs:Array Field}{f:Nat}{fd:Field}{n:Nat}(hs:P.underlying s=some (.struct fs))(B:fs[f]?=some fd)(A:szT P fd.type=some n)(l:n≠0)
  {x v:AV} {cx:Value} (m:Rep w S h μ x cx) (d:zu h fd.offset x=some v):∃cv,(Instr.fieldAt s cx f).run P w=.ok cv w/\Rep w S h μ v cv:=by
 unfold zu at d;split at d
 ·rename_i g ver o;split at d
  ·rename_i r;injection d with d;subst d;obtain ⟨ob,F,e⟩:=Jmx r;have hx:=m.ptr_inv r;subst hx;refine ⟨.pointer (some ⟨μ.b g,μ.o g+(o+fd.offset),none⟩),?_,.ptr _ _ _ _ ob F (by omega) rfl λ_=>rfl⟩;simp [Instr.fieldAt,run_underlying hs,B,Instr.sureAddr,fieldPlace,Ka A,l,Addr.add_lit,Ah]
  ·cases d
 ·injection d with d;subst d;cases m with
  | pure E=>
   cases E with
   | rptr _ a cv y r G m=>
    refine ⟨.pointer (some (a.add fd.offset)),?_,.pure (RepP.drop y r G m)⟩;simp [Instr.fieldAt,run_underlying hs,B,Instr.sureAddr,fieldPlace,Ka A,l]
 ·cases d
theorem Jrm{t e:TypeId}{n:Nat}(E:P.underlying t=some (.slice e))(F:szT P e=some n){x i v:AV}{cx ci:Value}(o:Rep w S h μ x cx)(G:Rep w S h μ i ci)
  (d:je h n x i=some v):∃cv,(Instr.indexAt t cx ci).run P w=.ok cv w/\Rep w S h μ v cv:=by
 unfold je at d;split at d
 ·rename_i m l k j;split at d
  ·rename_i f;injection d with d;subst d;rw [G.int_inv];cases o with
   | pure J=>
    cases J with
    | lst0=>omega
    | lst _ _ a cap cv hs K A B o=>
     refine ⟨.pointer (some (a.add (j.toNat * n))),?_,.pure (RepP.cut hs A B o)⟩;simp [Instr.indexAt,run_underlying E,asIntOf,f,Ka F]
  ·cases d
 ·rename_i g ver off len k j;split at d
  ·rename_i f;obtain ⟨M,B,A⟩:=f;injection d with d;subst d;rw [G.int_inv];obtain ⟨el,cells,fz,y⟩:=Jnm A;obtain ⟨a,cap,cs,el',z,rfl,hl,N,H,L⟩:=o.arr_inv y (λe=>by have:=((o.arr_inv0 y).1 e).2.1;omega);have r:0<cap:=by omega
   rw [L r];refine ⟨.pointer (some ⟨μ.b g,μ.o g+(off+j.toNat) * n,none⟩),?_,.ptr _ _ _ _ _ y (Ab _) rfl λ_=>rfl⟩;simp [Instr.indexAt,run_underlying E,asIntOf,M,B,Ka F,Addr.add_lit,Ac,Ah]
  ·cases d
 ·cases d
theorem Jpk{t e:TypeId}{n len:Nat}(A:P.underlying t=some (.array len e))(B:szT P e=some n){x i v:AV}{cx ci:Value}(m:Rep w S h μ x cx)(E:Rep w S h μ i ci)
  (d:Jbq h len n x i=some v):∃cv,(Instr.indexAt t cx ci).run P w=.ok cv w/\Rep w S h μ v cv:=by
 unfold Jbq at d;split at d
 ·rename_i g ver o k j;split at d
  ·rename_i f;obtain ⟨H,y,r⟩:=f;injection d with d;subst d;rw [E.int_inv,m.ptr_inv r];obtain ⟨ob,G,e⟩:=Jmx r;refine ⟨.pointer (some ⟨μ.b g,μ.o g+(o+j.toNat * n),none⟩),?_,.ptr _ _ _ _ ob G (by omega) rfl λ_=>rfl⟩;simp [Instr.indexAt,run_underlying A,asIntOf,Instr.sureAddr,H,y,Ka B,Addr.add_lit,Ah]
  ·cases d
 ·rename_i l k j;split at d
  ·rename_i f;injection d with d;subst d;rw [E.int_inv];cases m with
   | pure F=>
    cases F with
    | rptr _ a cv hs r y m=>
     refine ⟨.pointer (some (a.add (j.toNat * n))),?_,.pure (RepP.drop hs r y m)⟩;simp [Instr.indexAt,run_underlying A,asIntOf,Instr.sureAddr,f,Ka B]
  ·cases d
 ·cases d
theorem Jbo{t:TypeId}{off n:Nat}{ag:Bool}(d:aggT P t=some ag)(g:szT P t=some n)(m:ag\/n=1){l:List AV}{cs:Array Value}(hl:l.length=cs.size)(r:Holds w S h μ l cs)
  {v:AV} (e:pack ag l off n=some v):∃cv,(part t cs off).run P w=.ok cv w/\Rep w S h μ v cv:=by
 have B:off+n<=l.length:=by
  unfold pack at e;split at e
  ·assumption
  ·cases e
 have a:=Jmd (w:=w) (S:=S) (h:=h) (μ:=μ) e (f:=λj=>cs.getD (off+j) undef) (λi y _ o=>⟨(r _ y o).2,(r _ y o).1⟩) m;refine ⟨_,?_,a⟩;cases ag with
 | true=>
  simp only [part,Sem.run_bind,Jfp d,Result.andThen_ok,if_true,Ka g];simp only [Sem.run_pure]
  congr 2
  apply Array.ext
  ·simp;omega
  ·intro i A E;simp at A E ⊢;rw [Array.getElem?_eq_getElem (by omega)];rfl
 | false=>
  have A:n=1:=by simpa using m
  simp only [part,Sem.run_bind,Jfp d,Result.andThen_ok,Af,if_false];rw [getD_some (cs:=cs) (i:=off) (by omega)];rfl
theorem J0j{s:TypeId}{fs:Array Field}{f:Nat}{fd:Field}{n:Nat}{ag:Bool}(hs:P.underlying s=some (.struct fs))(r:fs[f]?=some fd)(d:aggT P fd.type=some ag)(a:szT P fd.type=some n)(m:ag\/n=1)
  {l:List AV} {v:AV} {cx:Value} (g:Rep w S h μ (.agg l) cx) (e:pack ag l fd.offset n=some v):∃cv,(Instr.field s cx f).run P w=.ok cv w/\Rep w S h μ v cv:=by obtain ⟨cs,rfl,hl,o⟩:=g.agg_inv;obtain ⟨cv,A,y⟩:=Jbo (P:=P) d a m hl o e;exact ⟨cv,by simp [Instr.field,run_underlying hs,r,asAgg,A],y⟩
theorem Jyp{t e:TypeId}{len n:Nat}{ag:Bool}(m:P.underlying t=some (.array len e))(g:aggT P e=some ag)(d:szT P e=some n)(r:ag\/n=1){x i v:AV}{cx ci:Value}
  (o:Rep w S h μ x cx) (y:Rep w S h μ i ci) (a:idxV len n ag x i=some v):∃cv,(Instr.index t cx ci).run P w=.ok cv w/\Rep w S h μ v cv:=by
 unfold idxV at a;split at a
 ·rename_i l k j;split at a
  ·rename_i f;obtain ⟨cs,rfl,hl,A⟩:=o.agg_inv;rw [y.int_inv];obtain ⟨cv,E,B⟩:=Jbo (P:=P) g d r hl A a;exact ⟨cv,by simp [Instr.index,asIntOf,run_underlying m,f,Ka d,E],B⟩
  ·cases a
 ·cases a
theorem Jzs{l:List AV}{i:Nat}{v:AV}{cx:Value}(e:Rep w S h μ (.tup l) cx)(d:l[i]?=some v):∃cv,(Instr.extract cx i).run P w=.ok cv w/\Rep w S h μ v cv:=by
 obtain ⟨cs,rfl,hl,f⟩:=e.tup_inv;have a:i<cs.size:=by have:=(Aa.1 d).1;omega
 exact ⟨cs.getD i undef,by simp only [Instr.extract];rw [getD_some a];rfl,f i v d⟩
theorem Jxh{t e ty:TypeId}(f:P.underlying t=some (.slice e)){x:AV}{cx:Value}{n:Int}(g:Rep w S h μ x cx)(d:lenV h x=some n):(Builtin.len_ #[t] ty #[cx]).run P w=.ok (.int .i64 n) w:=by
 unfold lenV at d;split at d
 ·injection d with d;subst d;rw [g.nils_inv];simp [Builtin.len_,run_underlying f,goInt]
 ·injection d with d;subst d;cases g with
  | pure l=>cases l<;>simp [Builtin.len_,run_underlying f,goInt]
 ·split at d
  ·rename_i o;injection d with d;subst d;obtain ⟨esz,el,cells,fz,m⟩:=Jg4 o;obtain ⟨a,cap,rfl,_⟩:=g.arr_sl m;simp [Builtin.len_,run_underlying f,goInt]
  ·cases d
 ·cases d
theorem Jva{t k e ty:TypeId}(d:P.underlying t=some (.map k e))(o:RepH w S h μ){x:AV}{cx:Value}{n:Int}(g:Rep w S h μ x cx)(a:lenM h x=some n):(Builtin.len_ #[t] ty #[cx]).run P w=.ok (.int .i64 n) w:=by
 unfold lenM at a;split at a
 ·injection a with a;subst a;rw [g.nilm_inv];simp [Builtin.len_,run_underlying d,goInt]
 ·injection a with a;subst a;obtain ⟨b,es,clock,rfl,-,l,r,-⟩:=g.mpr_inv;simp [Builtin.len_,run_underlying d,goInt,getObj,Sem.run,l,r]
 ·split at a
  ·rename_i es v;injection a with a;subst a;have m:=Juq v;obtain ⟨es',clock,l,f,_⟩:=o.ob _ _ m;rw [g.map_inv m];simp [Builtin.len_,run_underlying d,goInt,getObj,Sem.run,l,f]
  ·cases a
 ·cases a
theorem Jv9{t ty:TypeId}(d:P.underlying t=some .string){x:AV}{cx:Value}{n:Int}(e:Rep w S h μ x cx)(a:lenS x=some n):(Builtin.len_ #[t] ty #[cx]).run P w=.ok (.int .i64 n) w:=by
 unfold lenS at a;split at a
 ·injection a with a;subst a;rw [e.str_inv];simp [Builtin.len_,run_underlying d,goInt]
 ·cases a
end
section
variable {w:World} {S:Nat->Prop} {h:Heap} {μ:Gh} {P:Program}
theorem Jvm{t:TypeId}{op:BinOp}{k:IntKind}{a b:Int}{v:AV}(d:Jnq op k a b=some v):∃cv,(binOp op t (.int k a) (.int k b)).run P w=.ok cv w/\Rep w S h μ v cv:=by
  unfold Jnq at d;split at d
  all_goals first
    | cases d;done
    | (injection d with d;subst d;first
        | exact ⟨_,by simp only [go_sem];simp [go_sem],.pure (.int _ _)⟩
        | exact ⟨_,by simp only [go_sem];simp [go_sem],.pure (.bool _)⟩)
    | (split at d
       · cases d
       · rename_i e
         injection d with d;subst d;exact ⟨_,by simp only [go_sem];simp [e],.pure (.int _ _)⟩)
theorem Jjy{op:BinOp}{t:TypeId}{x y:Operand}{k:IntKind}{a:Int}{v:Value}:(eqGuard op t x y (.int k a) v).run P w=.ok () w:=by simp [go_sem]
theorem Ju6{s d:TypeId}{k k':IntKind}{n:Int}(hs:∃j,P.underlying s=some (.int j))(hd:P.underlying d=some (.int k)):(convert s d (.int k' n)).run P w=.ok (.int k (k.wrap n)) w:=by obtain ⟨j,hs⟩:=hs;simp [convert,run_underlying hs,run_underlying hd,Conv.intToInt]
theorem Jb4:∀ {sh:List Bool} {l m:List AV} {b:Bool},Jm sh l m=some b->l.length=sh.length/\m.length=sh.length
  | [],[],[],_,_=>⟨rfl,rfl⟩
  | s::ss,x::xs,y::ys,b,h=>by
    unfold Jm at h;split at h
    · rename_i e
      obtain ⟨d,a⟩:=Jb4 e;exact ⟨by simp [d],by simp [a]⟩
    · cases h
  | [],_::_,_,_,h=>by simp [Jm] at h
  | [],[],_::_,_,h=>by simp [Jm] at h
  | _::_,[],_,_,h=>by simp [Jm] at h
  | _::_,_::_,[],_,h=>by simp [Jm] at h
theorem Jbf:∀ {d e:List Bool} {l m:List AV} {b:Bool},Jm (d++e) l m=some b ->
    ∃g f,Jm d (l.take d.length) (m.take d.length)=some g/\Jm e (l.drop d.length) (m.drop d.length)=some f/\b=(g&&f)
  | [],e,l,m,b,h=>⟨true,b,by simp [Jm],by simpa using h,by simp⟩
  | s::d,e,[],m,b,h=>by simp [Jm] at h
  | s::d,e,x::l,[],b,h=>by simp [Jm] at h
  | s::d,e,x::l,y::m,b,h=>by
    simp only [List.cons_append,Jm] at h;split at h
    · rename_i a c r o
      injection h with h;subst h;obtain ⟨g,f,A,w,v⟩:=Jbf o;refine ⟨a&&g,f,?_,by simpa using w,by rw [v,Bool.and_assoc]⟩;simp [Jm,r,A]
    · cases h
theorem Jzf(l:List AV)(off n i k:Nat):cut (cut l off n) i k=cut l (off+i) (min k (n - i)):=by simp only [cut,List.drop_take,List.take_take,List.drop_drop]
theorem Jq1{g:TypeId->Option (List Bool)}{d:Nat}(ih:∀ {t:TypeId} {sh:List Bool} {ag:Bool} {x y:AV} {cx cy:Value} {b:Bool},g t=some sh->aggT P t=some ag ->
    Rep w S h μ x cx->Rep w S h μ y cy->eqV ag sh x y=some b->(Op.equalIn d t cx cy).run P w=.ok b w):∀ {fs:List Field} {k:Nat} {sh:List Bool} {l m:List AV} {cs cs':Array Value} {b:Bool},Jrj P g fs k=some sh ->
    l.length=cs.size->Holds w S h μ l cs->m.length=cs'.size->Holds w S h μ m cs'->Jm sh (l.drop k) (m.drop k)=some b->l.length=k+sh.length->m.length=k+sh.length->(Op.eqFields d cs cs' fs).run P w=.ok b w
  | [],k,sh,l,m,cs,cs',b,e,hl,X,A,B,K,F,L=>by simp [Jrj] at e;subst e;have N:l.drop k=[]:=Ba (by simp at F;omega);have Z:m.drop k=[]:=Ba (by simp at L;omega);rw [N,Z] at K;simp [Jm] at K;subst K;simp [Op.eqFields]
  | f::r,k,sh,l,m,cs,cs',b,e,hl,X,A,B,K,F,L=>by
    unfold Jrj at e;split at e
    · rename_i a ag q ha E hq
      split at e
      · rename_i hc
        obtain ⟨ho,hn,O,o⟩:=hc;split at e
        · rename_i r' hr
          injection e with e;subst e O;obtain ⟨b1,b2,N,Z,M⟩:=Jbf K;have R:k+a.length<=l.length:=by simp at F;omega
          have Q:k+a.length<=m.length:=by simp at L;omega
          have pk:∀(l:List AV),k+a.length<=l.length->∃v,pack ag l f.offset a.length=some v/\(ag=true->v=.agg (cut l k a.length))/\(ag=false->cut l k a.length=[v]):=by
            intro l J;rw [ho];cases ag with
            | true=>exact ⟨_,by simp [pack,J],λ_=>rfl,λh=>by cases h⟩
            | false=>
              have F:a.length=1:=by simpa using o
              have H:k<l.length:=by omega
              refine ⟨l[k],by simp [pack,J,H],(λh=>by cases h),λ_=>?_⟩;simp only [cut,F];rw [List.drop_eq_getElem_cons H];rfl
          obtain ⟨v1,p1,q1,r1⟩:=pk l R;obtain ⟨v2,p2,q2,r2⟩:=pk m Q;obtain ⟨c1,s1,t1⟩:=Jbo (P:=P) E hq o hl X p1;obtain ⟨c2,s2,t2⟩:=Jbo (P:=P) E hq o A B p2;have Y:eqV ag a v1 v2=some b1:=by
            cases ag with
            | true=>rw [q1 rfl,q2 rfl];simpa [eqV,cut] using N
            | false=>
              simp only [eqV,Af,if_false];rw [<-r1 rfl,<-r2 rfl];exact N
          have G:=ih ha E t1 t2 Y;simp only [Op.eqFields,hn,ne_eq,not_false_eq_true,if_true,Sem.run_bind,s1,s2,Result.andThen_ok,G,Sem.run_ite];cases b1 with
          | false=>simp at M;simp [M]
          | true=>
            simp at M;subst M;simp only [Bool.not_true,Af,if_false];refine Jq1 ih hr hl X A B (by simpa [List.drop_drop] using Z) (by simp at F;omega) (by simp at L;omega)
        · cases e
      · cases e
    · cases e
theorem Jmz:∀(n d:Nat) {t:TypeId} {sh:List Bool} {ag:Bool} {x y:AV} {cx cy:Value} {b:Bool},n<=d->eqSh P n t=some sh->aggT P t=some ag ->
    Rep w S h μ x cx->Rep w S h μ y cy->eqV ag sh x y=some b->(Op.equalIn d t cx cy).run P w=.ok b w
  | 0,_,_,_,_,_,_,_,_,_,_,h,_,_,_,_=>by simp [eqSh] at h
  | n+1,0,_,_,_,_,_,_,_,_,hd,_,_,_,_,_=>by omega
  | n+1,d+1,t,sh,ag,x,y,cx,cy,b,hd,e,f,hx,B,g=>by
    unfold eqSh at e;unfold aggT at f;split at e
    · rename_i r
      rw [r] at f;simp at f;injection e with e;subst e f;simp only [eqV,Af,if_false,Jm] at g;split at g
      · rename_i a c o A
        injection g with g;injection A with A;subst A;unfold zq at o;split at o
        · cases ‹true=false›
        · injection o with o
          rw [hx.bool_inv,B.bool_inv];simp only [Op.equalIn,Sem.run_bind,run_underlying r,Result.andThen_ok,Sem.run_pure];rw [<-g,<-o,Bool.and_true]
        · cases o
      · cases g
    · rename_i k r
      rw [r] at f;simp at f;injection e with e;subst e f;simp only [eqV,Af,if_false,Jm] at g;split at g
      · rename_i a c o A
        injection g with g;injection A with A;subst A;unfold zq at o;split at o
        · split at o
          · rename_i J
            subst J;injection o with o;rw [hx.int_inv,B.int_inv];simp only [Op.equalIn,Sem.run_bind,run_underlying r,Result.andThen_ok,if_true,Sem.run_pure];rw [<-g,<-o,Bool.and_true]
          · cases o
        · cases ‹false=true›
        · cases o
      · cases g
    · rename_i fs r
      rw [r] at f;simp at f;subst f;split at e
      · cases e
      · rename_i E
        simp only [eqV,if_true] at g;split at g
        · rename_i l m
          obtain ⟨cs,rfl,hl,K⟩:=hx.agg_inv;obtain ⟨cs',rfl,F,G⟩:=B.agg_inv;have H:P.fieldsOf t=fs:=by simp [Program.fieldsOf,r]
          rw [run_equalIn_struct w d t cs cs' (by rw [H];exact r) (by simpa using E),H];have v:=Jb4 g;refine Jq1 (λhx B=>Jmz n d (by omega) hx B) e hl K F G (by simp;exact g) (by simp [v]) (by simp [v])
        · cases g
    · cases e
theorem Jwt{t:TypeId}{ag ne:Bool}{sh:List Bool}(f:eqT P t=some (ag,sh))(v:∀k,P.underlying t≠some (.int k)){x y:AV}{cx cy:Value}{X Y:Operand}{b:Bool}(hx:Rep w S h μ x cx)(o:Rep w S h μ y cy)(d:eqV ag sh x y=some b) :
    (eqGuard (if ne then .neq else .eql) t X Y cx cy).run P w=.ok () w/\(binOp (if ne then .neq else .eql) t cx cy).run P w=.ok (.bool (if ne then !b else b)) w:=by
  unfold eqT at f;split at f
  · rename_i sh' ag' l m
    split at f
    · cases f
    · rename_i B
      simp at f;obtain ⟨rfl,rfl⟩:=f;have e:=Jmz 6 10000 (by omega) l m hx o d;cases ag' with
      | true=>
        simp only [eqV,if_true] at d;split at d
        · obtain ⟨cs,rfl,_⟩:=hx.agg_inv
          obtain ⟨cs',rfl,_⟩:=o.agg_inv;refine ⟨run_eqGuard_agg w _ t X Y cs cs' (by simpa using B),?_⟩;cases ne with
          | true=>simp only [if_true];rw [run_neq_struct,e];rfl
          | false=>simp only [Af,if_false];rw [run_eql_struct,e];rfl
        · cases d
      | false=>
        simp only [eqV,Af,if_false] at d
        match sh',d with
        | s::[],d=>
          simp only [Jm] at d;split at d
          · rename_i a c g A
            injection d with d;injection A with A;subst A;unfold zq at g;split at g
            · exfalso
              unfold eqSh at l;split at l
              · simp at l
              · rename_i k r;exact v k r
              · rename_i fs r;unfold aggT at m;rw [r] at m;simp at m
              · cases l
            · injection g with g
              have F:=hx.bool_inv;have E:=o.bool_inv;subst F E;refine ⟨by simp [go_sem],?_⟩;cases ne with
              | true=>simp only [if_true];simp [binOp,Op.equal,Op.maxDepth,e]
              | false=>simp only [Af,if_false];simp [binOp,Op.equal,Op.maxDepth,e]
            · cases g
          · cases d
        | [],d=>simp [Jm] at d
        | _::_::_,d=>simp [Jm] at d
  · cases f
def Jlf(w:World)(S:Nat->Prop)(h:Heap)(μ:Gh):Option AV->Option Value->Prop
  | none,none=>True
  | some x,some c=>Rep w S h μ x c
  | _,_=>False
theorem zg{len cap:Nat}{lo o:Option AV}{clo chi:Option Value}(d:Jlf w S h μ lo clo)(g:Jlf w S h μ o chi){a b:Int}(f:jh 0 lo=some a)(m:jh len o=some b)
    (v:0<=a) (r:a<=b) (B:b<=len) (A:len<=cap):(Instr.sliceBounds true len cap clo chi none).run P w=.ok (a.toNat,b.toNat,cap) w:=by
  have bd:∀(y:Nat) (code:BoundsCode) (k:IntKind) (n:Int),0<=n->n<=y->(Instr.sliceBound (.int k n) y code).run P w=.ok n.toNat w:=λy code k n F E=>by simp [Instr.sliceBound,asIntOf,F,E]
  cases o with
  | none=>cases chi with
    | some c=>exact g.elim
    | none=>
      simp [jh] at m;cases lo with
      | none=>cases clo with
        | some c=>exact d.elim
        | none=>
          simp [jh] at f;subst f m;simp [Instr.sliceBounds]
      | some x=>cases clo with
        | none=>exact d.elim
        | some c=>
          cases x<;>simp [jh] at f;have e:=Rep.int_inv d;subst e f m;simp [Instr.sliceBounds,bd len _ _ _ v r]
  | some x=>cases chi with
    | none=>exact g.elim
    | some c=>
      cases x<;>simp [jh] at m;have e:=Rep.int_inv g;subst e m;rename_i kb nb;have l:=bd cap .sliceAcap kb nb (by omega) (by omega);cases lo with
      | none=>cases clo with
        | some c=>exact d.elim
        | none=>
          simp [jh] at f;subst f;simp [Instr.sliceBounds,l]
      | some x=>cases clo with
        | none=>exact d.elim
        | some c=>
          cases x<;>simp [jh] at f;have e:=Rep.int_inv d;subst e f;simp [Instr.sliceBounds,l,bd nb.toNat .sliceB _ _ v (by omega)]
theorem Jr0{t e:TypeId}{n:Nat}(M:P.underlying t=some (.slice e))(N:szT P e=some n){x v:AV}{cx:Value}{lo f:Option AV}{clo chi:Option Value}(L:Rep w S h μ x cx)
    (r:Jlf w S h μ lo clo) (y:Jlf w S h μ f chi) (d:Y3 h n x lo f=some v):∃cv,(Instr.sliceAt t cx clo chi none).run P w=.ok cv w/\Rep w S h μ v cv:=by
  unfold Y3 at d;split at d
  · rename_i m l
    split at d
    · rename_i a b K G
      split at d
      · rename_i J
        obtain ⟨H,E,B,hll⟩:=J;injection d with d;subst d;cases L with
        | pure hp=>
          cases hp with
          | lst0=>
            have hb':b=0:=by omega
            have ha':a=0:=by omega
            subst hb' ha';have o:=zg (P:=P) (len:=0) (cap:=0) r y K G H E B (Ab _);exact ⟨.slice none 0 0,by simp [Instr.sliceAt,run_underlying M,Instr.slice,o,Ka N],by simpa [cut] using Rep.pure RepP.lst0⟩
          | lst _ _ ad cap cv hs Y J h1 L=>
            have o:=zg (P:=P) (len:=m) (cap:=cap) r y K G H E B Y;refine ⟨.slice (some (if cap=a.toNat then ad else ad.add (a.toNat * n))) (b.toNat - a.toNat) (cap - a.toNat),?_,.pure ?_⟩
            · simp only [Instr.sliceAt,Sem.run_bind,run_underlying M,Result.andThen_ok,Instr.slice,o,Ka N,Sem.run_pure]
              split<;>simp
            · rw [show (b - a).toNat=b.toNat - a.toNat by omega]
              have G:∀k,(ad.add k).block=ad.block:=λk=>by unfold Addr.add;split<;>rfl
              by_cases Q:cap=a.toNat
              · have hz:b.toNat - a.toNat=0:=by omega
                rw [hz];simp only [Be,cut,List.take_zero,Q,if_true];exact .lst 0 [] ad _ (λ_=>undef) (λH=>(H rfl).elim) (by omega) (λi x f=>by simp at f) (λi x f=>by simp at f) (λi x f=>by simp at f)
              · rw [if_neg Q]
                have key:∀i x,(cut l (a.toNat * n) ((b.toNat - a.toNat) * n))[i]?=some x->l[a.toNat * n+i]?=some x:=λi x f=>by
                  simp only [cut,Aj,Ak] at f;split at f
                  · exact f
                  · cases f
                exact .lst _ _ _ _ (λi=>cv (a.toNat * n+i)) (λH=>by rw [G];exact hs (by rintro rfl;simp [cut] at H)) (by omega) (λi x f=>by rw [Jn8];exact J _ x (key i x f)) (λi x f=>h1 _ x (key i x f)) (λi x f=>L _ x (key i x f))
      · cases d
    · cases d
  · rename_i g ver off len
    split at d
    · rename_i a b K G
      split at d
      · rename_i J
        obtain ⟨H,E,B,O⟩:=J;injection d with d;subst d;obtain ⟨el,cells,fz,R⟩:=Jnm O;by_cases F:cells=[]
        · obtain ⟨rfl,rfl,A,rfl⟩:=(L.arr_inv0 R).1 F
          have o:=zg (P:=P) (len:=0) (cap:=0) r y K G H E B (Ab _);obtain rfl:a=0:=by omega
          obtain rfl:b=0:=by omega
          refine ⟨.slice A 0 0,?_,.arr _ _ _ _ _ _ R (Ab _) rfl λ_=>⟨n,el,cells,fz,rfl,λ_=>⟨rfl,rfl,A,rfl⟩,λq=>(q F).elim⟩⟩;cases A<;>simp [Instr.sliceAt,run_underlying M,Instr.slice,o,Ka N]
        obtain ⟨ad,cap,cs,el',z,rfl,hl,Z,X,had⟩:=L.arr_inv R F;have o:=zg (P:=P) (len:=len) (cap:=cap) r y K G H E B hl.1;refine ⟨.slice (some (if cap=a.toNat then ad else ad.add (a.toNat * n))) (b.toNat - a.toNat) (cap - a.toNat),?_,?_⟩
        · simp only [Instr.sliceAt,Sem.run_bind,run_underlying M,Result.andThen_ok,Instr.slice,o,Ka N,Sem.run_pure]
          split<;>simp
        · rw [show (b - a).toNat=b.toNat - a.toNat by omega]
          refine .arr _ _ _ _ _ _ R (Ab _) rfl λ_=>⟨n,el,cells,fz,rfl,λe=>(F e).elim,λ_=>⟨_,_,cs,el',z,rfl,by omega,Z,?_,λhpos=>?_⟩⟩
          · have:off+a.toNat+(cap - a.toNat)=off+cap:=by omega
            rw [this];exact X
          · rw [if_neg (by omega),had (by omega),Addr.add_lit,Ac,Ah]
      · cases d
    · cases d
  · split at d
    · rename_i a b K G
      split at d
      · rename_i J
        obtain ⟨rfl,rfl⟩:=J;injection d with d;subst d;rw [L.nils_inv];have o:=zg (P:=P) (len:=0) (cap:=0) r y K G (by omega) (by omega) (by omega) (Ab _);exact ⟨.slice none 0 0,by simp [Instr.sliceAt,run_underlying M,Instr.slice,o,Ka N],.pure .nils⟩
      · cases d
    · cases d
  · cases d
end
theorem Jl1(cs:Array Value)(i j:Nat)(v:Value):(cs.setIfInBounds i v).getD j undef=if i=j/\i<cs.size then v else cs.getD j undef:=by
 by_cases a:i=j
 ·subst a;by_cases d:i<cs.size
  ·simp [d]
  ·simp [d]
 ·simp [a,Array.getElem?_setIfInBounds_ne]
theorem J0f(off:Nat):∀(l:List Value) (k:Nat) (cs:Array Value),off+k+l.length<=cs.size ->
  ((l.zipIdx k).foldl (λcs (p:Value×Nat)=>cs.setIfInBounds (off+p.2) p.1) cs).size=cs.size /\
  ∀i,((l.zipIdx k).foldl (λcs (p:Value×Nat)=>cs.setIfInBounds (off+p.2) p.1) cs).getD i undef=if off+k<=i/\i<off+k+l.length then l.getD (i - (off+k)) undef else cs.getD i undef
 | [],k,cs,_=>⟨rfl,λi=>by simp;omega⟩
 | v::l,k,cs,h=>by
  simp only [List.length_cons] at h;simp only [List.zipIdx_cons,List.foldl_cons];obtain ⟨f,e⟩:=J0f off l (k+1) (cs.setIfInBounds (off+k) v) (by simp;omega);refine ⟨by rw [f];simp,λi=>?_⟩;rw [e i,Jl1];simp only [List.length_cons];by_cases d:i=off+k
  ·subst d;rw [if_neg (by omega),if_pos ⟨rfl,by omega⟩,if_pos (by omega)];simp
  ·by_cases a:off+(k+1)<=i/\i<off+(k+1)+l.length
   ·rw [if_pos a,if_pos (by omega),show i - (off+k)=(i - (off+(k+1)))+1 by omega];simp
   ·rw [if_neg a,if_neg (by omega),if_neg (by omega)]
theorem zm{l new:List AV}{off:Nat}(h:off+new.length<=l.length):(paste l off new).length=l.length:=by simp [paste];omega
theorem zl{l new:List AV}{off:Nat}(h:off+new.length<=l.length)(i:Nat):(paste l off new)[i]?=if off<=i/\i<off+new.length then new[i - off]? else l[i]?:=by
 unfold paste;by_cases a:i<off
 ·rw [if_neg (by omega),Av,Ae (by simp;omega),Aj,if_pos a]
 ·by_cases d:i<off+new.length
  ·rw [if_pos (by omega),Av,Ad (by simp;omega),Ae (by simp;omega)]
   congr 1
   simp;omega
  ·rw [if_neg (by omega),Ad (by simp;omega),Ak]
   congr 1
   simp;omega
section
variable {w:World} {S:Nat->Prop} {h:Heap} {μ:Gh} {P:Program}
theorem Holds.paste{l new:List AV}{cs vs r:Array Value}{off:Nat}(hl:Holds w S h μ l cs)(m:Holds w S h μ new vs)(d:vs.size=new.length)(e:off+new.length<=l.length)
  (g:∀i,r.getD i undef=if off<=i/\i<off+vs.size then vs.getD (i - off) undef else cs.getD i undef):Holds w S h μ (paste l off new) r:=by
 intro i x a;rw [zl e] at a;rw [g i,d];split
 ·rename_i f;rw [if_pos f] at a;exact m _ x a
 ·rename_i f;rw [if_neg f] at a;exact hl _ x a
def Jby(ev:LO->AV)(w:World)(S:Nat->Prop)(h:Heap)(μ:Gh)(place:Nat->Option (Nat×Nat)):List (Nat×Nat×LO)->List (Nat×Value)->Prop
 | [],[]=>True
 | (off,n,x)::r,(i,v)::a=>place i=some (off,n)/\Rep w S h μ (ev x) v/\Jby ev w S h μ place r a
 | _,_=>False
theorem Jcd{ev:LO->AV}{place:Nat->Option (Nat×Nat)}:∀ {ps:List (Nat×Nat×LO)} {cp:List (Nat×Value)} {z l:List AV} {cs:Array Value},Jby ev w S h μ place ps cp ->
  Holds w S h μ z cs->z.length=cs.size->Jgs ev z ps=some l->∃r,Instr.fill place cs cp=some r/\Holds w S h μ l r/\l.length=r.size/\r.size=cs.size
 | [],[],z,l,cs,_,m,hl,a=>by simp [Jgs] at a;subst a;exact ⟨cs,rfl,m,hl,rfl⟩
 | (off,n,x)::r,(i,v)::r',z,l,cs,f,m,hl,a=>by
  obtain ⟨H,G,F⟩:=f;unfold Jgs at a;split at a
  ·rename_i c E;split at a
   ·rename_i o;obtain ⟨O,A⟩:=o;obtain ⟨hs,B⟩:=G.cells E;have g:=J0f off v.cells.toList 0 cs (by simp;omega);have d:v.cells.zipIdx.foldl (λcs (p:Value×Nat)=>cs.setIfInBounds (off+p.2) p.1) cs=(v.cells.toList.zipIdx 0).foldl (λcs (p:Value×Nat)=>cs.setIfInBounds (off+p.2) p.1) cs:=by rw [<-Array.foldl_toList];simp
    rw [<-d] at g;obtain ⟨y,N⟩:=g;have e:=m.paste B hs (off:=off) (by omega) (r:=v.cells.zipIdx.foldl (λcs (p:Value×Nat)=>cs.setIfInBounds (off+p.2) p.1) cs) (λj=>by rw [N j];simp);obtain ⟨rr,M,L,K,J⟩:=Jcd F e (by rw [zm (by omega),y];exact hl) a;refine ⟨rr,?_,L,K,J.trans y⟩;unfold Instr.fill;rw [H];simp only;rw [if_neg (by simp;omega)];exact M
   ·cases a
  ·cases a
 | [],_::_,_,_,_,f,_,_,_=>f.elim
 | _::_,[],_,_,_,f,_,_,_=>by simp [Jby] at f
theorem Jjw{t:TypeId}{z:List AV}(a:zc P t=some z):∃i v,P.info? t=some i/\i.zero=some v/\cOfL v.cells.toList=some z/\z.length=i.size/\v.cells.size=i.size:=by
 unfold zc at a;split at a
 ·rename_i i f;split at a
  ·rename_i v e;split at a
   ·rename_i l hl;split at a
    ·rename_i d;injection a with a;subst a;have:=(Jhy (w:=default) (S:=λ_=>False) hl).1;exact ⟨i,v,f,e,hl,d,by rw [<-d,this];simp⟩
    ·cases a
   ·cases a
  ·cases a
 ·cases a
theorem Jlu{g k:Nat}{o o':AObj}(E:RepH w S h μ)(K:h g=some o)(R:o.ver<o'.ver)(hl:o'.live=true->o.live=true/\o.fz=false)
  (H:∀h' μ',Evo w S h μ w S h' μ'->EvoV h μ h' μ'->μ'.o g=k->μ'.b g=μ.b g->RepObj w S h' μ' (μ.b g) k o') :
  RepH w S (upd h g (some o')) (μ.set g (μ.b g) k)/\Evo w S h μ w S (upd h g (some o')) (μ.set g (μ.b g) k)/\EvoV h μ (upd h g (some o')) (μ.set g (μ.b g) k):=by
 have v:∀f,(μ.set g (μ.b g) k).b f=μ.b f:=λf=>by
  by_cases m:f=g
  ·subst m;simp [Gh.set,Jh]
  ·simp [Gh.set,Jc _ _ _ _ m]
 have back:∀f l,upd h g (some o') f=some l->l.live=true->∃r,h f=some r/\r.live=true/\(l.fz=false->r.fz=false):=λf l h' G=>by
  by_cases m:f=g
  ·subst m;rw [Jh] at h';injection h' with h';subst h';exact ⟨o,K,(hl G).1,λ_=>(hl G).2⟩
  ·rw [Jc _ _ _ _ m] at h';exact ⟨l,h',G,λq=>q⟩
 have ev:Evo w S h μ w S (upd h g (some o')) (μ.set g (μ.b g) k):=by refine ⟨rfl,rfl,⟨rfl,Ab _⟩,Ab _,λ_ _ _=>rfl,λ_ cs _ _ O=>⟨cs,O,rfl⟩,λ_ h=>h,λ_ h=>.inl h,?_,rfl⟩;rintro b ⟨f,l,d,y,A,e⟩;rw [v] at e;obtain ⟨r,F,B,J⟩:=back f l d A;exact .inl ⟨f,r,F,J y,B,e⟩
 have vv:EvoV h μ (upd h g (some o')) (μ.set g (μ.b g) k):=by
  intro f l d;by_cases m:f=g
  ·subst m;rw [K] at d;injection d with e;subst e;exact ⟨o',Jh _ _ _,by omega,λe=>by omega⟩
  ·exact ⟨l,by rw [Jc _ _ _ _ m];exact d,Ab _,λ_=>⟨⟨v _,by simp [Gh.set,Jc _ _ _ _ m]⟩,.refl l⟩⟩
 refine ⟨⟨λf l d=>?_,λM L l r Q F N B e=>?_,λf l d y A=>?_,E.lt⟩,ev,vv⟩
 ·rw [v];by_cases m:f=g
  ·subst m;rw [Jh] at d;injection d with e;subst e;have:=H _ _ ev vv (by simp [Gh.set,Jh]) (v _);simpa only [Gh.set,Jh] using this
  ·rw [Jc _ _ _ _ m] at d;have:=(E.ob f l d).evo E ev vv (λ_=>rfl);simpa only [Gh.set,Jc _ _ _ _ m] using this
 ·rw [v,v] at e;obtain ⟨a,P,la,_⟩:=back M l Q N;obtain ⟨b,v,lb,_⟩:=back L r F B;exact E.inj M L a b P v la lb e
 ·rw [v];obtain ⟨r,F,B,J⟩:=back f l d A;exact E.own f r F (J y) B
theorem zo{g:Nat}{o:AObj}{cells:List AV}{cs:Array Value}{el:TypeId}(l:RepH w S h μ)(a:o.ver=Jv h g\/Jv h g<o.ver)
  (r:Holds w S h μ cells cs) (m:(∃v,o=.box v cells/\cs.size=cells.length)\/(∃v esz,o=.arr v esz el cells false/\cells.length<=cs.size)) :
  RepH (w.alloc (.cells cs el)) S (upd h g (some o)) (μ.set g w.heap.size 0)/\Evo w S h μ (w.alloc (.cells cs el)) S (upd h g (some o)) (μ.set g w.heap.size 0)/\EvoV h μ (upd h g (some o)) (μ.set g w.heap.size 0):=by
 obtain ⟨ev,vv⟩:=Jrr (w:=w) (S:=S) (h:=h) (μ:=μ) g o (.cells cs el) a;refine ⟨Juj l a ?_,ev,vv⟩;have d:=heap_alloc_new w (.cells cs el);have f:=(r.evo l ev vv).at0;rcases m with ⟨v,rfl,hs⟩|⟨v,esz,rfl,hs⟩
 ·exact ⟨cs,el,d,by omega,f⟩
 ·exact λ_=>⟨cs,d,by omega,f,λe=>by cases e⟩
theorem Jkc{g:Nat}{cells:List AV}{w':World}:Rep w' S (upd h g (some (.box (Jv h g) cells))) (μ.set g w.heap.size 0) (.ptr g (Jv h g) 0) (.pointer (some ⟨w.heap.size,0,none⟩)):=
 .ptr _ _ _ _ _ (Jh _ _ _) (Ab _) rfl λ_=>by simp [Gh.set,Jh]
theorem Jap{g v esz n cap:Nat}{el:TypeId}{cells:List AV}{cs:Array Value}(d:n<=cap/\cap<=9223372036854775807)(f:cap * esz<=cs.size)(a:cells=[]->cap=0) :
  Rep (w.alloc (.cells cs el)) S (upd h g (some (.arr v esz el cells false))) (μ.set g w.heap.size 0) (.arr g v 0 n) (.slice (some ⟨w.heap.size,0,none⟩) n cap):=
 .arr _ _ _ _ _ _ (Jh _ _ _) (Ab _) rfl λ_=>⟨esz,el,cells,false,rfl,λe=>⟨rfl,by have:=a e;omega,some ⟨w.heap.size,0,none⟩,by have l:=a e;subst l;rw [show n=0 by omega]⟩,λ_=>⟨_,_,cs,el,(0,0),rfl,d,by simp only [Gh.set,Jh];exact heap_alloc_new w _,by simpa [Gh.set,Jh] using f,λ_=>by simp [Gh.set,Jh]⟩⟩
def Ran(w:World)(S:Nat->Prop)(h:Heap)(μ:Gh)(v:AV)(h':Heap)(cv:Value)(w':World):Prop:=
 ∃S' μ',Rep w' S' h' μ' v cv/\RepH w' S' h' μ'/\Evo w S h μ w' S' h' μ'/\EvoV h μ h' μ'
theorem Ran.same{v:AV}{cv:Value}(d:RepH w S h μ)(a:Rep w S h μ v cv):Ran w S h μ v h cv w:=⟨S,μ,a,d,.refl,.refl h μ⟩
theorem Jif(f:RepH w S h μ){e:TypeId}{z:List AV}(a:zc P e=some z)(g:Nat) :
  ∃cv w',(Instr.alloc e true (.tuple #[])).run P w=.ok cv w'/\Ran w S h μ (.ptr g (Jv h g) 0) (upd h g (some (.box (Jv h g) z))) cv w':=by obtain ⟨i,v,l,d,hl,B,hs⟩:=Jjw a;have m:=z8 (w:=w) (S:=S) (h:=h) (μ:=μ) hl;obtain ⟨A,y,r⟩:=zo (el:=e) (g:=g) (o:=.box (Jv h g) z) (cs:=v.cells) f (.inl rfl) (by simpa using m) (.inl ⟨_,rfl,by omega⟩);exact ⟨.pointer (some ⟨w.heap.size,0,none⟩),w.alloc (.cells v.cells e),by simp [Instr.alloc,zeroValue,typeInfo,l,d,newVar,newRow],S,_,Jkc,A,y,r⟩
theorem Jxx(d:RepH w S h μ){e:TypeId}{x:AV}{cx:Value}{c:List AV}(a:Rep w S h μ x cx)(l:x.cells=some c)(g:Nat) :
  ∃cv w',(Instr.box e cx).run P w=.ok cv w'/\Ran w S h μ (.ptr g (Jv h g) 0) (upd h g (some (.box (Jv h g) c))) cv w':=by obtain ⟨hs,f⟩:=a.cells l;obtain ⟨v,r,m⟩:=zo (el:=e) (g:=g) (o:=.box (Jv h g) c) (cs:=cx.cells) d (.inl rfl) f (.inl ⟨_,rfl,hs⟩);exact ⟨.pointer (some ⟨w.heap.size,0,none⟩),w.alloc (.cells cx.cells e),by simp [Instr.box,newVar,newRow],S,_,Jkc,v,r,m⟩
theorem Jb0{nt:Nat}{σ:St}{a:Act}(hs:RepS nt w S σ μ a){place:Nat->Option (Nat×Nat)}:∀ {ps:List (Nat×Operand)} {l:List (Nat×Nat×LO)},Jeu place ps=some l ->
  Jby σ.ev w S σ.h μ place l (ps.map λ(i,x)=>(i,a.eval x))
 | [],l,hl=>by simp [Jeu] at hl;subst hl;trivial
 | (i,x)::r,l,hl=>by
  unfold Jeu at hl;split at hl
  ·rename_i off n y g f e d;injection hl with hl;subst hl;exact ⟨f,Ji hs e,Jb0 hs d⟩
  ·cases hl
theorem Jjg{t:TypeId}{z l:List AV}{ev:LO->AV}{ps:List (Nat×Nat×LO)}{cp:Array (Nat×Value)}(H:zc P t=some z)
  (hd:(∃fs pl,P.underlying t=some (.struct fs)/\fs.toList.mapM (λf=>(P.info? f.type).map λi=>(f.offset,i.size))=some pl/\Jby ev w S h μ (λi=>pl[i]?) ps cp.toList) \/
   (∃n e i,P.underlying t=some (.array n e)/\P.info? e=some i/\Jby ev w S h μ (λk=>some (k * i.size,i.size)) ps cp.toList))
  (G:Jgs ev z ps=some l):∃cv,(Instr.build t cp).run P w=.ok cv w/\Rep w S h μ (.agg l) cv:=by
 obtain ⟨i,v,d,F,hl,J,hs⟩:=Jjw H;have g:=z8 (w:=w) (S:=S) (h:=h) (μ:=μ) hl;have fin:∀ {r:Array Value},Holds w S h μ l r->l.length=r.size->Rep w S h μ (.agg l) (.agg r):=λg hl=>.agg _ _ hl (λi x d=>(g i x d).2) (λi x d=>(g i x d).1);rcases hd with ⟨fs,pl,m,o,a⟩|⟨n,e,ie,m,y,a⟩
 ·obtain ⟨r,E,B,A,_⟩:=Jcd a (by simpa using g) (by omega) G;refine ⟨.agg r,run_build w t cp r ?_,fin B A⟩;simp only [Program.built,d,m,F,o];simpa using E
 ·obtain ⟨r,E,B,A,_⟩:=Jcd a (by simpa using g) (by omega) G;refine ⟨.agg r,run_build w t cp r ?_,fin B A⟩;simp only [Program.built,d,m,F,y];exact E
theorem jl(z:List AV):∀n,(Xt z n).length=n * z.length
 | 0=>by simp [Xt]
 | n+1=>by simp [Xt,jl z n,Ac,Nat.add_comm]
theorem Jce{z:List AV}(d:0<z.length):∀(n i:Nat),i<n * z.length->(Xt z n)[i]?=z[i % z.length]?
 | 0,i,h=>by simp at h
 | n+1,i,h=>by
  unfold Xt;by_cases a:i<z.length
  ·rw [Ae a,Nat.mod_eq_of_lt a]
  ·rw [Ad (by omega),Jce d n _ (by rw [Ac] at h;omega)]
   congr 1
   rw [<-Nat.mod_eq_sub_mod (by omega)]
theorem Jlt{z:List AV}{zv:Array Value}(l:Holds w S h μ z zv)(hs:zv.size=z.length)(f:0<z.length)(n:Nat) :
  Holds w S h μ (Xt z n) ((Array.range (n * z.length)).map (zv[· % zv.size]!)):=by
 intro i x d;have a:i<n * z.length:=by have:=(Aa.1 d).1;rwa [jl] at this
 rw [Jce f n i a] at d;have:=l _ x d;have g:i % z.length<zv.size:=by rw [hs];exact Nat.mod_lt _ f
 have e:((Array.range (n * z.length)).map (zv[· % zv.size]!)).getD i undef=zv.getD (i % z.length) undef:=by
  have m:zv[i % z.length]! = zv[i % z.length]?.getD undef:=by rw [getElem!_pos zv _ g];simp [g]
  simp [a,hs,m]
 rw [e];exact this
theorem Jqa(M:RepH w S h μ){t e:TypeId}{n:Nat}{i:TypeInfo}{z l:List AV}{ev:LO->AV}{ps:List (Nat×Nat×LO)}{cp:Array (Nat×Value)}(G:P.underlying t=some (.slice e))(E:P.info? e=some i)(H:zc P e=some z)
  (K:n * i.size<=16777216) (A:0<i.size) (y:Jby ev w S h μ (λk=>some (k * i.size,i.size)) ps cp.toList) (Q:Jgs ev (Xt z n) ps=some l) (g:Nat) :
  ∃cv w',(Instr.buildSlice t n cp).run P w=.ok cv w'/\Ran w S h μ (.arr g (Jv h g) 0 n) (upd h g (some (.arr (Jv h g) i.size e l false))) cv w':=by
 obtain ⟨i',v,a,J,hl,B,hs⟩:=Jjw H;rw [E] at a;injection a with a;subst a;have N:=z8 (w:=w) (S:=S) (h:=h) (μ:=μ) hl;have f:=Jlt (zv:=v.cells) (by simpa using N) (by omega) (by omega) n;obtain ⟨r,F,g2,g3,g4⟩:=Jcd y f (by simp [jl]) Q;have m:(Instr.buildSlice t n cp).run P w=.ok (.slice (some ⟨w.heap.size,0,none⟩) n n) (w.alloc (.cells r e)):=by
  rcases Al n with d|d
  ·subst d;have O:Instr.fill (λk=>some (k * i.size,i.size)) #[] cp.toList=some r:=by simpa [Array.range_zero'] using F
   simp [Instr.buildSlice,run_underlying G,sizeOf,typeInfo,E,newRow,O,Array.range_zero']
  ·exact run_buildSlice w t e n cp r i v G E J (by omega) (by have:=Nat.mul_pos d A;omega) (by rw [<-B];rw [<-B] at F;exact F)
 have L:r.size=n * i.size:=by rw [g4];simp [B]
 obtain ⟨Z,Y,X⟩:=zo (el:=e) (g:=g) (o:=.arr (Jv h g) i.size e l false) (cs:=r) M (.inl rfl) g2 (.inr ⟨_,_,rfl,by omega⟩);exact ⟨_,_,m,S,_,Jap ⟨Ab _,Ap (Nat.le_mul_of_pos_right n A) (by omega)⟩ (by omega) (λe=>by
  subst e;have:n * i.size=0:=by rw [<-L];simpa using g3.symm
  rcases Ax.1 this with R|R<;>omega),Z,Y,X⟩
theorem Jyu(M:RepH w S h μ){t e:TypeId}{i:TypeInfo}{z:List AV}(L:P.underlying t=some (.slice e))(H:P.info? e=some i)(J:zc P e=some z)(O:0<i.size){k k':IntKind}{n m:Int}
  (h0:0<=n) (E:n<=m) (B:n=0->m=0) (R:m * i.bytes<=room) (N:m<=9223372036854775807) (g:Nat) :
  ∃cv w',(Instr.makeSlice t (.int k n) (.int k' m)).run P w=.ok cv w'/\Ran w S h μ (.arr g (Jv h g) 0 n.toNat) (upd h g (some (.arr (Jv h g) i.size e (Xt z n.toNat) false))) cv w':=by
 obtain ⟨i',v,a,K,hl,G,hs⟩:=Jjw J;rw [H] at a;injection a with a;subst a;have Q:=z8 (w:=w) (S:=S) (h:=h) (μ:=μ) hl;have d:=Jlt (zv:=v.cells) (by simpa using Q) (by omega) (by omega) m.toNat;have l:=run_make (P:=P) w t e i v L H K k k' n m h0 E (by rw [Int.mul_comm];unfold room at R;omega) N;have f:n.toNat<=m.toNat:=by omega
 have r:Holds w S h μ (Xt z n.toNat) (madeCells v.cells (m.toNat * i.size)):=by
  intro j x F;have A:j<n.toNat * z.length:=by have:=(Aa.1 F).1;rwa [jl] at this
  have y:j<m.toNat * z.length:=Nat.lt_of_lt_of_le A (Ag _ f);rw [Jce (by omega) _ _ A] at F;have:=d j x (by rw [Jce (by omega) _ _ y];exact F);rw [G] at this;exact this
 obtain ⟨h1,Z,Y⟩:=zo (el:=e) (g:=g) (o:=.arr (Jv h g) i.size e (Xt z n.toNat) false) (cs:=madeCells v.cells (m.toNat * i.size)) M (.inl rfl) r
  (.inr ⟨_,_,rfl,by rw [jl,size_madeCells,G];exact Ag _ f⟩)
 exact ⟨_,_,l,S,_,Jap ⟨f,by omega⟩ (by rw [size_madeCells];exact Ab _) (λe=>by
  have:=jl z n.toNat;rw [e] at this;rcases Ax.1 this.symm with X|X
  ·have:=B (by omega);omega
  ·omega),h1,Z,Y⟩
end
theorem Jeo(cur:Array Value)(vs:List Value)(o:Nat)(h:o+vs.length<=cur.size)(i:Nat) :
  (cur.toList.take o++vs++cur.toList.drop (o+vs.length)).toArray.getD i undef=if o<=i/\i<o+vs.length then vs.getD (i - o) undef else cur.getD i undef:=by
 have hl:o+vs.length<=cur.toList.length:=by simpa using h
 have e:((cur.toList.take o++vs++cur.toList.drop (o+vs.length)).toArray.getD i undef)=(cur.toList.take o++vs++cur.toList.drop (o+vs.length))[i]?.getD undef:=by simp
 rw [e];by_cases a:i<o
 ·rw [if_neg (by omega),Av,Ae (by simp;omega),Aj,if_pos a];simp
 ·by_cases f:i<o+vs.length
  ·rw [if_pos (by omega),Av,Ad (by simp;omega),Ae (by simp;omega)];simp only [List.getD_eq_getElem?_getD]
   congr 2
   simp;omega
  ·rw [if_neg (by omega),Ad (by simp;omega),Ak];have d:(o+vs.length+(i - (cur.toList.take o++vs).length))=i:=by simp;omega
   rw [d];simp
section
variable {w:World} {S:Nat->Prop} {h:Heap} {μ:Gh} {P:Program}
theorem HoldsAt.paste{l new:List AV}{cs vs r:Array Value}{o off:Nat}(hl:HoldsAt w S h μ o l cs)(g:Holds w S h μ new vs)(d:vs.size=new.length)(e:off+new.length<=l.length)
  (f:∀i,r.getD i undef=if o+off<=i/\i<o+off+vs.size then vs.getD (i - (o+off)) undef else cs.getD i undef):HoldsAt w S h μ o (paste l off new) r:=by
 intro i x a;rw [zl e] at a;rw [f (o+i),d];split at a
 ·rename_i m;rw [if_pos (by omega),show o+i - (o+off)=i - off by omega];exact g _ x a
 ·rename_i m;rw [if_neg (by omega)];exact hl _ x a
theorem Jot{c:List AV}{vs:Array Value}(g:Holds w S h μ c vs)(hs:vs.size=c.length):∀v∈vs.toList,v.oneCell'=true:=by
 intro v d;obtain ⟨i,f,e⟩:=List.getElem_of_mem d;have a:i<vs.size:=by simpa using f
 have:=(g i c[i] (Au (by omega))).2;rw [show vs.getD i undef=v by simp [a];simpa using e] at this;exact this
theorem Ji2(Q:RepH w S h μ){t:TypeId}{n:Nat}(hn:szT P t=some n){x y:AV}{cx cy:Value}{h':Heap}(hx:Rep w S h μ x cx)(hy:Rep w S h μ y cy)(d:Jcz h n x y=some h') :
  ∃w',(Instr.storeAt t cx cy).run P w=.ok () w'/\Ran w S h μ .any h' undef w':=by
 unfold Jcz at d;split at d
 ·rename_i g ver off c hc;obtain ⟨hs,hh⟩:=hy.cells hc;split at d
  ·rename_i hcn;subst hcn;have go:∀(o o':AObj) (cells:List AV) (cs:Array Value) (el:TypeId),h g=some o->o.fz=false->o.live=true->o'.ver=o.ver->o.like o'->ver=o.ver->w.heap[μ.b g]?=some (.cells cs el (0,0))->μ.o g+cells.length<=cs.size->HoldsAt w S h μ (μ.o g) cells cs ->
     off+c.length<=cells.length ->
     (∀r:Array Value,r.size=cs.size->∀S' h' μ' w',w'.heap[μ.b g]?=some (.cells r el (0,0))->HoldsAt w' S' h' μ' (μ.o g) (paste cells off c) r->RepObj w' S' h' μ' (μ.b g) (μ.o g) o') ->
     ∃w',(Instr.storeAt t cx cy).run P w=.ok () w'/\Ran w S h μ .any (upd h g (some o')) undef w':=by
    intro o o' cells cs el A Y X hov H N L m a f R;have Z:=hx.ptr_inv (by simp [cur,A,N]);subst Z;have G:=run_storeCells_at P (μ.b g) (μ.o g+off) el cy.cells.toList 0 cs w L (by simp;omega) (Jot hh hs);simp only [Bf] at G;have E:=Jeo cs cy.cells.toList (μ.o g+off) (by simp;omega);generalize hr:(cs.toList.take (μ.o g+off)++cy.cells.toList++cs.toList.drop (μ.o g+off+cy.cells.toList.length)).toArray=r at G E;have O:r.size=cs.size:=by rw [<-hr];simp;omega
    have F:∀old el' z,w.heap[μ.b g]?=some (.cells old el' z)->r.size=old.size:=λold el' z e=>by rw [L] at e;injection e with e;injection e with e;subst e;exact O
    have M:o.ver<o'.ver\/o.ver=o'.ver/\μ.o g=μ.o g/\o.like o':=.inr ⟨hov.symm,rfl,H⟩;obtain ⟨ev,vv⟩:=Jmn (S:=S) A Y X M F;have v:=(a.evo Q ev vv).paste (hh.evo Q ev vv) hs f (r:=r) (λi=>by rw [E i];simp);have l:=setRow_heap w (μ.b g) cs r el (0,0) L;refine ⟨w.setRow (μ.b g) r,?_,S,_,.any _,Jna Q A Y X M F (R r O _ _ _ _ l v),ev,vv⟩;simp [Instr.storeAt,Instr.sureAddr,storeVar,Ka hn,hs,G]
   split at d
   ·rename_i ver' cells A;split at d
    ·rename_i K;obtain ⟨rfl,f⟩:=K;injection d with d;subst d;obtain ⟨cs,el,L,m,a⟩:=Q.ob g _ A;exact go _ (.box ver _) cells cs el A rfl rfl rfl rfl rfl L m a f (λr hr S' h' μ' w' l J=>⟨r,el,l,by rw [zm f];omega,J⟩)
    ·cases d
   ·rename_i ver' esz el cells A;split at d
    ·rename_i K;obtain ⟨rfl,f,B⟩:=K;injection d with d;subst d;obtain ⟨cs,L,m,a,_⟩:=Q.ob g _ A B;have hpn:paste cells off c≠[]:=λe=>B (by have:=zm f;rw [e] at this;exact Ay this.symm);exact go _ (.arr ver esz el _ false) cells cs el A rfl (Ki.2 B) rfl ⟨rfl,rfl,λe=>(B e).elim,λe=>(hpn e).elim⟩ rfl L m a f (λr hr S' h' μ' w' l J=>λ_=>⟨r,l,by rw [zm f];omega,J,λe=>by cases e⟩)
    ·cases d
   ·cases d
  ·cases d
 ·cases d
theorem Ji5(Z:RepH w S h μ){esz:Nat}{y:AV}{cy:Value}{m:Int}{new:List AV}(J:Rep w S h μ y cy)(F:lenV h y=some m)(d:Zj h esz y=some new) :
  ∃(n:Nat) (A:Option Addr) (c:Nat),m=n/\cy=.slice A n c/\new.length=n * esz/\(A=none->n=0/\c=0)/\∀a,A=some a->∀i x,new[i]?=some x->∃v,w.cell? (a.add i)=some v/\v.oneCell'=true/\Rep w S h μ x v:=by
 unfold Zj at d;split at d
 ·simp [lenV] at F;injection d with d;subst d F;exact ⟨0,none,0,rfl,J.nils_inv,by simp,λ_=>⟨rfl,rfl⟩,λa B=>by cases B⟩
 ·rename_i n l;simp [lenV] at F;split at d
  ·rename_i hl;injection d with d;subst d F;cases J with
   | pure L=>
    cases L with
    | lst0=>exact ⟨0,none,0,rfl,rfl,by simp,λ_=>⟨rfl,rfl⟩,λa B=>by cases B⟩
    | lst _ _ a cap cv hs hn O h1 Y=>exact ⟨n,some a,cap,rfl,rfl,hl,(λe=>by cases e),λa' B i x o=>by injection B with B;subst B;exact ⟨cv i,O i x o,h1 i x o,.pure (Y i x o)⟩⟩
  ·cases d
 ·rename_i g ver off len;split at d
  ·rename_i ver' esz' el cells fz K;split at d
   ·rename_i O;obtain ⟨rfl,rfl,N⟩:=O;injection d with d;subst d;simp [lenV,X2,K] at F;subst F;by_cases r:cells=[]
    ·obtain ⟨rfl,rfl,A,rfl⟩:=(J.arr_inv0 K).1 r;exact ⟨0,A,0,rfl,rfl,by simp [cut],λ_=>⟨rfl,rfl⟩,λa _ i x o=>by simp [cut] at o⟩
    obtain ⟨a,cap,cs,el',z,rfl,hl,hb,X,B⟩:=J.arr_inv K r;obtain ⟨cs',P,Q,f,_⟩:=Z.ob g _ K r;refine ⟨len,some a,cap,rfl,rfl,by simp [cut];rw [Ac] at N;omega,(λe=>by cases e),λa' E i x o=>?_⟩;injection E with E;subst E;simp only [cut,Aj,Ak] at o;split at o
    ·rename_i M;have G:0<cap:=by
      rcases Al len with R|R
      ·subst R;simp at M
      ·omega
     have H:μ.o g+(off * esz+i)<cs'.size:=by have:=(Aa.1 o).1;omega
     refine ⟨cs'.getD (μ.o g+(off * esz+i)) undef,?_,(f _ x o).2,(f _ x o).1⟩;rw [B G,Jff P,Ah,getD_some H]
    ·cases o
   ·cases d
  ·cases d
 ·cases d
def Xb(w:World)(a:Addr)(n:Nat):List Value:=(List.range n).map λi=>(w.cell? (a.add i)).getD undef
theorem Jwf{a:Addr}{n i:Nat}{v:Value}(h:(Xb w a n)[i]?=some v)(f:∃u,w.cell? (a.add i)=some u):w.cell? (a.add i)=some v:=by
 obtain ⟨u,e⟩:=f;simp only [Xb,List.getElem?_map] at h;cases d:(List.range n)[i]? with
 | none=>rw [d] at h;cases h
 | some j=>
  rw [d] at h;have:j=i:=by have:=Aa.1 d;obtain ⟨l,g⟩:=this;simpa using g.symm
  subst this;simp [e] at h;rw [e,h]
theorem zk{a:Addr}{l:List AV}(g:∀(i:Nat) (x:AV),l[i]?=some x->∃v,w.cell? (a.add i)=some v/\v.oneCell'=true/\Rep w S h μ x v):Holds w S h μ l (Xb w a l.length).toArray:=by
 intro i x f;obtain ⟨v,r,o,m⟩:=g i x f;have d:=(Aa.1 f).1;have e:(Xb w a l.length).toArray.getD i undef=v:=by simp [Xb,d,r]
 rw [e];exact ⟨m,o⟩
theorem zn{a:Addr}{l:List AV}(f:∀(i:Nat) (x:AV),l[i]?=some x->∃v,w.cell? (a.add i)=some v/\v.oneCell'=true/\Rep w S h μ x v) :
  (Xb w a l.length).length=l.length/\∀j v,(Xb w a l.length)[j]?=some v->w.cell? (a.add j)=some v:=by
 refine ⟨by simp [Xb],λj v e=>Jwf e ?_⟩;have d:j<l.length:=by have:=(Aa.1 e).1;simpa [Xb] using this
 obtain ⟨v,g,_⟩:=f j l[j] (Au d);exact ⟨v,g⟩
theorem Holds.append{l m:List AV}{a b:Array Value}(hl:Holds w S h μ l a)(hs:a.size=l.length)(g:Holds w S h μ m b)(f:b.size=m.length)(c:Array Value):Holds w S h μ (l++m) (a++b++c):=by
 intro i x d;by_cases o:i<l.length
 ·rw [Ae o] at d;have:=hl i x d;have e:(a++b++c).getD i undef=a.getD i undef:=by simp only [Ar];rw [Ao (by simp;omega),Ao (by omega)]
  rw [e];exact this
 ·rw [Ad (by omega)] at d;have r:=(Aa.1 d).1;have:=g _ x d;have e:(a++b++c).getD i undef=b.getD (i - l.length) undef:=by simp only [Ar];rw [Ao (by simp;omega),Array.getElem?_append_right (by omega),hs]
  rw [e];exact this
theorem Holds.front{m:List AV}{b:Array Value}(d:Holds w S h μ m b)(hs:b.size=m.length)(c:Array Value):Holds w S h μ m (b++c):=by
 intro i x a;have f:=(Aa.1 a).1;have e:(b++c).getD i undef=b.getD i undef:=by simp only [Ar];rw [Ao (by omega)]
 rw [e];exact d i x a
theorem Jv0(N:RepH w S h μ){t ty e:TypeId}{ts:Array TypeId}(H:ts[0]?=some t){sz:Nat}(hu:P.underlying t=some (.slice e))(J:szT P e=some sz){x y v:AV}{cx cy:Value}{h':Heap}
  (hx:Rep w S h μ x cx) (hy:Rep w S h μ y cy) (d:Ju7 h sz x y=some (v,h')):∃cv w',(Builtin.copy_ ts ty #[cx,cy]).run P w=.ok cv w'/\Ran w S h μ v h' cv w':=by
 unfold Ju7 at d;split at d
 case h_2=>cases d
 rename_i m new hm he;obtain ⟨n,A,c,rfl,rfl,hnl,hA,B⟩:=Ji5 N hy hm he;split at d
 case h_2=>cases d
 rename_i g ver off len;split at d
 case h_2=>cases d
 rename_i ver' esz' el cells R;split at d
 case isFalse=>cases d
 rename_i hc;obtain ⟨rfl,rfl,hle,f⟩:=hc;injection d with d;simp only [Ai,Aq] at d;obtain ⟨rfl,rfl⟩:=d;obtain ⟨a,cap,cs0,el0,z0,rfl,hl,hb0,hsz0,ha⟩:=hx.arr_inv R f;obtain ⟨cs,hb,hszc,hcs,_⟩:=N.ob g _ R f;generalize X:Nat.min n len=k;have hkn:k<=n:=by rw [<-X];exact Nat.min_le_left ..
 have hkl:k<=len:=by rw [<-X];exact Nat.min_le_right ..
 have hkz:k * sz<=len * sz:=Ag _ hkl;have hkz2:k * sz<=n * sz:=Ag _ hkn;rw [Ac] at hle;have F:(new.take (k * sz)).length=k * sz:=by rw [Az];omega
 have L:off * sz+(new.take (k * sz)).length<=cells.length:=by omega
 by_cases M:k * sz=0
 ·have e1:paste cells (off * sz) (new.take (k * sz))=cells:=by rw [M];simp [paste]
  have e2:upd h g (some (.arr ver sz el (paste cells (off * sz) (new.take (k * sz))) false))=h:=by
   rw [e1];funext q;simp only [upd];split
   ·rename_i hq;rw [hq,R]
   ·rfl
  rw [e2];refine ⟨.int .i64 (k:Nat),w,?_,Ran.same N (.pure (.int _ _))⟩;cases A with
  | none=>simp [Builtin.copy_,H,run_underlying hu,Builtin.lenOf,Builtin.firstCells,Ka J,X,storeCells,goInt]
  | some a'=>simp [Builtin.copy_,H,run_underlying hu,Builtin.lenOf,Builtin.firstCells,Ka J,X,M,loadCells,loadCellsFrom,storeCells,goInt]
 ·have hk1:0<k:=Nat.pos_of_ne_zero λq=>M (by rw [q,Be]);obtain rfl:=ha (by omega);cases A with
  | none=>have:=(hA rfl).1;omega
  | some a'=>
   have Y:∀(i:Nat) (x:AV),(new.take (k * sz))[i]?=some x->∃v,w.cell? (a'.add i)=some v/\v.oneCell'=true/\Rep w S h μ x v:=λi x Z=>by
    rw [Aj] at Z;split at Z
    ·exact B a' rfl i x Z
    ·cases Z
   obtain ⟨v1,v2⟩:=zn Y;have hh:=zk Y;generalize Xb w a' (new.take (k * sz)).length=vs at v1 v2 hh;rw [F] at v1;have l:=run_loadCells_list (P:=P) w a' vs v2;rw [v1] at l;have Q:vs.toArray.size=(new.take (k * sz)).length:=by rw [F,<-v1];simp
   have K:=run_storeCells_at P (μ.b g) (μ.o g+off * sz) el vs 0 cs w hb (by omega) (by simpa using Jot hh Q);simp only [Bf] at K;have E:=Jeo cs vs (μ.o g+off * sz) (by omega);generalize hr:(cs.toList.take (μ.o g+off * sz)++vs++cs.toList.drop (μ.o g+off * sz+vs.length)).toArray=r at K E;have hrs:r.size=cs.size:=by rw [<-hr];simp;omega
   have G:∀old el' z,w.heap[μ.b g]?=some (.cells old el' z)->r.size=old.size:=λold el' z e=>by rw [hb] at e;injection e with e;injection e with e;subst e;exact hrs
   have hpn:paste cells (off * sz) (new.take (k * sz))≠[]:=λe=>f (by have:=zm L;rw [e] at this;exact Ay this.symm);have O:(AObj.arr ver sz el cells false).ver<(AObj.arr ver sz el (paste cells (off * sz) (new.take (k * sz))) false).ver\/(AObj.arr ver sz el cells false).ver=(AObj.arr ver sz el (paste cells (off * sz) (new.take (k * sz))) false).ver/\μ.o g=μ.o g/\(AObj.arr ver sz el cells false).like (AObj.arr ver sz el (paste cells (off * sz) (new.take (k * sz))) false):=
    .inr ⟨rfl,rfl,rfl,rfl,λe=>(f e).elim,λe=>(hpn e).elim⟩
   obtain ⟨ev,vv⟩:=Jmn (S:=S) R rfl (Ki.2 f) O G;have o:=(hcs.evo N ev vv).paste (hh.evo N ev vv) Q L (r:=r) (λi=>by rw [E i];simp);have hb':=setRow_heap w (μ.b g) cs r el (0,0) hb;refine ⟨.int .i64 (k:Nat),w.setRow (μ.b g) r,?_,S,_,.pure (.int _ _),Jna N R rfl (Ki.2 f) O G (λ_=>⟨r,hb',by rw [zm L];omega,o,λe=>by cases e⟩),ev,vv⟩;simp [Builtin.copy_,H,run_underlying hu,Builtin.lenOf,Builtin.firstCells,Ka J,X,l,K,goInt]
theorem Kw{a:Addr}{n:Nat}:(Xb w a n).toArray.size=n:=by simp [Xb]
theorem Jou{n b:Nat}(h:(n:Int) * (b:Int)<=(room:Nat)):n * b<=140737488355328:=by
 unfold room at h
 exact_mod_cast h
theorem Jy5{w:World}{need old:Nat}{e:TypeId}(h:(need:Int)<=9223372036854775807):grownCap w need old e<=9223372036854775807:=by have:=grownCap_le_maxLen w need old e (by unfold maxLen;omega);unfold maxLen at this;omega
theorem Zz{t ty e:TypeId}{i:TypeInfo}(f:P.underlying t=some (.slice e))(g:P.info? e=some i)(a:Addr)(len cap:Nat)(d:len<=cap)(A:Option Addr)(c:Nat) :
  (Builtin.append_ #[t,t] ty #[.slice (some a) len cap,.slice A 0 c]).run P w=.ok (.slice (some a) len cap) w:=by cases A<;>simp [Builtin.append_,run_underlying f,sizeOf,typeInfo,g,Builtin.lenOf,Builtin.firstCells,loadCells,loadCellsFrom,d,storeCells]
theorem Jch{t ty e:TypeId}{i:TypeInfo}(a:P.underlying t=some (.slice e))(d:P.info? e=some i)(A0:Option Addr)(A:Option Addr)(c:Nat) :
  (Builtin.append_ #[t,t] ty #[.slice A0 0 0,.slice A 0 c]).run P w=.ok (.slice A0 0 0) w:=by cases A<;>cases A0<;>simp [Builtin.append_,run_underlying a,sizeOf,typeInfo,d,Builtin.lenOf,Builtin.firstCells,loadCells,loadCellsFrom,storeCells]
theorem Jiv(J:RepH w S h μ){t ty e:TypeId}{i:TypeInfo}{z:List AV}(X:P.underlying t=some (.slice e))(R:P.info? e=some i)(hz:zc P e=some z)(hi0:0<i.size){x y v:AV}{cx cy:Value}{g0:Nat}{h':Heap}
  (hx:Rep w S h μ x cx) (hy:Rep w S h μ y cy) (d:appV h g0 i.size i.bytes e x y=some (v,h')):∃cv w',(Builtin.append_ #[t,t] ty #[cx,cy]).run P w=.ok cv w'/\Ran w S h μ v h' cv w':=by
 obtain ⟨i',zv,hi',hzv,hzl,hzn,hzs⟩:=Jjw hz;rw [R] at hi';injection hi' with hi';subst hi';unfold appV at d;split at d
 ·rename_i m new hm he;obtain ⟨n,A,c,rfl,rfl,B,hA,K⟩:=Ji5 J hy hm he;have F:new=[]->n=0:=λH=>by
   subst H;rcases Ax.1 B.symm with h1|h1
   ·exact h1
   ·omega
  split at d
  ·-- nil
   rw [hx.nils_inv];split at d
   ·rename_i f;injection d with d;simp only [Ai] at d;obtain ⟨rfl,rfl⟩:=d;have hn:=F f;subst hn;refine ⟨.slice none 0 0,w,?_,Ran.same J (.pure .nils)⟩;cases A with
    | none=>simp [Builtin.append_,run_underlying X,sizeOf,typeInfo,R,Builtin.lenOf,Builtin.firstCells]
    | some a=>simp [Builtin.append_,run_underlying X,sizeOf,typeInfo,R,Builtin.lenOf,Builtin.firstCells,loadCells,loadCellsFrom]
   ·rename_i f;split at d
    ·rename_i hb;injection d with d;simp only [Ai] at d;obtain ⟨rfl,rfl⟩:=d;have hn0:0<n:=by
      rcases Al n with H|H
      ·subst H;simp at B;exact absurd B f
      ·exact H
     cases A with
     | none=>have:=(hA rfl).1;omega
     | some a=>
      have N:=K a rfl;obtain ⟨v1,v2⟩:=zn N;have hh:=zk N;have L:=run_append_nil (P:=P) w t ty e i zv X R hzv a n c (Xb w a new.length) (by rw [v1,B]) v2 hn0 hb.2 (by have:=Jou hb.1;omega);have hge:=grownCap_ge w n 0 e;obtain ⟨h1,h2,h3⟩:=zo (w:=w.drew) (el:=e) (g:=g0) (o:=.arr (Jv h g0+1) i.size e new false) (cs:=(Xb w a new.length).toArray++Builtin.zeroCells zv.cells (grownCap w n 0 e - n))
       (J.of_same (w':=w.drew) rfl rfl rfl ⟨rfl,Bc _⟩) (.inr (by simp [AObj.ver])) (λj x E=>⟨((hh.front Kw _) j x E).1.evo J j8 (.refl h μ),((hh.front Kw _) j x E).2⟩) (.inr ⟨_,_,rfl,by rw [Am,Kw];omega⟩)
      refine ⟨_,_,L,S,_,?_,h1,j8.trans h2,h3⟩;simp only [Aq];refine Jap ⟨hge,Jy5 hb.2⟩ ?_ (λe=>(f e).elim);simp only [Am,Kw,B,size_zeroCells,hzs,<-Ac];exact Ag _ (by omega)
    ·cases d
  ·rename_i g ver off len;split at d
   ·rename_i ver' esz' el' cells ho;split at d
    case isFalse=>cases d
    rename_i hcond;obtain ⟨e1,e2,e3,hend,G⟩:=hcond;have cutg:∀(j:Nat) (x:AV),(cut cells (off * i.size) (len * i.size))[j]?=some x->j<len * i.size/\cells[off * i.size+j]?=some x:=λj x E=>by
     unfold cut at E;have hlt:=(Aa.1 E).1;rw [Az] at hlt;have hlt':j<len * i.size:=by omega
     rw [List.getElem?_take_of_lt hlt',Ak] at E;exact ⟨hlt',E⟩
    subst e1 e2 e3;by_cases l:cells=[]
    ·obtain ⟨rfl,rfl,A0,rfl⟩:=(hx.arr_inv0 ho).1 l;subst l;rw [if_neg (by simp)] at d;have hc0:cut ([]:List AV) (0 * i.size) (0 * i.size)++new=new:=by simp [cut]
     rw [hc0] at d;injection d with d;simp only [Ai] at d;obtain ⟨rfl,rfl⟩:=d;by_cases f:new=[]
     ·have hn:=F f;subst hn f;obtain ⟨b1,b2,b3⟩:=Jlu (k:=0) J ho (o':=.arr (ver+1) i.size e [] false) (by simp [AObj.ver]) (λq=>by simp [AObj.live] at q) (λ_ _ _ _ _ _ q=>(q rfl).elim);refine ⟨.slice A0 0 0,w,?_,S,_,.arr _ _ _ _ _ _ (Jh _ _ _) (Ab _) rfl λ_=>⟨_,_,_,_,rfl,λ_=>⟨rfl,rfl,A0,rfl⟩,λq=>(q rfl).elim⟩,b1,b2,b3⟩;cases A<;>cases A0<;>simp [Builtin.append_,run_underlying X,sizeOf,typeInfo,R,Builtin.lenOf,Builtin.firstCells,loadCells,loadCellsFrom,storeCells]
     ·have hn0:0<n:=by
       rcases Al n with H|H
       ·subst H;simp at B;exact absurd B f
       ·exact H
      cases A with
      | none=>have:=(hA rfl).1;omega
      | some ay=>
       have N:=K ay rfl;obtain ⟨v1,v2⟩:=zn N;have Z:=zk N;have hbd:n * i.bytes<=140737488355328:=Jou (by simpa using G.1);have L:(Builtin.append_ #[t,t] ty #[.slice A0 0 0,.slice (some ay) n c]).run P w=.ok (.slice (some ⟨w.heap.size,0,none⟩) n (grownCap w n 0 e)) (w.drew.alloc (.cells ((Xb w ay new.length).toArray++Builtin.zeroCells zv.cells (grownCap w n 0 e - n)) e)):=by
        cases A0 with
        | none=>exact run_append_nil (P:=P) w t ty e i zv X R hzv ay n c (Xb w ay new.length) (by rw [v1,B]) v2 hn0 (by have:=G.2;omega) (by omega)
        | some a0=>
         have:=run_append_grow (P:=P) w t ty e i zv X R hzv a0 0 0 [] (by simp) (λj v E=>by simp at E) ay n c (Xb w ay new.length) (by rw [v1,B]) v2 (by omega) (by have:=G.2;omega) (growslice_fits (by omega) (by simpa using hbd));simpa using this
       have hge:=grownCap_ge w n 0 e;obtain ⟨h1,h2,h3⟩:=zo (w:=w.drew) (el:=e) (g:=g) (o:=.arr (ver+1) i.size e new false) (cs:=(Xb w ay new.length).toArray++Builtin.zeroCells zv.cells (grownCap w n 0 e - n))
        (J.of_same (w':=w.drew) rfl rfl rfl ⟨rfl,Bc _⟩) (.inl (by simp [AObj.ver,Jv,ho])) (λj x E=>⟨((Z.front Kw _) j x E).1.evo J j8 (.refl h μ),((Z.front Kw _) j x E).2⟩) (.inr ⟨_,_,rfl,by rw [Am,Kw];omega⟩)
       refine ⟨_,_,L,S,_,?_,h1,j8.trans h2,h3⟩;simp only [Aq,Nat.zero_add];refine Jap ⟨hge,Jy5 (by have:=G.2;omega)⟩ ?_ (λe=>(f e).elim);simp only [Am,Kw,B,size_zeroCells,hzs,<-Ac];exact Ag _ (by omega)
    ·obtain ⟨a,cap,cs0,el0,z0,rfl,Q,hb0,Y,ha⟩:=hx.arr_inv ho l;obtain ⟨cs,hb,hsz,hh,_⟩:=J.ob g _ ho l;rw [hb] at hb0;injection hb0 with hb0;injection hb0 with e1 e2 e3;subst e1 e2 e3;have M:(cut cells (off * i.size) (len * i.size)).length=len * i.size:=by unfold cut;rw [Az,List.length_drop];rw [Ac] at hend;omega
     split at d
     ·rename_i f;obtain ⟨-,rfl,f⟩:=f;injection d with d;simp only [Ai] at d;obtain ⟨rfl,rfl⟩:=d;have hn:=F f;subst hn;exact ⟨.slice (some a) 0 cap,w,Zz X R a 0 cap (Nat.zero_le _) A c,Ran.same J hx⟩
     ·rename_i hcase;injection d with d;simp only [Ai] at d;obtain ⟨rfl,rfl⟩:=d;by_cases f:new=[]
      ·have hn:=F f;subst hn f;have hl0:0<len:=by
        rcases Al len with H|H
        ·exact (hcase ⟨l,H,rfl⟩).elim
        ·exact H
       rw [List.append_nil];have hcn:cut cells (off * i.size) (len * i.size)≠[]:=λq=>by rw [q] at M;rcases Ax.1 M.symm with h4|h4<;>omega
       obtain ⟨b1,b2,b3⟩:=Jlu (k:=μ.o g+off * i.size) J ho (o':=.arr (ver+1) i.size e (cut cells (off * i.size) (len * i.size)) false) (by simp [AObj.ver]) (λ_=>⟨Ki.2 l,rfl⟩)
        (λh' μ' ev vv _ _ _=>⟨cs,hb,by rw [Ac] at hend;omega,λj x E=>by have:=(hh.evo J ev vv) _ x (cutg j x E).2;rwa [<-Ah] at this,λq=>by cases q⟩)
       refine ⟨.slice (some a) len cap,w,?_,S,_,.arr _ _ _ _ _ _ (Jh _ _ _) (Ab _) rfl λ_=>⟨_,_,_,_,rfl,λq=>(hcn q).elim,λ_=>⟨a,cap,cs,e,(0,0),by simp,by simpa using Q,?_,?_,λhc0=>?_⟩⟩,b1,b2,b3⟩
       ·exact Zz X R a len cap Q.1 A c
       ·simpa [Gh.set,Jh] using hb
       ·simp only [Gh.set,Jh];rw [Ac] at Y;simp;omega
       ·rw [ha hc0];simp [Gh.set,Jh]
      ·have hn0:0<n:=by
        rcases Al n with H|H
        ·subst H;simp at B;exact absurd B f
        ·exact H
       cases A with
       | none=>have:=(hA rfl).1;omega
       | some ay=>
        have N:=K ay rfl;obtain ⟨v1,v2⟩:=zn N;have Z:=zk N;by_cases O:len+n<=cap
        ·-- in place
         have hpos:0<cap:=by omega
         rw [ha hpos];have hfit:μ.o g+(off+len) * i.size+new.length<=cs.size:=by have h5:(len+n) * i.size<=cap * i.size:=Ag _ O;rw [Ac] at Y h5;rw [B,Ac];omega
         have hone:∀u∈Xb w ay new.length,u.oneCell'=true:=by have:=Jot Z Kw;simpa using this
         have hst:=run_storeCells_at P (μ.b g) (μ.o g+(off+len) * i.size) e (Xb w ay new.length) 0 cs w hb (by rw [v1];omega) hone;simp only [Bf] at hst;have hspl:=Jeo cs (Xb w ay new.length) (μ.o g+(off+len) * i.size) (by rw [v1];omega);generalize hr:(cs.toList.take (μ.o g+(off+len) * i.size)++Xb w ay new.length++cs.toList.drop (μ.o g+(off+len) * i.size+(Xb w ay new.length).length)).toArray=r at hst hspl;have hrs:r.size=cs.size:=by rw [<-hr];simp [v1];omega
         have hcs':∀old el' z,w.heap[μ.b g]?=some (.cells old el' z)->r.size=old.size:=λold el' z e=>by rw [hb] at e;injection e with e;injection e with e;subst e;exact hrs
         have hvv:(AObj.arr ver i.size e cells false).ver<(AObj.arr (ver+1) i.size e (cut cells (off * i.size) (len * i.size)++new) false).ver\/(AObj.arr ver i.size e cells false).ver=(AObj.arr (ver+1) i.size e (cut cells (off * i.size) (len * i.size)++new) false).ver/\μ.o g+off * i.size=μ.o g /\
           (AObj.arr ver i.size e cells false).like (AObj.arr (ver+1) i.size e (cut cells (off * i.size) (len * i.size)++new) false):=.inl (by simp [AObj.ver])
         obtain ⟨ev,vv⟩:=Jmn (S:=S) ho rfl (Ki.2 l) hvv hcs';have hb':=setRow_heap w (μ.b g) cs r e (0,0) hb;have hcont:HoldsAt (w.setRow (μ.b g) r) S (upd h g (some (.arr (ver+1) i.size e (cut cells (off * i.size) (len * i.size)++new) false))) (μ.set g (μ.b g) (μ.o g+off * i.size)) (μ.o g+off * i.size) (cut cells (off * i.size) (len * i.size)++new) r:=by
          intro j x E;rw [hspl];by_cases hj1:j<len * i.size
          ·rw [Ae (by omega)] at E;have E:=(cutg j x E).2;have hlt:=(Aa.1 E).1;rw [if_neg (by rw [Ac];omega)];have:=(hh.evo J ev vv) _ x E;rwa [<-Ah] at this
          ·rw [Ad (by omega)] at E;have hlt:=(Aa.1 E).1;have hcl2:(off+len) * i.size=off * i.size+len * i.size:=by rw [Ac]
           rw [if_pos (by rw [v1];omega)];have:=(Z.evo J ev vv) _ x E;have e5:μ.o g+off * i.size+j - (μ.o g+(off+len) * i.size)=j - (cut cells (off * i.size) (len * i.size)).length:=by omega
           rw [e5];simpa using this
         have hcl2:(off+len) * i.size=off * i.size+len * i.size:=by rw [Ac]
         refine ⟨.slice (some ⟨μ.b g,μ.o g+off * i.size,none⟩) (len+n) cap,w.setRow (μ.b g) r,?_,S,_,?_,Jna J ho rfl (Ki.2 l) hvv hcs' (λ_=>⟨r,hb',by simp [M];omega,hcont,λe=>by cases e⟩),ev,vv⟩
         ·have hf:=run_firstCells_some (P:=P) w i.size n ay n c (Xb w ay new.length) (by rw [v1,B]) v2;have e6:μ.o g+off * i.size+len * i.size=μ.o g+(off+len) * i.size:=by omega
          simp [Builtin.append_,run_underlying X,sizeOf,typeInfo,R,Builtin.lenOf,O,hf,Addr.add_lit,e6,hst]
         ·simp only [Aq];refine .arr _ _ _ _ _ _ (Jh _ _ _) (Ab _) rfl λ_=>⟨i.size,e,_,false,rfl,λq=>(by rw [Bb] at q;exact (f q.2).elim),λ_=>⟨_,cap,r,e,(0,0),rfl,⟨O,Q.2⟩,?_,?_,λ_=>?_⟩⟩
          ·simpa [Gh.set,Jh] using hb'
          ·simp only [Gh.set,Jh];rw [hrs];rw [Ac] at Y;simp;omega
          ·simp [Gh.set,Jh]
        ·-- a new row
         have hold:∀(j:Nat) (x:AV),(cut cells (off * i.size) (len * i.size))[j]?=some x->∃v,w.cell? (a.add j)=some v/\v.oneCell'=true/\Rep w S h μ x v:=by
          intro j x E;have hlt:=(Aa.1 E).1;have hpos:0<cap:=by
           rcases Al len with H|H
           ·have h5:=(cutg j x E).1;rw [H,Be] at h5;omega
           ·omega
          have E:=(cutg j x E).2;have hlt2:μ.o g+(off * i.size+j)<cs.size:=by have:=(Aa.1 E).1;omega
          refine ⟨cs.getD (μ.o g+(off * i.size+j)) undef,?_,(hh _ x E).2,(hh _ x E).1⟩;rw [ha hpos,Jff hb,Ah,getD_some hlt2]
         obtain ⟨u1,u2⟩:=zn hold;have hho:=zk hold;have hbd:(len+n) * i.bytes<=140737488355328:=Jou (by simpa using G.1);have L:=run_append_grow (P:=P) w t ty e i zv X R hzv a len cap (Xb w a (cut cells (off * i.size) (len * i.size)).length) (by rw [u1,M]) u2 ay n c (Xb w ay new.length) (by rw [v1,B]) v2 (by omega) (by have:=G.2;omega) (growslice_fits (by omega) hbd);have hge:=grownCap_ge w (len+n) cap e;obtain ⟨h1,h2,h3⟩:=zo (w:=w.drew) (el:=e) (g:=g) (o:=.arr (ver+1) i.size e (cut cells (off * i.size) (len * i.size)++new) false)
          (cs:=(Xb w a (cut cells (off * i.size) (len * i.size)).length).toArray++(Xb w ay new.length).toArray++Builtin.zeroCells zv.cells (grownCap w (len+n) cap e - (len+n)))
          (J.of_same (w':=w.drew) rfl rfl rfl ⟨rfl,Bc _⟩) (.inl (by simp [AObj.ver,Jv,ho])) (λj x E=>by have H:=Holds.append hho Kw Z Kw (Builtin.zeroCells zv.cells (grownCap w (len+n) cap e - (len+n))) j x E;exact ⟨H.1.evo J j8 (.refl h μ),H.2⟩) (.inr ⟨_,_,rfl,by rw [Am,Am,Kw,Kw,List.length_append];omega⟩)
         refine ⟨_,_,L,S,_,?_,h1,j8.trans h2,h3⟩;simp only [Aq];refine Jap ⟨hge,Jy5 (by have:=G.2;omega)⟩ ?_ (λq=>by rw [Bb] at q;exact (f q.2).elim);simp only [Am,Kw,M,B,size_zeroCells,hzs,<-Ac];exact Ag _ (by omega)
   ·rename_i ver' esz' el' cells ho;split at d
    ·rename_i hc;obtain ⟨rfl,f⟩:=hc;injection d with d;simp only [Ai] at d;obtain ⟨rfl,rfl⟩:=d;have hn:=F f;subst hn;by_cases l:cells=[]
     ·obtain ⟨rfl,rfl,A0,rfl⟩:=(hx.arr_inv0 ho).1 l;exact ⟨.slice A0 0 0,w,Jch X R A0 A c,Ran.same J hx⟩
     ·obtain ⟨a,cap,cs0,el0,z0,rfl,Q,hb0,Y,ha⟩:=hx.arr_inv ho l;exact ⟨.slice (some a) len cap,w,Zz X R a len cap Q.1 A c,Ran.same J hx⟩
    ·cases d
   ·cases d
  ·rename_i n' l';split at d
   ·rename_i f;injection d with d;simp only [Ai] at d;obtain ⟨rfl,rfl⟩:=d;have hn:=F f;subst hn;refine ⟨cx,w,?_,Ran.same J hx⟩;cases hx with
    | pure hp'=>
     cases hp' with
     | lst0=>exact Jch X R none A c
     | lst _ _ a cap cv hs Q hc h1 hr=>exact Zz X R a n' cap Q A c
   ·cases d
  ·cases d
 ·cases d
end
end Go.Vv
