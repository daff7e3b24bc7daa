/- An evaluator over abstract values for a part of the language of the model: the values, the heap, the operations, the code. Definitions alone. -/
import Derived.Calls
import Derived.Laws.Entries
import Derived.Laws.Rows
import Derived.Laws.Append
import Derived.Laws.CopyRow
import Derived.Laws.Tables
import Derived.Laws.MakeOwn
import Derived.Deep.Draws
import Derived.Laws.Cells
import Derived.Laws.StructEq
import Derived.Great.BuildSlice
import Derived.Laws.AppendOwn
open Option renaming some -> AC, none -> AD
open Bool renaming true -> AE, false -> AF
open _root_ renaming List -> AG, Option -> AH, Int -> AI, Nat -> AM, Bool -> AN, if_neg -> AR, if_pos -> AS
set_option linter.unusedSimpArgs false
open List renaming getElem?_eq_some_iff → Aa, getElem?_append_right → Ad, getElem?_append_left → Ae, getElem?_take → Aj, getElem?_drop → Ak, getElem?_eq_getElem → Av, append_assoc → Aw, eq_nil_of_length_eq_zero → Az, length_take → Ba, drop_eq_nil_of_le → Bb, append_eq_nil_iff → Bc, mem_map → Be
open Nat renaming le_refl → Ab, add_mul → Ac, mul_le_mul_right → Ag, add_assoc → Ah, eq_zero_or_pos → Am, le_trans → Aq, mul_eq_zero → Ay, le_succ → Bd, zero_mul → Bf, add_zero → Bg
open Bool renaming false_eq_true → Af
open Prod.mk renaming injEq → Ai
open _root_.Array renaming size_append → Ao, getElem?_append_left → Ap, getD_eq_getD_getElem? → As, getElem?_eq_some_iff → Au, eq_empty_of_size_eq_zero → Ax
open Int renaming toNat_natCast → Ar
namespace Go.Vv
inductive AV where
 | any
 | bool (b:AN)
 | int (k:IntKind) (n:AI)
 | str (s:ByteArray)
 | BK
 | IB
 | IC
 | F6
 | CF (n:AM) (l:AG AV)
 | CP (l:AG AV)
 | fn (f:FuncId) (caps:AG AV)
 | agg (l:AG AV)
 | Cb (l:AG AV)
 | arr (g ver off len:AM)
 | ptr (g ver off:AM)
 | map (g ver:AM)
 | mpr (ks vs:AG AV)
 | Fu (j:AM)
 | Ld (f:FuncId) (l:AG AV)
 deriving Inhabited
inductive AU where
 | box (ver:AM) (cells:AG AV)
 | arr (ver esz:AM) (el:TypeId) (cells:AG AV) (fz:AN)
 | map (ver:AM) (es:AG (AV×AV)) (fz:AN)
 deriving Inhabited
def AU.ver:AU->AM
 | .box v _=>v
 | .arr v _ _ _ _=>v
 | .map v _ _=>v
def AU.fz:AU->AN
 | .arr _ _ _ _ z=>z
 | .map _ _ z=>z
 | _=>AF
def AU.live:AU->AN
 | .arr _ _ _ [] _=>AF
 | _=>AE
abbrev Heap:=AM->AH AU
structure St where
 f:AM->AV
 h:Heap
def upd{α:Type}(f:AM->α)(d:AM)(v:α):AM->α:=λn=>if n=d then v else f n
def fr:AG (AM×AV)->AM->AV
 | []=>λ_=>.any
 | (d,v)::r=>λn=>if n=d then v else fr r n
def hl:AG (AM×AU)->Heap
 | []=>λ_=>AD
 | (d,v)::r=>λn=>if n=d then AC v else hl r n
def Kh(h:Heap)(g:AM):AM:=match h g with|none=>0|some o=>o.ver+1
def St.put(σ:St)(d:AH AM)(v:AV)(h:Heap):St:=
 match d with
 | some d=>⟨upd σ.f d v,h⟩
 | none=>⟨σ.f,h⟩
def AV.one:AV->AN
 | .any|.agg _|.Cb _=>AF
 | _=>AE
def AV.flat:AV->AN
 | .bool _|.int _ _|.str _|.BK|.IB|.IC|.F6|.CF _ _|.CP _|.mpr _ _|.Ld _ _=>AE
 | _=>AF
def AV.cells:AV->AH (AG AV)
 | .agg l=>AC l
 | v=>if v.one then AC [v] else AD
def AV.scalar:AV->AN
 | .bool _|.int _ _|.str _=>AE
 | .agg l=>l.all λ|.bool _|.int _ _|.str _=>AE|_=>AF
 | .Cb l=>l.all λ|.bool _|.int _ _|.str _=>AE|.agg l=>l.all (λ|.bool _|.int _ _|.str _=>AE|_=>AF)|_=>AF
 | _=>AF
def cut(l:AG AV)(off n:AM):AG AV:=(l.drop off).take n
def pack(ag:AN)(l:AG AV)(off n:AM):AH AV:=
 if off+n<=l.length then
  if ag then AC (.agg (cut l off n)) else l[off]?
 else AD
def paste(l:AG AV)(off:AM)(new:AG AV):AG AV:=l.take off++new++l.drop (off+new.length)
mutual
def AV.FB:AV->AN
 | .any|.arr .. | .ptr .. | .map .. | .Fu _=>AF
 | .fn _ l|.agg l|.Cb l=>oM l
 | _=>AE
def oM:AG AV->AN
 | []=>AE
 | v::r=>v.FB&&oM r
end
def snap(h:Heap):AM->AV->AH (AV×AG AM)
 | 0,_=>AD
 | k+1,v=>
  match v with
  | .any|.ptr .. | .Fu _=>AD
  | .map _ _=>AD
  | .arr g ver off len=>
   match h g with
   | some (.arr ver' esz _ cells _)=>
    if ver=ver'/\(off+len) * esz<=cells.length then
     let l:=cut cells (off * esz) (len * esz)
     if l.all AV.flat then AC (.CF len l,[g]) else
     match l.mapM (snap h k) with
     | some ps=>AC (.CF len (ps.map (·.1)),g::ps.flatMap (·.2))
     | none=>AD
    else AD
   | _=>AD
  | .fn f caps=>
   match caps.mapM (snap h k) with
   | some ps=>AC (.fn f (ps.map (·.1)),ps.flatMap (·.2))
   | none=>AD
  | .agg l=>
   if l.all AV.flat then AC (.agg l,[]) else
   match l.mapM (snap h k) with
   | some ps=>AC (.agg (ps.map (·.1)),ps.flatMap (·.2))
   | none=>AD
  | .Cb l=>
   match l.mapM (snap h k) with
   | some ps=>AC (.Cb (ps.map (·.1)),ps.flatMap (·.2))
   | none=>AD
  | v=>AC (v,[])
def depth:AM:=8
def Hg(h:Heap)(l:AG AV):AH (AG AV×AG AM):=
 match l.mapM (snap h depth) with
 | some ps=>AC (ps.map (·.1),ps.flatMap (·.2))
 | none=>AD
def AU.freeze:AU->AU
 | .arr v e t c _=>.arr v e t c AE
 | o=>o
def Jh(h:Heap)(ns:AG AM):Heap:=λg=>if g∈ns then (h g).map AU.freeze else h g
def oL(nt:AM):AH AM->AN
 | some d=>decide (d<nt)
 | none=>AE
inductive LO where
 | t (n:AM)
 | c (v:AV)
 deriving Inhabited
def St.ev(σ:St):LO->AV
 | .t n=>σ.f n
 | .c v=>v
inductive CO where
 | fH (x:LO)
 | pick (c a b:LO)
 | alloc (z:AG AV)
 | box (x:LO)
 | build (z:AG AV) (parts:AG (AM×AM×LO))
 | Eb (n esz:AM) (el:TypeId) (z:AG AV) (parts:AG (AM×AM×LO))
 | load (ag:AN) (n:AM) (x:LO)
 | store (n:AM) (x y:LO)
 | KI (op:BinOp) (x y:LO)
 | eqv (ne ag:AN) (sh:AG AN) (x y:LO)
 | un (op:UnOp) (x:LO)
 | conv (k:IntKind) (x:LO)
 | Eo (x:LO)
 | LY (f:FuncId) (caps:AG LO)
 | Me (f:FuncId) (x:LO)
 | mkS (esz bytes:AM) (el:TypeId) (z:AG AV) (l c:LO)
 | slc (esz:AM) (x:LO) (lo hi:AH LO)
 | Es (off:AM) (x:LO)
 | lF (ag:AN) (off n:AM) (x:LO)
 | Er (esz:AM) (x i:LO)
 | EP (len esz:AM) (x i:LO)
 | idx (len esz:AM) (ag:AN) (x i:LO)
 | ext (x:LO) (i:AM)
 | len (x:LO)
 | F8 (x:LO)
 | Ik (x:LO)
 | app (esz bytes:AM) (el:TypeId) (z:AG AV) (x y:LO)
 | Co (f:FuncId) (args:AG LO)
 | Et (f:FuncId) (args:AG LO)
 | GD (x:LO) (args:AG LO)
 | FW (f:FuncId) (args:AG LO)
 | FH (f:FuncId) (args:AG LO) (esz:AM) (el:TypeId)
 | fJ (k e el:TypeId)
 | look (ok ag:AN) (sh:AG AN) (z:AV) (x k:LO)
 | LJ (ag:AN) (sh:AG AN) (x k v:LO)
 | Mf (ag:AN) (sh:AG AN) (x k:LO)
 | dY (op:BinOp) (x y:LO)
 | mm (mx:AN) (x y:LO)
 | Ep (ne:AN) (x:LO)
 | KN (ds:AG AM) (esz bytes:AM) (el:TypeId) (zz:AG AV) (x y:LO)
 | LG (ds:AG AM) (n:AM) (x y:LO)
 | GY (ds:AG AM) (op:CO)
 | IW (esz:AM) (t:TypeId) (z:AG AV)
 | LH (n esz:AM) (x:LO)
 | lI (esz:AM) (x y:LO)
 deriving Inhabited
structure AP where
 dst:AH AM
 op:CO
 guard:AH (AM×AN)
 deriving Inhabited
abbrev Call:=FuncId->AG AV->AH (Heap×AM)->AH (AV×Heap)
def TM(op:BinOp)(k:IntKind)(a b:AI):AH AV:=
 match op with
 | .add=>AC (.int k (k.wrap (a+b)))
 | .sub=>AC (.int k (k.wrap (a - b)))
 | .mul=>AC (.int k (k.wrap (a * b)))
 | .quo=>if b=0 then AD else AC (.int k (k.wrap (a.tdiv b)))
 | .rem=>if b=0 then AD else AC (.int k (a.tmod b))
 | .eql=>AC (.bool (a==b))
 | .neq=>AC (.bool (a != b))
 | .lss=>AC (.bool (a<b))
 | .leq=>AC (.bool (a<=b))
 | .gtr=>AC (.bool (a > b))
 | .geq=>AC (.bool (a>=b))
 | .and=>AC (.int k (bits .and k a b))
 | .or=>AC (.int k (bits .or k a b))
 | .xor=>AC (.int k (bits .xor k a b))
 | .andNot=>AC (.int k (bits .andNot k a b))
 | _=>AD
def LA:AN->AV->AV->AH AN
 | false,.int k a,.int k' b=>if k=k' then AC (a==b) else AD
 | true,.bool a,.bool b=>AC (a==b)
 | _,_,_=>AD
def J9:AG AN->AG AV->AG AV->AH AN
 | [],[],[]=>AC AE
 | s::ss,x::xs,y::ys=>
  match LA s x y,J9 ss xs ys with
  | some a,AC b=>AC (a&&b)
  | _,_=>AD
 | _,_,_=>AD
def Ez(ag:AN)(sh:AG AN)(x y:AV):AH AN:=
 if ag then (match x,y with|.agg l,.agg m=>J9 sh l m|_,_=>AD) else J9 sh [x] [y]
def YP(ag:AN)(sh:AG AN)(k:AV):AN:=(Ez ag sh k k).isSome
def posM(ag:AN)(sh:AG AN)(k:AV):AM->AG (AV×AV)->AH (AH AM)
 | _,[]=>AC AD
 | i,p::r=>match Ez ag sh k p.1 with
  | some AE=>AC (AC i)
  | some AF=>posM ag sh k (i+1) r
  | none=>AD
def TJ(es:AG (AV×AV))(z:AV):AH AM->AV
 | some j=>match es[j]? with|some p=>p.2|none=>z
 | none=>z
def FP(es:AG (AV×AV))(k v:AV):AH AM->AG (AV×AV)
 | some j=>es.set j (k,v)
 | none=>es++[(k,v)]
def VK(es:AG (AV×AV)):AH AM->AG (AV×AV)
 | some j=>es.eraseIdx j
 | none=>es
def Ml(ev:LO->AV):AG AV->AG (AM×AM×LO)->AH (AG AV)
 | z,[]=>AC z
 | z,(off,n,x)::r=>
  match (ev x).cells with
  | some c=>if c.length=n/\off+n<=z.length then Ml ev (paste z off c) r else AD
  | none=>AD
def JL(h:Heap):AV->AH (AG AV×AM)
 | .CP l=>AC (l,0)
 | .ptr g ver off=>
  match h g with
  | some (.box ver' cells)=>if ver=ver' then AC (cells,off) else AD
  | some (.arr ver' _ _ cells _)=>if ver=ver'/\cells≠[] then AC (cells,off) else AD
  | _=>AD
 | _=>AD
def IY(h:Heap)(ag:AN)(n:AM)(x:AV):AH AV:=
 match JL h x with
 | some (l,off)=>pack ag l off n
 | none=>AD
def Sl(h:Heap)(n:AM)(x y:AV):AH Heap:=
 match x,y.cells with
 | .ptr g ver off,AC c=>
  if c.length=n then
  match h g with
  | some (.box ver' cells)=>if ver=ver'/\off+n<=cells.length then AC (upd h g (AC (.box ver' (paste cells off c)))) else AD
  | some (.arr ver' esz el cells AF)=>if ver=ver'/\off+n<=cells.length/\cells≠[] then AC (upd h g (AC (.arr ver' esz el (paste cells off c) AF))) else AD
  | _=>AD
  else AD
 | _,_=>AD
def cur(h:Heap)(g ver:AM):AN:=match h g with|some o=>o.ver==ver|none=>AF
def Ei(h:Heap)(g ver esz:AM):AN:=match h g with|some (.arr v e _ _ _)=>v==ver&&e==esz|_=>AF
def Zq(h:Heap)(g ver:AM):AN:=match h g with|some (.arr v _ _ _ _)=>v==ver|_=>AF
def HY(h:Heap)(g ver:AM):AH (AG (AV×AV)):=match h g with|some (.map v es AF)=>if v=ver then AC es else AD|_=>AD
def JC(h:Heap):AV->AH (AG (AV×AV))
 | .F6=>AC []
 | .mpr ks vs=>AC (ks.zip vs)
 | .map g ver=>HY h g ver
 | _=>AD
def MH(ok:AN)(z:AV)(es:AG (AV×AV)):AH (AH AM)->AH AV
 | some j=>AC (if ok=AE then .Cb [TJ es z j,.bool j.isSome] else TJ es z j)
 | none=>AD
def oG(ok ag:AN)(sh:AG AN)(z k:AV):AH (AG (AV×AV))->AH AV
 | some es=>if YP ag sh k=AE then MH ok z es (posM ag sh k 0 es) else AD
 | none=>AD
def dZ(h:Heap)(g ver:AM)(es:AG (AV×AV))(k v:AV):AH (AH AM)->AH Heap
 | some j=>AC (upd h g (AC (.map ver (FP es k v j) AF)))
 | none=>AD
def OC(h:Heap)(ag:AN)(sh:AG AN)(k v:AV):AV->AH Heap
 | .map g ver=>match HY h g ver with
  | some es=>if YP ag sh k=AE then dZ h g ver es k v (posM ag sh k 0 es) else AD
  | none=>AD
 | _=>AD
def gy(h:Heap)(g ver:AM)(es:AG (AV×AV)):AH (AH AM)->AH Heap
 | some j=>AC (upd h g (AC (.map ver (VK es j) AF)))
 | none=>AD
def Rm(h:Heap)(ag:AN)(sh:AG AN)(k:AV):AV->AH Heap
 | .map g ver=>match HY h g ver with
  | some es=>if YP ag sh k=AE then gy h g ver es (posM ag sh k 0 es) else AD
  | none=>AD
 | _=>AD
def kV:AV->AV
 | .BK=>.CF 0 []
 | v=>v
def mmV(mx:AN)(a b:AI):AI:=if mx=AE then (if b > a then b else a) else (if b<a then b else a)
def UG(op:BinOp)(k:IntKind)(a b:AI):AH AV:=
 if b<0 then AD else
 match op with
 | .shl=>AC (.int k (k.wrap (a * 2 ^ (min b.toNat k.bits))))
 | .shr=>AC (.int k (a.fdiv (2 ^ (min b.toNat k.bits))))
 | _=>AD
def Cw(h:Heap):AV->AH AI
 | .BK=>AC 0
 | .CF n _=>AC n
 | .arr g ver _ len=>if Zq h g ver then AC len else AD
 | _=>AD
def F8(h:Heap):AV->AH AI
 | .F6=>AC 0
 | .mpr ks _=>AC ks.length
 | .map g ver=>match HY h g ver with
  | some es=>AC es.length
  | _=>AD
 | _=>AD
def Ik:AV->AH AI
 | .str s=>AC s.size
 | _=>AD
def ZF(h:Heap):AV->AH AN
 | .BK=>AC AE
 | .CF 0 []=>AD
 | .CF _ _=>AC AF
 | .arr g ver _ len=>if Zq h g ver=AE/\len≠0 then AC AF else AD
 | _=>AD
def L6(g ver n esz:AM):AH AU->AH AV
 | some (.arr ver' esz' _ cells _)=>if ver=ver'/\esz=esz'/\cells.length=n * esz/\cells≠[] then AC (.arr g ver 0 n) else AD
 | _=>AD
def bB(h:Heap)(n esz:AM):AV->AH AV
 | .ptr g ver 0=>L6 g ver n esz (h g)
 | _=>AD
def JV(d:AI):AH AV->AH AI
 | none=>AC d
 | some (.int _ n)=>AC n
 | _=>AD
def Ir(h:Heap)(esz:AM)(x:AV)(lo hi:AH AV):AH AV:=
 match x with
 | .CF n l=>
  match JV 0 lo,JV n hi with
  | some a,AC b=>if 0<=a/\a<=b/\b<=n/\l.length=n * esz then AC (.CF (b - a).toNat (cut l (a.toNat * esz) ((b - a).toNat * esz))) else AD
  | _,_=>AD
 | .arr g ver off len=>
  match JV 0 lo,JV len hi with
  | some a,AC b=>if 0<=a/\a<=b/\b<=len/\Ei h g ver esz=AE then AC (.arr g ver (off+a.toNat) (b - a).toNat) else AD
  | _,_=>AD
 | .BK=>
  match JV 0 lo,JV 0 hi with
  | some a,AC b=>if a=0/\b=0 then AC .BK else AD
  | _,_=>AD
 | _=>AD
def KZ(h:Heap)(off:AM):AV->AH AV
 | .ptr g ver o=>if cur h g ver then AC (.ptr g ver (o+off)) else AD
 | .CP l=>AC (.CP (l.drop off))
 | _=>AD
def JW(h:Heap)(esz:AM)(x i:AV):AH AV:=
 match x,i with
 | .CF n l,.int _ i=>if 0<=i/\i<n then AC (.CP (cut l (i.toNat * esz) esz)) else AD
 | .arr g ver off len,.int _ i=>if 0<=i/\i<len/\Ei h g ver esz=AE then AC (.ptr g ver ((off+i.toNat) * esz)) else AD
 | _,_=>AD
def ZM(h:Heap)(len esz:AM)(x i:AV):AH AV:=
 match x,i with
 | .ptr g ver o,.int _ i=>if 0<=i/\i<len/\cur h g ver=AE then AC (.ptr g ver (o+i.toNat * esz)) else AD
 | .CP l,.int _ i=>if 0<=i/\i<len then AC (.CP (l.drop (i.toNat * esz))) else AD
 | _,_=>AD
def Wh(len esz:AM)(ag:AN)(x i:AV):AH AV:=
 match x,i with
 | .agg l,.int _ i=>if 0<=i/\i<len then pack ag l (i.toNat * esz) esz else AD
 | _,_=>AD
def Iq(h:Heap)(esz:AM):AV->AH (AG AV)
 | .BK=>AC []
 | .CF n l=>if l.length=n * esz then AC l else AD
 | .arr g ver off len=>
  match h g with
  | some (.arr ver' esz' _ cells _)=>if ver=ver'/\esz=esz'/\(off+len) * esz<=cells.length then AC (cut cells (off * esz) (len * esz)) else AD
  | _=>AD
 | _=>AD
def room:AM:=140737488355328
def Zc(z:AG AV):AM->AG AV
 | 0=>[]
 | n+1=>z++Zc z n
def EN(h:Heap)(g0:AM)(esz bytes:AM)(el:TypeId)(x y:AV):AH (AV×Heap):=
 match Cw h y,Iq h esz y with
 | some m,AC new=>
  match x with
  | .BK=>
   if new=[] then AC (.BK,h)
   else if m * bytes<=room/\(m:AI)<=9223372036854775807 then AC (.arr g0 (Kh h g0+1) 0 m.toNat,upd h g0 (AC (.arr (Kh h g0+1) esz el new AF)))
   else AD
  | .arr g ver off len=>
   match h g with
   | some (.arr ver' esz' el' cells AF)=>
    if ver=ver'/\esz=esz'/\el=el'/\(off+len) * esz<=cells.length/\(len+m) * bytes<=room/\(len+m:AI)<=9223372036854775807 then
     if cells≠[]/\len=0/\new=[] then AC (.arr g ver off len,h)
     else AC (.arr g (ver+1) 0 (len+m.toNat),upd h g (AC (.arr (ver+1) esz el (cut cells (off * esz) (len * esz)++new) AF)))
    else AD
   | some (.arr ver' _ _ _ AE)=>if ver=ver'/\new=[] then AC (.arr g ver off len,h) else AD
   | _=>AD
  | .CF n l=>if new=[] then AC (.CF n l,h) else AD
  | _=>AD
 | _,_=>AD
def oJ(h:Heap)(esz:AM)(x y:AV):AH (AV×Heap):=
 match Cw h y,Iq h esz y with
 | some m,AC new=>
  match x with
  | .arr g ver off len=>
   match h g with
   | some (.arr ver' esz' el cells AF)=>
    if ver=ver'/\esz=esz'/\(off+len) * esz<=cells.length/\cells≠[] then
     AC (.int .i64 (Nat.min m.toNat len:AM),upd h g (AC (.arr ver' esz' el (paste cells (off * esz) (new.take (Nat.min m.toNat len * esz))) AF)))
    else AD
   | _=>AD
  | _=>AD
 | _,_=>AD
def vJ(off g:AM):AH (AG (AV×AG AM))->AH (AV×AG AM)
 | some ps=>AC (.CP ((ps.map (·.1)).drop off),g::ps.flatMap (·.2))
 | none=>AD
def Iz(h:Heap)(g ver off:AM):AH AU->AH (AV×AG AM)
 | some (.box v cells)=>if v=ver then (if cells.all AV.flat=AE then AC (.CP (cells.drop off),[g]) else vJ off g (cells.mapM (snap h depth))) else AD
 | _=>AD
def TS(h:Heap):AV->AH (AV×AG AM)
 | .ptr g ver off=>Iz h g ver off (h g)
 | v=>snap h depth v
def YQ:AH (AV×AG AM)->AH (AG AV×AG AM)->AH (AG AV×AG AM)
 | some (u,ns),AC (us,ms)=>AC (u::us,ns++ms)
 | _,_=>AD
def YM(h:Heap):AG AV->AH (AG AV×AG AM)
 | []=>AC ([],[])
 | v::r=>YQ (TS h v) (YM h r)
def vW(f:FuncId):AH (AG AV×AG AM)->AH (AV×AG AM)
 | some (us,ns)=>AC (.fn f us,ns)
 | none=>AD
def Hr(h:Heap):AV->AH (AV×AG AM)
 | .fn f caps=>vW f (YM h caps)
 | v=>TS h v
def Si(h:Heap):AG AV->AH (AG AV×AG AM)
 | []=>AC ([],[])
 | v::r=>YQ (Hr h v) (Si h r)
def OV(h:Heap):AH (AV×Heap)->AH (AV×Heap)
 | some (v,_)=>if v.scalar=AE then AC (v,h) else AD
 | none=>AD
def Mg(call:FuncId->AG AV->AH (Heap×AM)->AH (AV×Heap))(f:FuncId)(h:Heap):AH (AG AV×AG AM)->AH (AV×Heap)
 | some (vs,_)=>OV h (call f vs AD)
 | none=>AD
def CO.cls:CO->AM
 | .fH _|.pick .. | .build .. | .KI .. | .eqv .. | .un .. | .conv .. | .LY .. | .Me .. | .lF .. | .idx .. | .ext .. | .Ik _|.dY .. | .mm ..=>0
 | .load .. | .Eo _|.slc .. | .Es .. | .Er .. | .EP .. | .len _|.F8 _|.Co .. | .GD .. | .look .. | .FW .. | .Ep .. | .LH .. | .GY ..=>1
 | .alloc _|.IW .. | .box _|.Eb .. | .mkS .. | .fJ .. | .FH ..=>2
 | .store .. | .app .. | .KN .. | .LG .. | .Et .. | .LJ .. | .Mf .. | .lI ..=>3
def Cc(base:AM)(ds:AG AM)(g:AM):AN:=ds.any λd=>base+d==g
def Xb(base:AM)(ds:AG AM)(h:Heap):Heap:=λg=>if Cc base ds g=AE then AD else h g
def fF(h:Heap):AH (AV×Heap)->AH (AV×Heap)
 | some (v,_)=>AC (v,h)
 | none=>AD
def VP(base:AM)(ds:AG AM)(g0:AM):AV->AN
 | .arr g _ _ _=>Cc base ds g
 | .BK=>Cc base ds g0
 | .ptr g _ _=>Cc base ds g
 | _=>AF
def Mh(base:AM)(ds:AG AM)(g0:AM)(x:AV)(r:AH (AV×Heap)):AH (AV×Heap):=
 if VP base ds g0 x=AE then r else AD
def oH(esz:AM)(el:TypeId):Heap×AM:=(λ_=>AC (.arr 0 esz el [] AF),0)
def Mc(h:Heap)(g0 esz:AM)(el:TypeId)(r:AH (AV×Heap)):AH (AV×Heap):=
 match h g0,r with
 | none,AC (.CF n L,_)=>AC (.arr g0 0 0 n,upd h g0 (AC (.arr 0 esz el L AF)))
 | _,_=>AD
def Ja(call:Call)(base:AM)(σ:St)(g0:AM):CO->AH (AV×Heap)
 | .fH x=>AC (σ.ev x,σ.h)
 | .pick c a b=>match σ.ev c with|.bool t=>AC (if t then σ.ev a else σ.ev b,σ.h)|_=>AD
 | .alloc z=>AC (.ptr g0 (Kh σ.h g0) 0,upd σ.h g0 (AC (.box (Kh σ.h g0) z)))
 | .box x=>match (σ.ev x).cells with
  | some c=>AC (.ptr g0 (Kh σ.h g0) 0,upd σ.h g0 (AC (.box (Kh σ.h g0) c)))
  | none=>AD
 | .build z ps=>match Ml σ.ev z ps with|some l=>AC (.agg l,σ.h)|none=>AD
 | .Eb n esz el z ps=>match Ml σ.ev (Zc z n) ps with
  | some l=>AC (.arr g0 (Kh σ.h g0) 0 n,upd σ.h g0 (AC (.arr (Kh σ.h g0) esz el l AF)))
  | none=>AD
 | .load ag n x=>match IY σ.h ag n (σ.ev x) with|some v=>AC (v,σ.h)|none=>AD
 | .store n x y=>match Sl σ.h n (σ.ev x) (σ.ev y) with|some h=>AC (.any,h)|none=>AD
 | .KI op x y=>match σ.ev x,σ.ev y with
  | .int k a,.int k' b=>if k=k' then (match TM op k a b with|some v=>AC (v,σ.h)|none=>AD) else AD
  | _,_=>AD
 | .eqv ne ag sh x y=>match Ez ag sh (σ.ev x) (σ.ev y) with|some b=>AC (.bool (if ne then !b else b),σ.h)|none=>AD
 | .un op x=>match op,σ.ev x with
  | .not,.bool b=>AC (.bool !b,σ.h)
  | .neg,.int k n=>AC (.int k (k.wrap (0 - n)),σ.h)
  | _,_=>AD
 | .conv k x=>match σ.ev x with|.int _ n=>AC (.int k (k.wrap n),σ.h)|_=>AD
 | .Eo x=>match σ.ev x with
  | .ptr g v o=>if cur σ.h g v then AC (.ptr g v o,σ.h) else AD
  | .CP l=>AC (.CP l,σ.h)
  | .fn f caps=>AC (.fn f caps,σ.h)
  | .Ld f l=>AC (.Ld f l,σ.h)
  | _=>AD
 | .LY f caps=>AC (.fn f (caps.map σ.ev),σ.h)
 | .Me f x=>match σ.ev x with
  | .agg l=>if l.all AV.flat=AE then AC (.Ld f l,σ.h) else AD
  | _=>AD
 | .mkS esz bytes el z l c=>match σ.ev l,σ.ev c with
  | .int _ n,.int _ m=>
   if 0<=n/\n<=m/\(n=0->m=0)/\m * bytes<=room/\m<=9223372036854775807 then AC (.arr g0 (Kh σ.h g0) 0 n.toNat,upd σ.h g0 (AC (.arr (Kh σ.h g0) esz el (Zc z n.toNat) AF))) else AD
  | _,_=>AD
 | .slc esz x lo hi=>match Ir σ.h esz (σ.ev x) (lo.map σ.ev) (hi.map σ.ev) with|some v=>AC (v,σ.h)|none=>AD
 | .Es off x=>match KZ σ.h off (σ.ev x) with|some v=>AC (v,σ.h)|none=>AD
 | .lF ag off n x=>match σ.ev x with
  | .agg l=>(match pack ag l off n with|some v=>AC (v,σ.h)|none=>AD)
  | _=>AD
 | .Er esz x i=>match JW σ.h esz (σ.ev x) (σ.ev i) with|some v=>AC (v,σ.h)|none=>AD
 | .EP len esz x i=>match ZM σ.h len esz (σ.ev x) (σ.ev i) with|some v=>AC (v,σ.h)|none=>AD
 | .idx len esz ag x i=>match Wh len esz ag (σ.ev x) (σ.ev i) with|some v=>AC (v,σ.h)|none=>AD
 | .ext x i=>match σ.ev x with
  | .Cb l=>(match l[i]? with|some v=>AC (v,σ.h)|none=>AD)
  | _=>AD
 | .len x=>match Cw σ.h (σ.ev x) with|some n=>AC (.int .i64 n,σ.h)|none=>AD
 | .F8 x=>match F8 σ.h (σ.ev x) with|some n=>AC (.int .i64 n,σ.h)|none=>AD
 | .Ik x=>match Ik (σ.ev x) with|some n=>AC (.int .i64 n,σ.h)|none=>AD
 | .app esz bytes el _ x y=>EN σ.h g0 esz bytes el (σ.ev x) (σ.ev y)
 | .Co f args=>match Hg σ.h (args.map σ.ev) with
  | some (vs,ns)=>
   (match call f vs AD with
    | some (v,_)=>if ns=[]\/v.scalar=AE\/(call f vs (AC (λ_=>AD,0))).isSome=AE then AC (v,σ.h) else AD
    | none=>AD)
  | none=>AD
 | .Et f args=>match Hg σ.h (args.map σ.ev) with
  | some (vs,ns)=>
   (match call f vs AD with
    | some (v,_)=>AC (v,Jh σ.h ns)
    | none=>AD)
  | none=>AD
 | .GD x args=>match Hg σ.h (σ.ev x::args.map σ.ev) with
  | some (.fn f caps::vs,ns)=>
   (match call f (vs++caps) AD with
    | some (v,_)=>if ns=[]\/v.scalar=AE then AC (v,σ.h) else AD
    | none=>AD)
  | _=>AD
 | .FW f args=>Mg call f σ.h (Si σ.h (args.map σ.ev))
 | .FH f args esz el=>match Hg σ.h (args.map σ.ev) with
  | some (vs,[])=>Mc σ.h g0 esz el (call f vs (AC (oH esz el)))
  | _=>AD
 | .fJ ..=>AC (.map g0 (Kh σ.h g0),upd σ.h g0 (AC (.map (Kh σ.h g0) [] AF)))
 | .look ok ag sh z x k=>match oG ok ag sh z (σ.ev k) (JC σ.h (σ.ev x)) with|some v=>AC (v,σ.h)|none=>AD
 | .LJ ag sh x k v=>match OC σ.h ag sh (σ.ev k) (σ.ev v) (σ.ev x) with|some h=>AC (.any,h)|none=>AD
 | .Mf ag sh x k=>match Rm σ.h ag sh (σ.ev k) (σ.ev x) with|some h=>AC (.Cb [],h)|none=>AD
 | .dY op x y=>match σ.ev x,σ.ev y with
  | .int k a,.int _ b=>(match UG op k a b with|some v=>AC (v,σ.h)|none=>AD)
  | _,_=>AD
 | .mm mx x y=>match σ.ev x,σ.ev y with
  | .int k a,.int _ b=>AC (.int k (mmV mx a b),σ.h)
  | _,_=>AD
 | .KN ds esz bytes el _ x y=>Mh base ds g0 (σ.ev x) (EN σ.h g0 esz bytes el (σ.ev x) (σ.ev y))
 | .LG ds n x y=>if VP base ds g0 (σ.ev x)=AE then (match Sl σ.h n (σ.ev x) (σ.ev y) with|some h=>AC (.any,h)|none=>AD) else AD
 | .GY ds op=>if op.cls=1 then fF σ.h (Ja call base ⟨σ.f,Xb base ds σ.h⟩ g0 op) else AD
 | .Ep ne x=>match ZF σ.h (σ.ev x) with|some b=>AC (.bool (if ne then !b else b),σ.h)|none=>AD
 | .IW esz t z=>AC (.ptr g0 (Kh σ.h g0) 0,upd σ.h g0 (AC (.arr (Kh σ.h g0) esz t z AF)))
 | .LH n esz x=>match bB σ.h n esz (σ.ev x) with|some v=>AC (v,σ.h)|none=>AD
 | .lI esz x y=>oJ σ.h esz (σ.ev x) (σ.ev y)
def jp(call:Call)(base:AM)(o:AP)(σ:St):AH St:=
 match o.guard with
 | none=>(match Ja call base σ (base+o.dst.getD 0) o.op with|some (v,h)=>AC (σ.put o.dst v h)|none=>AD)
 | some (g,want)=>
  match σ.f g with
  | .bool b=>if b=want then (match Ja call base σ (base+o.dst.getD 0) o.op with|some (v,h)=>AC (σ.put o.dst v h)|none=>AD) else AC (σ.put o.dst (.Cb []) σ.h)
  | .Cb []=>AC (σ.put o.dst (.Cb []) σ.h)
  | _=>AD
def CO.BX:CO->AN
 | .alloc _|.IW .. | .box _|.Eb .. | .mkS .. | .fJ .. | .FH ..=>AE
 | _=>AF
def jb(call:Call)(base:AM)(o:AP)(σ:St):AH St:=
 if o.op.BX=AE/\(σ.h (base+o.dst.getD 0)).isSome=AE then AD else jp call base o σ
def je(call:Call)(base:AM):AG AP->St->AH St
 | [],σ=>AC σ
 | o::r,σ=>match jb call base o σ with|some σ'=>je call base r σ'|none=>AD
inductive RV where
 | tmp (t:AM)
 | cell (t:AM) (ag:AN) (n:AM)
 deriving Inhabited
def RV.get(σ:St):RV->AH AV
 | .tmp t=>AC (σ.f t)
 | .cell t ag n=>IY σ.h ag n (σ.f t)
theorem Jg{α:Type}(f:AM->α)(d:AM)(v:α):upd f d v d=v:=by simp [upd]
theorem Jd{α:Type}(f:AM->α)(d:AM)(v:α)(n:AM)(h:n≠d):upd f d v n=f n:=by simp [upd,h]
inductive AY (w:World) (S:AM->Prop):AV->Value->Prop where
 | bool (b:AN):AY w S (.bool b) (.bool b)
 | int (k:IntKind) (n:AI):AY w S (.int k n) (.int k n)
 | str (s:ByteArray):AY w S (.str s) (.string s)
 | BK:AY w S .BK (.slice AD 0 0)
 | IB:AY w S .IB (.pointer AD)
 | IC:AY w S .IC .nilFunc
 | F6:AY w S .F6 (.map AD)
 | mpr (ks vs:AG AV) (b:AM) (es:Array MapEntry) (clock:AM) (hs:S b) (hb:w.heap[b]?=AC (.map es clock)) (hk:es.size=ks.length) (hv:es.size=vs.length)
   (hrk:∀(i:AM) (x:AV) (e:MapEntry),ks[i]?=AC x->es[i]?=AC e->AY w S x e.key) (hrv:∀(i:AM) (x:AV) (e:MapEntry),vs[i]?=AC x->es[i]?=AC e->AY w S x e.val):AY w S (.mpr ks vs) (.map (AC b))
 | FQ:AY w S (.CF 0 []) (.slice AD 0 0)
 | CF (n:AM) (l:AG AV) (a:Addr) (cap:AM) (cv:AM->Value) (hs:l≠[]->S a.block) (hn:n<=cap)
   (hc:∀i x,l[i]?=AC x->w.cell? (a.add i)=AC (cv i)) (h1:∀i x,l[i]?=AC x->(cv i).oneCell'=AE)
   (hr:∀i x,l[i]?=AC x->AY w S x (cv i)):AY w S (.CF n l) (.slice (AC a) n cap)
 | CP (l:AG AV) (a:Addr) (cv:AM->Value) (hs:l≠[]->S a.block)
   (hc:∀i x,l[i]?=AC x->w.cell? (a.add i)=AC (cv i)) (h1:∀i x,l[i]?=AC x->(cv i).oneCell'=AE)
   (hr:∀i x,l[i]?=AC x->AY w S x (cv i)):AY w S (.CP l) (.pointer (AC a))
 | fn (f:FuncId) (l:AG AV) (cs:Array Value) (hl:l.length=cs.size) (hr:∀i x,l[i]?=AC x->AY w S x (cs.getD i undef)):AY w S (.fn f l) (.func (.func f) #[] cs)
 | Ld (f:FuncId) (l:AG AV) (cs:Array Value) (hl:l.length=cs.size) (h1:∀i x,l[i]?=AC x->(cs.getD i undef).oneCell'=AE)
   (hr:∀i x,l[i]?=AC x->AY w S x (cs.getD i undef)):AY w S (.Ld f l) (.func (.func f) #[.agg cs] #[])
 | agg (l:AG AV) (cs:Array Value) (hl:l.length=cs.size) (h1:∀i x,l[i]?=AC x->(cs.getD i undef).oneCell'=AE)
   (hr:∀i x,l[i]?=AC x->AY w S x (cs.getD i undef)):AY w S (.agg l) (.agg cs)
 | Cb (l:AG AV) (cs:Array Value) (hl:l.length=cs.size) (hr:∀i x,l[i]?=AC x->AY w S x (cs.getD i undef)):AY w S (.Cb l) (.tuple cs)
theorem Jyo{w w':World}{a:Addr}{n:AM}(h:w'.heap[a.block]?=w.heap[a.block]?):w'.cell? (a.add n)=w.cell? (a.add n):=by
 have e:(a.add n).block=a.block:=by unfold Addr.add;split<;>rfl
 exact World.cell?_of_block (a:=a.add n) (by rw [e];exact h)
theorem AY.mono{w w':World}{S S':AM->Prop}{x:AV}{v:Value}(h:AY w S x v)(hS:∀b,S b->S' b)(y:∀b,S b->w'.heap[b]?=w.heap[b]?):AY w' S' x v:=by
 induction h with
 | bool b=>exact .bool b
 | int k n=>exact .int k n
 | str s=>exact .str s
 | BK=>exact .BK
 | IB=>exact .IB
 | IC=>exact .IC
 | F6=>exact .F6
 | mpr ks vs b es clock hs K J E G F r m=>exact .mpr ks vs b es clock (hS _ hs) ((y b hs).trans K) J E r m
 | FQ=>exact .FQ
 | CF n l a cap cv hs H A g hr d=>exact .CF n l a cap cv (λB=>hS _ (hs B)) H (λi x hi=>(Jyo (y _ (hs (by rintro rfl;simp at hi)))).trans (A i x hi)) g d
 | CP l a cv hs A g hr d=>exact .CP l a cv (λB=>hS _ (hs B)) (λi x hi=>(Jyo (y _ (hs (by rintro rfl;simp at hi)))).trans (A i x hi)) g d
 | fn f l cs hl hr d=>exact .fn f l cs hl d
 | Ld f l cs hl g hr d=>exact .Ld f l cs hl g d
 | agg l cs hl g hr d=>exact .agg l cs hl g d
 | Cb l cs hl hr d=>exact .Cb l cs hl d
structure Gh where
 b:AM->AM
 o:AM->AM
 l:AM->AM
def Gh.set(μ:Gh)(g b o:AM):Gh:=⟨upd μ.b g b,upd μ.o g o,μ.l⟩
def KT(w:World)(b o esz off len:AM)(v:Value):Prop:=
 ∃(a:Addr) (cap:AM) (cs:Array Value) (el:TypeId) (z:AM×AM),v=.slice (AC a) len cap/\(len<=cap/\cap<=9223372036854775807)/\w.heap[b]?=AC (.cells cs el z)/\o+(off+cap) * esz<=cs.size/\(0<cap->a=⟨b,o+off * esz,AD⟩)
def JM(w:World)(cells:AG AV)(b o esz off len:AM)(v:Value):Prop:=
 (cells=[]->off=0/\len=0/\∃A,v=.slice A 0 0)/\(cells≠[]->KT w b o esz off len v)
inductive AX (w:World) (S:AM->Prop) (h:Heap) (μ:Gh):AV->Value->Prop where
 | any (v:Value):AX w S h μ .any v
 | pure {x:AV} {v:Value} (hp:AY w S x v):AX w S h μ x v
 | fn (f:FuncId) (l:AG AV) (cs:Array Value) (hl:l.length=cs.size) (hr:∀i x,l[i]?=AC x->AX w S h μ x (cs.getD i undef)):AX w S h μ (.fn f l) (.func (.func f) #[] cs)
 | agg (l:AG AV) (cs:Array Value) (hl:l.length=cs.size) (h1:∀i x,l[i]?=AC x->(cs.getD i undef).oneCell'=AE)
   (hr:∀i x,l[i]?=AC x->AX w S h μ x (cs.getD i undef)):AX w S h μ (.agg l) (.agg cs)
 | Cb (l:AG AV) (cs:Array Value) (hl:l.length=cs.size) (hr:∀i x,l[i]?=AC x->AX w S h μ x (cs.getD i undef)):AX w S h μ (.Cb l) (.tuple cs)
 | arr (g ver off len:AM) (v:Value) (o:AU) (ho:h g=AC o) (hv:ver<=o.ver) (h1:v.oneCell'=AE)
   (hr:ver=o.ver->∃esz el cells fz,o=.arr ver esz el cells fz/\JM w cells (μ.b g) (μ.o g) esz off len v):AX w S h μ (.arr g ver off len) v
 | ptr (g ver off:AM) (v:Value) (o:AU) (ho:h g=AC o) (hv:ver<=o.ver) (h1:v.oneCell'=AE)
   (hr:ver=o.ver->v=.pointer (AC ⟨μ.b g,μ.o g+off,AD⟩)):AX w S h μ (.ptr g ver off) v
 | map (g ver:AM) (v:Value) (o:AU) (ho:h g=AC o) (hv:ver<=o.ver) (h1:v.oneCell'=AE)
   (hr:ver=o.ver->v=.map (AC (μ.b g))):AX w S h μ (.map g ver) v
 | Fu (j:AM):AX w S h μ (.Fu j) (.func (.yield (μ.l j)) #[] #[])
def GJ(es:Array MapEntry)(clock:AM):Prop:=(∀x∈es.toList,x.born<clock)/\(es.toList.map (·.born)).Nodup
theorem R9(c:AM):GJ #[] c:=⟨by simp,by simp⟩
theorem Jy9{es:Array MapEntry}{c:AM}(h:GJ es c)(k v:Value):GJ (es.push { key:=k,val:=v,born:=c }) (c+1):=by
 obtain ⟨d,l⟩:=h;refine ⟨λx hx=>?_,?_⟩
 .simp only [Array.toList_push,List.mem_append,List.mem_singleton] at hx;rcases hx with hx|rfl
  .have:=d x hx;omega
  .exact Nat.lt_succ_self _
 .simp only [Array.toList_push,List.map_append,List.map_cons,List.map_nil];refine List.nodup_append.2 ⟨l,by simp,λa g b f e=>?_⟩;simp only [List.mem_singleton] at f;obtain ⟨x,hx,rfl⟩:=Be.1 g;have:=d x hx;omega
theorem Jj3{es:Array MapEntry}{c:AM}(h:GJ es c)(j:AM)(f:MapEntry->MapEntry)(g:∀e,(f e).born=e.born):GJ (es.modify j f) c:=by
 have key:∀(l:AG MapEntry) (j:AM),(l.modify j f).map (·.born)=l.map (·.born):=λl=>by
  induction l with
  | nil=>intro j;cases j<;>rfl
  | cons x r a=>
   intro j;cases j with
   | zero=>simp [g]
   | succ j=>simp [List.modify_succ_cons,a]
 have e:(es.modify j f).toList.map (·.born)=es.toList.map (·.born):=by rw [Array.toList_modify];exact key _ _
 refine ⟨λx hx=>?_,by rw [e];exact h.2⟩;have:x.born∈es.toList.map (·.born):=by rw [<-e];exact Be.2 ⟨x,hx,rfl⟩
 obtain ⟨y,d,m⟩:=Be.1 this;rw [<-m];exact h.1 y d
theorem R8{es es':Array MapEntry}{c:AM}(h:GJ es c)(hs:List.Sublist es'.toList es.toList):GJ es' c:=
 ⟨λx hx=>h.1 x (hs.subset hx),h.2.sublist (hs.map _)⟩
def Holds(w:World)(S:AM->Prop)(h:Heap)(μ:Gh)(cells:AG AV)(cs:Array Value):Prop:=
 ∀i x,cells[i]?=AC x->AX w S h μ x (cs.getD i undef)/\(cs.getD i undef).oneCell'=AE
def Ct(w:World)(S:AM->Prop)(h:Heap)(μ:Gh)(o:AM)(cells:AG AV)(cs:Array Value):Prop:=
 ∀i x,cells[i]?=AC x->AX w S h μ x (cs.getD (o+i) undef)/\(cs.getD (o+i) undef).oneCell'=AE
def ER(w:World)(S:AM->Prop)(h:Heap)(μ:Gh)(b o:AM):AU->Prop
 | .box _ cells=>∃cs el,w.heap[b]?=AC (.cells cs el (0,0))/\o+cells.length<=cs.size/\Ct w S h μ o cells cs
 | .arr _ _ el cells fz=>cells≠[]->∃cs,w.heap[b]?=AC (.cells cs el (0,0))/\o+cells.length<=cs.size/\Ct w S h μ o cells cs/\(fz=AE->S b)
 | .map _ es fz=>∃(es':Array MapEntry) (clock:AM),w.heap[b]?=AC (.map es' clock)/\(es'.size=es.length/\GJ es' clock)/\(fz=AE->S b)/\∀(i:AM) (k v:AV),es[i]?=AC (k,v)->∃e:MapEntry,es'[i]?=AC e/\AY w S k e.key/\AX w S h μ v e.val
def Own(h:Heap)(μ:Gh)(b:AM):Prop:=∃g o,h g=AC o/\o.fz=AF/\o.live=AE/\μ.b g=b
structure BJ (w:World) (S:AM->Prop) (h:Heap) (μ:Gh):Prop where
 ob:∀g o,h g=AC o->ER w S h μ (μ.b g) (μ.o g) o
 inj:∀g g' o o',h g=AC o->h g'=AC o'->o.live=AE->o'.live=AE->μ.b g=μ.b g'->g=g'
 own:∀g o,h g=AC o->o.fz=AF->o.live=AE->¬S (μ.b g)
 lt:∀b,S b->b<w.heap.size
def Marks(w:World)(S:AM->Prop)(ds:AG Deferred):Prop:=ds.Nodup/\∀d∈ds,∃r,d={ target:=.collected r,args:=#[] }/\w.heap[r]?=AC (.deferred (AC []))/\¬S r
structure DN (nt:AM) (w:World) (S:AM->Prop) (σ:St) (μ:Gh) (a:Act):Prop where
 fr:∀d,AX w S σ.h μ (σ.f d) (a.tmps.getD d undef)
 hp:BJ w S σ.h μ
 df:Marks w S a.defers
 sz:nt<=a.tmps.size
structure CY (w:World) (S:AM->Prop) (h:Heap) (μ:Gh) (w':World) (S':AM->Prop) (h':Heap) (μ':Gh):Prop where
 os:w'.os=w.os
 tape:w'.tape=w.tape
 output:w'.output=w.output/\w.drawn<=w'.drawn
 size:w.heap.size<=w'.heap.size
 keep:∀b,b<w.heap.size->¬Own h μ b->w'.heap[b]?=w.heap[b]?
 shape:∀(b:AM) (cs:Array Value) (el:TypeId) (z:AM×AM),w.heap[b]?=AC (.cells cs el z)->∃cs':Array Value,w'.heap[b]?=AC (.cells cs' el z)/\cs'.size=cs.size
 st:∀b,S b->S' b
 st2:∀b,S' b->S b\/w.heap.size<=b\/Own h μ b
 ow:∀b,Own h' μ' b->Own h μ b\/w.heap.size<=b
 lp:μ'.l=μ.l
def AU.kind:AU->AM
 | .box ..=>0
 | .arr ..=>1
 | .map ..=>2
def AU.like:AU->AU->Prop
 | .arr _ e t c _,.arr _ d a c' _=>e=d/\t=a/\(c=[]↔c'=[])
 | x,y=>x.kind=y.kind
def Cg(h:Heap)(μ:Gh)(h':Heap)(μ':Gh):Prop:=
 ∀g o,h g=AC o->∃o',h' g=AC o'/\o.ver<=o'.ver/\(o'.ver=o.ver->(μ'.b g=μ.b g/\μ'.o g=μ.o g)/\o.like o')
theorem AU.like.refl(o:AU):o.like o:=by cases o<;>simp [AU.like]
theorem AU.like.trans{a b c:AU}(h:a.like b)(k:b.like c):a.like c:=by cases a<;>cases b<;>cases c<;>simp_all [AU.like,AU.kind]
theorem Cg.refl(h:Heap)(μ:Gh):Cg h μ h μ:=λ_ o a=>⟨o,a,Ab _,λ_=>⟨⟨rfl,rfl⟩,.refl o⟩⟩
theorem Cg.trans{h h' h'':Heap}{μ μ' μ'':Gh}(a:Cg h μ h' μ')(b:Cg h' μ' h'' μ''):Cg h μ h'' μ'':=by
 intro g o y;obtain ⟨o',l,hl,r⟩:=a g o y;obtain ⟨o'',f,m,d⟩:=b g o' l;refine ⟨o'',f,Aq hl m,λe=>?_⟩;have w:o'.ver=o.ver:=by omega
 have v:o''.ver=o'.ver:=by omega
 exact ⟨⟨(d v).1.1.trans (r w).1.1,(d v).1.2.trans (r w).1.2⟩,(r w).2.trans (d v).2⟩
section
variable {w w' w'':World} {S S' S'':AM->Prop} {h h' h'':Heap} {μ μ' μ'':Gh}
theorem CY.refl:CY w S h μ w S h μ:=⟨rfl,rfl,⟨rfl,Ab _⟩,Ab _,λ_ _ _=>rfl,λ_ cs _ _ a=>⟨cs,a,rfl⟩,λ_ h=>h,λ_ h=>.inl h,λ_ h=>.inl h,rfl⟩
theorem CY.trans(a:CY w S h μ w' S' h' μ')(b:CY w' S' h' μ' w'' S'' h'' μ''):CY w S h μ w'' S'' h'' μ'' where
 os:=b.os.trans a.os
 tape:=b.tape.trans a.tape
 output:=⟨b.output.1.trans a.output.1,Aq a.output.2 b.output.2⟩
 size:=Aq a.size b.size
 keep x hx g:=(b.keep x (Nat.lt_of_lt_of_le hx a.size) λl=>(a.ow x l).elim g (by omega)).trans (a.keep x hx g)
 shape x cs el z m:=by obtain ⟨A,d,v⟩:=a.shape x cs el z m;obtain ⟨y,f,r⟩:=b.shape x A el z d;exact ⟨y,f,r.trans v⟩
 st x hx:=b.st x (a.st x hx)
 st2 x hx:=by
  rcases b.st2 x hx with d|d|d
  .exact a.st2 x d
  .exact .inr (.inl (Aq a.size d))
  .rcases a.ow x d with f|f
   .exact .inr (.inr f)
   .exact .inr (.inl f)
 ow x hx:=by
  rcases b.ow x hx with d|d
  .exact a.ow x d
  .exact .inr (Aq a.size d)
 lp:=b.lp.trans a.lp
theorem BJ.VQ(d:BJ w S h μ){b:AM}(l:S b):¬Own h μ b:=λ⟨g,o,f,a,hl,e⟩=>d.own g o f a hl (e▸l)
theorem BJ.kept(a:BJ w S h μ)(ev:CY w S h μ w' S' h' μ'){b:AM}(d:S b):w'.heap[b]?=w.heap[b]?:=ev.keep b (a.lt b d) (a.VQ d)
theorem AY.Cz{x:AV}{v:Value}(hr:AY w S x v)(a:BJ w S h μ)(ev:CY w S h μ w' S' h' μ'):AY w' S' x v:=hr.mono ev.st λ_ d=>a.kept ev d
theorem KT.Cz{b o esz off len:AM}{v:Value}(l:KT w b o esz off len v)(ev:CY w S h μ w' S' h' μ'):KT w' b o esz off len v:=by obtain ⟨a,cap,cs,el,z,e,hl,g,hs,m⟩:=l;obtain ⟨cs',f,d⟩:=ev.shape _ _ _ _ g;exact ⟨a,cap,cs',el,z,e,hl,f,by rw [d];exact hs,m⟩
theorem JM.Cz{cells cells':AG AV}{b o esz off len:AM}{v:Value}(d:JM w cells b o esz off len v)(ev:CY w S h μ w' S' h' μ')(a:cells=[]↔cells'=[]):JM w' cells' b o esz off len v:=
 ⟨λe=>d.1 (a.2 e),λe=>(d.2 λq=>e (a.1 q)).Cz ev⟩
theorem AX.Cz{x:AV}{v:Value}(hr:AX w S h μ x v)(K:BJ w S h μ)(ev:CY w S h μ w' S' h' μ')(vv:Cg h μ h' μ'):AX w' S' h' μ' x v:=by
 induction hr with
 | any v=>exact .any v
 | pure F=>exact .pure (F.Cz K ev)
 | fn f l cs hl hr A=>exact .fn f l cs hl A
 | agg l cs hl r hr A=>exact .agg l cs hl r A
 | Cb l cs hl hr A=>exact .Cb l cs hl A
 | arr g ver off len v o E B r hr=>
  obtain ⟨o',d,m,y⟩:=vv g o E;refine .arr g ver off len v o' d (Aq B m) r λe=>?_;have M:ver=o.ver:=by omega
  obtain ⟨esz,el,cells,fz,eq,L⟩:=hr M;obtain ⟨⟨em,eo⟩,a⟩:=y (by omega);subst eq;cases o' with
  | arr H O N c' J=>
   simp only [AU.like] at a;obtain ⟨rfl,rfl,G⟩:=a;simp only [AU.ver] at e;subst e;exact ⟨esz,el,c',J,rfl,by rw [em,eo];exact L.Cz ev G⟩
  | box H c'=>simp [AU.like,AU.kind] at a
  | map H c'=>simp [AU.like,AU.kind] at a
 | ptr g ver off v o E B r hr=>
  obtain ⟨o',d,m,y⟩:=vv g o E;exact .ptr g ver off v o' d (Aq B m) r λe=>by rw [(y (by omega)).1.1,(y (by omega)).1.2];exact hr (by omega)
 | Fu j=>rw [<-ev.lp];exact .Fu j
 | map g ver v o E B r hr=>
  obtain ⟨o',d,m,y⟩:=vv g o E;exact .map g ver v o' d (Aq B m) r λe=>by rw [(y (by omega)).1.1];exact hr (by omega)
theorem Holds.Cz{cells:AG AV}{cs:Array Value}(a:Holds w S h μ cells cs)(d:BJ w S h μ)(ev:CY w S h μ w' S' h' μ')(vv:Cg h μ h' μ'):Holds w' S' h' μ' cells cs:=
 λi x hi=>⟨(a i x hi).1.Cz d ev vv,(a i x hi).2⟩
theorem Ct.Cz{o:AM}{cells:AG AV}{cs:Array Value}(a:Ct w S h μ o cells cs)(d:BJ w S h μ)(ev:CY w S h μ w' S' h' μ')(vv:Cg h μ h' μ'):Ct w' S' h' μ' o cells cs:=
 λi x hi=>⟨(a i x hi).1.Cz d ev vv,(a i x hi).2⟩
theorem Holds.iI{cells:AG AV}{cs:Array Value}(a:Holds w S h μ cells cs):Ct w S h μ 0 cells cs:=λi x hi=>by rw [Nat.zero_add];exact a i x hi
theorem ER.Cz{b k:AM}{o:AU}(r:ER w S h μ b k o)(l:BJ w S h μ)(ev:CY w S h μ w' S' h' μ')(vv:Cg h μ h' μ')(y:o.live=AE->w'.heap[b]?=w.heap[b]?):ER w' S' h' μ' b k o:=by
 cases o with
 | box v cells=>
  obtain ⟨cs,el,g,f,d⟩:=r;exact ⟨cs,el,(y rfl).trans g,f,d.Cz l ev vv⟩
 | arr v e t cells z=>
  intro a;obtain ⟨cs,g,f,d,F⟩:=r a;exact ⟨cs,(y (by cases cells<;>first|rfl|exact (a rfl).elim)).trans g,f,d.Cz l ev vv,λm=>ev.st _ (F m)⟩
 | map v es z=>
  obtain ⟨es',clock,g,f,m,d⟩:=r;refine ⟨es',clock,(y rfl).trans g,f,λq=>ev.st _ (m q),λi k v hi=>?_⟩;obtain ⟨e,E,B,A⟩:=d i k v hi;exact ⟨e,E,B.Cz l ev,A.Cz l ev vv⟩
theorem Kz{v e:AM}{t:TypeId}{cells:AG AV}{z:AN}:(AU.arr v e t cells z).live=AE↔cells≠[]:=by cases cells<;>simp [AU.live]
theorem ER.lt{b k:AM}{o:AU}(d:ER w S h μ b k o)(hl:o.live=AE):b<w.heap.size:=by
 have:∃x,w.heap[b]?=AC x:=by
  cases o with
  | box v cells=>obtain ⟨cs,el,a,_⟩:=d;exact ⟨_,a⟩
  | arr v e t cells z=>obtain ⟨cs,a,_⟩:=d (Kz.1 hl);exact ⟨_,a⟩
  | map v es z=>obtain ⟨es',clock,a,_⟩:=d;exact ⟨_,a⟩
 obtain ⟨x,hx⟩:=this;exact (Au.1 hx).1
theorem BJ.GX(f:BJ w S h μ){b:AM}{ob:Obj}(a:w.heap[b]?=AC ob)(d:∀cs el z,ob≠.cells cs el z)(m:∀es k,ob≠.map es k):¬Own h μ b:=by
 rintro ⟨g,o,l,r,hl,rfl⟩;have:=f.ob g o l;cases o with
 | box v cells=>obtain ⟨cs,el,q,_⟩:=this;rw [a] at q;injection q with q;exact d _ _ _ q
 | arr v e t cells z=>obtain ⟨cs,q,_⟩:=this (Kz.1 hl);rw [a] at q;injection q with q;exact d _ _ _ q
 | map v es z=>obtain ⟨es',clock,q,_⟩:=this;rw [a] at q;injection q with q;exact m _ _ q
theorem BJ.marks(g:BJ w S h μ){ds:AG Deferred}(hd:Marks w S ds)(ev:CY w S h μ w' S' h' μ'):Marks w' S' ds:=by
 refine ⟨hd.1,λd l=>?_⟩;obtain ⟨r,e,hr,hs⟩:=hd.2 d l;have f:=g.GX hr (by intros;simp) (by intros;simp);have a:=(Au.1 hr).1;refine ⟨r,e,(ev.keep r a f).trans hr,λq=>?_⟩;rcases ev.st2 r q with q|q|q
 .exact hs q
 .omega
 .exact f q
theorem Marks.nil{w:World}{S:AM->Prop}:Marks w S []:=⟨List.nodup_nil,λd hd=>(by cases hd)⟩
theorem Jo4(a:w'.heap=w.heap)(l:w'.os=w.os)(g:w'.tape=w.tape)(f:w'.output=w.output/\w.drawn<=w'.drawn):CY w S h μ w' S h μ:=
 ⟨l,g,f,by rw [a];exact Ab _,λ_ _ _=>by rw [a],λ_ cs _ _ d=>⟨cs,by rw [a];exact d,rfl⟩,λ_ h=>h,λ_ h=>.inl h,λ_ h=>.inl h,rfl⟩
theorem BJ.of_same(a:BJ w S h μ)(d:w'.heap=w.heap)(v:w'.os=w.os)(r:w'.tape=w.tape)(m:w'.output=w.output/\w.drawn<=w'.drawn):BJ w' S h μ:=
 ⟨λg o f=>(a.ob g o f).Cz a (Jo4 d v r m) (.refl h μ) (λ_=>by rw [d]),a.inj,a.own,λb l=>by rw [d];exact a.lt b l⟩
theorem Ta:CY w S h μ w.drew S h μ:=Jo4 rfl rfl rfl ⟨rfl,Bd _⟩
theorem Jzp(g:AM)(o:AU)(ob:Obj)(l:o.ver=Kh h g\/Kh h g<o.ver) :
  CY w S h μ (w.alloc ob) S (upd h g (AC o)) (μ.set g w.heap.size 0)/\Cg h μ (upd h g (AC o)) (μ.set g w.heap.size 0):=by
 refine ⟨⟨rfl,rfl,⟨rfl,Ab _⟩,by simp,λb v _=>heap_alloc_old w ob b v,λb cs el z m=>⟨cs,?_,rfl⟩,λ_ h=>h,λ_ h=>.inl h,?_,rfl⟩,?_⟩
 .rw [heap_alloc_old w ob b (Au.1 m).1];exact m
 .rintro b ⟨f,o',a,r,hl,e⟩;by_cases d:f=g
  .subst d;simp only [Gh.set,Jg] at e;exact .inr (by omega)
  .simp only [Gh.set,Jd _ _ _ _ d] at a e;exact .inl ⟨f,o',a,r,hl,e⟩
 .intro f o' a;by_cases d:f=g
  .subst d;have:Kh h f=o'.ver+1:=by simp [Kh,a]
   exact ⟨o,Jg _ _ _,by omega,λe=>by omega⟩
  .exact ⟨o',by rw [Jd _ _ _ _ d];exact a,Ab _,λ_=>⟨⟨Jd _ _ _ _ d,Jd _ _ _ _ d⟩,.refl o'⟩⟩
theorem J2j{g:AM}{o:AU}{ob:Obj}(d:BJ w S h μ)(v:o.ver=Kh h g\/Kh h g<o.ver)
  (E:ER (w.alloc ob) S (upd h g (AC o)) (μ.set g w.heap.size 0) w.heap.size 0 o):BJ (w.alloc ob) S (upd h g (AC o)) (μ.set g w.heap.size 0):=by
 obtain ⟨ev,vv⟩:=Jzp (w:=w) (S:=S) (h:=h) (μ:=μ) g o ob v;refine ⟨λr o' a=>?_,λH G K J A y M L e=>?_,λr o' a B F hs=>?_,λb N=>by have:=d.lt b N;simp;omega⟩
 .by_cases m:r=g
  .subst m;simp only [Gh.set,Jg] at a ⊢;injection a with e;subst e;exact E
  .rw [Jd _ _ _ _ m] at a;have:=(d.ob r o' a).Cz d ev vv (λhl=>heap_alloc_old w ob _ ((d.ob r o' a).lt hl));simpa only [Gh.set,Jd _ _ _ _ m] using this
 .by_cases l:H=g<;>by_cases f:G=g
  .rw [l,f]
  .subst l;simp only [Gh.set,Jd _ _ _ _ f,Jg] at y e;have:=(d.ob G J y).lt L;omega
  .subst f;simp only [Gh.set,Jd _ _ _ _ l,Jg] at A e;have:=(d.ob H K A).lt M;omega
  .simp only [Gh.set,Jd _ _ _ _ l,Jd _ _ _ _ f] at A y e;exact d.inj H G K J A y M L e
 .by_cases m:r=g
  .subst m;simp only [Gh.set,Jg] at hs;have:=d.lt _ hs;omega
  .simp only [Gh.set,Jd _ _ _ _ m] at a hs;exact d.own r o' a B F hs
theorem wF{g k:AM}{o o':AU}{cs:Array Value}(y:h g=AC o)(G:o.fz=AF)(hl:o.live=AE)(r:o.ver<o'.ver\/o.ver=o'.ver/\k=μ.o g/\o.like o')
  (B:∀old el z,w.heap[μ.b g]?=AC (.cells old el z)->cs.size=old.size) :
  CY w S h μ (w.setRow (μ.b g) cs) S (upd h g (AC o')) (μ.set g (μ.b g) k)/\Cg h μ (upd h g (AC o')) (μ.set g (μ.b g) k):=by
 have F:∀d,(μ.set g (μ.b g) k).b d=μ.b d:=λd=>by
  by_cases f:d=g
  .subst f;simp [Gh.set,Jg]
  .simp [Gh.set,Jd _ _ _ _ f]
 refine ⟨⟨rfl,rfl,⟨rfl,Ab _⟩,by simp,λb K H=>setRow_other w (μ.b g) b cs λe=>H ⟨g,o,y,G,hl,e.symm⟩,λb c el z E=>?_,λ_ h=>h,λ_ h=>.inl h,?_,rfl⟩,?_⟩
 .by_cases l:b=μ.b g
  .subst l;exact ⟨cs,setRow_heap w _ _ cs el z E,B _ _ _ E⟩
  .exact ⟨c,by rw [setRow_other w (μ.b g) b cs l];exact E,rfl⟩
 .rintro b ⟨d,m,a,v,A,e⟩;rw [F] at e;by_cases f:d=g
  .subst f;exact .inl ⟨d,o,y,G,hl,e⟩
  .rw [Jd _ _ _ _ f] at a;exact .inl ⟨d,m,a,v,A,e⟩
 .intro d m a;by_cases f:d=g
  .subst f;rw [y] at a;injection a with e;subst e;exact ⟨o',Jg _ _ _,by omega,λe=>⟨⟨F _,by
    rcases r with r|⟨_,J,_⟩
    .omega
    .simp only [Gh.set,Jg];exact J⟩,by
    rcases r with r|⟨_,_,hl⟩
    .omega
    .exact hl⟩⟩
  .exact ⟨m,by rw [Jd _ _ _ _ f];exact a,Ab _,λ_=>⟨⟨F _,by simp [Gh.set,Jd _ _ _ _ f]⟩,.refl m⟩⟩
theorem Juc{g k:AM}{o o':AU}{cs:Array Value}(v:BJ w S h μ)(A:h g=AC o)(J:o.fz=AF)(hl:o.live=AE)(O:o.ver<o'.ver\/o.ver=o'.ver/\k=μ.o g/\o.like o')
  (H:∀old el z,w.heap[μ.b g]?=AC (.cells old el z)->cs.size=old.size)
  (F:ER (w.setRow (μ.b g) cs) S (upd h g (AC o')) (μ.set g (μ.b g) k) (μ.b g) k o'):BJ (w.setRow (μ.b g) cs) S (upd h g (AC o')) (μ.set g (μ.b g) k):=by
 obtain ⟨ev,vv⟩:=wF (S:=S) A J hl O H;have r:∀f,(μ.set g (μ.b g) k).b f=μ.b f:=λf=>by
  by_cases l:f=g
  .subst l;simp [Gh.set,Jg]
  .simp [Gh.set,Jd _ _ _ _ l]
 refine ⟨λf m d=>?_,λL K m y R Q B M e=>?_,λf m d E G hs=>?_,λb r=>by rw [setRow_size];exact v.lt b r⟩
 .rw [r];by_cases l:f=g
  .subst l;rw [Jg] at d;injection d with e;subst e;simpa only [Gh.set,Jg] using F
  .rw [Jd _ _ _ _ l] at d;have:=(v.ob f m d).Cz v ev vv (λB=>setRow_other w _ _ cs λe=>l (v.inj f g m o d A B hl e));simpa only [Gh.set,Jd _ _ _ _ l] using this
 .rw [r,r] at e;have key:∀f m,upd h g (AC o') f=AC m->m.live=AE->∃y,h f=AC y/\y.live=AE:=λf m h' N=>by
   by_cases l:f=g
   .subst l;exact ⟨o,A,hl⟩
   .rw [Jd _ _ _ _ l] at h';exact ⟨m,h',N⟩
  obtain ⟨a,P,la⟩:=key L m R B;obtain ⟨b,r,lb⟩:=key K y Q M;exact v.inj L K a b P r la lb e
 .rw [r] at hs;by_cases l:f=g
  .subst l;exact v.own f o A J hl hs
  .rw [Jd _ _ _ _ l] at d;exact v.own f m d E G hs
end
section
variable {w:World} {S:AM->Prop} {h:Heap} {μ:Gh} {v:Value}
theorem AX.BI{k:IntKind}{n:AI}(hr:AX w S h μ (.int k n) v):v=.int k n:=by cases hr with|pure a=>cases a;rfl
theorem AX.Ca{b:AN}(hr:AX w S h μ (.bool b) v):v=.bool b:=by cases hr with|pure a=>cases a;rfl
theorem AX.CW(hr:AX w S h μ .BK v):v=.slice AD 0 0:=by cases hr with|pure a=>cases a;rfl
theorem AX.MG{ks vs:AG AV}(hr:AX w S h μ (.mpr ks vs) v):∃(b:AM) (es:Array MapEntry) (clock:AM),v=.map (AC b)/\S b/\w.heap[b]?=AC (.map es clock)/\es.size=ks.length/\es.size=vs.length/\(∀(i:AM) (x:AV) (e:MapEntry),ks[i]?=AC x->es[i]?=AC e->AY w S x e.key)/\∀(i:AM) (x:AV) (e:MapEntry),vs[i]?=AC x->es[i]?=AC e->AY w S x e.val:=by
 cases hr with
 | pure g=>cases g with|mpr _ _ b es clock hs m l f d a=>exact ⟨b,es,clock,rfl,hs,m,l,f,d,a⟩
theorem AX.PI(hr:AX w S h μ .F6 v):v=.map AD:=by cases hr with|pure a=>cases a;rfl
theorem AX.Iy{s:ByteArray}(hr:AX w S h μ (.str s) v):v=.string s:=by cases hr with|pure a=>cases a;rfl
theorem AX.JX(hr:AX w S h μ (.Cb []) v):v=.tuple #[]:=by
 cases hr with
 | pure a=>cases a with|Cb _ cs hl _=>simp at hl;rw [Ax hl.symm]
 | Cb _ cs hl _=>simp at hl;rw [Ax hl.symm]
theorem AX.CB{l:AG AV}(hr:AX w S h μ (.agg l) v):∃cs:Array Value,v=.agg cs/\l.length=cs.size/\Holds w S h μ l cs:=by
 cases hr with
 | pure d=>cases d with|agg _ cs hl a hr=>exact ⟨cs,rfl,hl,λi x hi=>⟨.pure (hr i x hi),a i x hi⟩⟩
 | agg _ cs hl a hr=>exact ⟨cs,rfl,hl,λi x hi=>⟨hr i x hi,a i x hi⟩⟩
theorem AX.FI{l:AG AV}(hr:AX w S h μ (.Cb l) v):∃cs:Array Value,v=.tuple cs/\l.length=cs.size/\∀i x,l[i]?=AC x->AX w S h μ x (cs.getD i undef):=by
 cases hr with
 | pure a=>cases a with|Cb _ cs hl hr=>exact ⟨cs,rfl,hl,λi x hi=>.pure (hr i x hi)⟩
 | Cb _ cs hl hr=>exact ⟨cs,rfl,hl,λi x hi=>hr i x hi⟩
theorem AX.EZ{f:FuncId}{l:AG AV}(hr:AX w S h μ (.fn f l) v):∃cs:Array Value,v=.func (.func f) #[] cs/\l.length=cs.size/\∀i x,l[i]?=AC x->AX w S h μ x (cs.getD i undef):=by
 cases hr with
 | pure a=>cases a with|fn _ _ cs hl hr=>exact ⟨cs,rfl,hl,λi x hi=>.pure (hr i x hi)⟩
 | fn _ _ cs hl hr=>exact ⟨cs,rfl,hl,λi x hi=>hr i x hi⟩
theorem AX.MO{f:FuncId}{l:AG AV}(hr:AX w S h μ (.Ld f l) v):∃cs:Array Value,v=.func (.func f) #[.agg cs] #[]/\AX w S h μ (.agg l) (.agg cs):=by
 cases hr with
 | pure a=>cases a with|Ld _ _ cs hl d hr=>exact ⟨cs,rfl,.pure (.agg _ _ hl d hr)⟩
theorem AX.one{x:AV}(hr:AX w S h μ x v)(a:x.one=AE):v.oneCell'=AE:=by
 cases hr with
 | any=>simp [AV.one] at a
 | pure d=>cases d<;>simp_all [AV.one,Value.oneCell']
 | fn=>rfl
 | agg=>simp [AV.one] at a
 | Cb=>simp [AV.one] at a
 | arr _ _ _ _ _ _ _ _ h=>exact h
 | ptr _ _ _ _ _ _ _ h=>exact h
 | map _ _ _ _ _ _ h=>exact h
 | Fu=>rfl
theorem Jxv(v:Value)(a:v.oneCell'=AE):v.cells=#[v]:=by cases v<;>simp_all [Value.oneCell',Value.cells]
theorem AX.cells{x:AV}{c:AG AV}(hr:AX w S h μ x v)(f:x.cells=AC c):v.cells.size=c.length/\Holds w S h μ c v.cells:=by
 by_cases a:x.one=AE
 .have:c=[x]:=by cases x<;>simp_all [AV.cells,AV.one]
  subst this;rw [Jxv v (hr.one a)];refine ⟨rfl,λi y hi=>?_⟩
  match i,hi with
  | 0,hi=>simp at hi;subst hi;exact ⟨hr,hr.one a⟩
 .cases x<;>simp_all [AV.cells,AV.one];obtain ⟨cs,rfl,hl,d⟩:=hr.CB;exact ⟨hl.symm,d⟩
end
def XM:Value->AH AV
 | .bool b=>AC (.bool b)
 | .int k n=>AC (.int k n)
 | .string s=>AC (.str s)
 | .slice AD 0 0=>AC .BK
 | .pointer AD=>AC .IB
 | .nilFunc=>AC .IC
 | .map AD=>AC .F6
 | _=>AD
def JE:AG Value->AH (AG AV)
 | []=>AC []
 | v::r=>
  match XM v,JE r with
  | some x,AC l=>AC (x::l)
  | _,_=>AD
def qX:Value->AH AV
 | .agg cs=>(JE cs.toList).map .agg
 | .tuple cs=>if cs.size=0 then AC (.Cb []) else AD
 | v=>XM v
def ED:Operand->AH LO
 | .tmp t=>AC (.t t)
 | .const v=>(qX v).map .c
 | .func f=>AC (.c (.fn f []))
 | .global _=>AD
def IU:AG Operand->AH (AG LO)
 | []=>AC []
 | x::r=>
  match ED x,IU r with
  | some a,AC l=>AC (a::l)
  | _,_=>AD
def zc(P:Program)(t:TypeId):AH (AG AV):=
 match P.info? t with
 | some i=>(match i.zero with|some z=>(match JE z.cells.toList with|some l=>if l.length=i.size then AC l else AD|none=>AD)|none=>AD)
 | none=>AD
def oZ(P:Program)(t:TypeId):AH AV:=
 match P.info? t with
 | some i=>(match i.zero with|some z=>qX z|none=>AD)
 | none=>AD
def FJ(P:Program)(t:TypeId):AH AM:=(P.info? t).map (·.size)
def Cn(P:Program)(t:TypeId):AH AN:=
 match P.underlying t with
 | some (.struct _)|some (.array _ _)=>AC AE
 | some _=>AC AF
 | none=>AD
def kL(P:Program)(g:TypeId->AH (AG AN)):AG Field->AM->AH (AG AN)
 | [],_=>AC []
 | f::r,k=>
  match g f.type,Cn P f.type,FJ P f.type with
  | some a, AC ag, AC m => if f.offset = k /\ f.name ≠ "_" /\ m = a.length /\ (ag \/ m = 1) then (match kL P g r (k + m) with | some b => AC (a ++ b) | none => AD) else AD
  | _,_,_=>AD
def EU(P:Program):AM->TypeId->AH (AG AN)
 | 0,_=>AD
 | n+1,t=>
  match P.underlying t with
  | some .bool=>AC [AE]
  | some (.int _)=>AC [AF]
  | some (.struct fs)=>if P.stoodInHeld t then AD else kL P (EU P n) fs.toList 0
  | _=>AD
def qU(P:Program)(t:TypeId):AH (AN×AG AN):=
 match EU P 6 t,Cn P t with
 | some sh,AC ag=>if P.eqGuardType P.depth t then AD else AC (ag,sh)
 | _,_=>AD
def jL(place:AM->AH (AM×AM)):AG (AM×Operand)->AH (AG (AM×AM×LO))
 | []=>AC []
 | (i,x)::r=>
  match place i,ED x,jL place r with
  | some (off,n),AC x,AC l=>AC ((off,n,x)::l)
  | _,_,_=>AD
inductive CM where
 | p
 | z
 | q
 | o (esz:AM) (el:TypeId)
def lZ(cm:AG (AM×CM))(d:AH AM):CM:=
 match cm.find? (λx=>x.1==d.getD 0) with
 | some (_,m)=>m
 | none=>.p
def JK(P:Program)(cm:AG (AM×CM))(dst:AH AM):Op->AH CO
 | .move x|.assign x=>(ED x).map .fH
 | .pick c a b=>match ED c,ED a,ED b with|some c,AC a,AC b=>AC (.pick c a b)|_,_,_=>AD
 | .alloc e=>(match lZ cm dst with
  | .z=>(match P.underlying e with
   | some (.array _ el)=>(match FJ P el,zc P e with|some n,AC z=>AC (.IW n e z)|_,_=>AD)
   | _=>AD)
  | _=>(zc P e).map .alloc)
 | .box _ x=>(ED x).map .box
 | .build t ps=>match zc P t,P.underlying t with
  | some z,AC (.struct fs)=>(match fs.toList.mapM (λf=>(P.info? f.type).map λi=>(f.offset,i.size)) with
   | some pl=>(jL (λi=>pl[i]?) ps.toList).map (.build z)
   | none=>AD)
  | some z,AC (.array _ e)=>(match P.info? e with|some i=>(jL (λk=>AC (k * i.size,i.size)) ps.toList).map (.build z)|none=>AD)
  | _,_=>AD
 | .buildSlice t n ps=>match P.underlying t with
  | some (.slice e)=>(match P.info? e,zc P e with
   | some i,AC z=>if n * i.size<=16777216/\0<i.size then (jL (λk=>AC (k * i.size,i.size)) ps.toList).map (.Eb n i.size e z) else AD
   | _,_=>AD)
  | _=>AD
 | .load t x=>match Cn P t,FJ P t,ED x with
  | some ag,AC n,AC x=>if ag\/n=1 then AC (.load ag n x) else AD
  | _,_,_=>AD
 | .store t x y=>match FJ P t,ED x,ED y with
  | some n,AC x,AC y=>AC (.store n x y)
  | _,_,_=>AD
 | .binOp op t x y yt=>match P.underlying t,ED x,ED y with
  | some (.int _),AC x,AC y=>(match op with|.shl|.shr=>(match P.underlying yt with|some (.int _)=>AC (.dY op x y)|_=>AD)|_=>AC (.KI op x y))
  | some (.slice _),AC x,AC (.c .BK)=>(match op with|.eql=>AC (.Ep AF x)|.neq=>AC (.Ep AE x)|_=>AD)
  | some _,AC x,AC y=>(match op with
   | .eql=>(match qU P t with|some (ag,sh)=>AC (.eqv AF ag sh x y)|none=>AD)
   | .neq=>(match qU P t with|some (ag,sh)=>AC (.eqv AE ag sh x y)|none=>AD)
   | _=>AD)
  | _,_,_=>AD
 | .unOp op _ x=>(ED x).map (.un op)
 | .convert s d x=>match P.underlying s,P.underlying d,ED x with
  | some (.int _),AC (.int k),AC x=>AC (.conv k x)
  | _,_,_=>AD
 | .nilCheck x=>(ED x).map .Eo
 | .makeFunc (.func f) first caps=>if first.size=0 then (IU caps.toList).map (.LY f) else if caps.size=0 then (match IU first.toList with|some [x]=>AC (.Me f x)|_=>AD) else AD
 | .makeSlice t l c=>match P.underlying t with
  | some (.slice e)=>(match P.info? e,zc P e,ED l,ED c with
   | some i,AC z,AC l,AC c=>if 0<i.size then AC (.mkS i.size i.bytes e z l c) else AD
   | _,_,_,_=>AD)
  | _=>AD
 | .makeMap t AD=>match P.underlying t with
  | some (.map kt et)=>AC (.fJ kt et (match P.underlying et with|some (.slice x)=>x|_=>0))
  | _=>AD
 | .lookup t x k ok=>match P.underlying t with
  | some (.map kt et)=>(match EU P 6 kt,Cn P kt,oZ P et with
   | some sh,AC ag,AC z=>(match ED x,ED k with
    | some x,AC k=>AC (.look ok ag sh (kV z) x k)
    | _,_=>AD)
   | _,_,_=>AD)
  | _=>AD
 | .mapUpdate t x k v|.insert t x k v=>match P.underlying t with
  | some (.map kt _)=>(match EU P 6 kt,Cn P kt with
   | some sh,AC ag=>(match ED x,ED k,ED v with
    | some x,AC k,AC v=>AC (.LJ ag sh x k v)
    | _,_,_=>AD)
   | _,_=>AD)
  | _=>AD
 | .slice t x lo hi AD=>match P.underlying t with
  | some (.slice e)=>(match FJ P e,ED x with
   | some n,AC x=>
    (match lo,hi with
     | none,AD=>AC (.slc n x AD AD)
     | some a,AD=>(match ED a with|some a=>AC (.slc n x (AC a) AD)|none=>AD)
     | none,AC b=>(match ED b with|some b=>AC (.slc n x AD (AC b))|none=>AD)
     | some a,AC b=>(match ED a,ED b with|some a,AC b=>AC (.slc n x (AC a) (AC b))|_,_=>AD))
   | _,_=>AD)
  | some (.array n el)=>(match lo,hi with
   | none,AD=>(match FJ P el,ED x with|some s,AC x=>(match Nat.ble n 9223372036854775807 with|true=>AC (.LH n s x)|false=>AD)|_,_=>AD)
   | _,_=>AD)
  | _=>AD
 | .fieldAddr s x f=>match P.underlying s with
  | some (.struct fs)=>(match fs[f]?,ED x with
   | some fd,AC x=>(match FJ P fd.type with|some n=>if n≠0 then AC (.Es fd.offset x) else AD|none=>AD)
   | _,_=>AD)
  | _=>AD
 | .field s x f=>match P.underlying s with
  | some (.struct fs)=>(match fs[f]?,ED x with
   | some fd,AC x=>(match Cn P fd.type,FJ P fd.type with|some ag,AC n=>if ag\/n=1 then AC (.lF ag fd.offset n x) else AD|_,_=>AD)
   | _,_=>AD)
  | _=>AD
 | .indexAddr t x i=>match P.underlying t,ED x,ED i with
  | some (.slice e),AC x,AC i=>(match FJ P e with|some n=>AC (.Er n x i)|none=>AD)
  | some (.array len e),AC x,AC i=>(match FJ P e with|some n=>AC (.EP len n x i)|none=>AD)
  | _,_,_=>AD
 | .index t x i=>match P.underlying t,ED x,ED i with
  | some (.array len e),AC x,AC i=>(match Cn P e,FJ P e with|some ag,AC n=>if ag\/n=1 then AC (.idx len n ag x i) else AD|_,_=>AD)
  | _,_,_=>AD
 | .extract x i=>(ED x).map (.ext · i)
 | .call c=>match c.callee with
  | .builtin .len=>(match c.args.toList,c.argTypes.toList with
   | [x],[t]=>(match P.underlying t,ED x with
    | some (.slice _),AC x=>AC (.len x)
    | some (.map _ _),AC x=>AC (.F8 x)
    | some .string,AC x=>AC (.Ik x)
    | _,_=>AD)
   | _,_=>AD)
  | .builtin .append=>(match c.args.toList,c.argTypes.toList with
   | [x,y],[t,g]=>if t=g then (match P.underlying t,ED x,ED y with
    | some (.slice e),AC x,AC y=>(match P.info? e,zc P e with
     | some i,AC z=>if 0<i.size then AC (.app i.size i.bytes e z x y) else AD
     | _,_=>AD)
    | _,_,_=>AD) else AD
   | _,_=>AD)
  | .builtin .delete=>(match c.args.toList,c.argTypes.toList with
   | [x,k],t::_=>(match P.underlying t with
    | some (.map kt _)=>(match EU P 6 kt,Cn P kt with
     | some sh,AC ag=>(match ED x,ED k with
      | some x,AC k=>AC (.Mf ag sh x k)
      | _,_=>AD)
     | _,_=>AD)
    | _=>AD)
   | _,_=>AD)
  | .builtin .copy=>(match c.args.toList,c.argTypes.toList with
   | [x,y],t::_=>(match P.underlying t,ED x,ED y with
    | some (.slice e),AC x,AC y=>(match FJ P e with
     | some n=>AC (.lI n x y)
     | none=>AD)
    | _,_,_=>AD)
   | _,_=>AD)
  | .builtin .max=>(match c.args.toList with
   | [x,y]=>(match ED x,ED y with|some x,AC y=>AC (.mm AE x y)|_,_=>AD)
   | _=>AD)
  | .builtin .min=>(match c.args.toList with
   | [x,y]=>(match ED x,ED y with|some x,AC y=>AC (.mm AF x y)|_,_=>AD)
   | _=>AD)
  | .value (.func f)=>(match IU c.args.toList with
   | some as=>AC (match lZ cm dst with|.p=>.Co f as|.z=>.Et f as|.q=>.FW f as|.o esz el=>.FH f as esz el)
   | none=>AD)
  | .value (.tmp x)=>(IU c.args.toList).map (.GD (.t x))
  | _=>AD
 | _=>AD
def comp(P:Program)(cm:AG (AM×CM))(nt:AM)(ops:Array Oper)(o:Oper):AH AP:=
 match JK P cm o.dst o.op with
 | none=>AD
 | some op=>
  if oL nt o.dst then
   match o.guard with
   | none=>AC ⟨o.dst,op,AD⟩
   | some (j,want)=>(match (ops[j]?).bind (·.dst) with|some d=>if d<nt then AC ⟨o.dst,op,AC (d,want)⟩ else AD|none=>AD)
  else AD
section
variable {w:World} {S:AM->Prop} {h:Heap} {μ:Gh}
theorem J2d{v:Value}{x:AV}(hx:XM v=AC x):AY w S x v/\v.oneCell'=AE:=by unfold XM at hx;split at hx<;>first|(injection hx with hx;subst hx;refine ⟨?_,rfl⟩;constructor)|cases hx
theorem xO:∀ {l:AG Value} {m:AG AV},JE l=AC m->m.length=l.length/\∀(i:AM) (x:AV),m[i]?=AC x->∃v:Value,l[i]?=AC v/\AY w S x v/\v.oneCell'=AE
 | [],m,a=>by simp [JE] at a;subst a;exact ⟨rfl,λi x hi=>by simp at hi⟩
 | v::r,m,a=>by
  unfold JE at a;split at a
  .rename_i x l hx hl;injection a with a;subst a;obtain ⟨f,d⟩:=xO hl;refine ⟨by simp [f],λi y hi=>?_⟩;cases i with
   | zero=>simp at hi;subst hi;exact ⟨v,rfl,J2d hx⟩
   | succ i=>simpa using d i y (by simpa using hi)
  .cases a
theorem nW{l:AG Value}{m:AG AV}(d:JE l=AC m):Holds w S h μ m l.toArray:=by
 intro i x hi;obtain ⟨v,a,hr,f⟩:=(xO d).2 i x hi;have e:l.toArray.getD i undef=v:=by simp [a]
 rw [e];exact ⟨.pure hr,f⟩
theorem J0l{v:Value}{x:AV}(hx:qX v=AC x):AX w S h μ x v:=by
 unfold qX at hx;split at hx
 .rename_i cs;cases hl:JE cs.toList with
  | none=>rw [hl] at hx;cases hx
  | some l=>
   rw [hl] at hx;simp at hx;subst hx;have:=nW (w:=w) (S:=S) (h:=h) (μ:=μ) hl;refine .agg l cs (by simpa using (xO (w:=w) (S:=S) hl).1) (λi x hi=>?_) (λi x hi=>?_)
   .simpa using (this i x hi).2
   .simpa using (this i x hi).1
 .rename_i cs;split at hx
  .rename_i hs;injection hx with hx;subst hx;exact .Cb [] cs (by simp [hs]) (λi x hi=>by simp at hi)
  .cases hx
 .exact .pure (J2d hx).1
end
theorem Jr{nt:AM}{w:World}{S:AM->Prop}{σ:St}{μ:Gh}{a:Act}(hs:DN nt w S σ μ a){x:Operand}{y:LO}(hx:ED x=AC y):AX w S σ.h μ (σ.ev y) (a.eval x):=by
 unfold ED at hx;split at hx
 .injection hx with hx;subst hx;exact hs.fr _
 .rename_i v;cases d:qX v with
  | none=>rw [d] at hx;cases hx
  | some u=>rw [d] at hx;simp at hx;subst hx;exact J0l d
 .injection hx with hx;subst hx;exact .fn _ [] #[] rfl (λi x hi=>by simp at hi)
 .cases hx
theorem J1v{nt:AM}{w:World}{S:AM->Prop}{σ:St}{μ:Gh}{a:Act}(hs:DN nt w S σ μ a):∀ {l:AG Operand} {m:AG LO},IU l=AC m ->
  m.length=l.length/\∀(i:AM) (y:LO),m[i]?=AC y->∃x,l[i]?=AC x/\AX w S σ.h μ (σ.ev y) (a.eval x)
 | [],m,d=>by simp [IU] at d;subst d;exact ⟨rfl,λi x hi=>by simp at hi⟩
 | x::r,m,d=>by
  unfold IU at d;split at d
  .rename_i y l hx hl;injection d with d;subst d;obtain ⟨g,f⟩:=J1v hs hl;refine ⟨by simp [g],λi z hi=>?_⟩;cases i with
   | zero=>simp at hi;subst hi;exact ⟨x,rfl,Jr hs hx⟩
   | succ i=>simpa using f i z (by simpa using hi)
  .cases d
end Go.Vv
namespace Go.Vv
open Go
theorem wQ(a:Addr)(m n:AM):(a.add m).add n=a.add (m+n):=by unfold Addr.add;by_cases f:m=0<;>by_cases d:n=0<;>simp_all [Ah]
theorem jP{w:World}{b o i:AM}{cs:Array Value}{t:TypeId}{z:AM×AM}(a:w.heap[b]?=AC (.cells cs t z)):w.cell? ((⟨b,o,AD⟩:Addr).add i)=cs[o+i]?:=by rw [Addr.add_lit,cell_of_row w b (o+i) cs t z a]
theorem getD_some{cs:Array Value}{i:AM}(h:i<cs.size):cs[i]?=AC (cs.getD i undef):=by simp [h]
theorem wV{h:Heap}{g ver:AM}(a:cur h g ver=AE):∃o,h g=AC o/\ver=o.ver:=by
 unfold cur at a;split at a
 .rename_i o d;exact ⟨o,d,by simpa using (beq_iff_eq.1 a).symm⟩
 .cases a
theorem Jvk{h:Heap}{g ver esz:AM}(a:Ei h g ver esz=AE):∃el cells fz,h g=AC (.arr ver esz el cells fz):=by
 unfold Ei at a;split at a
 .rename_i v e t c z d;simp at a;obtain ⟨rfl,rfl⟩:=a;exact ⟨t,c,z,d⟩
 .cases a
theorem Jmg{h:Heap}{g ver:AM}(a:Zq h g ver=AE):∃esz el cells fz,h g=AC (.arr ver esz el cells fz):=by
 unfold Zq at a;split at a
 .rename_i v e t c z d;simp at a;obtain rfl:=a;exact ⟨e,t,c,z,d⟩
 .cases a
theorem J3q{h:Heap}{g ver:AM}{es:AG (AV×AV)}(a:HY h g ver=AC es):h g=AC (.map ver es AF):=by
 unfold HY at a;split at a
 .rename_i v es' d;split at a
  .rename_i e;subst e;injection a with a;subst a;exact d
  .cases a
 .cases a
section
variable {w:World} {S:AM->Prop} {h:Heap} {μ:Gh} {P:Program}
theorem AX.Ej{g ver off:AM}{v:Value}(hr:AX w S h μ (.ptr g ver off) v)(l:cur h g ver=AE):v=.pointer (AC ⟨μ.b g,μ.o g+off,AD⟩):=by
 obtain ⟨o,f,e⟩:=wV l;cases hr with
 | pure d=>cases d
 | ptr _ _ _ _ o' a _ _ hr=>rw [f] at a;injection a with a;subst a;exact hr e
theorem AX.DF{g ver off len esz:AM}{v:Value}{el:TypeId}{cells:AG AV}{fz:AN}(hr:AX w S h μ (.arr g ver off len) v)(f:h g=AC (.arr ver esz el cells fz)):JM w cells (μ.b g) (μ.o g) esz off len v:=by
 cases hr with
 | pure d=>cases d
 | arr _ _ _ _ _ o' a _ _ hr=>
  rw [f] at a;injection a with a;subst a;obtain ⟨esz',el',cells',fz',e,l⟩:=hr rfl;injection e with _ r _ m;subst r m;exact l
theorem AX.EF{g ver off len esz:AM}{v:Value}{el:TypeId}{cells:AG AV}{fz:AN}(hr:AX w S h μ (.arr g ver off len) v)(d:h g=AC (.arr ver esz el cells fz))(a:cells≠[]):KT w (μ.b g) (μ.o g) esz off len v:=(hr.DF d).2 a
theorem AX.iJ{g ver off len esz:AM}{v:Value}{el:TypeId}{cells:AG AV}{fz:AN}(hr:AX w S h μ (.arr g ver off len) v)(f:h g=AC (.arr ver esz el cells fz)):∃A cap,v=.slice A len cap/\len<=cap/\(A=AD->len=0/\cap=0):=by
 obtain ⟨m,l⟩:=hr.DF f;by_cases d:cells=[]
 .obtain ⟨-,rfl,A,rfl⟩:=m d;exact ⟨A,0,rfl,Ab _,λ_=>⟨rfl,rfl⟩⟩
 .obtain ⟨a,cap,cs,el',z,rfl,hl,_⟩:=l d;exact ⟨AC a,cap,rfl,hl.1,λe=>by cases e⟩
theorem AX.I6{g ver:AM}{v:Value}{es:AG (AV×AV)}(hr:AX w S h μ (.map g ver) v){fz:AN}(f:h g=AC (.map ver es fz)):v=.map (AC (μ.b g)):=by
 cases hr with
 | pure d=>cases d
 | map _ _ _ o' a _ _ hr=>rw [f] at a;injection a with a;subst a;exact hr rfl
theorem Jp1(E:BJ w S h μ){x:AV}{cx:Value}(hr:AX w S h μ x cx){l:AG AV}{off:AM}(hd:JL h x=AC (l,off)) :
  ∃a,cx=.pointer (AC a)/\∀i y,l[off+i]?=AC y->∃c,w.cell? (a.add i)=AC c/\c.oneCell'=AE/\AX w S h μ y c:=by
 unfold JL at hd;split at hd
 .injection hd with hd;simp only [Ai] at hd;obtain ⟨rfl,rfl⟩:=hd;cases hr with
  | pure v=>
   cases v with
   | CP _ a cv hs F G hr=>exact ⟨a,rfl,λi y hi=>⟨cv i,by simpa using F i y (by simpa using hi),G i y (by simpa using hi),.pure (hr i y (by simpa using hi))⟩⟩
 .rename_i g ver off';split at hd
  .rename_i ver' cells f;split at hd
   .rename_i e;subst e;injection hd with hd;simp only [Ai] at hd;obtain ⟨rfl,rfl⟩:=hd;obtain ⟨cs,el,B,r,m⟩:=E.ob g _ f;refine ⟨⟨μ.b g,μ.o g+off',AD⟩,hr.Ej (by simp [cur,f,AU.ver]),λi y hi=>?_⟩;have d:μ.o g+(off'+i)<cs.size:=by have:=(Aa.1 hi).1;omega
    exact ⟨cs.getD (μ.o g+(off'+i)) undef,by rw [jP B,Ah,getD_some d],(m _ _ hi).2,(m _ _ hi).1⟩
   .cases hd
  .rename_i ver' esz el cells fz f;split at hd
   .rename_i e;obtain ⟨rfl,A⟩:=e;injection hd with hd;simp only [Ai] at hd;obtain ⟨rfl,rfl⟩:=hd;obtain ⟨cs,B,r,m,_⟩:=E.ob g _ f A;refine ⟨⟨μ.b g,μ.o g+off',AD⟩,hr.Ej (by simp [cur,f,AU.ver]),λi y hi=>?_⟩;have d:μ.o g+(off'+i)<cs.size:=by have:=(Aa.1 hi).1;omega
    exact ⟨cs.getD (μ.o g+(off'+i)) undef,by rw [jP B,Ah,getD_some d],(m _ _ hi).2,(m _ _ hi).1⟩
   .cases hd
  .cases hd
 .cases hd
theorem xw{t:TypeId}{b:AN}(a:Cn P t=AC b)(w:World):(isAgg t).run P w=.ok b w:=by
 unfold Cn at a;split at a
 .rename_i fs f;injection a with a;subst a;simp [isAgg,run_underlying f]
 .rename_i n e f;injection a with a;subst a;simp [isAgg,run_underlying f]
 .rename_i d h g f;injection a with a;subst a;cases hd:P.underlying t with
  | none=>simp_all
  | some l=>
   simp only [isAgg,Sem.run_bind,run_underlying hd,Result.andThen_ok];cases l<;>simp_all
   all_goals first|exact h _ f.symm|exact g _ _ f.symm
 .cases a
theorem K5{t:TypeId}{n:AM}(a:FJ P t=AC n)(w:World):(sizeOf t).run P w=.ok n w:=by
 unfold FJ at a;cases hi:P.info? t with
 | none=>rw [hi] at a;cases a
 | some i=>rw [hi] at a;simp at a;subst a;simp [sizeOf,typeInfo,hi]
theorem Jtt{l:AG AV}{off n:AM}{ag:AN}{v:AV}(a:pack ag l off n=AC v){f:AM->Value}
  (m:∀i y,i<n->l[off+i]?=AC y->(f i).oneCell'=AE/\AX w S h μ y (f i)) (A:ag\/n=1) :
  AX w S h μ v (if ag then .agg ((List.range n).map f).toArray else f 0):=by
 unfold pack at a;split at a
 .rename_i B;cases ag with
  | true=>
   simp at a;subst a;have key:∀i x,(cut l off n)[i]?=AC x->i<n/\l[off+i]?=AC x:=λi x hi=>by
    simp only [cut,Aj,Ak] at hi;split at hi
    .rename_i g;exact ⟨g,hi⟩
    .cases hi
   simp only [if_true];refine .agg _ _ (by simp [cut];omega) (λi x hi=>?_) (λi x hi=>?_)
   .obtain ⟨d,r⟩:=key i x hi;simpa [d] using (m i x d r).1
   .obtain ⟨d,r⟩:=key i x hi;simpa [d] using (m i x d r).2
  | false=>
   simp at a;simp only [Af,if_false];have d:n=1:=by simpa using A
   exact (m 0 v (by omega) (by simpa using a)).2
 .cases a
theorem uJ(H:BJ w S h μ){t:TypeId}{n:AM}{ag:AN}(m:Cn P t=AC ag)(A:FJ P t=AC n)(F:ag\/n=1){x v:AV}{cx:Value}(hr:AX w S h μ x cx)
  (hl:IY h ag n x=AC v):∃cv,(Instr.loadAt t cx).run P w=.ok cv w/\AX w S h μ v cv:=by
 unfold IY at hl;split at hl
 .rename_i l off hd;obtain ⟨a,rfl,G⟩:=Jp1 H hr hd;have J:off+n<=l.length:=by
   unfold pack at hl;split at hl
   .assumption
   .cases hl
  have d:∀j,j<n->w.cell? (a.add j)=AC ((w.cell? (a.add j)).getD undef):=λj M=>by obtain ⟨c,r,_⟩:=G j (l[off+j]'(by omega)) (Av (by omega));rw [r];rfl
  have g:=Jtt (w:=w) (S:=S) (h:=h) (μ:=μ) hl (f:=λj=>(w.cell? (a.add j)).getD undef) (λi y _ hi=>by obtain ⟨c,r,L,K⟩:=G i y hi;rw [r];exact ⟨L,K⟩) F
  refine ⟨_,?_,g⟩;cases ag with
  | true=>simp [Instr.loadAt,Instr.sureAddr,loadVar,xw m,K5 A,run_loadCells w a n _ d]
  | false=>
   have r:n=1:=by simpa using F
   have E:=d 0 (by omega);simp only [Addr.add_zero'] at E ⊢;simp [Instr.loadAt,Instr.sureAddr,loadVar,xw m,load,Sem.run];cases B:w.cell? a with
   | none=>rw [B] at E;cases E
   | some c=>simp
 .cases hl
theorem AY.drop{l:AG AV}{a:Addr}{cv:AM->Value}{k:AM}(hs:l≠[]->S a.block)(d:∀i x,l[i]?=AC x->w.cell? (a.add i)=AC (cv i))
  (g:∀i x,l[i]?=AC x->(cv i).oneCell'=AE) (hr:∀i x,l[i]?=AC x->AY w S x (cv i)):AY w S (.CP (l.drop k)) (.pointer (AC (a.add k))):=by
 have f:(a.add k).block=a.block:=by unfold Addr.add;split<;>rfl
 exact .CP _ _ (λi=>cv (k+i)) (λh=>by rw [f];exact hs (by rintro rfl;simp at h)) (λi x hi=>by rw [wQ];exact d _ x (by simpa using hi)) (λi x hi=>g _ x (by simpa using hi)) (λi x hi=>hr _ x (by simpa using hi))
theorem AY.cut{l:AG AV}{a:Addr}{cv:AM->Value}{k n:AM}(hs:l≠[]->S a.block)(d:∀i x,l[i]?=AC x->w.cell? (a.add i)=AC (cv i))
  (g:∀i x,l[i]?=AC x->(cv i).oneCell'=AE) (hr:∀i x,l[i]?=AC x->AY w S x (cv i)):AY w S (.CP (Vv.cut l k n)) (.pointer (AC (a.add k))):=by
 have f:(a.add k).block=a.block:=by unfold Addr.add;split<;>rfl
 have key:∀i x,(Vv.cut l k n)[i]?=AC x->l[k+i]?=AC x:=λi x hi=>by
  simp only [Vv.cut,Aj,Ak] at hi;split at hi
  .exact hi
  .cases hi
 exact .CP _ _ (λi=>cv (k+i)) (λh=>by rw [f];exact hs (by rintro rfl;simp [Vv.cut] at h)) (λi x hi=>by rw [wQ];exact d _ x (key i x hi)) (λi x hi=>g _ x (key i x hi)) (λi x hi=>hr _ x (key i x hi))
theorem J01{s:TypeId}{fs:Array Field}{f:AM}{fd:Field}{n:AM}(hs:P.underlying s=AC (.struct fs))(A:fs[f]?=AC fd)(y:FJ P fd.type=AC n)(l:n≠0)
  {x v:AV} {cx:Value} (hr:AX w S h μ x cx) (d:KZ h fd.offset x=AC v):∃cv,(Instr.fieldAt s cx f).run P w=.ok cv w/\AX w S h μ v cv:=by
 unfold KZ at d;split at d
 .rename_i g ver o;split at d
  .rename_i m;injection d with d;subst d;obtain ⟨ob,E,e⟩:=wV m;have hx:=hr.Ej m;subst hx;refine ⟨.pointer (AC ⟨μ.b g,μ.o g+(o+fd.offset),AD⟩),?_,.ptr _ _ _ _ ob E (by omega) rfl λ_=>rfl⟩;simp [Instr.fieldAt,run_underlying hs,A,Instr.sureAddr,fieldPlace,K5 y,l,Addr.add_lit,Ah]
  .cases d
 .injection d with d;subst d;cases hr with
  | pure B=>
   cases B with
   | CP _ a cv r m F hr=>
    refine ⟨.pointer (AC (a.add fd.offset)),?_,.pure (AY.drop r m F hr)⟩;simp [Instr.fieldAt,run_underlying hs,A,Instr.sureAddr,fieldPlace,K5 y,l]
 .cases d
theorem J0t{t e:TypeId}{n:AM}(E:P.underlying t=AC (.slice e))(F:FJ P e=AC n){x i v:AV}{cx ci:Value}(hr:AX w S h μ x cx)(hi:AX w S h μ i ci)
  (d:JW h n x i=AC v):∃cv,(Instr.indexAt t cx ci).run P w=.ok cv w/\AX w S h μ v cv:=by
 unfold JW at d;split at d
 .rename_i m l k j;split at d
  .rename_i f;injection d with d;subst d;rw [hi.BI];cases hr with
   | pure H=>
    cases H with
    | FQ=>omega
    | CF _ _ a cap cv hs J A B hr=>
     refine ⟨.pointer (AC (a.add (j.toNat * n))),?_,.pure (AY.cut hs A B hr)⟩;simp [Instr.indexAt,run_underlying E,asIntOf,f,K5 F]
  .cases d
 .rename_i g ver off len k j;split at d
  .rename_i f;obtain ⟨L,B,A⟩:=f;injection d with d;subst d;rw [hi.BI];obtain ⟨el,cells,fz,y⟩:=Jvk A;obtain ⟨a,cap,cs,el',z,rfl,hl,M,G,K⟩:=hr.EF y (λe=>by have:=((hr.DF y).1 e).2.1;omega);have r:0<cap:=by omega
   rw [K r];refine ⟨.pointer (AC ⟨μ.b g,μ.o g+(off+j.toNat) * n,AD⟩),?_,.ptr _ _ _ _ _ y (Ab _) rfl λ_=>rfl⟩;simp [Instr.indexAt,run_underlying E,asIntOf,L,B,K5 F,Addr.add_lit,Ac,Ah]
  .cases d
 .cases d
theorem Jye{t e:TypeId}{n len:AM}(y:P.underlying t=AC (.array len e))(A:FJ P e=AC n){x i v:AV}{cx ci:Value}(hr:AX w S h μ x cx)(hi:AX w S h μ i ci)
  (d:ZM h len n x i=AC v):∃cv,(Instr.indexAt t cx ci).run P w=.ok cv w/\AX w S h μ v cv:=by
 unfold ZM at d;split at d
 .rename_i g ver o k j;split at d
  .rename_i f;obtain ⟨F,r,m⟩:=f;injection d with d;subst d;rw [hi.BI,hr.Ej m];obtain ⟨ob,E,e⟩:=wV m;refine ⟨.pointer (AC ⟨μ.b g,μ.o g+(o+j.toNat * n),AD⟩),?_,.ptr _ _ _ _ ob E (by omega) rfl λ_=>rfl⟩;simp [Instr.indexAt,run_underlying y,asIntOf,Instr.sureAddr,F,r,K5 A,Addr.add_lit,Ah]
  .cases d
 .rename_i l k j;split at d
  .rename_i f;injection d with d;subst d;rw [hi.BI];cases hr with
   | pure B=>
    cases B with
    | CP _ a cv hs m r hr=>
     refine ⟨.pointer (AC (a.add (j.toNat * n))),?_,.pure (AY.drop hs m r hr)⟩;simp [Instr.indexAt,run_underlying y,asIntOf,Instr.sureAddr,f,K5 A]
  .cases d
 .cases d
theorem uH{t:TypeId}{off n:AM}{ag:AN}(d:Cn P t=AC ag)(m:FJ P t=AC n)(r:ag\/n=1){l:AG AV}{cs:Array Value}(hl:l.length=cs.size)(A:Holds w S h μ l cs)
  {v:AV} (g:pack ag l off n=AC v):∃cv,(part t cs off).run P w=.ok cv w/\AX w S h μ v cv:=by
 have E:off+n<=l.length:=by
  unfold pack at g;split at g
  .assumption
  .cases g
 have a:=Jtt (w:=w) (S:=S) (h:=h) (μ:=μ) g (f:=λj=>cs.getD (off+j) undef) (λi y _ hi=>⟨(A _ y hi).2,(A _ y hi).1⟩) r;refine ⟨_,?_,a⟩;cases ag with
 | true=>
  simp only [part,Sem.run_bind,xw d,Result.andThen_ok,if_true,K5 m];simp only [Sem.run_pure]
  congr 2
  apply Array.ext
  .simp;omega
  .intro i B F;simp at B F ⊢;rw [Array.getElem?_eq_getElem (by omega)];rfl
 | false=>
  have B:n=1:=by simpa using r
  simp only [part,Sem.run_bind,xw d,Result.andThen_ok,Af,if_false];rw [getD_some (cs:=cs) (i:=off) (by omega)];rfl
theorem J63{s:TypeId}{fs:Array Field}{f:AM}{fd:Field}{n:AM}{ag:AN}(hs:P.underlying s=AC (.struct fs))(y:fs[f]?=AC fd)(d:Cn P fd.type=AC ag)(a:FJ P fd.type=AC n)(m:ag\/n=1)
  {l:AG AV} {v:AV} {cx:Value} (hr:AX w S h μ (.agg l) cx) (g:pack ag l fd.offset n=AC v):∃cv,(Instr.field s cx f).run P w=.ok cv w/\AX w S h μ v cv:=by obtain ⟨cs,rfl,hl,r⟩:=hr.CB;obtain ⟨cv,B,A⟩:=uH (P:=P) d a m hl r g;exact ⟨cv,by simp [Instr.field,run_underlying hs,y,asAgg,B],A⟩
theorem J84{t e:TypeId}{len n:AM}{ag:AN}(m:P.underlying t=AC (.array len e))(g:Cn P e=AC ag)(d:FJ P e=AC n)(r:ag\/n=1){x i v:AV}{cx ci:Value}
  (hr:AX w S h μ x cx) (hi:AX w S h μ i ci) (a:Wh len n ag x i=AC v):∃cv,(Instr.index t cx ci).run P w=.ok cv w/\AX w S h μ v cv:=by
 unfold Wh at a;split at a
 .rename_i l k j;split at a
  .rename_i f;obtain ⟨cs,rfl,hl,y⟩:=hr.CB;rw [hi.BI];obtain ⟨cv,B,A⟩:=uH (P:=P) g d r hl y a;exact ⟨cv,by simp [Instr.index,asIntOf,run_underlying m,f,K5 d,B],A⟩
  .cases a
 .cases a
theorem Kbr{l:AG AV}{i:AM}{v:AV}{cx:Value}(hr:AX w S h μ (.Cb l) cx)(d:l[i]?=AC v):∃cv,(Instr.extract cx i).run P w=.ok cv w/\AX w S h μ v cv:=by
 obtain ⟨cs,rfl,hl,f⟩:=hr.FI;have a:i<cs.size:=by have:=(Aa.1 d).1;omega
 exact ⟨cs.getD i undef,by simp only [Instr.extract];rw [getD_some a];rfl,f i v d⟩
theorem J8x{t e ty:TypeId}(f:P.underlying t=AC (.slice e)){x:AV}{cx:Value}{n:AI}(hr:AX w S h μ x cx)(d:Cw h x=AC n):(Builtin.len_ #[t] ty #[cx]).run P w=.ok (.int .i64 n) w:=by
 unfold Cw at d;split at d
 .injection d with d;subst d;rw [hr.CW];simp [Builtin.len_,run_underlying f,goInt]
 .injection d with d;subst d;cases hr with
  | pure g=>cases g<;>simp [Builtin.len_,run_underlying f,goInt]
 .split at d
  .rename_i m;injection d with d;subst d;obtain ⟨esz,el,cells,fz,l⟩:=Jmg m;obtain ⟨a,cap,rfl,_⟩:=hr.iJ l;simp [Builtin.len_,run_underlying f,goInt]
  .cases d
 .cases d
theorem J4y{t k e ty:TypeId}(d:P.underlying t=AC (.map k e))(m:BJ w S h μ){x:AV}{cx:Value}{n:AI}(hr:AX w S h μ x cx)(a:F8 h x=AC n):(Builtin.len_ #[t] ty #[cx]).run P w=.ok (.int .i64 n) w:=by
 unfold F8 at a;split at a
 .injection a with a;subst a;rw [hr.PI];simp [Builtin.len_,run_underlying d,goInt]
 .injection a with a;subst a;obtain ⟨b,es,clock,rfl,-,g,r,-⟩:=hr.MG;simp [Builtin.len_,run_underlying d,goInt,getObj,Sem.run,g,r]
 .split at a
  .rename_i es v;injection a with a;subst a;have l:=J3q v;obtain ⟨es',clock,g,f,_⟩:=m.ob _ _ l;rw [hr.I6 l];simp [Builtin.len_,run_underlying d,goInt,getObj,Sem.run,g,f]
  .cases a
 .cases a
theorem J6c{t ty:TypeId}(d:P.underlying t=AC .string){x:AV}{cx:Value}{n:AI}(hr:AX w S h μ x cx)(a:Ik x=AC n):(Builtin.len_ #[t] ty #[cx]).run P w=.ok (.int .i64 n) w:=by
 unfold Ik at a;split at a
 .injection a with a;subst a;rw [hr.Iy];simp [Builtin.len_,run_underlying d,goInt]
 .cases a
end
section
variable {w:World} {S:AM->Prop} {h:Heap} {μ:Gh} {P:Program}
theorem Jm6{t:TypeId}{op:BinOp}{k:IntKind}{a b:AI}{v:AV}(d:TM op k a b=AC v):∃cv,(binOp op t (.int k a) (.int k b)).run P w=.ok cv w/\AX w S h μ v cv:=by
  unfold TM at d;split at d
  all_goals first
    | cases d;done
    | (injection d with d;subst d;first
        | exact ⟨_,by simp only [go_sem];simp [go_sem],.pure (.int _ _)⟩
        | exact ⟨_,by simp only [go_sem];simp [go_sem],.pure (.bool _)⟩)
    | (split at d
       . cases d
       . rename_i f
         injection d with d;subst d;exact ⟨_,by simp only [go_sem];simp [f],.pure (.int _ _)⟩)
theorem Jqd{op:BinOp}{t:TypeId}{x y:Operand}{k:IntKind}{a:AI}{v:Value}:(eqGuard op t x y (.int k a) v).run P w=.ok () w:=by simp [go_sem]
theorem J5h{s d:TypeId}{k k':IntKind}{n:AI}(hs:∃j,P.underlying s=AC (.int j))(hd:P.underlying d=AC (.int k)):(convert s d (.int k' n)).run P w=.ok (.int k (k.wrap n)) w:=by obtain ⟨j,hs⟩:=hs;simp [convert,run_underlying hs,run_underlying hd,Conv.intToInt]
theorem yj:∀ {sh:AG AN} {l m:AG AV} {b:AN},J9 sh l m=AC b->l.length=sh.length/\m.length=sh.length
  | [],[],[],_,_=>⟨rfl,rfl⟩
  | s::ss,x::xs,y::ys,b,h=>by
    unfold J9 at h;split at h
    . rename_i f
      obtain ⟨d,a⟩:=yj f;exact ⟨by simp [d],by simp [a]⟩
    . cases h
  | [],_::_,_,_,h=>by simp [J9] at h
  | [],[],_::_,_,h=>by simp [J9] at h
  | _::_,[],_,_,h=>by simp [J9] at h
  | _::_,_::_,[],_,h=>by simp [J9] at h
theorem Jfj:∀ {d f:AG AN} {l m:AG AV} {b:AN},J9 (d++f) l m=AC b ->
    ∃r g,J9 d (l.take d.length) (m.take d.length)=AC r/\J9 f (l.drop d.length) (m.drop d.length)=AC g/\b=(r&&g)
  | [],f,l,m,b,h=>⟨AE,b,by simp [J9],by simpa using h,by simp⟩
  | s::d,f,[],m,b,h=>by simp [J9] at h
  | s::d,f,x::l,[],b,h=>by simp [J9] at h
  | s::d,f,x::l,y::m,b,h=>by
    simp only [List.cons_append,J9] at h;split at h
    . rename_i a c w v
      injection h with h;subst h;obtain ⟨r,g,E,B,A⟩:=Jfj v;refine ⟨a&&r,g,?_,by simpa using B,by rw [A,Bool.and_assoc]⟩;simp [J9,w,E]
    . cases h
theorem Ka8(l:AG AV)(off n i k:AM):cut (cut l off n) i k=cut l (off+i) (min k (n - i)):=by simp only [cut,List.drop_take,List.take_take,List.drop_drop]
theorem Jwt{g:TypeId->AH (AG AN)}{d:AM}(ih:∀ {t:TypeId} {sh:AG AN} {ag:AN} {x y:AV} {cx cy:Value} {b:AN},g t=AC sh->Cn P t=AC ag ->
    AX w S h μ x cx->AX w S h μ y cy->Ez ag sh x y=AC b->(Op.equalIn d t cx cy).run P w=.ok b w):∀ {fs:AG Field} {k:AM} {sh:AG AN} {l m:AG AV} {cs cs':Array Value} {b:AN},kL P g fs k=AC sh ->
    l.length=cs.size->Holds w S h μ l cs->m.length=cs'.size->Holds w S h μ m cs'->J9 sh (l.drop k) (m.drop k)=AC b->l.length=k+sh.length->m.length=k+sh.length->(Op.eqFields d cs cs' fs).run P w=.ok b w
  | [],k,sh,l,m,cs,cs',b,A,hl,Z,E,F,M,H,N=>by simp [kL] at A;subst A;have Q:l.drop k=[]:=Bb (by simp at H;omega);have e2:m.drop k=[]:=Bb (by simp at N;omega);rw [Q,e2] at M;simp [J9] at M;subst M;simp [Op.eqFields]
  | f::r,k,sh,l,m,cs,cs',b,A,hl,Z,E,F,M,H,N=>by
    unfold kL at A;split at A
    . rename_i a ag q ha G hq
      split at A
      . rename_i hc
        obtain ⟨ho,hn,R,B⟩:=hc;split at A
        . rename_i r' hr
          injection A with A;subst A R;obtain ⟨b1,b2,Q,e2,O⟩:=Jfj M;have Y:k+a.length<=l.length:=by simp at H;omega
          have X:k+a.length<=m.length:=by simp at N;omega
          have pk:∀(l:AG AV),k+a.length<=l.length->∃v,pack ag l f.offset a.length=AC v/\(ag=AE->v=.agg (cut l k a.length))/\(ag=AF->cut l k a.length=[v]):=by
            intro l L;rw [ho];cases ag with
            | true=>exact ⟨_,by simp [pack,L],λ_=>rfl,λh=>by cases h⟩
            | false=>
              have H:a.length=1:=by simpa using B
              have K:k<l.length:=by omega
              refine ⟨l[k],by simp [pack,L,K],(λh=>by cases h),λ_=>?_⟩;simp only [cut,H];rw [List.drop_eq_getElem_cons K];rfl
          obtain ⟨v1,p1,q1,r1⟩:=pk l Y;obtain ⟨v2,p2,q2,r2⟩:=pk m X;obtain ⟨c1,s1,t1⟩:=uH (P:=P) G hq B hl Z p1;obtain ⟨c2,s2,t2⟩:=uH (P:=P) G hq B E F p2;have hev:Ez ag a v1 v2=AC b1:=by
            cases ag with
            | true=>rw [q1 rfl,q2 rfl];simpa [Ez,cut] using Q
            | false=>
              simp only [Ez,Af,if_false];rw [<-r1 rfl,<-r2 rfl];exact Q
          have J:=ih ha G t1 t2 hev;simp only [Op.eqFields,hn,ne_eq,not_false_eq_true,if_true,Sem.run_bind,s1,s2,Result.andThen_ok,J,Sem.run_ite];cases b1 with
          | false=>simp at O;simp [O]
          | true=>
            simp at O;subst O;simp only [Bool.not_true,Af,if_false];refine Jwt ih hr hl Z E F (by simpa [List.drop_drop] using e2) (by simp at H;omega) (by simp at N;omega)
        . cases A
      . cases A
    . cases A
theorem Ju6:∀(n d:AM) {t:TypeId} {sh:AG AN} {ag:AN} {x y:AV} {cx cy:Value} {b:AN},n<=d->EU P n t=AC sh->Cn P t=AC ag ->
    AX w S h μ x cx->AX w S h μ y cy->Ez ag sh x y=AC b->(Op.equalIn d t cx cy).run P w=.ok b w
  | 0,_,_,_,_,_,_,_,_,_,_,h,_,_,_,_=>by simp [EU] at h
  | n+1,0,_,_,_,_,_,_,_,_,hd,_,_,_,_,_=>by omega
  | n+1,d+1,t,sh,ag,x,y,cx,cy,b,hd,f,g,hx,F,r=>by
    unfold EU at f;unfold Cn at g;split at f
    . rename_i A
      rw [A] at g;simp at g;injection f with f;subst f g;simp only [Ez,Af,if_false,J9] at r;split at r
      . rename_i a c v E
        injection r with r;injection E with E;subst E;unfold LA at v;split at v
        . cases ‹AE=AF›
        . injection v with v
          rw [hx.Ca,F.Ca];simp only [Op.equalIn,Sem.run_bind,run_underlying A,Result.andThen_ok,Sem.run_pure];rw [<-r,<-v,Bool.and_true]
        . cases v
      . cases r
    . rename_i k A
      rw [A] at g;simp at g;injection f with f;subst f g;simp only [Ez,Af,if_false,J9] at r;split at r
      . rename_i a c v E
        injection r with r;injection E with E;subst E;unfold LA at v;split at v
        . split at v
          . rename_i L
            subst L;injection v with v;rw [hx.BI,F.BI];simp only [Op.equalIn,Sem.run_bind,run_underlying A,Result.andThen_ok,if_true,Sem.run_pure];rw [<-r,<-v,Bool.and_true]
          . cases v
        . cases ‹AF=AE›
        . cases v
      . cases r
    . rename_i fs A
      rw [A] at g;simp at g;subst g;split at f
      . cases f
      . rename_i G
        simp only [Ez,if_true] at r;split at r
        . rename_i l m
          obtain ⟨cs,rfl,hl,M⟩:=hx.CB;obtain ⟨cs',rfl,H,J⟩:=F.CB;have K:P.fieldsOf t=fs:=by simp [Program.fieldsOf,A]
          rw [run_equalIn_struct w d t cs cs' (by rw [K];exact A) (by simpa using G),K];have B:=yj r;refine Jwt (λhx F=>Ju6 n d (by omega) hx F) f hl M H J (by simp;exact r) (by simp [B]) (by simp [B])
        . cases r
    . cases f
theorem Kbx{t:TypeId}{ag ne:AN}{sh:AG AN}(g:qU P t=AC (ag,sh))(B:∀k,P.underlying t≠AC (.int k)){x y:AV}{cx cy:Value}{X Y:Operand}{b:AN}(hx:AX w S h μ x cx)(v:AX w S h μ y cy)(d:Ez ag sh x y=AC b) :
    (eqGuard (if ne then .neq else .eql) t X Y cx cy).run P w=.ok () w/\(binOp (if ne then .neq else .eql) t cx cy).run P w=.ok (.bool (if ne then !b else b)) w:=by
  unfold qU at g;split at g
  . rename_i sh' ag' m r
    split at g
    . cases g
    . rename_i F
      simp at g;obtain ⟨rfl,rfl⟩:=g;have f:=Ju6 6 10000 (by omega) m r hx v d;cases ag' with
      | true=>
        simp only [Ez,if_true] at d;split at d
        . obtain ⟨cs,rfl,_⟩:=hx.CB
          obtain ⟨cs',rfl,_⟩:=v.CB;refine ⟨run_eqGuard_agg w _ t X Y cs cs' (by simpa using F),?_⟩;cases ne with
          | true=>simp only [if_true];rw [run_neq_struct,f];rfl
          | false=>simp only [Af,if_false];rw [run_eql_struct,f];rfl
        . cases d
      | false=>
        simp only [Ez,Af,if_false] at d
        match sh',d with
        | s::[],d=>
          simp only [J9] at d;split at d
          . rename_i a c l E
            injection d with d;injection E with E;subst E;unfold LA at l;split at l
            . exfalso
              unfold EU at m;split at m
              . simp at m
              . rename_i k A;exact B k A
              . rename_i fs A;unfold Cn at r;rw [A] at r;simp at r
              . cases m
            . injection l with l
              have H:=hx.Ca;have G:=v.Ca;subst H G;refine ⟨by simp [go_sem],?_⟩;cases ne with
              | true=>simp only [if_true];simp [binOp,Op.equal,Op.maxDepth,f]
              | false=>simp only [Af,if_false];simp [binOp,Op.equal,Op.maxDepth,f]
            . cases l
          . cases d
        | [],d=>simp [J9] at d
        | _::_::_,d=>simp [J9] at d
  . cases g
def lq(w:World)(S:AM->Prop)(h:Heap)(μ:Gh):AH AV->AH Value->Prop
  | none,AD=>True
  | some x,AC c=>AX w S h μ x c
  | _,_=>False
theorem uj{len cap:AM}{lo hi:AH AV}{clo chi:AH Value}(d:lq w S h μ lo clo)(g:lq w S h μ hi chi){a b:AI}(f:JV 0 lo=AC a)(m:JV len hi=AC b)
    (v:0<=a) (r:a<=b) (B:b<=len) (A:len<=cap):(Instr.sliceBounds AE len cap clo chi AD).run P w=.ok (a.toNat,b.toNat,cap) w:=by
  have bd:∀(y:AM) (code:BoundsCode) (k:IntKind) (n:AI),0<=n->n<=y->(Instr.sliceBound (.int k n) y code).run P w=.ok n.toNat w:=λy code k n F E=>by simp [Instr.sliceBound,asIntOf,F,E]
  cases hi with
  | none=>cases chi with
    | some c=>exact g.elim
    | none=>
      simp [JV] at m;cases lo with
      | none=>cases clo with
        | some c=>exact d.elim
        | none=>
          simp [JV] at f;subst f m;simp [Instr.sliceBounds]
      | some x=>cases clo with
        | none=>exact d.elim
        | some c=>
          cases x<;>simp [JV] at f;have e:=AX.BI d;subst e f m;simp [Instr.sliceBounds,bd len _ _ _ v r]
  | some x=>cases chi with
    | none=>exact g.elim
    | some c=>
      cases x<;>simp [JV] at m;have e:=AX.BI g;subst e m;rename_i kb nb;have l:=bd cap .sliceAcap kb nb (by omega) (by omega);cases lo with
      | none=>cases clo with
        | some c=>exact d.elim
        | none=>
          simp [JV] at f;subst f;simp [Instr.sliceBounds,l]
      | some x=>cases clo with
        | none=>exact d.elim
        | some c=>
          cases x<;>simp [JV] at f;have e:=AX.BI d;subst e f;simp [Instr.sliceBounds,l,bd nb.toNat .sliceB _ _ v (by omega)]
theorem Jzz{t e:TypeId}{n:AM}(L:P.underlying t=AC (.slice e))(M:FJ P e=AC n){x v:AV}{cx:Value}{lo hi:AH AV}{clo chi:AH Value}(hr:AX w S h μ x cx)
    (r:lq w S h μ lo clo) (y:lq w S h μ hi chi) (d:Ir h n x lo hi=AC v):∃cv,(Instr.sliceAt t cx clo chi AD).run P w=.ok cv w/\AX w S h μ v cv:=by
  unfold Ir at d;split at d
  . rename_i m l
    split at d
    . rename_i a b K G
      split at d
      . rename_i J
        obtain ⟨H,E,B,hll⟩:=J;injection d with d;subst d;cases hr with
        | pure hp=>
          cases hp with
          | FQ=>
            have Z:b=0:=by omega
            have ha':a=0:=by omega
            subst Z ha';have f:=uj (P:=P) (len:=0) (cap:=0) r y K G H E B (Ab _);exact ⟨.slice AD 0 0,by simp [Instr.sliceAt,run_underlying L,Instr.slice,f,K5 M],by simpa [cut] using AX.pure AY.FQ⟩
          | CF _ _ ad cap cv hs X J h1 hr=>
            have f:=uj (P:=P) (len:=m) (cap:=cap) r y K G H E B X;refine ⟨.slice (AC (if cap=a.toNat then ad else ad.add (a.toNat * n))) (b.toNat - a.toNat) (cap - a.toNat),?_,.pure ?_⟩
            . simp only [Instr.sliceAt,Sem.run_bind,run_underlying L,Result.andThen_ok,Instr.slice,f,K5 M,Sem.run_pure]
              split<;>simp
            . rw [show (b - a).toNat=b.toNat - a.toNat by omega]
              have G:∀k,(ad.add k).block=ad.block:=λk=>by unfold Addr.add;split<;>rfl
              by_cases O:cap=a.toNat
              . have hz:b.toNat - a.toNat=0:=by omega
                rw [hz];simp only [Bf,cut,List.take_zero,O,if_true];exact .CF 0 [] ad _ (λ_=>undef) (λH=>(H rfl).elim) (by omega) (λi x hi=>by simp at hi) (λi x hi=>by simp at hi) (λi x hi=>by simp at hi)
              . rw [AR O]
                have key:∀i x,(cut l (a.toNat * n) ((b.toNat - a.toNat) * n))[i]?=AC x->l[a.toNat * n+i]?=AC x:=λi x hi=>by
                  simp only [cut,Aj,Ak] at hi;split at hi
                  . exact hi
                  . cases hi
                exact .CF _ _ _ _ (λi=>cv (a.toNat * n+i)) (λH=>by rw [G];exact hs (by rintro rfl;simp [cut] at H)) (by omega) (λi x hi=>by rw [wQ];exact J _ x (key i x hi)) (λi x hi=>h1 _ x (key i x hi)) (λi x hi=>hr _ x (key i x hi))
      . cases d
    . cases d
  . rename_i g ver off len
    split at d
    . rename_i a b K G
      split at d
      . rename_i J
        obtain ⟨H,E,B,N⟩:=J;injection d with d;subst d;obtain ⟨el,cells,fz,Q⟩:=Jvk N;by_cases F:cells=[]
        . obtain ⟨rfl,rfl,A,rfl⟩:=(hr.DF Q).1 F
          have f:=uj (P:=P) (len:=0) (cap:=0) r y K G H E B (Ab _);obtain rfl:a=0:=by omega
          obtain rfl:b=0:=by omega
          refine ⟨.slice A 0 0,?_,.arr _ _ _ _ _ _ Q (Ab _) rfl λ_=>⟨n,el,cells,fz,rfl,λ_=>⟨rfl,rfl,A,rfl⟩,λq=>(q F).elim⟩⟩;cases A<;>simp [Instr.sliceAt,run_underlying L,Instr.slice,f,K5 M]
        obtain ⟨ad,cap,cs,el',z,rfl,hl,Y,R,had⟩:=hr.EF Q F;have f:=uj (P:=P) (len:=len) (cap:=cap) r y K G H E B hl.1;refine ⟨.slice (AC (if cap=a.toNat then ad else ad.add (a.toNat * n))) (b.toNat - a.toNat) (cap - a.toNat),?_,?_⟩
        . simp only [Instr.sliceAt,Sem.run_bind,run_underlying L,Result.andThen_ok,Instr.slice,f,K5 M,Sem.run_pure]
          split<;>simp
        . rw [show (b - a).toNat=b.toNat - a.toNat by omega]
          refine .arr _ _ _ _ _ _ Q (Ab _) rfl λ_=>⟨n,el,cells,fz,rfl,λe=>(F e).elim,λ_=>⟨_,_,cs,el',z,rfl,by omega,Y,?_,λhpos=>?_⟩⟩
          . have:off+a.toNat+(cap - a.toNat)=off+cap:=by omega
            rw [this];exact R
          . rw [AR (by omega),had (by omega),Addr.add_lit,Ac,Ah]
      . cases d
    . cases d
  . split at d
    . rename_i a b K G
      split at d
      . rename_i J
        obtain ⟨rfl,rfl⟩:=J;injection d with d;subst d;rw [hr.CW];have f:=uj (P:=P) (len:=0) (cap:=0) r y K G (by omega) (by omega) (by omega) (Ab _);exact ⟨.slice AD 0 0,by simp [Instr.sliceAt,run_underlying L,Instr.slice,f,K5 M],.pure .BK⟩
      . cases d
    . cases d
  . cases d
end
theorem Jsa(cs:Array Value)(i j:AM)(v:Value):(cs.setIfInBounds i v).getD j undef=if i=j/\i<cs.size then v else cs.getD j undef:=by
 by_cases a:i=j
 .subst a;by_cases hi:i<cs.size
  .simp [hi]
  .simp [hi]
 .simp [a,Array.getElem?_setIfInBounds_ne]
theorem J92(off:AM):∀(l:AG Value) (k:AM) (cs:Array Value),off+k+l.length<=cs.size ->
  ((l.zipIdx k).foldl (λcs (p:Value×AM)=>cs.setIfInBounds (off+p.2) p.1) cs).size=cs.size /\
  ∀i,((l.zipIdx k).foldl (λcs (p:Value×AM)=>cs.setIfInBounds (off+p.2) p.1) cs).getD i undef=if off+k<=i/\i<off+k+l.length then l.getD (i - (off+k)) undef else cs.getD i undef
 | [],k,cs,_=>⟨rfl,λi=>by simp;omega⟩
 | v::l,k,cs,h=>by
  simp only [List.length_cons] at h;simp only [List.zipIdx_cons,List.foldl_cons];obtain ⟨f,d⟩:=J92 off l (k+1) (cs.setIfInBounds (off+k) v) (by simp;omega);refine ⟨by rw [f];simp,λi=>?_⟩;rw [d i,Jsa];simp only [List.length_cons];by_cases hi:i=off+k
  .subst hi;rw [AR (by omega),AS ⟨rfl,by omega⟩,AS (by omega)];simp
  .by_cases a:off+(k+1)<=i/\i<off+(k+1)+l.length
   .rw [AS a,AS (by omega),show i - (off+k)=(i - (off+(k+1)))+1 by omega];simp
   .rw [AR a,AR (by omega),AR (by omega)]
theorem cZ{l new:AG AV}{off:AM}(h:off+new.length<=l.length):(paste l off new).length=l.length:=by simp [paste];omega
theorem dA{l new:AG AV}{off:AM}(h:off+new.length<=l.length)(i:AM):(paste l off new)[i]?=if off<=i/\i<off+new.length then new[i - off]? else l[i]?:=by
 unfold paste;by_cases a:i<off
 .rw [AR (by omega),Aw,Ae (by simp;omega),Aj,AS a]
 .by_cases d:i<off+new.length
  .rw [AS (by omega),Aw,Ad (by simp;omega),Ae (by simp;omega)]
   congr 1
   simp;omega
  .rw [AR (by omega),Ad (by simp;omega),Ak]
   congr 1
   simp;omega
section
variable {w:World} {S:AM->Prop} {h:Heap} {μ:Gh} {P:Program}
theorem Holds.paste{l new:AG AV}{cs vs r:Array Value}{off:AM}(hl:Holds w S h μ l cs)(g:Holds w S h μ new vs)(a:vs.size=new.length)(d:off+new.length<=l.length)
  (hr:∀i,r.getD i undef=if off<=i/\i<off+vs.size then vs.getD (i - off) undef else cs.getD i undef):Holds w S h μ (paste l off new) r:=by
 intro i x hi;rw [dA d] at hi;rw [hr i,a];split
 .rename_i f;rw [AS f] at hi;exact g _ x hi
 .rename_i f;rw [AR f] at hi;exact hl _ x hi
def jM(ev:LO->AV)(w:World)(S:AM->Prop)(h:Heap)(μ:Gh)(place:AM->AH (AM×AM)):AG (AM×AM×LO)->AG (AM×Value)->Prop
 | [],[]=>True
 | (off,n,x)::r,(i,v)::a=>place i=AC (off,n)/\AX w S h μ (ev x) v/\jM ev w S h μ place r a
 | _,_=>False
theorem yV{ev:LO->AV}{place:AM->AH (AM×AM)}:∀ {ps:AG (AM×AM×LO)} {cp:AG (AM×Value)} {z l:AG AV} {cs:Array Value},jM ev w S h μ place ps cp ->
  Holds w S h μ z cs->z.length=cs.size->Ml ev z ps=AC l->∃r,Instr.fill place cs cp=AC r/\Holds w S h μ l r/\l.length=r.size/\r.size=cs.size
 | [],[],z,l,cs,_,y,hl,a=>by simp [Ml] at a;subst a;exact ⟨cs,rfl,y,hl,rfl⟩
 | (off,n,x)::r,(i,v)::r',z,l,cs,g,y,hl,a=>by
  obtain ⟨K,J,H⟩:=g;unfold Ml at a;split at a
  .rename_i c G;split at a
   .rename_i A;obtain ⟨Q,E⟩:=A;obtain ⟨hs,F⟩:=J.cells G;have m:=J92 off v.cells.toList 0 cs (by simp;omega);have d:v.cells.zipIdx.foldl (λcs (p:Value×AM)=>cs.setIfInBounds (off+p.2) p.1) cs=(v.cells.toList.zipIdx 0).foldl (λcs (p:Value×AM)=>cs.setIfInBounds (off+p.2) p.1) cs:=by rw [<-Array.foldl_toList];simp
    rw [<-d] at m;obtain ⟨B,P⟩:=m;have f:=y.paste F hs (off:=off) (by omega) (r:=v.cells.zipIdx.foldl (λcs (p:Value×AM)=>cs.setIfInBounds (off+p.2) p.1) cs) (λj=>by rw [P j];simp);obtain ⟨rr,O,N,M,L⟩:=yV H f (by rw [cZ (by omega),B];exact hl) a;refine ⟨rr,?_,N,M,L.trans B⟩;unfold Instr.fill;rw [K];simp only;rw [AR (by simp;omega)];exact O
   .cases a
  .cases a
 | [],_::_,_,_,_,g,_,_,_=>g.elim
 | _::_,[],_,_,_,g,_,_,_=>by simp [jM] at g
theorem jD{t:TypeId}{z:AG AV}(a:zc P t=AC z):∃i v,P.info? t=AC i/\i.zero=AC v/\JE v.cells.toList=AC z/\z.length=i.size/\v.cells.size=i.size:=by
 unfold zc at a;split at a
 .rename_i i hi;split at a
  .rename_i v f;split at a
   .rename_i l hl;split at a
    .rename_i d;injection a with a;subst a;have:=(xO (w:=default) (S:=λ_=>False) hl).1;exact ⟨i,v,hi,f,hl,d,by rw [<-d,this];simp⟩
    .cases a
   .cases a
  .cases a
 .cases a
theorem Jsg{g k:AM}{o o':AU}(E:BJ w S h μ)(K:h g=AC o)(R:o.ver<o'.ver)(hl:o'.live=AE->o.live=AE/\o.fz=AF)
  (H:∀h' μ',CY w S h μ w S h' μ'->Cg h μ h' μ'->μ'.o g=k->μ'.b g=μ.b g->ER w S h' μ' (μ.b g) k o') :
  BJ w S (upd h g (AC o')) (μ.set g (μ.b g) k)/\CY w S h μ w S (upd h g (AC o')) (μ.set g (μ.b g) k)/\Cg h μ (upd h g (AC o')) (μ.set g (μ.b g) k):=by
 have v:∀f,(μ.set g (μ.b g) k).b f=μ.b f:=λf=>by
  by_cases m:f=g
  .subst m;simp [Gh.set,Jg]
  .simp [Gh.set,Jd _ _ _ _ m]
 have back:∀f l,upd h g (AC o') f=AC l->l.live=AE->∃r,h f=AC r/\r.live=AE/\(l.fz=AF->r.fz=AF):=λf l h' G=>by
  by_cases m:f=g
  .subst m;rw [Jg] at h';injection h' with h';subst h';exact ⟨o,K,(hl G).1,λ_=>(hl G).2⟩
  .rw [Jd _ _ _ _ m] at h';exact ⟨l,h',G,λq=>q⟩
 have ev:CY w S h μ w S (upd h g (AC o')) (μ.set g (μ.b g) k):=by refine ⟨rfl,rfl,⟨rfl,Ab _⟩,Ab _,λ_ _ _=>rfl,λ_ cs _ _ O=>⟨cs,O,rfl⟩,λ_ h=>h,λ_ h=>.inl h,?_,rfl⟩;rintro b ⟨f,l,d,y,A,e⟩;rw [v] at e;obtain ⟨r,F,B,J⟩:=back f l d A;exact .inl ⟨f,r,F,J y,B,e⟩
 have vv:Cg h μ (upd h g (AC o')) (μ.set g (μ.b g) k):=by
  intro f l d;by_cases m:f=g
  .subst m;rw [K] at d;injection d with e;subst e;exact ⟨o',Jg _ _ _,by omega,λe=>by omega⟩
  .exact ⟨l,by rw [Jd _ _ _ _ m];exact d,Ab _,λ_=>⟨⟨v _,by simp [Gh.set,Jd _ _ _ _ m]⟩,.refl l⟩⟩
 refine ⟨⟨λf l d=>?_,λM L l r Q F N B e=>?_,λf l d y A=>?_,E.lt⟩,ev,vv⟩
 .rw [v];by_cases m:f=g
  .subst m;rw [Jg] at d;injection d with e;subst e;have:=H _ _ ev vv (by simp [Gh.set,Jg]) (v _);simpa only [Gh.set,Jg] using this
  .rw [Jd _ _ _ _ m] at d;have:=(E.ob f l d).Cz E ev vv (λ_=>rfl);simpa only [Gh.set,Jd _ _ _ _ m] using this
 .rw [v,v] at e;obtain ⟨a,P,la,_⟩:=back M l Q N;obtain ⟨b,v,lb,_⟩:=back L r F B;exact E.inj M L a b P v la lb e
 .rw [v];obtain ⟨r,F,B,J⟩:=back f l d A;exact E.own f r F (J y) B
theorem cO{g:AM}{o:AU}{cells:AG AV}{cs:Array Value}{el:TypeId}(l:BJ w S h μ)(a:o.ver=Kh h g\/Kh h g<o.ver)
  (r:Holds w S h μ cells cs) (m:(∃v,o=.box v cells/\cs.size=cells.length)\/(∃v esz,o=.arr v esz el cells AF/\cells.length<=cs.size)) :
  BJ (w.alloc (.cells cs el)) S (upd h g (AC o)) (μ.set g w.heap.size 0)/\CY w S h μ (w.alloc (.cells cs el)) S (upd h g (AC o)) (μ.set g w.heap.size 0)/\Cg h μ (upd h g (AC o)) (μ.set g w.heap.size 0):=by
 obtain ⟨ev,vv⟩:=Jzp (w:=w) (S:=S) (h:=h) (μ:=μ) g o (.cells cs el) a;refine ⟨J2j l a ?_,ev,vv⟩;have d:=heap_alloc_new w (.cells cs el);have f:=(r.Cz l ev vv).iI;rcases m with ⟨v,rfl,hs⟩|⟨v,esz,rfl,hs⟩
 .exact ⟨cs,el,d,by omega,f⟩
 .exact λ_=>⟨cs,d,by omega,f,λe=>by cases e⟩
theorem Jpr{g:AM}{cells:AG AV}{w':World}:AX w' S (upd h g (AC (.box (Kh h g) cells))) (μ.set g w.heap.size 0) (.ptr g (Kh h g) 0) (.pointer (AC ⟨w.heap.size,0,AD⟩)):=
 .ptr _ _ _ _ _ (Jg _ _ _) (Ab _) rfl λ_=>by simp [Gh.set,Jg]
theorem uS{g v esz n cap:AM}{el:TypeId}{cells:AG AV}{cs:Array Value}(d:n<=cap/\cap<=9223372036854775807)(f:cap * esz<=cs.size)(a:cells=[]->cap=0) :
  AX (w.alloc (.cells cs el)) S (upd h g (AC (.arr v esz el cells AF))) (μ.set g w.heap.size 0) (.arr g v 0 n) (.slice (AC ⟨w.heap.size,0,AD⟩) n cap):=
 .arr _ _ _ _ _ _ (Jg _ _ _) (Ab _) rfl λ_=>⟨esz,el,cells,AF,rfl,λe=>⟨rfl,by have:=a e;omega,AC ⟨w.heap.size,0,AD⟩,by have l:=a e;subst l;rw [show n=0 by omega]⟩,λ_=>⟨_,_,cs,el,(0,0),rfl,d,by simp only [Gh.set,Jg];exact heap_alloc_new w _,by simpa [Gh.set,Jg] using f,λ_=>by simp [Gh.set,Jg]⟩⟩
def Ran(w:World)(S:AM->Prop)(h:Heap)(μ:Gh)(v:AV)(h':Heap)(cv:Value)(w':World):Prop:=
 ∃S' μ',AX w' S' h' μ' v cv/\BJ w' S' h' μ'/\CY w S h μ w' S' h' μ'/\Cg h μ h' μ'
theorem Ran.same{v:AV}{cv:Value}(a:BJ w S h μ)(hr:AX w S h μ v cv):Ran w S h μ v h cv w:=⟨S,μ,hr,a,.refl,.refl h μ⟩
theorem Jpm(f:BJ w S h μ){e:TypeId}{z:AG AV}(a:zc P e=AC z)(g:AM) :
  ∃cv w',(Instr.alloc e AE (.tuple #[])).run P w=.ok cv w'/\Ran w S h μ (.ptr g (Kh h g) 0) (upd h g (AC (.box (Kh h g) z))) cv w':=by obtain ⟨i,v,hi,d,hl,A,hs⟩:=jD a;have l:=nW (w:=w) (S:=S) (h:=h) (μ:=μ) hl;obtain ⟨y,r,m⟩:=cO (el:=e) (g:=g) (o:=.box (Kh h g) z) (cs:=v.cells) f (.inl rfl) (by simpa using l) (.inl ⟨_,rfl,by omega⟩);exact ⟨.pointer (AC ⟨w.heap.size,0,AD⟩),w.alloc (.cells v.cells e),by simp [Instr.alloc,zeroValue,typeInfo,hi,d,newVar,newRow],S,_,Jpr,y,r,m⟩
theorem Jw4(a:BJ w S h μ){e:TypeId}{x:AV}{cx:Value}{c:AG AV}(hr:AX w S h μ x cx)(f:x.cells=AC c)(g:AM) :
  ∃cv w',(Instr.box e cx).run P w=.ok cv w'/\Ran w S h μ (.ptr g (Kh h g) 0) (upd h g (AC (.box (Kh h g) c))) cv w':=by obtain ⟨hs,d⟩:=hr.cells f;obtain ⟨r,m,l⟩:=cO (el:=e) (g:=g) (o:=.box (Kh h g) c) (cs:=cx.cells) a (.inl rfl) d (.inl ⟨_,rfl,hs⟩);exact ⟨.pointer (AC ⟨w.heap.size,0,AD⟩),w.alloc (.cells cx.cells e),by simp [Instr.box,newVar,newRow],S,_,Jpr,r,m,l⟩
theorem yg{nt:AM}{σ:St}{a:Act}(hs:DN nt w S σ μ a){place:AM->AH (AM×AM)}:∀ {ps:AG (AM×Operand)} {l:AG (AM×AM×LO)},jL place ps=AC l ->
  jM σ.ev w S σ.h μ place l (ps.map λ(i,x)=>(i,a.eval x))
 | [],l,hl=>by simp [jL] at hl;subst hl;trivial
 | (i,x)::r,l,hl=>by
  unfold jL at hl;split at hl
  .rename_i off n y h g f d;injection hl with hl;subst hl;exact ⟨g,Jr hs f,yg hs d⟩
  .cases hl
theorem Jrc{t:TypeId}{z l:AG AV}{ev:LO->AV}{ps:AG (AM×AM×LO)}{cp:Array (AM×Value)}(H:zc P t=AC z)
  (hd:(∃fs pl,P.underlying t=AC (.struct fs)/\fs.toList.mapM (λf=>(P.info? f.type).map λi=>(f.offset,i.size))=AC pl/\jM ev w S h μ (λi=>pl[i]?) ps cp.toList) \/
   (∃n e i,P.underlying t=AC (.array n e)/\P.info? e=AC i/\jM ev w S h μ (λk=>AC (k * i.size,i.size)) ps cp.toList))
  (G:Ml ev z ps=AC l):∃cv,(Instr.build t cp).run P w=.ok cv w/\AX w S h μ (.agg l) cv:=by
 obtain ⟨i,v,hi,F,hl,J,hs⟩:=jD H;have d:=nW (w:=w) (S:=S) (h:=h) (μ:=μ) hl;have fin:∀ {r:Array Value},Holds w S h μ l r->l.length=r.size->AX w S h μ (.agg l) (.agg r):=λd hl=>.agg _ _ hl (λi x hi=>(d i x hi).2) (λi x hi=>(d i x hi).1);rcases hd with ⟨fs,pl,g,m,a⟩|⟨n,e,ie,g,y,a⟩
 .obtain ⟨r,E,B,A,_⟩:=yV a (by simpa using d) (by omega) G;refine ⟨.agg r,run_build w t cp r ?_,fin B A⟩;simp only [Program.built,hi,g,F,m];simpa using E
 .obtain ⟨r,E,B,A,_⟩:=yV a (by simpa using d) (by omega) G;refine ⟨.agg r,run_build w t cp r ?_,fin B A⟩;simp only [Program.built,hi,g,F,y];exact E
theorem ni(z:AG AV):∀n,(Zc z n).length=n * z.length
 | 0=>by simp [Zc]
 | n+1=>by simp [Zc,ni z n,Ac,Nat.add_comm]
theorem yX{z:AG AV}(a:0<z.length):∀(n i:AM),i<n * z.length->(Zc z n)[i]?=z[i % z.length]?
 | 0,i,h=>by simp at h
 | n+1,i,h=>by
  unfold Zc;by_cases hi:i<z.length
  .rw [Ae hi,Nat.mod_eq_of_lt hi]
  .rw [Ad (by omega),yX a n _ (by rw [Ac] at h;omega)]
   congr 1
   rw [<-Nat.mod_eq_sub_mod (by omega)]
theorem Jr9{z:AG AV}{zv:Array Value}(g:Holds w S h μ z zv)(hs:zv.size=z.length)(d:0<z.length)(n:AM) :
  Holds w S h μ (Zc z n) ((Array.range (n * z.length)).map (zv[· % zv.size]!)):=by
 intro i x hi;have a:i<n * z.length:=by have:=(Aa.1 hi).1;rwa [ni] at this
 rw [yX d n i a] at hi;have:=g _ x hi;have f:i % z.length<zv.size:=by rw [hs];exact Nat.mod_lt _ d
 have e:((Array.range (n * z.length)).map (zv[· % zv.size]!)).getD i undef=zv.getD (i % z.length) undef:=by
  have l:zv[i % z.length]! = zv[i % z.length]?.getD undef:=by rw [getElem!_pos zv _ f];simp [f]
  simp [a,hs,l]
 rw [e];exact this
theorem Jyu(K:BJ w S h μ){t e:TypeId}{n:AM}{i:TypeInfo}{z l:AG AV}{ev:LO->AV}{ps:AG (AM×AM×LO)}{cp:Array (AM×Value)}(F:P.underlying t=AC (.slice e))(hi:P.info? e=AC i)(G:zc P e=AC z)
  (J:n * i.size<=16777216) (A:0<i.size) (y:jM ev w S h μ (λk=>AC (k * i.size,i.size)) ps cp.toList) (N:Ml ev (Zc z n) ps=AC l) (g:AM) :
  ∃cv w',(Instr.buildSlice t n cp).run P w=.ok cv w'/\Ran w S h μ (.arr g (Kh h g) 0 n) (upd h g (AC (.arr (Kh h g) i.size e l AF))) cv w':=by
 obtain ⟨i',v,a,H,hl,B,hs⟩:=jD G;rw [hi] at a;injection a with a;subst a;have L:=nW (w:=w) (S:=S) (h:=h) (μ:=μ) hl;have f:=Jr9 (zv:=v.cells) (by simpa using L) (by omega) (by omega) n;obtain ⟨r,E,g2,Z,Y⟩:=yV y f (by simp [ni]) N;have m:(Instr.buildSlice t n cp).run P w=.ok (.slice (AC ⟨w.heap.size,0,AD⟩) n n) (w.alloc (.cells r e)):=by
  rcases Am n with d|d
  .subst d;have M:Instr.fill (λk=>AC (k * i.size,i.size)) #[] cp.toList=AC r:=by simpa [Array.range_zero'] using E
   simp [Instr.buildSlice,run_underlying F,sizeOf,typeInfo,hi,newRow,M,Array.range_zero']
  .exact run_buildSlice w t e n cp r i v F hi H (by omega) (by have:=Nat.mul_pos d A;omega) (by rw [<-B];rw [<-B] at E;exact E)
 have hr:r.size=n * i.size:=by rw [Y];simp [B]
 obtain ⟨X,R,Q⟩:=cO (el:=e) (g:=g) (o:=.arr (Kh h g) i.size e l AF) (cs:=r) K (.inl rfl) g2 (.inr ⟨_,_,rfl,by omega⟩);exact ⟨_,_,m,S,_,uS ⟨Ab _,Aq (Nat.le_mul_of_pos_right n A) (by omega)⟩ (by omega) (λe=>by
  subst e;have:n * i.size=0:=by rw [<-hr];simpa using Z.symm
  rcases Ay.1 this with O|O<;>omega),X,R,Q⟩
theorem J8m(L:BJ w S h μ){t e:TypeId}{i:TypeInfo}{z:AG AV}(K:P.underlying t=AC (.slice e))(hi:P.info? e=AC i)(H:zc P e=AC z)(N:0<i.size){k k':IntKind}{n m:AI}
  (h0:0<=n) (E:n<=m) (B:n=0->m=0) (Q:m * i.bytes<=room) (M:m<=9223372036854775807) (g:AM) :
  ∃cv w',(Instr.makeSlice t (.int k n) (.int k' m)).run P w=.ok cv w'/\Ran w S h μ (.arr g (Kh h g) 0 n.toNat) (upd h g (AC (.arr (Kh h g) i.size e (Zc z n.toNat) AF))) cv w':=by
 obtain ⟨i',v,a,J,hl,G,hs⟩:=jD H;rw [hi] at a;injection a with a;subst a;have O:=nW (w:=w) (S:=S) (h:=h) (μ:=μ) hl;have d:=Jr9 (zv:=v.cells) (by simpa using O) (by omega) (by omega) m.toNat;have l:=run_make (P:=P) w t e i v K hi J k k' n m h0 E (by rw [Int.mul_comm];unfold room at Q;omega) M;have f:n.toNat<=m.toNat:=by omega
 have r:Holds w S h μ (Zc z n.toNat) (madeCells v.cells (m.toNat * i.size)):=by
  intro j x F;have A:j<n.toNat * z.length:=by have:=(Aa.1 F).1;rwa [ni] at this
  have y:j<m.toNat * z.length:=Nat.lt_of_lt_of_le A (Ag _ f);rw [yX (by omega) _ _ A] at F;have:=d j x (by rw [yX (by omega) _ _ y];exact F);rw [G] at this;exact this
 obtain ⟨Z,Y,X⟩:=cO (el:=e) (g:=g) (o:=.arr (Kh h g) i.size e (Zc z n.toNat) AF) (cs:=madeCells v.cells (m.toNat * i.size)) L (.inl rfl) r
  (.inr ⟨_,_,rfl,by rw [ni,size_madeCells,G];exact Ag _ f⟩)
 exact ⟨_,_,l,S,_,uS ⟨f,by omega⟩ (by rw [size_madeCells];exact Ab _) (λe=>by
  have:=ni z n.toNat;rw [e] at this;rcases Ay.1 this.symm with R|R
  .have:=B (by omega);omega
  .omega),Z,Y,X⟩
end
theorem Jkb(cur:Array Value)(vs:AG Value)(o:AM)(h:o+vs.length<=cur.size)(i:AM) :
  (cur.toList.take o++vs++cur.toList.drop (o+vs.length)).toArray.getD i undef=if o<=i/\i<o+vs.length then vs.getD (i - o) undef else cur.getD i undef:=by
 have hl:o+vs.length<=cur.toList.length:=by simpa using h
 have e:((cur.toList.take o++vs++cur.toList.drop (o+vs.length)).toArray.getD i undef)=(cur.toList.take o++vs++cur.toList.drop (o+vs.length))[i]?.getD undef:=by simp
 rw [e];by_cases a:i<o
 .rw [AR (by omega),Aw,Ae (by simp;omega),Aj,AS a];simp
 .by_cases f:i<o+vs.length
  .rw [AS (by omega),Aw,Ad (by simp;omega),Ae (by simp;omega)];simp only [List.getD_eq_getElem?_getD]
   congr 2
   simp;omega
  .rw [AR (by omega),Ad (by simp;omega),Ak];have d:(o+vs.length+(i - (cur.toList.take o++vs).length))=i:=by simp;omega
   rw [d];simp
section
variable {w:World} {S:AM->Prop} {h:Heap} {μ:Gh} {P:Program}
theorem Ct.paste{l new:AG AV}{cs vs r:Array Value}{o off:AM}(hl:Ct w S h μ o l cs)(f:Holds w S h μ new vs)(a:vs.size=new.length)(d:off+new.length<=l.length)
  (hr:∀i,r.getD i undef=if o+off<=i/\i<o+off+vs.size then vs.getD (i - (o+off)) undef else cs.getD i undef):Ct w S h μ o (paste l off new) r:=by
 intro i x hi;rw [dA d] at hi;rw [hr (o+i),a];split at hi
 .rename_i g;rw [AS (by omega),show o+i - (o+off)=i - off by omega];exact f _ x hi
 .rename_i g;rw [AR (by omega)];exact hl _ x hi
theorem Jug{c:AG AV}{vs:Array Value}(f:Holds w S h μ c vs)(hs:vs.size=c.length):∀v∈vs.toList,v.oneCell'=AE:=by
 intro v d;obtain ⟨i,hi,e⟩:=List.getElem_of_mem d;have a:i<vs.size:=by simpa using hi
 have:=(f i c[i] (Av (by omega))).2;rw [show vs.getD i undef=v by simp [a];simpa using e] at this;exact this
theorem Jqn(Q:BJ w S h μ){t:TypeId}{n:AM}(hn:FJ P t=AC n){x y:AV}{cx cy:Value}{h':Heap}(hx:AX w S h μ x cx)(hy:AX w S h μ y cy)(d:Sl h n x y=AC h') :
  ∃w',(Instr.storeAt t cx cy).run P w=.ok () w'/\Ran w S h μ .any h' undef w':=by
 unfold Sl at d;split at d
 .rename_i g ver off c hc;obtain ⟨hs,hh⟩:=hy.cells hc;split at d
  .rename_i hcn;subst hcn;have go:∀(o o':AU) (cells:AG AV) (cs:Array Value) (el:TypeId),h g=AC o->o.fz=AF->o.live=AE->o'.ver=o.ver->o.like o'->ver=o.ver->w.heap[μ.b g]?=AC (.cells cs el (0,0))->μ.o g+cells.length<=cs.size->Ct w S h μ (μ.o g) cells cs ->
     off+c.length<=cells.length ->
     (∀r:Array Value,r.size=cs.size->∀S' h' μ' w',w'.heap[μ.b g]?=AC (.cells r el (0,0))->Ct w' S' h' μ' (μ.o g) (paste cells off c) r->ER w' S' h' μ' (μ.b g) (μ.o g) o') ->
     ∃w',(Instr.storeAt t cx cy).run P w=.ok () w'/\Ran w S h μ .any (upd h g (AC o')) undef w':=by
    intro o o' cells cs el A Y X hov H N L m a f R;have Z:=hx.Ej (by simp [cur,A,N]);subst Z;have G:=run_storeCells_at P (μ.b g) (μ.o g+off) el cy.cells.toList 0 cs w L (by simp;omega) (Jug hh hs);simp only [Bg] at G;have E:=Jkb cs cy.cells.toList (μ.o g+off) (by simp;omega);generalize hr:(cs.toList.take (μ.o g+off)++cy.cells.toList++cs.toList.drop (μ.o g+off+cy.cells.toList.length)).toArray=r at G E;have O:r.size=cs.size:=by rw [<-hr];simp;omega
    have F:∀old el' z,w.heap[μ.b g]?=AC (.cells old el' z)->r.size=old.size:=λold el' z e=>by rw [L] at e;injection e with e;injection e with e;subst e;exact O
    have M:o.ver<o'.ver\/o.ver=o'.ver/\μ.o g=μ.o g/\o.like o':=.inr ⟨hov.symm,rfl,H⟩;obtain ⟨ev,vv⟩:=wF (S:=S) A Y X M F;have v:=(a.Cz Q ev vv).paste (hh.Cz Q ev vv) hs f (r:=r) (λi=>by rw [E i];simp);have l:=setRow_heap w (μ.b g) cs r el (0,0) L;refine ⟨w.setRow (μ.b g) r,?_,S,_,.any _,Juc Q A Y X M F (R r O _ _ _ _ l v),ev,vv⟩;simp [Instr.storeAt,Instr.sureAddr,storeVar,K5 hn,hs,G]
   split at d
   .rename_i ver' cells A;split at d
    .rename_i K;obtain ⟨rfl,f⟩:=K;injection d with d;subst d;obtain ⟨cs,el,L,m,a⟩:=Q.ob g _ A;exact go _ (.box ver _) cells cs el A rfl rfl rfl rfl rfl L m a f (λr hr S' h' μ' w' l J=>⟨r,el,l,by rw [cZ f];omega,J⟩)
    .cases d
   .rename_i ver' esz el cells A;split at d
    .rename_i K;obtain ⟨rfl,f,B⟩:=K;injection d with d;subst d;obtain ⟨cs,L,m,a,_⟩:=Q.ob g _ A B;have hpn:paste cells off c≠[]:=λe=>B (by have:=cZ f;rw [e] at this;exact Az this.symm);exact go _ (.arr ver esz el _ AF) cells cs el A rfl (Kz.2 B) rfl ⟨rfl,rfl,λe=>(B e).elim,λe=>(hpn e).elim⟩ rfl L m a f (λr hr S' h' μ' w' l J=>λ_=>⟨r,l,by rw [cZ f];omega,J,λe=>by cases e⟩)
    .cases d
   .cases d
  .cases d
 .cases d
theorem Jp7(Y:BJ w S h μ){esz:AM}{y:AV}{cy:Value}{m:AI}{new:AG AV}(J:AX w S h μ y cy)(F:Cw h y=AC m)(d:Iq h esz y=AC new) :
  ∃(n:AM) (A:AH Addr) (c:AM),m=n/\cy=.slice A n c/\new.length=n * esz/\(A=AD->n=0/\c=0)/\∀a,A=AC a->∀i x,new[i]?=AC x->∃v,w.cell? (a.add i)=AC v/\v.oneCell'=AE/\AX w S h μ x v:=by
 unfold Iq at d;split at d
 .simp [Cw] at F;injection d with d;subst d F;exact ⟨0,AD,0,rfl,J.CW,by simp,λ_=>⟨rfl,rfl⟩,λa B=>by cases B⟩
 .rename_i n l;simp [Cw] at F;split at d
  .rename_i hl;injection d with d;subst d F;cases J with
   | pure L=>
    cases L with
    | FQ=>exact ⟨0,AD,0,rfl,rfl,by simp,λ_=>⟨rfl,rfl⟩,λa B=>by cases B⟩
    | CF _ _ a cap cv hs hn O Z hr=>exact ⟨n,AC a,cap,rfl,rfl,hl,(λe=>by cases e),λa' B i x hi=>by injection B with B;subst B;exact ⟨cv i,O i x hi,Z i x hi,.pure (hr i x hi)⟩⟩
  .cases d
 .rename_i g ver off len;split at d
  .rename_i ver' esz' el cells fz K;split at d
   .rename_i O;obtain ⟨rfl,rfl,N⟩:=O;injection d with d;subst d;simp [Cw,Zq,K] at F;subst F;by_cases r:cells=[]
    .obtain ⟨rfl,rfl,A,rfl⟩:=(J.DF K).1 r;exact ⟨0,A,0,rfl,rfl,by simp [cut],λ_=>⟨rfl,rfl⟩,λa _ i x hi=>by simp [cut] at hi⟩
    obtain ⟨a,cap,cs,el',z,rfl,hl,hb,X,B⟩:=J.EF K r;obtain ⟨cs',P,Q,f,_⟩:=Y.ob g _ K r;refine ⟨len,AC a,cap,rfl,rfl,by simp [cut];rw [Ac] at N;omega,(λe=>by cases e),λa' E i x hi=>?_⟩;injection E with E;subst E;simp only [cut,Aj,Ak] at hi;split at hi
    .rename_i M;have G:0<cap:=by
      rcases Am len with R|R
      .subst R;simp at M
      .omega
     have H:μ.o g+(off * esz+i)<cs'.size:=by have:=(Aa.1 hi).1;omega
     refine ⟨cs'.getD (μ.o g+(off * esz+i)) undef,?_,(f _ x hi).2,(f _ x hi).1⟩;rw [B G,jP P,Ah,getD_some H]
    .cases hi
   .cases d
  .cases d
 .cases d
def Yx(w:World)(a:Addr)(n:AM):AG Value:=(List.range n).map λi=>(w.cell? (a.add i)).getD undef
theorem J6a{a:Addr}{n i:AM}{v:Value}(h:(Yx w a n)[i]?=AC v)(f:∃u,w.cell? (a.add i)=AC u):w.cell? (a.add i)=AC v:=by
 obtain ⟨u,d⟩:=f;simp only [Yx,List.getElem?_map] at h;cases hr:(List.range n)[i]? with
 | none=>rw [hr] at h;cases h
 | some j=>
  rw [hr] at h;have:j=i:=by have:=Aa.1 hr;obtain ⟨l,g⟩:=this;simpa using g.symm
  subst this;simp [d] at h;rw [d,h]
theorem um{a:Addr}{l:AG AV}(f:∀(i:AM) (x:AV),l[i]?=AC x->∃v,w.cell? (a.add i)=AC v/\v.oneCell'=AE/\AX w S h μ x v):Holds w S h μ l (Yx w a l.length).toArray:=by
 intro i x hi;obtain ⟨v,r,m,g⟩:=f i x hi;have d:=(Aa.1 hi).1;have e:(Yx w a l.length).toArray.getD i undef=v:=by simp [Yx,d,r]
 rw [e];exact ⟨g,m⟩
theorem uq{a:Addr}{l:AG AV}(g:∀(i:AM) (x:AV),l[i]?=AC x->∃v,w.cell? (a.add i)=AC v/\v.oneCell'=AE/\AX w S h μ x v) :
  (Yx w a l.length).length=l.length/\∀j v,(Yx w a l.length)[j]?=AC v->w.cell? (a.add j)=AC v:=by
 refine ⟨by simp [Yx],λj v f=>J6a f ?_⟩;have d:j<l.length:=by have:=(Aa.1 f).1;simpa [Yx] using this
 obtain ⟨v,m,_⟩:=g j l[j] (Av d);exact ⟨v,m⟩
theorem Holds.append{l m:AG AV}{a b:Array Value}(hl:Holds w S h μ l a)(hs:a.size=l.length)(f:Holds w S h μ m b)(d:b.size=m.length)(c:Array Value):Holds w S h μ (l++m) (a++b++c):=by
 intro i x hi;by_cases g:i<l.length
 .rw [Ae g] at hi;have:=hl i x hi;have e:(a++b++c).getD i undef=a.getD i undef:=by simp only [As];rw [Ap (by simp;omega),Ap (by omega)]
  rw [e];exact this
 .rw [Ad (by omega)] at hi;have r:=(Aa.1 hi).1;have:=f _ x hi;have e:(a++b++c).getD i undef=b.getD (i - l.length) undef:=by simp only [As];rw [Ap (by simp;omega),Array.getElem?_append_right (by omega),hs]
  rw [e];exact this
theorem Holds.front{m:AG AV}{b:Array Value}(a:Holds w S h μ m b)(hs:b.size=m.length)(c:Array Value):Holds w S h μ m (b++c):=by
 intro i x hi;have d:=(Aa.1 hi).1;have e:(b++c).getD i undef=b.getD i undef:=by simp only [As];rw [Ap (by omega)]
 rw [e];exact a i x hi
theorem J5k(O:BJ w S h μ){t ty e:TypeId}{ts:Array TypeId}(J:ts[0]?=AC t){sz:AM}(hu:P.underlying t=AC (.slice e))(K:FJ P e=AC sz){x y v:AV}{cx cy:Value}{h':Heap}
  (hx:AX w S h μ x cx) (hy:AX w S h μ y cy) (d:oJ h sz x y=AC (v,h')):∃cv w',(Builtin.copy_ ts ty #[cx,cy]).run P w=.ok cv w'/\Ran w S h μ v h' cv w':=by
 unfold oJ at d;split at d
 case h_2=>cases d
 rename_i m new hm he;obtain ⟨n,A,c,rfl,rfl,hnl,hA,E⟩:=Jp7 O hy hm he;split at d
 case h_2=>cases d
 rename_i g ver off len;split at d
 case h_2=>cases d
 rename_i ver' esz' el cells X;split at d
 case isFalse=>cases d
 rename_i hc;obtain ⟨rfl,rfl,hle,f⟩:=hc;injection d with d;simp only [Ai,Ar] at d;obtain ⟨rfl,rfl⟩:=d;obtain ⟨a,cap,cs0,el0,z0,rfl,hl,hb0,hsz0,ha⟩:=hx.EF X f;obtain ⟨cs,hb,hszc,hcs,_⟩:=O.ob g _ X f;generalize Y:Nat.min n len=k;have hkn:k<=n:=by rw [<-Y];exact Nat.min_le_left ..
 have hkl:k<=len:=by rw [<-Y];exact Nat.min_le_right ..
 have hkz:k * sz<=len * sz:=Ag _ hkl;have hkz2:k * sz<=n * sz:=Ag _ hkn;rw [Ac] at hle;have G:(new.take (k * sz)).length=k * sz:=by rw [Ba];omega
 have M:off * sz+(new.take (k * sz)).length<=cells.length:=by omega
 by_cases N:k * sz=0
 .have e1:paste cells (off * sz) (new.take (k * sz))=cells:=by rw [N];simp [paste]
  have e2:upd h g (AC (.arr ver sz el (paste cells (off * sz) (new.take (k * sz))) AF))=h:=by
   rw [e1];funext q;simp only [upd];split
   .rename_i hq;rw [hq,X]
   .rfl
  rw [e2];refine ⟨.int .i64 (k:AM),w,?_,Ran.same O (.pure (.int _ _))⟩;cases A with
  | none=>simp [Builtin.copy_,J,run_underlying hu,Builtin.lenOf,Builtin.firstCells,K5 K,Y,storeCells,goInt]
  | some a'=>simp [Builtin.copy_,J,run_underlying hu,Builtin.lenOf,Builtin.firstCells,K5 K,Y,N,loadCells,loadCellsFrom,storeCells,goInt]
 .have hk1:0<k:=Nat.pos_of_ne_zero λq=>N (by rw [q,Bf]);obtain rfl:=ha (by omega);cases A with
  | none=>have:=(hA rfl).1;omega
  | some a'=>
   have Z:∀(i:AM) (x:AV),(new.take (k * sz))[i]?=AC x->∃v,w.cell? (a'.add i)=AC v/\v.oneCell'=AE/\AX w S h μ x v:=λi x hi=>by
    rw [Aj] at hi;split at hi
    .exact E a' rfl i x hi
    .cases hi
   obtain ⟨v1,v2⟩:=uq Z;have hh:=um Z;generalize Yx w a' (new.take (k * sz)).length=vs at v1 v2 hh;rw [G] at v1;have l:=run_loadCells_list (P:=P) w a' vs v2;rw [v1] at l;have R:vs.toArray.size=(new.take (k * sz)).length:=by rw [G,<-v1];simp
   have L:=run_storeCells_at P (μ.b g) (μ.o g+off * sz) el vs 0 cs w hb (by omega) (by simpa using Jug hh R);simp only [Bg] at L;have F:=Jkb cs vs (μ.o g+off * sz) (by omega);generalize hr:(cs.toList.take (μ.o g+off * sz)++vs++cs.toList.drop (μ.o g+off * sz+vs.length)).toArray=r at L F;have hrs:r.size=cs.size:=by rw [<-hr];simp;omega
   have H:∀old el' z,w.heap[μ.b g]?=AC (.cells old el' z)->r.size=old.size:=λold el' z e=>by rw [hb] at e;injection e with e;injection e with e;subst e;exact hrs
   have hpn:paste cells (off * sz) (new.take (k * sz))≠[]:=λe=>f (by have:=cZ M;rw [e] at this;exact Az this.symm);have Q:(AU.arr ver sz el cells AF).ver<(AU.arr ver sz el (paste cells (off * sz) (new.take (k * sz))) AF).ver\/(AU.arr ver sz el cells AF).ver=(AU.arr ver sz el (paste cells (off * sz) (new.take (k * sz))) AF).ver/\μ.o g=μ.o g/\(AU.arr ver sz el cells AF).like (AU.arr ver sz el (paste cells (off * sz) (new.take (k * sz))) AF):=
    .inr ⟨rfl,rfl,rfl,rfl,λe=>(f e).elim,λe=>(hpn e).elim⟩
   obtain ⟨ev,vv⟩:=wF (S:=S) X rfl (Kz.2 f) Q H;have B:=(hcs.Cz O ev vv).paste (hh.Cz O ev vv) R M (r:=r) (λi=>by rw [F i];simp);have hb':=setRow_heap w (μ.b g) cs r el (0,0) hb;refine ⟨.int .i64 (k:AM),w.setRow (μ.b g) r,?_,S,_,.pure (.int _ _),Juc O X rfl (Kz.2 f) Q H (λ_=>⟨r,hb',by rw [cZ M];omega,B,λe=>by cases e⟩),ev,vv⟩;simp [Builtin.copy_,J,run_underlying hu,Builtin.lenOf,Builtin.firstCells,K5 K,Y,l,L,goInt]
theorem Qy{a:Addr}{n:AM}:(Yx w a n).toArray.size=n:=by simp [Yx]
theorem Jty{n b:AM}(h:(n:AI) * (b:AI)<=(room:AM)):n * b<=140737488355328:=by
 unfold room at h
 exact_mod_cast h
theorem J7j{w:World}{need old:AM}{e:TypeId}(h:(need:AI)<=9223372036854775807):grownCap w need old e<=9223372036854775807:=by have:=grownCap_le_maxLen w need old e (by unfold maxLen;omega);unfold maxLen at this;omega
theorem Jbw{t ty e:TypeId}{i:TypeInfo}(f:P.underlying t=AC (.slice e))(hi:P.info? e=AC i)(a:Addr)(len cap:AM)(d:len<=cap)(A:AH Addr)(c:AM) :
  (Builtin.append_ #[t,t] ty #[.slice (AC a) len cap,.slice A 0 c]).run P w=.ok (.slice (AC a) len cap) w:=by cases A<;>simp [Builtin.append_,run_underlying f,sizeOf,typeInfo,hi,Builtin.lenOf,Builtin.firstCells,loadCells,loadCellsFrom,d,storeCells]
theorem Jhe{t ty e:TypeId}{i:TypeInfo}(a:P.underlying t=AC (.slice e))(hi:P.info? e=AC i)(A0:AH Addr)(A:AH Addr)(c:AM) :
  (Builtin.append_ #[t,t] ty #[.slice A0 0 0,.slice A 0 c]).run P w=.ok (.slice A0 0 0) w:=by cases A<;>cases A0<;>simp [Builtin.append_,run_underlying a,sizeOf,typeInfo,hi,Builtin.lenOf,Builtin.firstCells,loadCells,loadCellsFrom,storeCells]
theorem xS(J:BJ w S h μ){t ty e:TypeId}{i:TypeInfo}{z:AG AV}(R:P.underlying t=AC (.slice e))(hi:P.info? e=AC i)(hz:zc P e=AC z)(hi0:0<i.size){x y v:AV}{cx cy:Value}{g0:AM}{h':Heap}
  (hx:AX w S h μ x cx) (hy:AX w S h μ y cy) (d:EN h g0 i.size i.bytes e x y=AC (v,h')):∃cv w',(Builtin.append_ #[t,t] ty #[cx,cy]).run P w=.ok cv w'/\Ran w S h μ v h' cv w':=by
 obtain ⟨i',zv,hi',hzv,hzl,hzn,hzs⟩:=jD hz;rw [hi] at hi';injection hi' with hi';subst hi';unfold EN at d;split at d
 .rename_i m new hm he;obtain ⟨n,A,c,rfl,rfl,B,hA,K⟩:=Jp7 J hy hm he;have F:new=[]->n=0:=λH=>by
   subst H;rcases Ay.1 B.symm with h1|h1
   .exact h1
   .omega
  split at d
  .-- nil
   rw [hx.CW];split at d
   .rename_i f;injection d with d;simp only [Ai] at d;obtain ⟨rfl,rfl⟩:=d;have hn:=F f;subst hn;refine ⟨.slice AD 0 0,w,?_,Ran.same J (.pure .BK)⟩;cases A with
    | none=>simp [Builtin.append_,run_underlying R,sizeOf,typeInfo,hi,Builtin.lenOf,Builtin.firstCells]
    | some a=>simp [Builtin.append_,run_underlying R,sizeOf,typeInfo,hi,Builtin.lenOf,Builtin.firstCells,loadCells,loadCellsFrom]
   .rename_i f;split at d
    .rename_i hb;injection d with d;simp only [Ai] at d;obtain ⟨rfl,rfl⟩:=d;have hn0:0<n:=by
      rcases Am n with H|H
      .subst H;simp at B;exact absurd B f
      .exact H
     cases A with
     | none=>have:=(hA rfl).1;omega
     | some a=>
      have N:=K a rfl;obtain ⟨v1,v2⟩:=uq N;have hh:=um N;have L:=run_append_nil (P:=P) w t ty e i zv R hi hzv a n c (Yx w a new.length) (by rw [v1,B]) v2 hn0 hb.2 (by have:=Jty hb.1;omega);have hge:=grownCap_ge w n 0 e;obtain ⟨h1,h2,h3⟩:=cO (w:=w.drew) (el:=e) (g:=g0) (o:=.arr (Kh h g0+1) i.size e new AF) (cs:=(Yx w a new.length).toArray++Builtin.zeroCells zv.cells (grownCap w n 0 e - n))
       (J.of_same (w':=w.drew) rfl rfl rfl ⟨rfl,Bd _⟩) (.inr (by simp [AU.ver])) (λj x E=>⟨((hh.front Qy _) j x E).1.Cz J Ta (.refl h μ),((hh.front Qy _) j x E).2⟩) (.inr ⟨_,_,rfl,by rw [Ao,Qy];omega⟩)
      refine ⟨_,_,L,S,_,?_,h1,Ta.trans h2,h3⟩;simp only [Ar];refine uS ⟨hge,J7j hb.2⟩ ?_ (λe=>(f e).elim);simp only [Ao,Qy,B,size_zeroCells,hzs,<-Ac];exact Ag _ (by omega)
    .cases d
  .rename_i g ver off len;split at d
   .rename_i ver' esz' el' cells Z;split at d
    case isFalse=>cases d
    rename_i hcond;obtain ⟨e1,e2,e3,hend,G⟩:=hcond;have cutg:∀(j:AM) (x:AV),(cut cells (off * i.size) (len * i.size))[j]?=AC x->j<len * i.size/\cells[off * i.size+j]?=AC x:=λj x E=>by
     unfold cut at E;have hlt:=(Aa.1 E).1;rw [Ba] at hlt;have hlt':j<len * i.size:=by omega
     rw [List.getElem?_take_of_lt hlt',Ak] at E;exact ⟨hlt',E⟩
    subst e1 e2 e3;by_cases l:cells=[]
    .obtain ⟨rfl,rfl,A0,rfl⟩:=(hx.DF Z).1 l;subst l;rw [AR (by simp)] at d;have hc0:cut ([]:AG AV) (0 * i.size) (0 * i.size)++new=new:=by simp [cut]
     rw [hc0] at d;injection d with d;simp only [Ai] at d;obtain ⟨rfl,rfl⟩:=d;by_cases f:new=[]
     .have hn:=F f;subst hn f;obtain ⟨b1,b2,b3⟩:=Jsg (k:=0) J Z (o':=.arr (ver+1) i.size e [] AF) (by simp [AU.ver]) (λq=>by simp [AU.live] at q) (λ_ _ _ _ _ _ q=>(q rfl).elim);refine ⟨.slice A0 0 0,w,?_,S,_,.arr _ _ _ _ _ _ (Jg _ _ _) (Ab _) rfl λ_=>⟨_,_,_,_,rfl,λ_=>⟨rfl,rfl,A0,rfl⟩,λq=>(q rfl).elim⟩,b1,b2,b3⟩;cases A<;>cases A0<;>simp [Builtin.append_,run_underlying R,sizeOf,typeInfo,hi,Builtin.lenOf,Builtin.firstCells,loadCells,loadCellsFrom,storeCells]
     .have hn0:0<n:=by
       rcases Am n with H|H
       .subst H;simp at B;exact absurd B f
       .exact H
      cases A with
      | none=>have:=(hA rfl).1;omega
      | some ay=>
       have N:=K ay rfl;obtain ⟨v1,v2⟩:=uq N;have Y:=um N;have hbd:n * i.bytes<=140737488355328:=Jty (by simpa using G.1);have L:(Builtin.append_ #[t,t] ty #[.slice A0 0 0,.slice (AC ay) n c]).run P w=.ok (.slice (AC ⟨w.heap.size,0,AD⟩) n (grownCap w n 0 e)) (w.drew.alloc (.cells ((Yx w ay new.length).toArray++Builtin.zeroCells zv.cells (grownCap w n 0 e - n)) e)):=by
        cases A0 with
        | none=>exact run_append_nil (P:=P) w t ty e i zv R hi hzv ay n c (Yx w ay new.length) (by rw [v1,B]) v2 hn0 (by have:=G.2;omega) (by omega)
        | some a0=>
         have:=run_append_grow (P:=P) w t ty e i zv R hi hzv a0 0 0 [] (by simp) (λj v E=>by simp at E) ay n c (Yx w ay new.length) (by rw [v1,B]) v2 (by omega) (by have:=G.2;omega) (growslice_fits (by omega) (by simpa using hbd));simpa using this
       have hge:=grownCap_ge w n 0 e;obtain ⟨h1,h2,h3⟩:=cO (w:=w.drew) (el:=e) (g:=g) (o:=.arr (ver+1) i.size e new AF) (cs:=(Yx w ay new.length).toArray++Builtin.zeroCells zv.cells (grownCap w n 0 e - n))
        (J.of_same (w':=w.drew) rfl rfl rfl ⟨rfl,Bd _⟩) (.inl (by simp [AU.ver,Kh,Z])) (λj x E=>⟨((Y.front Qy _) j x E).1.Cz J Ta (.refl h μ),((Y.front Qy _) j x E).2⟩) (.inr ⟨_,_,rfl,by rw [Ao,Qy];omega⟩)
       refine ⟨_,_,L,S,_,?_,h1,Ta.trans h2,h3⟩;simp only [Ar,Nat.zero_add];refine uS ⟨hge,J7j (by have:=G.2;omega)⟩ ?_ (λe=>(f e).elim);simp only [Ao,Qy,B,size_zeroCells,hzs,<-Ac];exact Ag _ (by omega)
    .obtain ⟨a,cap,cs0,el0,z0,rfl,Q,hb0,X,ha⟩:=hx.EF Z l;obtain ⟨cs,hb,hsz,hh,_⟩:=J.ob g _ Z l;rw [hb] at hb0;injection hb0 with hb0;injection hb0 with e1 e2 e3;subst e1 e2 e3;have M:(cut cells (off * i.size) (len * i.size)).length=len * i.size:=by unfold cut;rw [Ba,List.length_drop];rw [Ac] at hend;omega
     split at d
     .rename_i f;obtain ⟨-,rfl,f⟩:=f;injection d with d;simp only [Ai] at d;obtain ⟨rfl,rfl⟩:=d;have hn:=F f;subst hn;exact ⟨.slice (AC a) 0 cap,w,Jbw R hi a 0 cap (Nat.zero_le _) A c,Ran.same J hx⟩
     .rename_i hcase;injection d with d;simp only [Ai] at d;obtain ⟨rfl,rfl⟩:=d;by_cases f:new=[]
      .have hn:=F f;subst hn f;have hl0:0<len:=by
        rcases Am len with H|H
        .exact (hcase ⟨l,H,rfl⟩).elim
        .exact H
       rw [List.append_nil];have hcn:cut cells (off * i.size) (len * i.size)≠[]:=λq=>by rw [q] at M;rcases Ay.1 M.symm with h4|h4<;>omega
       obtain ⟨b1,b2,b3⟩:=Jsg (k:=μ.o g+off * i.size) J Z (o':=.arr (ver+1) i.size e (cut cells (off * i.size) (len * i.size)) AF) (by simp [AU.ver]) (λ_=>⟨Kz.2 l,rfl⟩)
        (λh' μ' ev vv _ _ _=>⟨cs,hb,by rw [Ac] at hend;omega,λj x E=>by have:=(hh.Cz J ev vv) _ x (cutg j x E).2;rwa [<-Ah] at this,λq=>by cases q⟩)
       refine ⟨.slice (AC a) len cap,w,?_,S,_,.arr _ _ _ _ _ _ (Jg _ _ _) (Ab _) rfl λ_=>⟨_,_,_,_,rfl,λq=>(hcn q).elim,λ_=>⟨a,cap,cs,e,(0,0),by simp,by simpa using Q,?_,?_,λhc0=>?_⟩⟩,b1,b2,b3⟩
       .exact Jbw R hi a len cap Q.1 A c
       .simpa [Gh.set,Jg] using hb
       .simp only [Gh.set,Jg];rw [Ac] at X;simp;omega
       .rw [ha hc0];simp [Gh.set,Jg]
      .have hn0:0<n:=by
        rcases Am n with H|H
        .subst H;simp at B;exact absurd B f
        .exact H
       cases A with
       | none=>have:=(hA rfl).1;omega
       | some ay=>
        have N:=K ay rfl;obtain ⟨v1,v2⟩:=uq N;have Y:=um N;by_cases O:len+n<=cap
        .-- in place
         have hpos:0<cap:=by omega
         rw [ha hpos];have hfit:μ.o g+(off+len) * i.size+new.length<=cs.size:=by have h5:(len+n) * i.size<=cap * i.size:=Ag _ O;rw [Ac] at X h5;rw [B,Ac];omega
         have hone:∀u∈Yx w ay new.length,u.oneCell'=AE:=by have:=Jug Y Qy;simpa using this
         have hst:=run_storeCells_at P (μ.b g) (μ.o g+(off+len) * i.size) e (Yx w ay new.length) 0 cs w hb (by rw [v1];omega) hone;simp only [Bg] at hst;have hspl:=Jkb cs (Yx w ay new.length) (μ.o g+(off+len) * i.size) (by rw [v1];omega);generalize hr:(cs.toList.take (μ.o g+(off+len) * i.size)++Yx w ay new.length++cs.toList.drop (μ.o g+(off+len) * i.size+(Yx w ay new.length).length)).toArray=r at hst hspl;have hrs:r.size=cs.size:=by rw [<-hr];simp [v1];omega
         have hcs':∀old el' z,w.heap[μ.b g]?=AC (.cells old el' z)->r.size=old.size:=λold el' z e=>by rw [hb] at e;injection e with e;injection e with e;subst e;exact hrs
         have hvv:(AU.arr ver i.size e cells AF).ver<(AU.arr (ver+1) i.size e (cut cells (off * i.size) (len * i.size)++new) AF).ver\/(AU.arr ver i.size e cells AF).ver=(AU.arr (ver+1) i.size e (cut cells (off * i.size) (len * i.size)++new) AF).ver/\μ.o g+off * i.size=μ.o g /\
           (AU.arr ver i.size e cells AF).like (AU.arr (ver+1) i.size e (cut cells (off * i.size) (len * i.size)++new) AF):=.inl (by simp [AU.ver])
         obtain ⟨ev,vv⟩:=wF (S:=S) Z rfl (Kz.2 l) hvv hcs';have hb':=setRow_heap w (μ.b g) cs r e (0,0) hb;have hcont:Ct (w.setRow (μ.b g) r) S (upd h g (AC (.arr (ver+1) i.size e (cut cells (off * i.size) (len * i.size)++new) AF))) (μ.set g (μ.b g) (μ.o g+off * i.size)) (μ.o g+off * i.size) (cut cells (off * i.size) (len * i.size)++new) r:=by
          intro j x E;rw [hspl];by_cases hj1:j<len * i.size
          .rw [Ae (by omega)] at E;have E:=(cutg j x E).2;have hlt:=(Aa.1 E).1;rw [AR (by rw [Ac];omega)];have:=(hh.Cz J ev vv) _ x E;rwa [<-Ah] at this
          .rw [Ad (by omega)] at E;have hlt:=(Aa.1 E).1;have hcl2:(off+len) * i.size=off * i.size+len * i.size:=by rw [Ac]
           rw [AS (by rw [v1];omega)];have:=(Y.Cz J ev vv) _ x E;have e5:μ.o g+off * i.size+j - (μ.o g+(off+len) * i.size)=j - (cut cells (off * i.size) (len * i.size)).length:=by omega
           rw [e5];simpa using this
         have hcl2:(off+len) * i.size=off * i.size+len * i.size:=by rw [Ac]
         refine ⟨.slice (AC ⟨μ.b g,μ.o g+off * i.size,AD⟩) (len+n) cap,w.setRow (μ.b g) r,?_,S,_,?_,Juc J Z rfl (Kz.2 l) hvv hcs' (λ_=>⟨r,hb',by simp [M];omega,hcont,λe=>by cases e⟩),ev,vv⟩
         .have hf:=run_firstCells_some (P:=P) w i.size n ay n c (Yx w ay new.length) (by rw [v1,B]) v2;have e6:μ.o g+off * i.size+len * i.size=μ.o g+(off+len) * i.size:=by omega
          simp [Builtin.append_,run_underlying R,sizeOf,typeInfo,hi,Builtin.lenOf,O,hf,Addr.add_lit,e6,hst]
         .simp only [Ar];refine .arr _ _ _ _ _ _ (Jg _ _ _) (Ab _) rfl λ_=>⟨i.size,e,_,AF,rfl,λq=>(by rw [Bc] at q;exact (f q.2).elim),λ_=>⟨_,cap,r,e,(0,0),rfl,⟨O,Q.2⟩,?_,?_,λ_=>?_⟩⟩
          .simpa [Gh.set,Jg] using hb'
          .simp only [Gh.set,Jg];rw [hrs];rw [Ac] at X;simp;omega
          .simp [Gh.set,Jg]
        .-- a new row
         have hold:∀(j:AM) (x:AV),(cut cells (off * i.size) (len * i.size))[j]?=AC x->∃v,w.cell? (a.add j)=AC v/\v.oneCell'=AE/\AX w S h μ x v:=by
          intro j x E;have hlt:=(Aa.1 E).1;have hpos:0<cap:=by
           rcases Am len with H|H
           .have h5:=(cutg j x E).1;rw [H,Bf] at h5;omega
           .omega
          have E:=(cutg j x E).2;have hlt2:μ.o g+(off * i.size+j)<cs.size:=by have:=(Aa.1 E).1;omega
          refine ⟨cs.getD (μ.o g+(off * i.size+j)) undef,?_,(hh _ x E).2,(hh _ x E).1⟩;rw [ha hpos,jP hb,Ah,getD_some hlt2]
         obtain ⟨u1,u2⟩:=uq hold;have hho:=um hold;have hbd:(len+n) * i.bytes<=140737488355328:=Jty (by simpa using G.1);have L:=run_append_grow (P:=P) w t ty e i zv R hi hzv a len cap (Yx w a (cut cells (off * i.size) (len * i.size)).length) (by rw [u1,M]) u2 ay n c (Yx w ay new.length) (by rw [v1,B]) v2 (by omega) (by have:=G.2;omega) (growslice_fits (by omega) hbd);have hge:=grownCap_ge w (len+n) cap e;obtain ⟨h1,h2,h3⟩:=cO (w:=w.drew) (el:=e) (g:=g) (o:=.arr (ver+1) i.size e (cut cells (off * i.size) (len * i.size)++new) AF)
          (cs:=(Yx w a (cut cells (off * i.size) (len * i.size)).length).toArray++(Yx w ay new.length).toArray++Builtin.zeroCells zv.cells (grownCap w (len+n) cap e - (len+n)))
          (J.of_same (w':=w.drew) rfl rfl rfl ⟨rfl,Bd _⟩) (.inl (by simp [AU.ver,Kh,Z])) (λj x E=>by have H:=Holds.append hho Qy Y Qy (Builtin.zeroCells zv.cells (grownCap w (len+n) cap e - (len+n))) j x E;exact ⟨H.1.Cz J Ta (.refl h μ),H.2⟩) (.inr ⟨_,_,rfl,by rw [Ao,Ao,Qy,Qy,List.length_append];omega⟩)
         refine ⟨_,_,L,S,_,?_,h1,Ta.trans h2,h3⟩;simp only [Ar];refine uS ⟨hge,J7j (by have:=G.2;omega)⟩ ?_ (λq=>by rw [Bc] at q;exact (f q.2).elim);simp only [Ao,Qy,M,B,size_zeroCells,hzs,<-Ac];exact Ag _ (by omega)
   .rename_i ver' esz' el' cells Z;split at d
    .rename_i hc;obtain ⟨rfl,f⟩:=hc;injection d with d;simp only [Ai] at d;obtain ⟨rfl,rfl⟩:=d;have hn:=F f;subst hn;by_cases l:cells=[]
     .obtain ⟨rfl,rfl,A0,rfl⟩:=(hx.DF Z).1 l;exact ⟨.slice A0 0 0,w,Jhe R hi A0 A c,Ran.same J hx⟩
     .obtain ⟨a,cap,cs0,el0,z0,rfl,Q,hb0,X,ha⟩:=hx.EF Z l;exact ⟨.slice (AC a) len cap,w,Jbw R hi a len cap Q.1 A c,Ran.same J hx⟩
    .cases d
   .cases d
  .rename_i n' l';split at d
   .rename_i f;injection d with d;simp only [Ai] at d;obtain ⟨rfl,rfl⟩:=d;have hn:=F f;subst hn;refine ⟨cx,w,?_,Ran.same J hx⟩;cases hx with
    | pure hp'=>
     cases hp' with
     | FQ=>exact Jhe R hi AD A c
     | CF _ _ a cap cv hs Q hc h1 hr=>exact Jbw R hi a n' cap Q A c
   .cases d
  .cases d
 .cases d
end
end Go.Vv
