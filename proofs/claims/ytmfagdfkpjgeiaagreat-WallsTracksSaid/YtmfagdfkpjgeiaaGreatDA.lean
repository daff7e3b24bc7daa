/- Typed values, typed states and how a typed state reads as a state of the evaluator. Definitions alone. -/
import Derived.Test.YtmfagdfkpjgeiaaGreatNB
set_option linter.unusedVariables false
set_option linter.unusedSimpArgs false
namespace Go.Dn
open Go Go.Vv
open Nat renaming beq -> Aa, mul_le_mul_right -> Ae, add_mul -> Ah, dvd_of_mod_eq_zero -> Aq, zero_div -> As, add_zero -> Au, mul_div_cancel -> Ba, div_mul_cancel -> Bb, ble -> Bc, zero_mul -> Bp, zero_add -> Bq, eq_of_beq_eq_true -> Bs, ble_eq_true_of_le -> Bt, le_refl -> Bv, mul_eq_zero -> Da, add_sub_cancel_left -> Dk, add_assoc -> Dv, min -> Ea
open Int renaming toNat_natCast -> Ab, toNat_of_nonneg -> Bm, natCast_add -> Dm, le_refl -> Dp
open List renaming flatMap_cons -> Ac, append_nil -> Af, getElem?_eq_some_iff -> Ai, map_congr_left -> Ak, map_nil -> Ao, eq_nil_of_length_eq_zero -> Ap, length_append -> Ar, length_map -> Av, length_nil -> Aw, isEmpty_iff -> Ax, take_of_length_le -> Be, append_assoc -> Bf, ext_getElem? -> Bg, getElem?_set -> Bh, flatMap_append -> Bl, mem_append -> Bn, length_set -> Bo, drop_eq_nil_of_le -> Br, map_cons -> Bu, getElem?_set_ne -> Bw, map_append -> By, take_append_of_le_length -> Bz, map_map -> Db, mem_map -> Dc, getElem?_take -> Dd, getElem?_drop -> De, mem_singleton -> Df, map_id -> Dg, drop_append -> Dh, length_drop -> Di, flatMap -> Dj, nil_append -> Dl, mem_append_right -> Do, replicate -> Dq, mem_of_mem_drop -> Dr, mem_of_mem_take -> Ds, mem_of_getElem? -> Dt, mem_cons -> Du, take_succ_cons -> Dw, drop_succ_cons -> Dx, map_set -> Dz
open Option renaming map_some -> Ad, isNone_iff_eq_none -> Ag, bind_some -> Bk
open Option.some renaming injEq -> Aj, inj -> Am
open Bool renaming and_eq_true -> Ay, false_eq_true -> Az, or_eq_false_iff -> Bj, and_true -> Dy
open Prod.mk renaming injEq -> Bd
inductive Ty where
 | int (k:IntKind)
 | bool
 | str
 | ls (t:Ty)
 | u
 | p (a b:Ty)
 | bf (f:Nat) (t:Ty)
 deriving DecidableEq,Inhabited
def Ty.T:Ty->Type
 | .int _=>Int
 | .bool=>Bool
 | .str=>ByteArray
 | .ls t=>List t.T
 | .u=>Unit
 | .p a b=>a.T×b.T
 | .bf _ t=>t.T
abbrev I:Ty:=.int .i64
def Ty.sz:Ty->Nat
 | .u=>0
 | .p a b=>a.sz+b.sz
 | _=>1
def Ty.cs:(t:Ty)->t.T->List AV
 | .int k,v=>[.int k v]
 | .bool,v=>[.bool v]
 | .str,v=>[.str v]
 | .ls t,v=>[.CB v.length (v.flatMap t.cs)]
 | .u,_=>[]
 | .p a b,v=>a.cs v.1++b.cs v.2
 | .bf f t,v=>[.Lf f (t.cs v)]
abbrev U:Ty->Type:=λ_=>Unit
inductive C (ι:Ty->Type) where
 | any
 | lf (t:Ty) (v:ι t)
 | kb (b:Bool)
 | k (v:AV)
 | own (g ver:Nat)
 | part (g ver:Nat) (off len:ι I)
 | ptr (g ver off:Nat)
 | Fy (g ver esz:Nat) (i:ι I) (off:Nat)
 | rp (t:Ty) (v:ι t) (off:Nat)
 | fn (f:FuncId) (caps:List (Nat×Nat×Nat))
 | map (g ver:Nat)
 | yl (j:Nat)
instance (ι:Ty->Type):Inhabited (C ι):=⟨.any⟩
inductive V (ι:Ty->Type) where
 | c (x:C ι)
 | ag (l:List (C ι))
 | tp (l:List (Bool×List (C ι)))
instance (ι:Ty->Type):Inhabited (V ι):=⟨.c .any⟩
inductive Ob (ι:Ty->Type) where
 | box (ver:Nat) (cs:List (C ι))
 | row (ver esz:Nat) (el:TypeId) (t:Ty) (v:ι (.ls t)) (x:List (C ι)) (nest:Option (Nat×C ι)) (fz:Bool)
 | lit (ver esz:Nat) (el:TypeId) (cs:List (C ι)) (fz:Bool)
 | mp (ver:Nat) (kt vt:Ty) (es:ι (.ls (.p kt vt)))
 | em (ver:Nat) (kt vt:Ty) (el:TypeId)
structure Mo (ι:Ty->Type) where
 g:Nat
 kt:Ty
 vt:Ty
 el:TypeId
 es:ι (.ls (.p kt (.ls vt)))
def mB:Nat:=1000000000000000000000000000000000000000000000000000000000000000000000000000000000000000000000000000000000000000000000000000000000000000000000000000000000000000000000000000000000000000000000000000000000000000
structure S (ι:Ty->Type) where
 sl:List (Nat×V ι)
 lo:List (List (Nat×V ι))
 ob:List (Nat×Ob ι)
 ln:List (Nat×Nat×ι I)
 mo:Option (Mo ι)
def look{α:Type}(d:Nat):List (Nat×α)->Option α
 | []=>none
 | (n,v)::r=>match Aa n d with|true=>some v|false=>look d r
def FL(x:Nat):List Nat->Bool
 | []=>false
 | y::r=>match Aa x y with|true=>true|false=>FL x r
def S.at{ι:Ty->Type}(s:S ι)(d:Nat):V ι:=match look d s.sl with|some v=>v|none=>.c .any
def S.put{ι:Ty->Type}(s:S ι)(d:Option Nat)(v:V ι):S ι:=
 match d with
 | some d=>⟨(d,v)::s.sl,s.lo,s.ob,s.ln,s.mo⟩
 | none=>s
def S.obj{ι:Ty->Type}(s:S ι)(g:Nat)(o:Ob ι):S ι:=⟨s.sl,s.lo,(g,o)::s.ob,s.ln,s.mo⟩
def S.old{ι:Ty->Type}(s:S ι)(g ver:Nat)(n:ι I):S ι:=⟨s.sl,s.lo,s.ob,(g,ver,n)::s.ln,s.mo⟩
def Ob.ver{ι:Ty->Type}:Ob ι->Nat
 | .box v _=>v
 | .row v ..=>v
 | .lit v ..=>v
 | .mp v ..=>v
 | .em v ..=>v
def S.nv{ι:Ty->Type}(s:S ι)(g:Nat):Nat:=match look g s.ob with|some o=>o.ver+1|none=>0
def zk:List AV->AV
 | [x]=>x
 | _=>.any
def mQ(g ver:Nat):List (Nat×Nat×Ty.T I)->Nat
 | []=>0
 | (a,v,n)::r=>if a=g/\v=ver then (show Int from n).toNat else mQ g ver r
def Ob.CO:Ob Ty.T->Nat
 | .row _ e _ _ l x _ _=>List.length l+x.length / e
 | .lit _ e _ cs _=>cs.length / e
 | .box ..=>0
 | .mp ..=>0
 | .em ..=>0
def Yk(s:S Ty.T)(g ver:Nat):Nat:=
 match look g s.ob with
 | some o=>if o.ver=ver then o.CO else mQ g ver s.ln
 | none=>0
def AB(s:S Ty.T):C Ty.T->AV
 | .any=>.any
 | .lf t v=>zk (t.cs v)
 | .kb b=>.bool b
 | .k v=>v
 | .own g ver=>.arr g ver 0 (Yk s g ver)
 | .part g ver off len=>.arr g ver (show Int from off).toNat (show Int from len).toNat
 | .ptr g ver off=>.ptr g ver off
 | .Fy g ver esz i off=>.ptr g ver ((show Int from i).toNat * esz+off)
 | .rp t v off=>.CW ((t.cs v).drop off)
 | .fn f caps=>.fn f (caps.map λc=>.ptr c.1 c.2.1 c.2.2)
 | .map g ver=>.map g ver
 | .yl j=>.Hf j
def AQ(s:S Ty.T):V Ty.T->AV
 | .c x=>AB s x
 | .ag l=>.agg (l.map (AB s))
 | .tp l=>.Cn (l.map λp=>if p.1 then .agg (p.2.map (AB s)) else zk (p.2.map (AB s)))
def Zs(l:List AV)(n sz:Nat)(ec:C Ty.T->AV):Option (Nat×C Ty.T)->List AV
 | none=>l
 | some (off,c)=>l.set ((n - 1) * sz+off) (ec c)
def Ty.QS:Ty->Bool
 | .p _ _|.u=>true
 | _=>false
def EA(t:Ty)(x:t.T):AV:=if t.QS then .agg (t.cs x) else zk (t.cs x)
def Cq(kt vt:Ty)(l:List (kt.T×vt.T)):List (AV×AV):=l.map λe=>(EA kt e.1,EA vt e.2)
def BG(s:S Ty.T):Ob Ty.T->AZ
 | .mp ver kt vt es=>.map ver (Cq kt vt es) false
 | .em ver _ _ _=>.map ver [] false
 | .box ver cs=>.box ver (cs.map (AB s))
 | .lit ver esz el cs fz=>.arr ver esz el (cs.map (AB s)) fz
 | .row ver esz el t v x nest fz=>.arr ver esz el (Zs (Dj (α:=t.T) t.cs v) (List.length (α:=t.T) v) t.sz (AB s) nest++x.map (AB s)) fz
def F8(kt vt:Ty):Nat->List (kt.T×List vt.T)->List (AV×AV)
 | _,[]=>[]
 | i,e::r=>(EA kt e.1,.arr (mB+i) e.2.length 0 e.2.length)::F8 kt vt (i+1) r
def JE(vt:Ty)(el:TypeId)(l:List vt.T):AZ:=.arr l.length vt.sz el (l.flatMap vt.cs) false
def Iw{α:Type}(l:List α)(i:Nat):Option α:=l[i]?
def Mo.at(m:Mo Ty.T)(g:Nat):Option AZ:=
 if g=m.g then some (.map 0 (F8 m.kt m.vt 0 m.es) false)
 else if mB<=g then (Iw (α:=m.kt.T×List m.vt.T) m.es (g - mB)).map λe=>JE m.vt m.el e.2
 else none
def Ec:Option (Mo Ty.T)->Nat->Option AZ
 | none,_=>none
 | some m,g=>m.at g
def AA(s:S Ty.T):Heap:=λg=>match look g s.ob with
 | some o=>some (BG s o)
 | none=>Ec s.mo g
def FB{ι:Ty->Type}(m:Option (Mo ι))(g:Nat):Bool:=match m with
 | none=>false
 | some m=>Aa m.g g || Bc mB g
def S.has{ι:Ty->Type}(s:S ι)(g:Nat):Bool:=(look g s.ob).isSome || FB s.mo g
def enc(s:S Ty.T):St:=⟨λd=>AQ s (s.at d),AA s⟩
inductive AK where
 | one
 | ag
 | rp
def Jan:List Ty->Ty
 | []=>.u
 | [t]=>t
 | t::r=>.p t (Jan r)
structure BS where
 id:Nat
 as:List (AK×Ty)
 rs:List (Bool×Ty)
 fn:(Jan (as.map (·.2))).T->Option (Jan (rs.map (·.2))).T
def BS.aT(c:BS):Ty:=Jan (c.as.map (·.2))
def BS.rT(c:BS):Ty:=Jan (c.rs.map (·.2))
inductive LE where
 | normal
 | exit (id:Nat)
 | ret
 deriving DecidableEq,Inhabited
inductive Nx (A B:Type) where
 | go (s:A)
 | out (e:B)
structure HP (A B:Type) where
 e:A
 j:B
def HL(ι:Ty->Type):List Ty->Type
 | []=>Unit
 | t::r=>HP (ι t) (HL ι r)
section
variable {ι:Ty->Type}
def jY(r:List Ty):C U->List Ty
 | .lf t _=>t::r
 | .part ..=>I::I::r
 | .Fy ..=>I::r
 | .rp t _ _=>t::r
 | _=>r
def Hu(r:List Ty):List (C U)->List Ty
 | []=>r
 | c::l=>jY (Hu r l) c
def nT(r:List Ty):List (Bool×List (C U))->List Ty
 | []=>r
 | (_,q)::l=>Hu (nT r l) q
def tY(r:List Ty):V U->List Ty
 | .c x=>jY r x
 | .ag l=>Hu r l
 | .tp l=>nT r l
def nU(r:List Ty):Option (Nat×C U)->List Ty
 | none=>r
 | some (_,c)=>jY r c
def jX(r:List Ty):Ob U->List Ty
 | .box _ cs=>Hu r cs
 | .lit _ _ _ cs _=>Hu r cs
 | .row _ _ _ t _ x nest _=>.ls t::Hu (nU r nest) x
 | .mp _ kt vt _=>.ls (.p kt vt)::r
 | .em ..=>r
def I4(r:List Ty):List (Nat×V U)->List Ty
 | []=>r
 | (_,v)::l=>tY (I4 r l) v
def KG(r:List Ty):List (Nat×Ob U)->List Ty
 | []=>r
 | (_,o)::l=>jX (KG r l) o
def KH(r:List Ty):List (List (Nat×V U))->List Ty
 | []=>r
 | p::l=>I4 (KH r l) p
def Lc:Option (Mo U)->List Ty
 | none=>[]
 | some m=>[.ls (.p m.kt (.ls m.vt))]
def S.lt(s:S U):List Ty:=I4 (KH (KG (Lc s.mo) s.ob) s.lo) s.sl
def tX{r:List Ty}:(c:C U)->HL ι (jY r c)->C ι×HL ι r
 | .any,h=>(.any,h)
 | .lf t _,h=>(.lf t h.e,h.j)
 | .kb b,h=>(.kb b,h)
 | .k v,h=>(.k v,h)
 | .own g v,h=>(.own g v,h)
 | .part g v _ _,h=>(.part g v h.e h.j.e,h.j.j)
 | .ptr g v o,h=>(.ptr g v o,h)
 | .Fy g v e _ o,h=>(.Fy g v e h.e o,h.j)
 | .rp t _ o,h=>(.rp t h.e o,h.j)
 | .fn f c,h=>(.fn f c,h)
 | .map g v,h=>(.map g v,h)
 | .yl j,h=>(.yl j,h)
def KF{r:List Ty}:(l:List (C U))->HL ι (Hu r l)->List (C ι)×HL ι r
 | [],h=>([],h)
 | c::l,h=>match tX c h with
  | (x,h)=>match KF l h with
   | (xs,h)=>(x::xs,h)
def tT{r:List Ty}:(l:List (Bool×List (C U)))->HL ι (nT r l)->List (Bool×List (C ι))×HL ι r
 | [],h=>([],h)
 | (b,q)::l,h=>match KF q h with
  | (x,h)=>match tT l h with
   | (xs,h)=>((b,x)::xs,h)
def mkV{r:List Ty}:(v:V U)->HL ι (tY r v)->V ι×HL ι r
 | .c x,h=>match tX x h with|(x,h)=>(.c x,h)
 | .ag l,h=>match KF l h with|(x,h)=>(.ag x,h)
 | .tp l,h=>match tT l h with|(x,h)=>(.tp x,h)
def tV{r:List Ty}:(n:Option (Nat×C U))->HL ι (nU r n)->Option (Nat×C ι)×HL ι r
 | none,h=>(none,h)
 | some (o,c),h=>match tX c h with|(x,h)=>(some (o,x),h)
def ZF{r:List Ty}:(o:Ob U)->HL ι (jX r o)->Ob ι×HL ι r
 | .box v cs,h=>match KF cs h with|(x,h)=>(.box v x,h)
 | .lit v e el cs z,h=>match KF cs h with|(x,h)=>(.lit v e el x z,h)
 | .row v e el t _ x nest fz,h=>match KF x h.j with
  | (x,d)=>match tV nest d with
   | (n,a)=>(.row v e el t h.e x n fz,a)
 | .mp v kt vt _,h=>(.mp v kt vt h.e,h.j)
 | .em v kt vt el,h=>(.em v kt vt el,h)
def Pj{r:List Ty}:(l:List (Nat×V U))->HL ι (I4 r l)->List (Nat×V ι)×HL ι r
 | [],h=>([],h)
 | (k,v)::l,h=>match mkV v h with
  | (x,h)=>match Pj l h with
   | (xs,h)=>((k,x)::xs,h)
def Pm{r:List Ty}:(l:List (Nat×Ob U))->HL ι (KG r l)->List (Nat×Ob ι)×HL ι r
 | [],h=>([],h)
 | (k,o)::l,h=>match ZF o h with
  | (x,h)=>match Pm l h with
   | (xs,h)=>((k,x)::xs,h)
def WA{r:List Ty}:(l:List (List (Nat×V U)))->HL ι (KH r l)->List (List (Nat×V ι))×HL ι r
 | [],h=>([],h)
 | p::l,h=>match Pj p h with
  | (x,h)=>match WA l h with
   | (xs,h)=>(x::xs,h)
def nR:(m:Option (Mo U))->HL ι (Lc m)->Option (Mo ι)
 | none,_=>none
 | some m,h=>some ⟨m.g,m.kt,m.vt,m.el,h.e⟩
def S.mk'(sh:S U)(h:HL ι sh.lt):S ι:=
 match Pj sh.sl h with
 | (sl,h)=>match WA sh.lo h with
  | (lo,h)=>match Pm sh.ob h with
   | (ob,h)=>⟨sl,lo,ob,[],nR sh.mo h⟩
def cast?(a b:Ty)(v:ι a):Option (ι b):=if h:a=b then some (h▸v) else none
def Ex(ι:Ty->Type):List (LE×S U)->Type
 | []=>Empty
 | [(_,s)]=>HL ι s.lt
 | (_,s)::q::r=>HL ι s.lt ⊕ Ex ι (q::r)
end
structure D (ι:Ty->Type) (M:Type->Type) where
 int:(k:IntKind)->Int->ι (.int k)
 bool:Bool->ι .bool
 str:ByteArray->ι .str
 nl:(t:Ty)->ι (.ls t)
 un:ι .u
 pr:{a b:Ty}->ι a->ι b->ι (.p a b)
 fs:{a b:Ty}->ι (.p a b)->ι a
 sn:{a b:Ty}->ι (.p a b)->ι b
 ar:BinOp->(k:IntKind)->ι (.int k)->ι (.int k)->ι (.int k)
 cm:BinOp->(k:IntKind)->ι (.int k)->ι (.int k)->ι .bool
 sh:BinOp->(k k':IntKind)->ι (.int k)->ι (.int k')->ι (.int k)
 cv:(k k':IntKind)->ι (.int k)->ι (.int k')
 mm:Bool->(k k':IntKind)->ι (.int k)->ι (.int k')->ι (.int k)
 ng:(k:IntKind)->ι (.int k)->ι (.int k)
 nt:ι .bool->ι .bool
 an:ι .bool->ι .bool->ι .bool
 be:ι .bool->ι .bool->ι .bool
 ln:{t:Ty}->ι (.ls t)->ι I
 ls:ι .str->ι I
 bf:{t:Ty}->(f:Nat)->ι t->ι (.bf f t)
 ub:{f:Nat}->{t:Ty}->ι (.bf f t)->ι t
 pl:ι I->ι I->ι I
 mi:ι I->ι I->ι I
 ib:ι I->ι I->ι .bool
 le:ι I->ι I->ι .bool
 ft:Nat->ι I->ι .bool
 cs:{t:Ty}->ι t->ι (.ls t)->ι (.ls t)
 ap:{t:Ty}->ι (.ls t)->ι (.ls t)->ι (.ls t)
 ct:{t:Ty}->ι (.ls t)->ι I->ι I->ι (.ls t)
 st:{t:Ty}->ι (.ls t)->ι I->ι t->ι (.ls t)
 rp:{t:Ty}->ι t->ι I->ι (.ls t)
 ml:{t:Ty}->ι (.ls t)->(ι t->ι t)->ι (.ls t)
 mg:{a b:Ty}->ι (.ls (.p a b))->ι a->ι b->ι b
 mf:{a b:Ty}->ι (.ls (.p a b))->ι a->ι .bool
 ms:{a b:Ty}->ι (.ls (.p a b))->ι a->ι b->ι (.ls (.p a b))
 md:{a b:Ty}->ι (.ls (.p a b))->ι a->ι (.ls (.p a b))
 br:{α:Type}->ι .bool->M α->M α->M α
 gd:{α:Type}->ι .bool->M α->M α
 no:{α:Type}->M α
 ge:{α:Type}->{t:Ty}->ι (.ls t)->ι I->(ι t->M α)->M α
 nq:{α:Type}->ι I->(ι .bool->M α)->M α
 mq:{α:Type}->{a b:Ty}->ι (.ls (.p a b))->(ι (.ls a)->M α)->M α
 call:{α:Type}->(c:BS)->ι c.aT->(ι c.rT->M α)->M α
 join:{α:Type}->(ex:List (LE×S U))->(cn:LE->S ι->S ι)->((LE->S ι->M (Ex Ty.T ex))->M (Ex Ty.T ex))->(LE->S ι->M α)->M α
 loop:{α:Type}->(sh:S U)->(ex:List (LE×S U))->(cn:LE->S ι->S ι)->(S ι->(LE->S ι->M (Nx (HL Ty.T sh.lt) (Ex Ty.T ex)))->M (Nx (HL Ty.T sh.lt) (Ex Ty.T ex)))->S ι->(LE->S ι->M α)->M α
section
variable {ι:Ty->Type} {M:Type->Type} {α:Type} (d:D ι M)
def cC:AV->C ι
 | .int k n=>.lf (.int k) (d.int k n)
 | .bool b=>.kb b
 | .str s=>.lf .str (d.str s)
 | v=>.k v
def cV:AV->V ι
 | .agg l=>.ag (l.map (cC d))
 | .Cn []=>.tp []
 | .fn f []=>.c (.fn f [])
 | v=>.c (cC d v)
def ev(s:S ι):LO->V ι
 | .t n=>s.at n
 | .c v=>cV d v
def expl:(t:Ty)->ι t->List (C ι)
 | .u,_=>[]
 | .p a b,v=>expl a (d.fs v)++expl b (d.sn v)
 | .int k,v=>[.lf (.int k) v]
 | .bool,v=>[.lf .bool v]
 | .str,v=>[.lf .str v]
 | .ls t,v=>[.lf (.ls t) v]
 | .bf f t,v=>[.lf (.bf f t) v]
def HV(t:Ty):C ι->Option (ι t)
 | .lf a v=>cast? a t v
 | .kb b=>cast? .bool t (d.bool b)
 | _=>none
def mI:List (C ι)->Option ((t:Ty)×ι t)
 | []=>some ⟨.u,d.un⟩
 | .lf t v::r=>(match t with
  | .u|.p _ _=>none
  | t=>(mI r).map λp=>⟨.p t p.1,d.pr v p.2⟩)
 | _::_=>none
def impl(lw:(t:Ty)->C ι->Option (ι t)):(t:Ty)->List (C ι)->Option (ι t×List (C ι))
 | .u,l=>some (d.un,l)
 | .p a b,l=>(impl lw a l).bind λ|(x,l)=>(impl lw b l).map λ|(y,l)=>(d.pr x y,l)
 | t,l=>match l with
  | c::l=>(lw t c).map (·,l)
  | []=>none
def JF(lw:(t:Ty)->C ι->Option (ι t))(t:Ty):Nat->List (C ι)->Option (ι (.ls t))
 | 0,_=>none
 | n+1,l=>match l with
  | []=>some (d.nl t)
  | l=>(impl d lw t l).bind λ|(x,l)=>(JF lw t n l).map (d.cs x)
def JZ(lw:(t:Ty)->C ι->Option (ι t))(t:Ty)(off:Nat)(c:C ι)(e:ι t):ι t:=
 match impl d lw t ((expl d t e).set off c) with
 | some (x,_)=>x
 | none=>e
def Hg:Ty->Nat->Option Ty
 | .u,_=>none
 | .p a b,n=>if n<a.sz then Hg a n else Hg b (n - a.sz)
 | t,n=>if n=0 then some t else none
def Mq(lw:(t:Ty)->C ι->Option (ι t))(t:Ty)(l:ι (.ls t)):Option (Nat×C ι)->Option (ι (.ls t))
 | none=>some l
 | some (off,c)=>(Hg t off).bind λa=>(lw a c).bind λ_=>some (d.ml l (JZ d lw t off c))
def Ir(lw:(t:Ty)->C ι->Option (ι t))(t:Ty):Ob ι->Option (ι (.ls t))
 | .row _ e _ a l x none _=>if e=a.sz/\0<e then (cast? (.ls a) (.ls t) l).bind λl=>(match x with
  | []=>some l
  | x=>(JF d lw t (x.length+1) x).map (d.ap l)) else none
 | .lit _ e _ x _=>if e=t.sz/\0<e then JF d lw t (x.length+1) x else none
 | _=>none
def Eo(ob:List (Nat×Ob ι)):Nat->(t:Ty)->C ι->Option (ι t)
 | 0,t,c=>HV d t c
 | n+1,t,c=>match c with
  | .k .BM=>(match t with|.ls t=>some (d.nl t)|_=>none)
  | .own g ver=>(match t with
   | .ls t=>(match look g ob with|some o=>if o.ver=ver then Ir d (Eo ob n) t o else none|none=>none)
   | _=>none)
  | c=>HV d t c
def V.cells:V ι->List (C ι)
 | .c x=>[x]
 | .ag l=>l
 | .tp _=>[]
def C.plain:C ι->Bool
 | .any=>false
 | .lf t _=>(match t with|.u|.p _ _=>false|_=>true)
 | .k v=>v.one
 | _=>true
def V.good:V ι->Bool
 | .c x=>x.plain
 | .ag _=>true
 | .tp _=>false
def pk(ag:Bool)(l:List (C ι)):Option (V ι):=
 if ag then some (.ag l) else match l with
 | [c]=>some (.c c)
 | _=>none
def Ey(l:List (C ι))(off n:Nat):List (C ι):=(l.drop off).take n
def Lp(l:List (C ι))(off:Nat)(new:List (C ι)):List (C ι):=l.take off++new++l.drop (off+new.length)
def BU{β:Type}(x:Option β)(k:β->M α):M α:=match x with|some v=>k v|none=>d.no
def MO(s:S ι)(ag:Bool)(n:Nat)(x:V ι)(k:V ι->M α):M α:=
 match x with
 | .c (.ptr g ver off)=>(match look g s.ob with
  | some (.box v cs)=>if v=ver/\off+n<=cs.length then BU d (pk ag (Ey cs off n)) k else d.no
  | some (.lit v _ _ cs _)=>if v=ver/\off+n<=cs.length/\cs.isEmpty=false then BU d (pk ag (Ey cs off n)) k else d.no
  | _=>d.no)
 | .c (.Fy g ver esz i off)=>(match look g s.ob with
  | some (.row v e _ t l [] nest _)=>if v=ver/\e=esz/\e=t.sz/\off+n<=e/\0<e then d.ge l i λx=>
    (match nest with
    | none=>BU d (pk ag (Ey (expl d t x) off n)) k
    | some (no,c)=>if off<=no/\no<off+n then d.gd (d.cm .eql .i64 (d.pl i (d.int .i64 1)) (d.ln l)) (BU d (pk ag (Ey ((expl d t x).set no c) off n)) k) else BU d (pk ag (Ey (expl d t x) off n)) k)
   else d.no
  | _=>d.no)
 | .c (.rp t v off)=>if off+n<=t.sz then BU d (pk ag (Ey (expl d t v) off n)) k else d.no
 | _=>d.no
def J66(s:S ι)(n:Nat)(x y:V ι)(k:S ι->M α):M α:=
 if y.cells.length≠n\/y.good=false then d.no else
 match x with
 | .c (.ptr g ver off)=>(match look g s.ob with
  | some (.box v cs)=>if v=ver/\off+n<=cs.length then k (s.obj g (.box v (Lp cs off y.cells))) else d.no
  | some (.lit v e el cs false)=>if v=ver/\off+n<=cs.length/\cs.isEmpty=false then k (s.obj g (.lit v e el (Lp cs off y.cells) false)) else d.no
  | _=>d.no)
 | .c (.Fy g ver esz i off)=>(match look g s.ob with
  | some (.row v e el t l [] nest false)=>if v=ver/\e=esz/\e=t.sz/\off+n<=e/\0<e then d.ge l i λx=>
    (match nest with
    | none=>BU d (impl d (HV d) t (Lp (expl d t x) off y.cells)) λ|(z,zr)=>if zr.isEmpty then k (s.obj g (.row v e el t (d.st l i z) [] none false)) else d.no
    | some (no,c)=>d.gd (d.cm .eql .i64 (d.pl i (d.int .i64 1)) (d.ln l)) (if off<=no/\no<off+n then
      (match y.cells[no - off]?,(expl d t x)[no]? with
      | some c',some z0=>BU d (impl d (HV d) t (Lp (expl d t x) off (y.cells.set (no - off) z0))) λ|(z,zr)=>if zr.isEmpty then k (s.obj g (.row v e el t (d.st l i z) [] (some (no,c')) false)) else d.no
      | _,_=>d.no)
     else BU d (impl d (HV d) t (Lp (expl d t x) off y.cells)) λ|(z,zr)=>if zr.isEmpty then k (s.obj g (.row v e el t (d.st l i z) [] (some (no,c)) false)) else d.no))
   else d.no
  | _=>d.no)
 | _=>d.no
def MZ(k:IntKind):V ι->Option (ι (.int k))
 | .c (.lf t v)=>cast? t (.int k) v
 | _=>none
def pU:V ι->Option IntKind
 | .c (.lf (.int k) _)=>some k
 | _=>none
def ZN:Bool->C ι->C ι->Option (ι .bool)
 | false,.lf (.int k) a,.lf t b=>(cast? t (.int k) b).map (d.cm .eql k a)
 | true,a,b=>(HV d .bool a).bind λa=>(HV d .bool b).map (d.be a)
 | _,_,_=>none
def GV:List Bool->List (C ι)->List (C ι)->Option (ι .bool)
 | [],[],[]=>some (d.bool true)
 | [b],[x],[y]=>ZN d b x y
 | b::bs,x::xs,y::ys=>(ZN d b x y).bind λu=>(GV bs xs ys).map (d.an u)
 | _,_,_=>none
def QO:BinOp->Bool
 | .eql|.neq|.lss|.leq|.gtr|.geq=>true
 | _=>false
def eX:BinOp->Bool
 | .add|.sub|.mul|.and|.or|.xor|.andNot=>true
 | _=>false
def aG(e:LO->V ι):List (C ι)->List (Nat×Nat×LO)->Option (List (C ι))
 | z,[]=>some z
 | z,(off,n,x)::r=>
  match e x with
  | v=>if v.cells.length=n/\off+n<=z.length/\v.good=true then aG e (Lp z off v.cells) r else none
def F3(z:List (C ι)):Nat->List (C ι)
 | 0=>[]
 | n+1=>z++F3 z n
inductive El (ι:Ty->Type) where
 | t (t:Ty) (v:ι (.ls t))
 | x (l:List (C ι))
def elems(s:S ι)(esz:Nat)(y:V ι)(k:El ι->M α):M α:=
 match y with
 | .c (.k .BM)=>k (.x [])
 | .c (.lf (.ls t) v)=>if t.sz=esz/\0<esz then k (.t t v) else d.no
 | .c (.own g ver)=>(match look g s.ob with
  | some (.row v e _ t l [] none _)=>if v=ver/\e=esz/\t.sz=esz/\0<esz then k (.t t l) else d.no
  | some (.lit v e _ l _)=>if v=ver/\e=esz/\l.length % esz=0/\0<esz then k (.x l) else d.no
  | _=>d.no)
 | .c (.part g ver off len)=>(match look g s.ob with
  | some (.row v e _ t l [] none _)=>if v=ver/\e=esz/\t.sz=esz/\0<esz then d.gd (d.le (d.int .i64 0) off) (d.gd (d.le (d.int .i64 0) len) (d.gd (d.le (d.pl off len) (d.ln l)) (k (.t t (d.ct l off len))))) else d.no
  | _=>d.no)
 | _=>d.no
def yV(y:El ι)(k:M α):M α:=
 match y with
 | .x []=>k
 | .x _=>d.no
 | .t _ v=>d.gd (d.cm .eql .i64 (d.ln v) (d.int .i64 0)) k
def gF(s:S ι)(g0 esz bytes:Nat)(el:TypeId)(x y:V ι)(k:V ι->S ι->M α):M α:=
 elems d s esz y λy=>match x with
  | .c (.k .BM)=>if s.has g0 then d.no else
   (match y with
   | .x []=>k (.c (.k .BM)) s
   | .x l=>if 0<esz then d.gd (d.ft bytes (d.int .i64 (l.length / esz:Nat))) (k (.c (.own g0 (s.nv g0+1))) (s.obj g0 (.lit (s.nv g0+1) esz el l false))) else d.no
   | .t t v=>d.br (d.cm .eql .i64 (d.ln v) (d.int .i64 0)) (k (.c (.k .BM)) s)
     (d.gd (d.ft bytes (d.ln v)) (k (.c (.own g0 (s.nv g0+1))) (s.obj g0 (.row (s.nv g0+1) esz el t v [] none false)))))
  | .c (.own g ver)=>(match look g s.ob with
   | some (.row v e el' t l tl nest false)=>
    if v=ver/\e=esz/\el'=el/\t.sz=esz/\tl.length % esz=0/\0<esz then
     (match y with
     | .x m=>
       let n:=if tl.isEmpty then d.ln l else d.pl (d.ln l) (d.int .i64 (tl.length / esz:Nat))
       d.gd (d.ft bytes (d.pl n (d.int .i64 (m.length / esz:Nat)))) (k (.c (.own g (v+1))) ((s.old g v n).obj g (.row (v+1) e el t l (tl++m) nest false)))
     | .t a m=>if tl.isEmpty&&nest.isNone then BU d (cast? (.ls a) (.ls t) m) λm=>
       d.gd (d.ft bytes (d.pl (d.ln l) (d.ln m))) (k (.c (.own g (v+1))) ((s.old g v (d.ln l)).obj g (.row (v+1) e el t (d.ap l m) [] none false))) else d.no)
    else d.no
   | some (.lit v e el' l false)=>
    if v=ver/\e=esz/\el'=el/\l.length % esz=0/\0<esz then
     (match y with
     | .x m=>d.gd (d.ft bytes (d.int .i64 (l.length / esz+m.length / esz:Nat))) (k (.c (.own g (v+1))) ((s.old g v (d.int .i64 (l.length / esz:Nat))).obj g (.lit (v+1) e el (l++m) false)))
     | .t t m=>BU d (JF d (HV d) t (l.length+1) l) λf=>
       d.gd (d.ft bytes (d.pl (d.int .i64 (l.length / esz:Nat)) (d.ln m))) (k (.c (.own g (v+1))) ((s.old g v (d.int .i64 (l.length / esz:Nat))).obj g (.row (v+1) e el t (if l.isEmpty then m else d.ap f m) [] none false))))
    else d.no
   | some (.row v _ _ _ _ _ _ true)=>if v=ver then yV d y (k (.c (.own g ver)) s) else d.no
   | _=>d.no)
  | .c (.lf (.ls t) v)=>yV d y (k (.c (.lf (.ls t) v)) s)
  | _=>d.no
end
section
variable {ι:Ty->Type} {M:Type->Type} {α:Type} (d:D ι M)
def S.cur(s:S ι)(g ver:Nat):Bool:=match look g s.ob with|some o=>o.ver==ver|none=>false
def NI(s:S ι)(g ver:Nat):Option (ι I):=
 match look g s.ob with
 | some (.row v e _ _ l x _ _)=>if v=ver then some (if x.isEmpty then d.ln l else d.pl (d.ln l) (d.int .i64 (x.length / e))) else none
 | some (.lit v e _ l _)=>if v=ver then some (d.int .i64 (l.length / e)) else none
 | _=>none
def J6u(s:S ι)(x:Option LO)(z:ι I):Option (ι I):=
 match x with
 | none=>some z
 | some x=>MZ .i64 (ev d s x)
def aK(s:S ι)(lo hi:Option LO)(n:ι I)(k:ι I->ι I->M α):M α:=
 BU d (J6u d s lo (d.int .i64 0)) λa=>BU d (J6u d s hi n) λb=>
  let t3:=if hi.isNone then k a b else d.gd (d.le b n) (k a b);let f:=if lo.isNone/\hi.isNone then t3 else d.gd (d.le a b) t3
  if lo.isNone then f else d.gd (d.le (d.int .i64 0) a) f
def bY(s:S ι)(esz:Nat)(x:V ι)(lo hi:Option LO)(k:V ι->M α):M α:=
 match x with
 | .c (.lf (.ls t) v)=>if t.sz=esz then aK d s lo hi (d.ln v) λa b=>k (.c (.lf (.ls t) (d.ct v a (if lo.isNone then b else d.mi b a)))) else d.no
 | .c (.own g ver)=>(match look g s.ob with
  | some (.row v e _ _ _ _ _ _)=>if v=ver/\e=esz then BU d (NI d s g ver) λn=>aK d s lo hi n λa b=>k (.c (.part g ver a (if lo.isNone then b else d.mi b a))) else d.no
  | some (.lit v e _ _ _)=>if v=ver/\e=esz then BU d (NI d s g ver) λn=>aK d s lo hi n λa b=>k (.c (.part g ver a (if lo.isNone then b else d.mi b a))) else d.no
  | _=>d.no)
 | .c (.part g ver off len)=>(match look g s.ob with
  | some (.row v e _ _ _ _ _ _)=>if v=ver/\e=esz then d.gd (d.le (d.int .i64 0) off) (d.gd (d.le (d.int .i64 0) len) (aK d s lo hi len λa b=>k (.c (.part g ver (if lo.isNone then off else d.pl off a) (if lo.isNone then b else d.mi b a))))) else d.no
  | _=>d.no)
 | .c (.k .BM)=>aK d s lo hi (d.int .i64 0) λ_ _=>k (.c (.k .BM))
 | _=>d.no
def pI(i:ι I)(k:Nat->M α):Nat->Nat->M α
 | _,0=>d.no
 | j,n+1=>d.br (d.cm .eql .i64 i (d.int .i64 j)) (k j) (pI i k (j+1) n)
def XC(ob:List (Nat×Ob ι))(t:Ty)(l:List (C ι)):Option (ι t):=(impl d (Eo d ob 4) t l).bind λ|(x,r)=>if r.isEmpty then some x else none
def VK(ob:List (Nat×Ob ι))(t:Ty)(c:C ι)(k:ι t->M α):M α:=
 match c with
 | .part g ver off len=>(match look g ob with
  | some (.row v e _ a l [] none _)=>if v=ver/\e=a.sz/\0<e then BU d (cast? (.ls a) t (d.ct l off len)) λy=>d.gd (d.le (d.int .i64 0) off) (d.gd (d.le (d.int .i64 0) len) (d.gd (d.le (d.pl off len) (d.ln l)) (k y))) else d.no
  | _=>d.no)
 | c=>BU d (Eo d ob 4 t c) k
def IJ(ob:List (Nat×Ob ι))(a:AK×Ty)(v:V ι)(k:ι a.2->M α):M α:=
 match a.1,v with
 | .one,.c c=>VK d ob a.2 c k
 | .ag,.ag l=>BU d (XC d ob a.2 l) k
 | .rp,.c (.rp t v 0)=>BU d (cast? t a.2 v) k
 | .rp,.c (.ptr g ver 0)=>(match look g ob with
  | some (.box v cs)=>if v=ver then BU d (XC d ob a.2 cs) k else d.no
  | _=>d.no)
 | _,_=>d.no
def mJ(ob:List (Nat×Ob ι)):(as:List (AK×Ty))->List (V ι)->(ι (Jan (as.map (·.2)))->M α)->M α
 | [],[],k=>k d.un
 | [a],[v],k=>IJ d ob a v k
 | a::b::r,v::w,k=>IJ d ob a v λx=>mJ ob (b::r) w λy=>k (d.pr x y)
 | _,_,_=>d.no
def Kw(ob:List (Nat×Ob ι)):Nat->C ι->List Nat
 | n,.own g _=>g::(match n with|0=>[]|n+1=>(match look g ob with
  | some (.row _ _ _ _ _ x nest _)=>x.flatMap (Kw ob n)++(match nest with|some p=>Kw ob n p.2|none=>[])
  | some (.lit _ _ _ x _)=>x.flatMap (Kw ob n)
  | _=>[]))
 | n,.part g _ _ _=>g::(match n with|0=>[]|n+1=>(match look g ob with
  | some (.row _ _ _ _ _ x nest _)=>x.flatMap (Kw ob n)++(match nest with|some p=>Kw ob n p.2|none=>[])
  | some (.lit _ _ _ x _)=>x.flatMap (Kw ob n)
  | _=>[]))
 | _,_=>[]
def Qi(s:S ι):List Nat->S ι
 | []=>s
 | g::r=>match look g s.ob with
  | some (.row v e el t l x nest _)=>Qi (s.obj g (.row v e el t l x nest true)) r
  | some (.lit v e el x _)=>Qi (s.obj g (.lit v e el x true)) r
  | _=>Qi s r
def Ty.flat:Ty->Bool
 | .ls _|.bf _ _=>false
 | .p a b=>a.flat&&b.flat
 | _=>true
def TN(b:Bool)(t:Ty)(v:ι t):Bool×List (C ι):=(b,expl d t v)
def Sq:Bool×List (C ι)->V ι
 | (true,l)=>.ag l
 | (false,[c])=>.c c
 | _=>.c .any
def LH:(rs:List (Bool×Ty))->ι (Jan (rs.map (·.2)))->List (Bool×List (C ι))
 | [],_=>[]
 | [a],v=>[TN d a.1 a.2 v]
 | a::b::r,v=>TN d a.1 a.2 (d.fs v)::LH (b::r) (d.sn v)
def NH(rs:List (Bool×Ty))(v:ι (Jan (rs.map (·.2)))):V ι:=
 match LH d rs v with
 | [p]=>Sq p
 | l=>.tp l
def jN:V ι->Bool
 | .c (.ptr ..)=>true
 | _=>false
def ZQ(c:BS)(f:FuncId)(args:List LO)(s:S ι)(vs:List (V ι))(k:CQ->V ι->S ι->M α):M α:=
 mJ d s.ob c.as vs λa=>
  let ns:=vs.flatMap λv=>v.cells.flatMap (Kw s.ob 4);let flat:=c.rs.all λr=>r.2.flat
  if vs.any jN then (if flat then d.call c a λr=>k (.FN f args) (NH d c.rs r) s else d.no)
  else if ns.isEmpty || flat then d.call c a λr=>k (.Cz f args) (NH d c.rs r) s
  else d.call c a λr=>k (.Eu f args) (NH d c.rs r) (Qi s ns)
def FT{β γ:Type}(f:β->Option γ):List β->Option (List γ)
 | []=>some []
 | x::r=>(f x).bind λy=>(FT f r).map (y::·)
def Ty.tZ:Ty->List Bool
 | .int _=>[false]
 | .bool=>[true]
 | .p a b=>a.tZ++b.tZ
 | _=>[]
def Ty.key:Ty->Bool
 | .int _|.bool|.u=>true
 | .p a b=>a.key&&b.key
 | _=>false
def I9:List Bool->List Bool->Bool
 | [],[]=>true
 | true::a,true::b=>I9 a b
 | false::a,false::b=>I9 a b
 | _,_=>false
def Ib(ag:Bool)(t:Ty)(v:V ι):Option (ι t):=
 match ag,v with
 | true,.ag l=>(impl d (HV d) t l).bind λ|(x,r)=>if r.isEmpty then some x else none
 | false,.c c=>HV d t c
 | _,_=>none
def Nc:(t:Ty)->AV->Option (ι t)
 | .ls t,.CB 0 []=>some (d.nl t)
 | t,z=>HV d t (cC d z)
def La(s:S ι)(v:V ι):Option (Nat×Nat×(kt:Ty)×(vt:Ty)×ι (.ls (.p kt vt))):=
 match v with
 | .c (.map g ver)=>(match look g s.ob with
  | some (.mp w kt vt es)=>if w=ver then some ⟨g,w,kt,vt,es⟩ else none
  | _=>none)
 | _=>none
def MP(ag:Bool)(sh:List Bool)(t:Ty):Bool:=(ag==t.QS)&&I9 sh t.tZ&&t.key&&(ag || Aa t.sz 1)
def Ty.dH:Ty->Bool
 | .u|.p _ _=>false
 | _=>true
def fT(s:S ι)(esz:Nat)(x y:V ι)(k:V ι->S ι->M α):M α:=match x,y with
 | .c (.part g ver off n),.c (.part f ver' off' a)=>(match look g s.ob with
  | some (.row v e el t l [] none false)=>if g=f/\v=ver/\v=ver'/\e=esz/\t.sz=esz/\0<esz then
    d.gd (d.ib (d.int .i64 0) (d.ln l)) (d.gd (d.le (d.int .i64 0) off) (d.gd (d.le (d.int .i64 0) n) (d.gd (d.le (d.pl off n) (d.ln l))
     (d.gd (d.le (d.int .i64 0) off') (d.gd (d.le (d.int .i64 0) a) (d.gd (d.le (d.pl off' a) (d.ln l))
      (k (.c (.lf I (d.mm false .i64 .i64 a n))) (s.obj g (.row v e el t (d.ap (d.ct l (d.int .i64 0) off) (d.ap (d.ct l off' (d.mm false .i64 .i64 a n)) (d.ct l (d.pl off (d.mm false .i64 .i64 a n)) (d.mi (d.ln l) (d.pl off (d.mm false .i64 .i64 a n)))))) [] none false)))))))))
   else d.no
  | _=>d.no)
 | _,_=>d.no
def dG(Γ:FuncId->Option BS)(ty:TypeId->Option Ty)(s:S ι)(g0:Nat)(op:CQ)(k:CQ->V ι->S ι->M α):M α:=
 match op with
 | .dS x=>k op (ev d s x) s
 | .pick c a b=>(match ev d s c with
  | .c (.kb t)=>k op (if t then ev d s a else ev d s b) s
  | _=>d.no)
 | .alloc z=>if s.has g0=true then d.no else k op (.c (.ptr g0 (s.nv g0) 0)) (s.obj g0 (.box (s.nv g0) (z.map (cC d))))
 | .box x=>(match ev d s x with
  | v=>if s.has g0=true\/v.good=false then d.no else k op (.c (.ptr g0 (s.nv g0) 0)) (s.obj g0 (.box (s.nv g0) v.cells)))
 | .build z ps=>BU d (aG (ev d s) (z.map (cC d)) ps) λl=>k op (.ag l) s
 | .EX n esz el z ps=>BU d (aG (ev d s) (F3 (z.map (cC d)) n) ps) λl=>
   if l.length=n * esz/\0<esz/\s.has g0=false then k op (.c (.own g0 (s.nv g0))) (s.obj g0 (.lit (s.nv g0) esz el l false)) else d.no
 | .load ag n x=>MO d s ag n (ev d s x) λv=>k op v s
 | .store n x y=>J66 d s n (ev d s x) (ev d s y) λs'=>k op (.c .any) s'
 | .KJ o x y=>BU d (pU (ev d s x)) λkk=>BU d (MZ kk (ev d s x)) λa=>BU d (MZ kk (ev d s y)) λb=>
   if QO o then k op (.c (.lf .bool (d.cm o kk a b))) s
   else if eX o then k op (.c (.lf (.int kk) (d.ar o kk a b))) s
   else (match o with
   | .quo|.rem=>d.gd (d.cm .neq kk b (d.int kk 0)) (k op (.c (.lf (.int kk) (d.ar o kk a b))) s)
   | _=>d.no)
 | .eqv ne ag sh x y=>(match ag,ev d s x,ev d s y with
  | true,.ag l,.ag m=>BU d (GV d sh l m) λb=>k op (.c (.lf .bool (if ne then d.nt b else b))) s
  | false,.c u,.c v=>BU d (GV d sh [u] [v]) λb=>k op (.c (.lf .bool (if ne then d.nt b else b))) s
  | _,_,_=>d.no)
 | .un o x=>(match o,ev d s x with
  | .not,.c (.kb b)=>k op (.c (.kb !b)) s
  | .not,.c (.lf .bool b)=>k op (.c (.lf .bool (d.nt b))) s
  | .neg,.c (.lf (.int kk) v)=>k op (.c (.lf (.int kk) (d.ng kk v))) s
  | _,_=>d.no)
 | .conv kk x=>(match ev d s x with
  | .c (.lf (.int k') v)=>k op (.c (.lf (.int kk) (d.cv k' kk v))) s
  | _=>d.no)
 | .Ep x=>(match ev d s x with
  | .c (.ptr g v o)=>if s.cur g v then k op (.c (.ptr g v o)) s else d.no
  | .c (.Fy g v e i o)=>if s.cur g v then k op (.c (.Fy g v e i o)) s else d.no
  | .c (.rp t v o)=>k op (.c (.rp t v o)) s
  | .c (.fn f c)=>k op (.c (.fn f c)) s
  | .c (.lf (.bf f t) v)=>k op (.c (.lf (.bf f t) v)) s
  | _=>d.no)
 | .Ms f x=>(match ev d s x with
  | .ag l=>BU d (mI d l) λp=>k op (.c (.lf (.bf f p.1) (d.bf f p.2))) s
  | _=>d.no)
 | .Lb f caps=>BU d (FT (λx=>match ev d s x with|.c (.ptr g v o)=>some (g,v,o)|_=>none) caps) λl=>k op (.c (.fn f l)) s
 | .mkS esz bytes el z l c=>(match l,c with
  | .t a,.t b=>if a=b then BU d (MZ .i64 (ev d s l)) λn=>BU d (ty el) λt=>BU d (impl d (HV d) t (z.map (cC d))) λzz=>(match zz with
    | (h,zr)=>if t.sz=esz/\zr.isEmpty/\z.length=esz/\0<esz/\s.has g0=false then d.gd (d.le (d.int .i64 0) n) (d.gd (d.ft bytes n) (k op (.c (.own g0 (s.nv g0))) (s.obj g0 (.row (s.nv g0) esz el t (d.rp h n) [] none false)))) else d.no)
   else d.no
  | .c (.int _ a),.c (.int _ b)=>if a=b/\0<=a/\a * bytes<=room/\a<=9223372036854775807/\z.length=esz/\0<esz/\s.has g0=false then k op (.c (.own g0 (s.nv g0))) (s.obj g0 (.lit (s.nv g0) esz el (F3 (z.map (cC d)) a.toNat) false)) else d.no
  | _,_=>d.no)
 | .slc esz x lo hi=>bY d s esz (ev d s x) lo hi λv=>k op v s
 | .Et off x=>(match ev d s x with
  | .c (.ptr g v o)=>if s.cur g v then k op (.c (.ptr g v (o+off))) s else d.no
  | .c (.Fy g v e i o)=>if s.cur g v then k op (.c (.Fy g v e i (o+off))) s else d.no
  | .c (.rp t v o)=>k op (.c (.rp t v (o+off))) s
  | _=>d.no)
 | .jZ ag off n x=>(match ev d s x with
  | .ag l=>if off+n<=l.length then BU d (pk ag (Ey l off n)) λv=>k op v s else d.no
  | _=>d.no)
 | .Es esz x i=>BU d (MZ .i64 (ev d s i)) λi=>(match ev d s x with
  | .c (.lf (.ls t) v)=>if t.sz=esz then d.ge v i λz=>k op (.c (.rp t z 0)) s else d.no
  | .c (.own g ver)=>(match look g s.ob with
   | some (.row v e _ _ _ _ _ _)=>if v=ver/\e=esz then BU d (NI d s g ver) λn=>d.gd (d.ib i n) (k op (.c (.Fy g ver esz i 0)) s) else d.no
   | _=>d.no)
  | .c (.part g ver off len)=>(match look g s.ob with
   | some (.row v e _ _ _ _ _ _)=>if v=ver/\e=esz then d.gd (d.le (d.int .i64 0) off) (d.gd (d.ib i len) (k op (.c (.Fy g ver esz (d.pl off i) 0)) s)) else d.no
   | _=>d.no)
  | _=>d.no)
 | .EO len esz x i=>(match ev d s x with
  | .c (.ptr g v o)=>if s.cur g v then (match i with
   | .c (.int _ n)=>if 0<=n/\n<len then k op (.c (.ptr g v (o+n.toNat * esz))) s else d.no
   | i=>BU d (MZ .i64 (ev d s i)) λi=>pI d i (λj=>k op (.c (.ptr g v (o+j * esz))) s) 0 len) else d.no
  | _=>d.no)
 | .idx len esz ag x i=>(match ev d s x with
  | .ag l=>(match i with
   | .c (.int _ n)=>if 0<=n/\n<len/\n.toNat * esz+esz<=l.length then BU d (pk ag (Ey l (n.toNat * esz) esz)) λv=>k op v s else d.no
   | i=>BU d (MZ .i64 (ev d s i)) λi=>pI d i (λj=>if j * esz+esz<=l.length then BU d (pk ag (Ey l (j * esz) esz)) λv=>k op v s else d.no) 0 len)
  | _=>d.no)
 | .ext x i=>(match ev d s x with
  | .tp l=>BU d l[i]? λp=>(match p with
   | (true,cs)=>k op (.ag cs) s
   | (false,[c])=>k op (.c c) s
   | _=>d.no)
  | _=>d.no)
 | .len x=>(match ev d s x with
  | .c (.lf (.ls _) v)=>k op (.c (.lf I (d.ln v))) s
  | .c (.own g ver)=>BU d (NI d s g ver) λn=>k op (.c (.lf I n)) s
  | .c (.part g ver _ n)=>BU d (NI d s g ver) λ_=>d.gd (d.le (d.int .i64 0) n) (k op (.c (.lf I n)) s)
  | .c (.k .BM)=>k op (.c (.lf I (d.int .i64 0))) s
  | _=>d.no)
 | .Ia x=>(match ev d s x with
  | .c (.lf .str v)=>k op (.c (.lf I (d.ls v))) s
  | _=>d.no)
 | .app esz bytes el _ x y=>gF d s g0 esz bytes el (ev d s x) (ev d s y) (k op)
 | .Cz f args=>BU d (Γ f) λc=>ZQ d c f args s (args.map (ev d s)) k
 | .bZ o x y=>BU d (pU (ev d s x)) λkk=>BU d (MZ kk (ev d s x)) λa=>BU d (pU (ev d s y)) λk'=>BU d (MZ k' (ev d s y)) λb=>
   (match o with
   | .shl|.shr=>d.gd (d.cm .geq k' b (d.int k' 0)) (k op (.c (.lf (.int kk) (d.sh o kk k' a b))) s)
   | _=>d.no)
 | .mm mx x y=>BU d (pU (ev d s x)) λkk=>BU d (MZ kk (ev d s x)) λa=>BU d (pU (ev d s y)) λk'=>BU d (MZ k' (ev d s y)) λb=>
   k op (.c (.lf (.int kk) (d.mm mx kk k' a b))) s
 | .dV kt vt el=>BU d (ty kt) λkt=>BU d (ty vt) λvt=>if s.has g0=true then d.no else
   (match ty (1000000000+el),vt with
   | some _,.ls vt=>if s.mo.isSome\/Bc mB g0=true\/vt.sz=0\/(s.ob.any λp=>Bc mB p.1)=true then d.no else k op (.c (.k (.map g0 0))) ⟨s.sl,s.lo,s.ob,s.ln,some ⟨g0,kt,vt,el,d.nl _⟩⟩
   | _,vt=>k op (.c (.map g0 (s.nv g0))) (s.obj g0 (.em (s.nv g0) kt vt el)))
 | .look ok ag sh z x y=>(match La s (ev d s x) with
  | some ⟨_,_,kt,vt,es⟩=>if MP ag sh kt=true/\vt.dH=true then BU d (Ib d ag kt (ev d s y)) λy=>BU d (Nc d vt z) λz=>
    if ok then k op (.tp [(false,[.lf vt (d.mg es y z)]),(false,[.lf .bool (d.mf es y)])]) s else k op (.c (.lf vt (d.mg es y z))) s
   else d.no
  | none=>d.no)
 | .LV ag sh x y z=>(match La s (ev d s x) with
  | some ⟨g,w,kt,vt,es⟩=>if MP ag sh kt=true/\vt.dH=true then BU d (Ib d ag kt (ev d s y)) λy=>BU d (Ib d false vt (ev d s z)) λz=>
    k op (.c .any) (s.obj g (.mp w kt vt (d.ms es y z)))
   else d.no
  | none=>d.no)
 | .Mt ag sh x y=>(match La s (ev d s x) with
  | some ⟨g,w,kt,vt,es⟩=>if MP ag sh kt=true then BU d (Ib d ag kt (ev d s y)) λy=>k op (.tp []) (s.obj g (.mp w kt vt (d.md es y))) else d.no
  | none=>d.no)
 | .kD esz x y=>fT d s esz (ev d s x) (ev d s y) (k op)
 | .Fh x=>(match La s (ev d s x) with
  | some ⟨_,_,_,_,es⟩=>k op (.c (.lf I (d.ln es))) s
  | none=>d.no)
 | .Er ne x=>(match ev d s x with
  | .c (.k .BM)=>k op (.c (.kb !ne)) s
  | .c (.lf (.ls _) v)=>d.gd (d.cm .gtr .i64 (d.ln v) (d.int .i64 0)) (k op (.c (.kb ne)) s)
  | .c (.own g ver)=>BU d (NI d s g ver) λn=>d.gd (d.cm .gtr .i64 n (d.int .i64 0)) (k op (.c (.kb ne)) s)
  | _=>d.no)
 | _=>d.no
end
inductive LC where
 | skip
 | reg (draw:Bool) (id:Nat) (ops:Array Oper) (l:List (Nat×AX))
 | seq (a b:LC)
 | cond (c:LO) (a b:LC)
 | blk (id:Nat) (b:LC)
 | loop (b:LC)
 | exit (id:Nat)
 | ret
 | keys (id:Nat) (el:TypeId) (bytes:Nat)
 deriving Inhabited
def pX:List Nat->Bool
 | []=>true
 | x::r=>!FL x r&&pX r
inductive FX where
 | mv (x:Nat)
 | uD (x:Nat)
 | range (t:TypeId) (x:Nat)
 | next (x:Nat)
 | ext (x i:Nat)
 | entry (x:Nat)
 | alloc (t:TypeId)
 | store (t:TypeId) (x y:Nat)
 | load (t:TypeId) (x:Nat)
 | lit (t:TypeId) (x:Nat)
 | app (t:TypeId) (x y:Nat)
def FX.op:FX->Op
 | .mv x=>.move (.tmp x)
 | .uD x=>.assign (.tmp x)
 | .range t x=>.range t (.tmp x)
 | .next x=>.next (.tmp x) false
 | .ext x i=>.extract (.tmp x) i
 | .entry x=>.entry (.tmp x)
 | .alloc t=>.alloc t
 | .store t x y=>.store t (.tmp x) (.tmp y)
 | .load t x=>.load t (.tmp x)
 | .lit t x=>.buildSlice t 1 #[(0,.tmp x)]
 | .app t x y=>.call ⟨.builtin .append,#[.tmp x,.tmp y],#[t,t]⟩
def FX.is:FX->Op->Bool
 | .mv x,.move (.tmp y)=>Aa x y
 | .uD x,.assign (.tmp y)=>Aa x y
 | .range t x,.range u (.tmp y)=>Aa t u&&Aa x y
 | .next x,.next (.tmp y) false=>Aa x y
 | .ext x i,.extract (.tmp y) j=>Aa x y&&Aa i j
 | .entry x,.entry (.tmp y)=>Aa x y
 | .alloc t,.alloc u=>Aa t u
 | .store t x y,.store u (.tmp d) (.tmp a)=>Aa t u&&Aa x d&&Aa y a
 | .load t x,.load u (.tmp y)=>Aa t u&&Aa x y
 | .lit t x,.buildSlice u n ps=>Aa t u&&Aa n 1&&(match ps.toList with | [(0,.tmp y)]=>Aa x y|_=>false)
 | .app t x y,.call ⟨.builtin .append,as,ts⟩=>(match as.toList,ts.toList with | [.tmp d,.tmp a],[u,f]=>Aa x d&&Aa y a&&Aa t u&&Aa t f|_,_=>false)
 | _,_=>false
def Rq:Option Nat->Option Nat->Bool
 | none,none=>true
 | some a,some b=>Aa a b
 | _,_=>false
def YH:List (Option Nat×FX)->List Oper->Bool
 | [],[]=>true
 | p::l,o::r=>Rq p.1 o.dst&&p.2.is o.op&&(match o.guard with|none=>true|_=>false)&&YH l r
 | _,_=>false
def NC(l:List Oper)(i:Nat):TypeId:=match l[i]? with
 | some o=>(match o.op with|.range t _=>t|.alloc t=>t|.buildSlice t _ _=>t|_=>0)
 | none=>0
def QD(P:Program)(mt kT rT:TypeId):Option Nat:=
 match P.underlying mt,P.underlying rT,P.info? kT,Ct P kT with
 | some (.map _ _),some (.slice e),some i,some true=>if Aa e kT&&Aa i.size 2&&i.zero.isSome&&(zc P kT).isSome then some i.bytes else none
 | _,_,_,_=>none
def pz(P:Program)(nt:Nat):Code->Code->Option LC
 | .region m f false,.block n (.loop (.seq (.region _ g false) (.seq (.cond (.tmp c) .skip (.exit l)) (.block h (.seq (.region _ a false) (.region _ d false))))))=>
  match QD P (NC f.toList 1) (NC a.toList 2) (NC d.toList 2) with
  | some by'=>
   if Aa c 17&&Aa n l&&!Aa h n&&Bc 24 nt &&
    YH [(some 14,.mv 3),(some 15,.range (NC f.toList 1) 14)] f.toList &&
    YH [(some 16,.next 15),(some 17,.ext 16 0)] g.toList &&
    YH [(some 18,.entry 15),(some 19,.ext 18 0),(some 5,.alloc (NC a.toList 2)),(none,.store (NC a.toList 2) 5 19)] a.toList &&
    YH [(some 20,.mv 4),(some 21,.load (NC a.toList 2) 5),(some 22,.lit (NC d.toList 2) 21),(some 23,.app (NC d.toList 2) 20 22),(some 4,.uD 23)] d.toList
   then some (.keys m (NC a.toList 2) by') else none
  | none=>none
 | _,_=>none
def Ig(P:Program)(nt:Nat):Code->Option LC
 | .skip=>some .skip
 | .region id ops draw=>(Ip P [] nt ops (List.range ops.size)).map (.reg draw id ops)
 | .seq a b=>match pz P nt a b with
  | some l=>some l
  | none=>(Ig P nt a).bind λa=>(Ig P nt b).map (.seq a)
 | .scope b=>Ig P nt b
 | .label _=>some .skip
 | .cond c a b=>(EG c).bind λc=>(Ig P nt a).bind λa=>(Ig P nt b).map (.cond c a)
 | .block id b=>(Ig P nt b).map (.blk id)
 | .loop b=>(Ig P nt b).map .loop
 | .exit id=>some (.exit id)
 | .ret=>some .ret
 | _=>none
def kJ(P:Program):ResultVar->Option RV
 | .tmp t=>some (.tmp t)
 | .cell t ty=>(Ct P ty).bind λag=>(E8 P ty).bind λn=>if ag\/n=1 then some (.cell t ag n) else none
structure LF where
 np:Nat
 nt:Nat
 res:List RV
 body:LC
def MS(P:Program)(f:FuncId):Option LF:=
 (P.funcs[f]?).bind λfn => fn.body.bind λc => if fn.name == "runtime.NumGoroutine" then none else
  (Ig P fn.ntmps c).bind λb=>(FT (kJ P) fn.results.toList).map λrs=>⟨fn.params.size+fn.nfree,fn.ntmps,rs,b⟩
def LM(P:Program):Nat->TypeId->Option Ty
 | 0,_=>none
 | n+1,t=>match P.underlying t with
  | some .bool=>some .bool
  | some (.int k)=>some (.int k)
  | some .string=>some .str
  | some (.slice e)=>(LM P n e).map .ls
  | some (.struct fs)=>(FT (λf=>LM P n f.type) fs.toList).map Jan
  | some (.array m e)=>(LM P n e).map λt=>Jan (Dq m t)
  | _=>none
def adds:List Nat->List Nat->List Nat
 | [],m=>m
 | x::r,m=>match FL x m with|true=>adds r m|false=>adds r (x::m)
def ZO(d:Option Nat)(l:List Nat):List Nat:=match d with|none=>l|some d=>l.filter λx=>!Aa x d
def iE:List (Nat×AX)->List Nat->List Nat
 | [],n=>n
 | p::r,n=>adds p.2.looks (ZO p.2.dst (iE r n))
def Ic:LC->List Nat->List (Nat×List Nat)->List Nat->List Nat
 | .skip,n,_,_=>n
 | .reg _ _ _ l,n,_,_=>iE l n
 | .seq a b,n,ex,rt=>Ic a (Ic b n ex rt) ex rt
 | .cond c a b,n,ex,rt=>adds c.tmp? (adds (Ic a n ex rt) (Ic b n ex rt))
 | .blk id b,n,ex,rt=>Ic b n ((id,n)::ex) rt
 | .loop b,_,ex,rt=>Ic b [] ex rt
 | .exit id,_,ex,_=>(look id ex).getD []
 | .ret,_,_,rt=>rt
 | .keys _ _ _,n,_,_=>adds [3,4] (ZO (some 4) n)
def RV.slot:RV->Nat
 | .tmp t=>t
 | .cell t _ _=>t
section
variable {ι:Ty->Type} {M:Type->Type} {α:Type} (d:D ι M)
def nB:Nat:=1000000000000000000000000000000000000000000000000000000000000
def nS(key:Nat):Nat:=nB+key
def nC(g j:Nat):Nat:=g * 4096+j
def refs:C ι->List (Nat×Nat)
 | .own g v|.part g v _ _|.ptr g v _|.Fy g v _ _ _|.map g v=>[(g,v)]
 | .fn _ c=>c.map λx=>(x.1,x.2.1)
 | _=>[]
def bQ(s:S ι)(nm:Nat):Nat->List (Nat×Nat)->List (Nat×Nat)->List (Nat×Nat)
 | _,[],tb=>tb
 | j,(g,v)::r,tb=>bQ s nm (j+1) r (if s.cur g v&&(look g tb).isNone then tb++[(g,nm+j)] else tb)
def Nj(s:S ι)(g:Nat):Nat->List (C ι)->List (Nat×Nat)->List (Nat×Nat)
 | _,[],tb=>tb
 | j,c::r,tb=>Nj s g (j+8) r (bQ s (nC g j) 0 (refs c) tb)
def Ob.kids:Ob ι->List (C ι)
 | .box _ cs=>cs
 | .lit _ _ _ cs _=>cs
 | .row _ _ _ _ _ x nest _=>(match nest with|some p=>[p.2]|none=>[])++x
 | .mp ..=>[]
 | .em ..=>[]
def frozen(s:S ι)(g:Nat):Bool:=match look g s.ob with
 | some (.row _ _ _ _ _ _ _ z)=>z
 | some (.lit _ _ _ _ z)=>z
 | _=>false
def sK(s:S ι):Nat->List (Nat×Nat)->List (Nat×Nat)->List (Nat×Nat)
 | 0,_,tb=>tb
 | n+1,todo,tb=>match todo with
  | []=>tb
  | (g,nn)::r=>match look g s.ob with
   | some o=>if frozen s g then sK s n r tb else
    let tb':=Nj s nn 0 o.kids tb
    sK s n (r++tb'.drop tb.length) tb'
   | none=>sK s n r tb
def sV(s:S ι)(b:Nat):List (Nat×V ι)->List (Nat×Nat)->List (Nat×Nat)
 | [],tb=>tb
 | (k,.c x)::r,tb=>sV s b r (bQ s (nS (b+k)) 0 (refs x) tb)
 | (k,.ag l)::r,tb=>sV s b r (Nj s (nS (b+k)) 0 l tb)
 | _::r,tb=>sV s b r tb
def jU(s:S ι)(g:Nat)(c:C ι):C ι:=
 match look g s.ob with
 | some (.row _ _ _ t _ _ _ _)=>(match Eo d s.ob 4 (.ls t) c with
  | some l=>if (Kw s.ob 4 c).all (frozen s)=true then .lf (.ls t) l else .any
  | none=>.any)
 | _=>.any
def nQ(m:Option (Mo ι)):AV->Bool
 | .map g v=>match m with|some m=>Aa m.g g&&Aa v 0|none=>false
 | _=>false
def DU(s:S ι)(tb:List (Nat×Nat))(c:C ι):C ι:=
 match c with
 | .own g v=>if s.cur g v then (if frozen s g then jU d s g c else match look g tb with|some n=>.own n 0|none=>.any) else .any
 | .part g v a b=>if s.cur g v then (if frozen s g then jU d s g c else match look g tb with|some n=>.part n 0 a b|none=>.any) else .any
 | .ptr g v o=>if s.cur g v&&!frozen s g then (match look g tb with|some n=>.ptr n 0 o|none=>.any) else .any
 | .Fy g v e i o=>if s.cur g v&&!frozen s g then (match look g tb with|some n=>.Fy n 0 e i o|none=>.any) else .any
 | .map g v=>if s.cur g v&&!frozen s g then (match look g tb with|some n=>.map n 0|none=>.any) else .any
 | .fn f l=>(match FT (λx:Nat×Nat×Nat=>if s.cur x.1 x.2.1&&!frozen s x.1 then (look x.1 tb).map λn=>(n,0,x.2.2) else none) l with
  | some l=>.fn f l
  | none=>.any)
 | .k v=>if v.flat || nQ s.mo v then .k v else .any
 | c=>c
def LX(s:S ι)(tb:List (Nat×Nat)):V ι->V ι
 | .c x=>.c (DU d s tb x)
 | .ag l=>.ag (l.map (DU d s tb))
 | .tp l=>.tp (l.map λ|(b,q)=>(b,q.map (DU d s tb)))
def F4(s:S ι)(tb:List (Nat×Nat)):Ob ι->Ob ι
 | .box _ cs=>.box 0 (cs.map (DU d s tb))
 | .lit _ e el cs z=>.lit 0 e el (cs.map (DU d s tb)) z
 | .row _ e el t v x nest z=>.row 0 e el t v (x.map (DU d s tb)) (nest.map λ|(o,c)=>(o,DU d s tb c)) z
 | .mp _ kt vt es=>.mp 0 kt vt es
 | .em _ kt vt el=>.em 0 kt vt el
def NT(s:S ι)(tb:List (Nat×Nat)):List (Nat×Nat)->List (Nat×Ob ι)
 | []=>[]
 | (g,nn)::r=>match look g s.ob with
  | some o=>if frozen s g then NT s tb r else (nn,F4 d s tb o)::NT s tb r
  | none=>NT s tb r
def kept(sl:List (Nat×V ι)):List Nat->List (Nat×V ι)
 | []=>[]
 | k::r=>match look k sl with|some v=>(k,v)::kept sl r|none=>kept sl r
def YW(s:S ι):Nat->List (List (Nat×V ι))->List (Nat×Nat)->List (Nat×Nat)
 | _,[],tb=>tb
 | n,l::r,tb=>YW s (n+1) r (sV s (n * 4096) l tb)
def XR(s:S ι)(tb:List (Nat×Nat)):List (Nat×V ι)->List (Nat×V ι)
 | []=>[]
 | (k,v)::r=>(k,LX d s tb v)::XR s tb r
def R9(s:S ι)(sl:List (Nat×V ι))(tb0:List (Nat×Nat)):S ι:=
 let tb:=sK s 300 tb0 tb0
 if pX (tb.map (·.1))&&pX (tb.map (·.2))&&tb.all (λp=>!FB s.mo p.1&&!FB s.mo p.2) then ⟨XR d s tb sl,s.lo.map (XR d s tb),NT d s tb tb,[],s.mo⟩
 else ⟨[],s.lo.map (λ_=>[]),[],[],none⟩
def Lj(keep:List Nat)(s:S ι):S ι:=
 let sl:=kept s.sl keep
 R9 d s sl (YW s 1 s.lo (sV s 0 sl []))
def ni(x:Nat):List Nat->List Nat
 | []=>[x]
 | y::r=>match Bc x y with
  | true=>(match Aa x y with|true=>y::r|false=>x::y::r)
  | false=>y::ni x r
def JQ:List Nat->List Nat
 | []=>[]
 | x::r=>ni x (JQ r)
def zN(ob:List (Nat×Ob ι))(g:Nat):Bool:=match look g ob with
 | some (.lit ..)=>true
 | some (.row _ _ _ _ _ x _ _)=>!x.isEmpty
 | some (.em ..)=>true
 | _=>false
def zO(ob:List (Nat×Ob ι))(g:Nat):Bool:=match look g ob with
 | some (.row _ _ _ _ _ _ (some _) _)=>true
 | _=>false
def Td(e:Nat)(x:List (C ι)):Option (Nat×C ι):=
 go 0 (x.drop (x.length - e))
where go:Nat->List (C ι)->Option (Nat×C ι)
 | _,[]=>none
 | j,.own g v::_=>some (j,.own g v)
 | j,.k .BM::_=>some (j,.k .BM)
 | j,_::r=>go (j+1) r
def jK(x:List (C ι))(j:Nat):List (C ι):=x.set j (.k .BM)
def LA(keep:Bool)(e:Nat)(x:List (C ι)):Option (Nat×C ι):=if keep then Td e x else none
def FC(keep:Bool)(e:Nat)(x:List (C ι)):List (C ι):=match LA keep e x with|some p=>jK x (x.length - e+p.1)|none=>x
def kF(ob:List (Nat×Ob ι))(nest:Option (Nat×C ι)):List Nat:=match nest with|some p=>Kw ob 4 p.2|none=>[]
def sj(ty:TypeId->Option Ty)(keep:Bool)(s:S ι)(g:Nat):S ι:=
 match look g s.ob with
 | some (.lit v e el x z)=>(match ty el with
  | some t=>if t.sz=e/\0<e then
    (match JF d (Eo d s.ob 4) t (x.length+1) (FC keep e x) with
    | some l=>if FL g ((FC keep e x).flatMap (Kw s.ob 4)) then s else (Qi s ((FC keep e x).flatMap (Kw s.ob 4))).obj g (.row v e el t l [] (LA keep e x) z)
    | none=>s) else s
  | none=>s)
 | some (.row v e el t l x nest z)=>if x.isEmpty then (match keep,nest with
   | false,some p=>if t.sz=e/\0<e then (match Mq d (Eo d s.ob 4) t l (some p) with
    | some l0=>if FL g (Kw s.ob 4 p.2) then s else (Qi s (Kw s.ob 4 p.2)).obj g (.row v e el t l0 x none z)
    | none=>s) else s
   | _,_=>s) else if t.sz=e/\0<e then
   (match Mq d (Eo d s.ob 4) t l nest,JF d (Eo d s.ob 4) t (x.length+1) (FC keep e x) with
   | some l0,some a=>if FL g (kF s.ob nest++(FC keep e x).flatMap (Kw s.ob 4)) then s else (Qi s (kF s.ob nest++(FC keep e x).flatMap (Kw s.ob 4))).obj g (.row v e el t (d.ap l0 a) [] (LA keep e x) z)
   | _,_=>s) else s
 | some (.em v kt vt _)=>s.obj g (.mp v kt vt (d.nl (.p kt vt)))
 | _=>s
def news(ob:List (Nat×Ob ι))(n:Nat):List Nat:=adds ((ob.take (ob.length - n)).map (·.1)) []
def kM(ty:TypeId->Option Ty)(keep:Bool)(n:Nat)(s:S ι):S ι:=((news s.ob n).filter (zN s.ob)++(match keep with|true=>[]|false=>(adds (s.ob.map (·.1)) []).filter (zO s.ob))).foldl (sj d ty keep) s
end
def QN:C U->C U->C U
 | .lf t _,.lf l _=>if t=l then .lf t () else .any
 | .lf .bool _,.kb _=>.lf .bool ()
 | .kb _,.lf .bool _=>.lf .bool ()
 | .kb a,.kb b=>if a=b then .kb a else .lf .bool ()
 | .k .BM,.k .BM=>.k .BM
 | .k .Hr,.k .Hr=>.k .Hr
 | .k .Ht,.k .Ht=>.k .Ht
 | .k .Fe,.k .Fe=>.k .Fe
 | .k (.map g v),.k (.map h d)=>if g=h/\v=d then .k (.map g v) else .any
 | .k .BM,.own g v=>.own g v
 | .own g v,.k .BM=>.own g v
 | .k .BM,.lf (.ls t) _=>.lf (.ls t) ()
 | .lf (.ls t) _,.k .BM=>.lf (.ls t) ()
 | .own g v,.own h d=>if g=h/\v=d then .own g v else .any
 | .part g v _ _,.part h d _ _=>if g=h/\v=d then .part g v () () else .any
 | .ptr g v o,.ptr h d o'=>if g=h/\v=d/\o=o' then .ptr g v o else .any
 | .rp t _ o,.rp l _ o'=>if t=l/\o=o' then .rp t () o else .any
 | .fn f c,.fn f' c'=>if f=f'/\c=c' then .fn f c else .any
 | .map g v,.map h d=>if g=h/\v=d then .map g v else .any
 | .yl j,.yl m=>if j=m then .yl j else .any
 | _,_=>.any
def Kbg:List (C U)->List (C U)->List (C U)
 | x::l,y::m=>QN x y::Kbg l m
 | _,_=>[]
def nW:V U->V U->V U
 | .c x,.c y=>.c (QN x y)
 | .ag l,.ag m=>if l.length=m.length then .ag (Kbg l m) else .c .any
 | _,_=>.c .any
def nX:Ob U->Ob U->Ob U
 | .box v cs,.box _ cs'=>.box v (Kbg cs cs')
 | .row v e el t _ _ nest z,.row _ _ _ _ _ _ nest' _=>.row v e el t () [] (match nest,nest' with|some p,some q=>some (p.1,QN p.2 q.2)|none,n=>n|n,none=>n) z
 | o,_=>o
def J8b(m:List (Nat×V U)):List (Nat×V U)->List (Nat×V U)
 | []=>[]
 | p::r=>(match look p.1 m with|some v=>[(p.1,nW p.2 v)]|none=>[])++J8b m r
def eH(a b:List (Nat×Ob U)):List (Nat×Ob U):=
 (a.map λp=>match look p.1 b with|some o=>(p.1,nX p.2 o)|none=>p)++b.filter λp=>(look p.1 a).isNone
def QL:List (List (Nat×V U))->List (List (Nat×V U))->List (List (Nat×V U))
 | a::l,b::m=>J8b b a::QL l m
 | _,_=>[]
def ZK(a b:S U):S U:=⟨J8b b.sl a.sl,QL a.lo b.lo,eH a.ob b.ob,[],a.mo⟩
def nI:V U->List Nat
 | .c x=>(refs x).map (·.1)
 | .ag l=>l.flatMap λx=>(refs x).map (·.1)
 | .tp l=>l.flatMap λq=>q.2.flatMap λx=>(refs x).map (·.1)
def trimS(s:S U):S U:=
 let used:=(s.sl++s.lo.flatten).flatMap (λp=>nI p.2)++s.ob.flatMap λp=>p.2.kids.flatMap λx=>(refs x).map (·.1)
 ⟨s.sl,s.lo,s.ob.filter λp=>FL p.1 used,[],s.mo⟩
def LW:C U->List Nat
 | .any=>[0]
 | .lf _ _=>[1]
 | .kb b=>[2,b.toNat]
 | .k _=>[3]
 | .own g v=>[4,g,v]
 | .part g v _ _=>[5,g,v]
 | .ptr g v o=>[6,g,v,o]
 | .Fy g v e _ o=>[7,g,v,e,o]
 | .rp _ _ o=>[8,o]
 | .fn f c=>9::f::c.flatMap λx=>[x.1,x.2.1,x.2.2]
 | .map g v=>[10,g,v]
 | .yl j=>[11,j]
def zD:V U->List Nat
 | .c x=>0::LW x
 | .ag l=>1::l.flatMap LW
 | .tp l=>2::l.flatMap λp=>p.2.flatMap LW
def zF:Ob U->List Nat
 | .box v cs=>0::v::cs.flatMap LW
 | .lit v _ _ cs _=>1::v::cs.flatMap LW
 | .row v _ _ _ _ x nest z=>2::v::z.toNat::x.flatMap LW++(match nest with|some p=>p.1::LW p.2|none=>[])
 | .mp v ..=>[3,v]
 | .em v ..=>[4,v]
def eqN:List Nat->List Nat->Bool
 | [],[]=>true
 | x::l,y::m=>match Aa x y with|true=>eqN l m|false=>false
 | _,_=>false
def nH(s:S U):List Nat:=(s.sl++s.lo.flatten).flatMap (λp=>p.1::zD p.2)++s.ob.flatMap λp=>p.1::zF p.2
section
variable {ι:Ty->Type}
def fH:C ι->C U
 | .any=>.any
 | .lf t _=>.lf t ()
 | .kb b=>.kb b
 | .k v=>.k v
 | .own g v=>.own g v
 | .part g v _ _=>.part g v () ()
 | .ptr g v o=>.ptr g v o
 | .Fy g v e _ o=>.Fy g v e () o
 | .rp t _ o=>.rp t () o
 | .fn f c=>.fn f c
 | .map g v=>.map g v
 | .yl j=>.yl j
def erV:V ι->V U
 | .c x=>.c (fH x)
 | .ag l=>.ag (l.map fH)
 | .tp l=>.tp (l.map λp=>(p.1,p.2.map fH))
def erO:Ob ι->Ob U
 | .box v cs=>.box v (cs.map fH)
 | .lit v e el cs z=>.lit v e el (cs.map fH) z
 | .row v e el t _ x nest z=>.row v e el t () (x.map fH) (nest.map λp=>(p.1,fH p.2)) z
 | .mp v kt vt _=>.mp v kt vt ()
 | .em v kt vt el=>.em v kt vt el
def tu(s:S ι):S U:=⟨s.sl.map λp=>(p.1,erV p.2),s.lo.map λl=>l.map λp=>(p.1,erV p.2),s.ob.map λp=>(p.1,erO p.2),[],s.mo.map λm=>⟨m.g,m.kt,m.vt,m.el,()⟩⟩
end
abbrev Tn:=∀ {ι:Ty->Type} {M:Type->Type} {α:Type},D ι M->FuncId->Nat->List (V ι)->S ι->(V ι->S ι->M α)->M α
structure Hd where
 base:Nat
 ps:List Nat
 a:LC
 b:LC
def yB:Nat:=1000000000
structure GL where
 id:Nat
 g:Nat
 two:Bool
 t:Ty
 fn:List t.T->Option (List t.T)
def GL.ctr(x:GL):BS:=⟨1000000+x.id * 1000+x.g,[(.one,.ls x.t)],[(false,.ls x.t)],x.fn⟩
structure Bi where
 run:Tn
def MN(d:Nat):List (Nat×Bi)->Option Bi
 | []=>none
 | (n,v)::r=>match Aa n d with|true=>some v|false=>MN d r
structure Cx where
 ct:FuncId->Option BS
 ty:TypeId->Option Ty
 code:FuncId->Option LF
 keep:Nat->Bool
 hs:List (Nat×Hd)
 rd:Bool
 so:FuncId->FuncId->Option GL
 jn:Nat->Bool
 bi:FuncId->Option Bi
def stat:D U (λ_=>List (LE×S U)) where
 int _ _:=()
 bool _:=()
 str _:=()
 nl _:=()
 un:=()
 pr _ _:=()
 fs _:=()
 sn _:=()
 ar _ _ _ _:=()
 cm _ _ _ _:=()
 sh _ _ _ _ _:=()
 cv _ _ _:=()
 mm _ _ _ _ _:=()
 ng _ _:=()
 nt _:=()
 an _ _:=()
 be _ _:=()
 ln _:=()
 ls _:=()
 bf _ _:=()
 ub _:=()
 pl _ _:=()
 mi _ _:=()
 ib _ _:=()
 le _ _:=()
 ft _ _:=()
 cs _ _:=()
 ap _ _:=()
 ct _ _ _:=()
 st _ _ _:=()
 rp _ _:=()
 ml _ _:=()
 mg _ _ _:=()
 mf _ _:=()
 ms _ _ _:=()
 md _ _:=()
 br _ x y:=x++y
 gd _ x:=x
 no:=[]
 ge _ _ k:=k ()
 nq _ k:=k ()
 mq _ k:=k ()
 call _ _ k:=k ()
 join ex _ _ k:=ex.flatMap λp=>k p.1 p.2
 loop _ ex _ _ _ k:=ex.flatMap λp=>k p.1 p.2
section
variable {ι:Ty->Type} {M:Type->Type} {α:Type} (d:D ι M)
def qD(s:S ι)(o:AX)(run skip:S ι->M α):M α:=
 match o.guard with
 | none=>run s
 | some (g,want)=>(match s.at g with
  | .c (.kb b)=>if b=want then run s else skip s
  | .c (.lf .bool t)=>if want then d.br t (run (s.put (some g) (.c (.kb true)))) (skip (s.put (some g) (.c (.kb false))))
   else d.br t (skip (s.put (some g) (.c (.kb true)))) (run (s.put (some g) (.c (.kb false))))
  | .tp []=>skip s
  | _=>d.no)
def pK(s:S ι)(o:CQ)(run:S ι->M α):M α:=
 match o with
 | .pick (.t n) _ _=>(match s.at n with
  | .c (.lf .bool t)=>d.br t (run (s.put (some n) (.c (.kb true)))) (run (s.put (some n) (.c (.kb false))))
  | _=>run s)
 | _=>run s
def pG(cx:Cx)(base:Nat)(s:S ι)(o:AX)(k:CQ->S ι->M α):M α:=
 qD d s o (λs=>pK d s o.op λs=>dG d cx.ct cx.ty s (base+o.dst.getD 0) o.op λop v s'=>k op (s'.put o.dst v)) (λs=>k o.op (s.put o.dst (.tp [])))
def eZ(cx:Cx)(s:S ι):CQ->Option (FuncId×List (V ι))
 | .Cz f args=>if (cx.ct f).isNone&&!Bc yB f then some (f,args.map (ev d s)) else none
 | .Fp x args=>(match ev d s x with
  | .c (.fn f caps)=>if Bc yB f then none else some (f,args.map (ev d s)++caps.map λc=>.c (.ptr c.1 c.2.1 c.2.2))
  | .c (.yl j)=>some (yB+j,args.map (ev d s))
  | .c (.lf (.bf f t) v)=>if Bc yB f then none else some (f,.ag (expl d t (d.ub v))::args.map (ev d s))
  | _=>none)
 | _=>none
def bX(cx:Cx)(s:S ι):CQ->Option (GL×V ι)
 | .Cz f [x,y]=>(match ev d s y with
  | .c (.fn g [])=>(cx.so f g).bind λc=>if c.two then some (c,ev d s x) else none
  | _=>none)
 | .Cz f [x]=>(cx.so f 0).bind λc=>if c.two then none else some (c,ev d s x)
 | _=>none
def OG(c:GL)(s:S ι)(v:V ι)(k:S ι->M α):M α:=
 match v with
 | .c (.own g ver)=>(match look g s.ob with
  | some (.row v e el t l [] none false)=>if v=ver/\e=t.sz/\0<e then BU d (cast? (.ls t) (.ls c.t) l) λl=>d.call c.ctr l λa=>k (s.obj g (.row v e el c.t a [] none false)) else d.no
  | _=>d.no)
 | .c (.k .BM)=>k s
 | _=>d.no
def PW(s:S ι):CQ->Option (Bool×ι I)
 | .Er ne x=>(match ev d s x with
  | .c (.lf (.ls _) v)=>some (ne,d.ln v)
  | _=>none)
 | _=>none
def eO:CQ->Bool
 | .Cz .. | .Fp ..=>true
 | _=>false
def S.push(s:S ι)(live:List Nat)(sl:List (Nat×V ι)):S ι:=⟨sl,kept s.sl live::s.lo,s.ob,s.ln,s.mo⟩
def S.pop(s:S ι):S ι:=match s.lo with
 | l::r=>⟨l,r,s.ob,s.ln,s.mo⟩
 | []=>s
def TW:Nat->List (V ι)->List (Nat×V ι)
 | _,[]=>[]
 | j,v::r=>(j,v)::TW (j+1) r
def ND(inl:Tn)(cx:Cx)(base:Nat)(n:List Nat):List (Nat×AX)->S ι->(S ι->M α)->M α
 | [],s,k=>k s
 | p::r,s,k=>
  if eO p.2.op then
   qD d s p.2 (λs=>match bX d cx s p.2.op with
    | some (c,v)=>OG d c s v λs'=>ND inl cx base n r (s'.put p.2.dst (.tp [])) k
    | none=>match eZ d cx s p.2.op with
    | some (f,vs)=>inl d f ((base+p.2.dst.getD 0+1) * 4096) vs (s.push (JQ (iE r n)) []) λv s'=>ND inl cx base n r (s'.put p.2.dst v) k
    | none=>dG d cx.ct cx.ty s (base+p.2.dst.getD 0) p.2.op λ_ v s'=>ND inl cx base n r (s'.put p.2.dst v) k) (λs=>ND inl cx base n r (s.put p.2.dst (.tp [])) k)
  else match PW d s p.2.op,p.2.guard with
   | some (ne,m),none=>d.nq m λb=>ND inl cx base n r (s.put p.2.dst (.c (.lf .bool (if ne then d.nt b else b)))) k
   | _,_=>pG d cx base s p.2 λ_ s'=>ND inl cx base n r s' k
def J9f(base:Nat)(o:AX)(s:S ι):Bool:=o.op.CJ&&s.has (base+o.dst.getD 0)
def MJ:List (Nat×AX)->List Nat
 | []=>[]
 | p::r=>match p.2.op,p.2.dst with
  | .alloc _,some x=>x::MJ r
  | .EX ..,some x=>x::MJ r
  | _,_=>MJ r
def YX(x:Nat):List (Nat×AX)->Bool
 | []=>false
 | p::r=>(match p.2.dst with|some y=>Aa y x|none=>false) || (match p.2.op with
  | .store _ (.t _) (.t y)=>Aa y x
  | .store ..=>false
  | op=>FL x op.looks) || YX x r
def sU(base:Nat)(s:S ι)(all:List (Nat×AX)):List (Nat×AX)->List Nat
 | []=>[]
 | p::r=>match p.2.op with
  | .store _ (.t x) _=>(match YX x all,ev d s (.t x) with
   | false,.c (.ptr g _ _)=>if Bc base g then (g - base)::sU base s all r else sU base s all r
   | _,_=>sU base s all r)
  | _=>sU base s all r
def Iu(base:Nat)(ds:List Nat):V ι->Bool
 | .c (.ptr g _ _)=>!Ce base ds g
 | .c (.own g _)=>!Ce base ds g
 | .c (.lf _ _)=>true
 | .c (.rp _ _ _)=>true
 | .c (.Fy g _ _ _ _)=>!Ce base ds g
 | _=>false
def onV(base:Nat)(ds:List Nat):V ι->Bool
 | .c (.ptr g _ _)=>Ce base ds g
 | _=>false
def onA(base:Nat)(ds:List Nat)(dst:Option Nat):V ι->Bool
 | .c (.own g _)=>Ce base ds g
 | .c (.k .BM)=>Ce base ds (base+dst.getD 0)
 | _=>false
def zP(s:S ι)(base:Nat)(dst:Option Nat)(op:CQ)(tg:List Nat):List Nat:=
 match op with
 | .app _ _ _ _ x _=>(match ev d s x with
  | .c (.own g _)=>if Bc base g then (g - base)::tg else tg
  | .c (.k .BM)=>dst.getD 0::tg
  | _=>tg)
 | _=>tg
def Ta(s:S ι)(base:Nat)(dst:Option Nat)(op:CQ)(ds:List Nat):CQ:=
 match op with
 | .load ag n x=>if Iu base ds (ev d s x) then .F7 ds (.load ag n x) else .load ag n x
 | .Et o x=>if Iu base ds (ev d s x) then .F7 ds (.Et o x) else .Et o x
 | .Es e x i=>if Iu base ds (ev d s x) then .F7 ds (.Es e x i) else .Es e x i
 | .len x=>if Iu base ds (ev d s x) then .F7 ds (.len x) else .len x
 | .store n x y=>if onV base ds (ev d s x) then .LP ds n x y else .store n x y
 | .Ep x=>if Iu base ds (ev d s x) then .F7 ds (.Ep x) else .Ep x
 | .app e b t z x y=>if onA base ds dst (ev d s x) then .KM ds e b t z x y else .app e b t z x y
 | .slc e x lo hi=>if Iu base ds (ev d s x) then .F7 ds (.slc e x lo hi) else .slc e x lo hi
 | op=>op
def aQ(cx:Cx)(base:Nat):List (Nat×AX)->List (Nat×AX)->List (List Nat->Nat×AX)->List Nat->S ι->(List (Nat×AX)->List (Nat×AX)->S ι->M α)->M α
 | [],acc,acc2,ds,s,k=>k acc.reverse (acc2.reverse.map λf=>f ds) s
 | p::r,acc,acc2,ds,s,k=>
  if J9f base p.2 s then d.no else
  pG d cx base s p.2 λop s'=>aQ cx base r ((p.1,{ p.2 with op:=op })::acc) ((λds=>(p.1,{ p.2 with op:=Ta d s base p.2.dst op ds }))::acc2) (zP d s base p.2.dst op ds) s' k
def dP(cx:Cx):CQ->Bool
 | .Cz f _=>(cx.ct f).isNone
 | .Fp ..=>true
 | _=>false
def qA(cx:Cx):List (Nat×AX)->List (Nat×AX)×List (Nat×AX)
 | []=>([],[])
 | p::r=>match dP cx p.2.op with
  | true=>([],p::r)
  | false=>match qA cx r with|(a,b)=>(p::a,b)
def gH(p:LE×S U):List (LE×S U)->List (LE×S U)
 | []=>[p]
 | q::r=>if p.1=q.1 then (q.1,ZK q.2 p.2)::r else q::gH p r
def exits(l:List (LE×S U)):List (LE×S U):=(l.foldl (λm p=>if p.1=.normal then m else gH p m) []).map λp=>(p.1,trimS p.2)
def heads(sh:S U)(l:List (LE×S U)):S U:=trimS (l.foldl (λm p=>if p.1=.normal then ZK m p.2 else m) sh)
def ZJ(l:List (LE×S U)):List (LE×S U):=(l.foldl (λm p=>gH p m) []).map λp=>(p.1,trimS p.2)
def iK:LC->Nat
 | .reg _ id _ _=>id
 | .seq a _=>iK a
 | .cond _ a b=>match Aa (iK a) 1000000000 with|true=>iK b|false=>iK a
 | .blk _ b=>iK b
 | .loop b=>iK b
 | .keys id _ _=>id
 | _=>1000000000
def fC(run:S U->List (LE×S U)):Nat->S U->S U×List (LE×S U)
 | 0,sh=>(sh,exits (run sh))
 | n+1,sh=>
  let l:=run sh;let sh':=heads sh l
  if eqN (nH sh') (nH sh)=true then (sh',exits l) else fC run n sh'
def S.kill{ι:Ty->Type}:List Nat->S ι->S ι
 | [],s=>s
 | x::r,s=>S.kill r (s.put (some x) (.c .any))
def IY{ι:Ty->Type}(g:Nat):C ι->C ι
 | .k v=>match v.flat with
  | true=>.k v
  | false=>(match v with
   | .map a 0=>(match Aa a g with|true=>.map g 0|false=>.any)
   | _=>.any)
 | c=>c
def Ml{ι:Ty->Type}(g:Nat):V ι->V ι
 | .c x=>.c (IY g x)
 | .ag l=>.ag (l.map (IY g))
 | .tp []=>.tp []
 | .tp _=>.c .any
def TV{ι:Ty->Type}:C ι->Bool
 | .any=>true
 | .lf _ _=>true
 | .kb _=>true
 | .rp _ _ _=>true
 | .k v=>v.flat
 | _=>false
def bS{ι:Ty->Type}(s:S ι):Option (S ι):=
 match s.mo with
 | none=>some s
 | some m=>if (s.ob.all λp=>p.2.kids.all TV)=true then some ⟨s.sl.map λp=>(p.1,Ml m.g p.2),s.lo.map λl=>l.map λp=>(p.1,Ml m.g p.2),(m.g,.mp 0 m.kt (.ls m.vt) m.es)::s.ob,s.ln,none⟩ else none
def YC:List Nat:=[14,15,16,17,18,19,5,20,21,22,23,4]
def QE(base:Nat)(el:TypeId)(bytes:Nat)(s:S ι)(k:S ι->M α):M α:=
 BU d (bS s) λs=>match La s (s.at 3),s.at 4 with
 | some ⟨_,_,.p (.int .i64) (.int .i64),_,es⟩,.c (.k .BM)=>if s.has (base+23)=true then d.no else
  d.gd (d.ft bytes (d.ln es)) (d.mq es λl=>k ((((S.kill YC s).obj (base+23) (.row 0 2 el (.p I I) l [] none false)).put (some 4) (.c (.own (base+23) 0)))))
 | _,_=>d.no
def KD(s:S ι):List RV->(List (V ι)->M α)->M α
 | [],k=>k []
 | .tmp t::r,k=>KD s r λl=>k (s.at t::l)
 | .cell t ag n::r,k=>MO d s ag n (s.at t) λv=>KD s r λl=>k (v::l)
def V.toP:V ι->Bool×List (C ι)
 | .c x=>(false,[x])
 | .ag l=>(true,l)
 | .tp _=>(false,[])
def aD:List (V ι)->V ι
 | [v]=>v
 | l=>.tp (l.map V.toP)
end
def NS(h:List Nat)(ex:List (Nat×List Nat))(rt:List Nat):LE->List Nat
 | .normal=>h
 | .exit id=>JQ ((look id ex).getD [])
 | .ret=>JQ rt
def EF(mk:Cx->Tn)(cx:Cx)(base:Nat):LC->(n:List Nat)->(ex:List (Nat×List Nat))->(rt:List Nat)->{ι:Ty->Type}->{M:Type->Type}->{α:Type}->D ι M->S ι->(LE->S ι->M α)->M α
 | .skip,_,_,_,_,_,_,_,s,k=>k .normal s
 | .reg draw id ops l,n,_,_,_,_,_,d,s,k=>
  if draw then (match qA cx l with
   | (_,[])=>aQ d cx base l [] [] (MJ l++sU d base s l l) s λf g s'=>if kN ops f || kN ops g then k .normal (kM d cx.ty (cx.keep id) s.ob.length s') else d.no
   | (L,p::R)=>aQ d cx base L [] [] [] s λf _ s'=>if uM ops f ((p::R).map (·.1)) then ND d (mk { cx with rd:=false }) cx base n (p::R) s' λs''=>k .normal (kM d cx.ty (cx.keep id) s.ob.length s'') else d.no)
  else ND d (mk { cx with rd:=false }) cx base n l s λs'=>k .normal (kM d cx.ty (cx.keep id) s.ob.length s')
 | .seq a b,n,ex,rt,_,_,_,d,s,k=>match cx.jn (base * 1000+iK b) with
  | false=>EF mk cx base a (Ic b n ex rt) ex rt d s λe s'=>match e with
   | .normal=>EF mk cx base b n ex rt d s' k
   | e=>k e s'
  | true=>d.join (ZJ (EF mk cx base a (Ic b n ex rt) ex rt (α:=Unit) stat (tu s) λe s'=>[(e,Lj stat (NS (JQ (Ic b n ex rt)) ex rt e) s')]))
    (λe s'=>Lj d (NS (JQ (Ic b n ex rt)) ex rt e) s') (λk'=>EF mk cx base a (Ic b n ex rt) ex rt d s k') λe s'=>match e with
   | .normal=>EF mk cx base b n ex rt d s' k
   | e=>k e s'
 | .cond c a b,n,ex,rt,_,_,_,d,s,k=>match ev d s c with
  | .c (.kb t)=>if t then EF mk cx base a n ex rt d s k else EF mk cx base b n ex rt d s k
  | .c (.lf .bool t)=>(match c with
   | .t x=>d.br t (EF mk cx base a n ex rt d (s.put (some x) (.c (.kb true))) k) (EF mk cx base b n ex rt d (s.put (some x) (.c (.kb false))) k)
   | _=>d.no)
  | _=>d.no
 | .blk id b,n,ex,rt,_,_,_,d,s,k=>EF mk cx base b n ((id,n)::ex) rt d s λe s'=>if e=.exit id then k .normal s' else k e s'
 | .loop b,_,ex,rt,_,_,_,d,s,k=>
  let h:=JQ (Ic b [] ex rt);let s0:=Lj d h s
  match fC (λsh=>EF mk cx base b h ex rt (α:=Unit) stat sh λe s'=>[(e,Lj stat (NS h ex rt e) s')]) 4 (tu s0) with
  | (sh,xs)=>d.loop sh xs (λe s'=>Lj d (NS h ex rt e) s') (λs' k'=>EF mk cx base b h ex rt d s' k') s0 k
 | .exit id,_,_,_,_,_,_,_,s,k=>k (.exit id) s
 | .ret,_,_,_,_,_,_,_,s,k=>k .ret s
 | .keys _ el bytes,_,_,_,_,_,_,d,s,k=>QE d base el bytes s λs'=>k .normal s'
def aA{ι:Ty->Type}{M:Type->Type}{α:Type}(mk:Cx->Tn)(cx:Cx)(d:D ι M)(f:FuncId)(base:Nat)(vs:List (V ι))(s:S ι)(k:V ι->S ι->M α):M α:=
 match Bc yB f with
 | true=>d.no
 | false=>match cx.code f with
  | none=>d.no
  | some lf=>if vs.length=lf.np then
    EF mk cx base lf.body (lf.res.map RV.slot) [] (lf.res.map RV.slot) d ⟨TW 0 vs,s.lo,s.ob,s.ln,s.mo⟩ λe s'=>match e with
     | .exit _=>d.no
     | _=>KD d s' lf.res λl=>k (aD l) s'.pop
   else d.no
def den:Nat->Cx->Tn
 | 0,_=>λd _ _ _ _ _=>d.no
 | n+1,cx=>λd f base vs s k=>match cx.bi f with
  | some B=>B.run d f base vs s k
  | none=>aA (den n) cx d f base vs s k
class W where
 ar:BinOp->IntKind->Int->Int->Int
 cm:BinOp->Int->Int->Bool
 sh:BinOp->IntKind->Int->Int->Int
 cv:IntKind->Int->Int
 mx:Int->Int->Int
 mn:Int->Int->Int
 ng:IntKind->Int->Int
 nt:Bool->Bool
 an:Bool->Bool->Bool
 be:Bool->Bool->Bool
 ln:{α:Type}->List α->Int
 lS:ByteArray->Int
 pl:Int->Int->Int
 mi:Int->Int->Int
 ib:Int->Int->Bool
 le:Int->Int->Bool
 ft:Nat->Int->Bool
 ap:{α:Type}->List α->List α->List α
 ct:{α:Type}->List α->Int->Int->List α
 st:{α:Type}->List α->Int->α->List α
 rp:{α:Type}->α->Int->List α
 ml:{α:Type}->List α->(α->α)->List α
 mg:{a b:Ty}->List (a.T×b.T)->a.T->b.T->b.T
 mf:{a b:Ty}->List (a.T×b.T)->a.T->Bool
 ms:{a b:Ty}->List (a.T×b.T)->a.T->b.T->List (a.T×b.T)
 md:{a b:Ty}->List (a.T×b.T)->a.T->List (a.T×b.T)
 br:{α:Type}->Bool->Option α->Option α->Option α
 gd:{α:Type}->Bool->Option α->Option α
 ge:{α β:Type}->List β->Int->(β->Option α)->Option α
 nq:{α:Type}->Int->(Bool->Option α)->Option α
 mq:{α:Type}->{a b:Ty}->List (a.T×b.T)->(List a.T->Option α)->Option α
 call:{α:Type}->(c:BS)->c.aT.T->(c.rT.T->Option α)->Option α
 loop:{A B α:Type}->(A->Option (Nx A B))->A->(B->Option α)->Option α
 join:{B α:Type}->Option B->(B->Option α)->Option α
def dL(w:W):D Ty.T Option where
 int _ n:=n
 bool b:=b
 str s:=s
 nl t:=([]:List t.T)
 un:=()
 pr a b:=(a,b)
 fs v:=v.1
 sn v:=v.2
 ar o k a b:=w.ar o k a b
 cm o _ a b:=w.cm o a b
 sh o k _ a b:=w.sh o k a b
 cv _ k' a:=w.cv k' a
 mm b _ _ x y:=match b with|true=>w.mx x y|false=>w.mn x y
 ng k a:=w.ng k a
 nt a:=w.nt a
 an a b:=w.an a b
 be a b:=w.be a b
 ln {t} v:=w.ln (α:=t.T) v
 ls s:=w.lS s
 bf _ v:=v
 ub v:=v
 pl a b:=w.pl a b
 mi a b:=w.mi a b
 ib i n:=w.ib i n
 le a b:=w.le a b
 ft b n:=w.ft b n
 cs {t} x l:=List.cons (α:=t.T) x l
 ap {t} l m:=w.ap (α:=t.T) l m
 ct {t} l a n:=w.ct (α:=t.T) l a n
 st {t} l i x:=w.st (α:=t.T) l i x
 rp {t} x n:=w.rp (α:=t.T) x n
 ml {t} l f:=w.ml (α:=t.T) l f
 mg {a b} l k z:=w.mg (a:=a) (b:=b) l k z
 mf {a b} l k:=w.mf (a:=a) (b:=b) l k
 ms {a b} l k v:=w.ms (a:=a) (b:=b) l k v
 md {a b} l k:=w.md (a:=a) (b:=b) l k
 br t x y:=w.br t x y
 gd t x:=w.gd t x
 no:=none
 ge {_ t} l i k:=w.ge (β:=t.T) l i k
 nq n k:=w.nq n k
 mq {_ a b} l k:=w.mq (a:=a) (b:=b) l k
 call c a k:=w.call c a k
 join _ _ _ _:=none
 loop _ _ _ _ _ _:=none
section
variable {ι:Ty->Type} {M:Type->Type} (d:D ι M) (ob:List (Nat×Ob ι))
def RU{r:List Ty}(h:HL ι r):(c:C U)->C ι->Option (HL ι (jY r c))
 | .any,_=>some h
 | .lf t _,c=>(Eo d ob 4 t c).map λv=>⟨v,h⟩
 | .kb b,.kb B=>if b=B then some h else none
 | .k .BM,.k .BM=>some h
 | .k .Hr,.k .Hr=>some h
 | .k .Ht,.k .Ht=>some h
 | .k .Fe,.k .Fe=>some h
 | .own g v,.own m l=>if g=m/\v=l then some h else none
 | .own g _,.k .BM=>if (look g ob).isNone then some h else none
 | .part g v _ _,.part m l a b=>if g=m/\v=l then some ⟨a,b,h⟩ else none
 | .ptr g v o,.ptr m l o'=>if g=m/\v=l/\o=o' then some h else none
 | .Fy g v e _ o,.Fy m l A i o'=>if g=m/\v=l/\e=A/\o=o' then some ⟨i,h⟩ else none
 | .rp t _ o,.rp w v o'=>if o=o' then (cast? w t v).map λv=>⟨v,h⟩ else none
 | .fn f c,.fn f' c'=>if f=f'/\c=c' then some h else none
 | .map g v,.map m l=>if g=m/\v=l then some h else none
 | .yl j,.yl y=>if j=y then some h else none
 | .k (.map g v),.k (.map m l)=>if g=m/\v=l then some h else none
 | _,_=>none
def TT{r:List Ty}(h:HL ι r):(l:List (C U))->List (C ι)->Option (HL ι (Hu r l))
 | [],[]=>some h
 | c::l,x::m=>(TT h l m).bind λh=>RU d ob h c x
 | _,_=>none
def RP{r:List Ty}(h:HL ι r):(l:List (Bool×List (C U)))->List (Bool×List (C ι))->Option (HL ι (nT r l))
 | [],[]=>some h
 | (a,p)::l,(b,x)::m=>if a=b then (RP h l m).bind λh=>TT d ob h p x else none
 | _,_=>none
def fD{r:List Ty}(h:HL ι r):(v:V U)->V ι->Option (HL ι (tY r v))
 | .c x,.c y=>RU d ob h x y
 | .c .any,_=>some h
 | .ag l,.ag m=>TT d ob h l m
 | .tp l,.tp m=>RP d ob h l m
 | _,_=>none
def fF{r:List Ty}(h:HL ι r):(n:Option (Nat×C U))->Option (Nat×C ι)->Option (HL ι (nU r n))
 | none,none=>some h
 | some (a,p),some (b,q)=>if a=b then RU d ob h p q else none
 | none,some _=>some h
 | _,_=>none
def fE{r:List Ty}(h:HL ι r):(o:Ob U)->Ob ι->Option (HL ι (jX r o))
 | .box v cs,.box a cs'=>if v=a then TT d ob h cs cs' else none
 | .lit v e el cs z,.lit a g el' cs' m=>if v=a/\e=g/\el=el'/\z=m then TT d ob h cs cs' else none
 | .row v e el t _ x nest fz,.row a g el' f l w nest' fz'=>
  if v=a/\e=g/\el=el'/\fz=fz' then
   (fF d ob h nest nest').bind λh=>(TT d ob h x w).bind λh=>(match nest,nest' with
    | none,some (off,c)=>(Mq d (Eo d ob 4) f l (some (off,c))).bind λl=>(cast? (.ls f) (.ls t) l).map λl=>⟨l,h⟩
    | some _,none=>none
    | _,_=>(cast? (.ls f) (.ls t) l).map λl=>⟨l,h⟩)
  else none
 | .mp v kt vt _,.mp a kt' vt' es=>if v=a then (cast? (.ls (.p kt' vt')) (.ls (.p kt vt)) es).map λl=>⟨l,h⟩ else none
 | _,_=>none
def J79{r:List Ty}(h:HL ι r):(o:Ob U)->Option (HL ι (jX r o))
 | .row _ _ _ _ _ [] none _=>some ⟨d.nl _,h⟩
 | .row _ _ _ _ _ [] (some (_,.own _ _)) _=>some ⟨d.nl _,h⟩
 | _=>none
def XT{r:List Ty}(h:HL ι r)(sl:List (Nat×V ι)):(l:List (Nat×V U))->Option (HL ι (I4 r l))
 | []=>some h
 | (a,p)::l=>(XT h sl l).bind λh=>fD d ob h p ((look a sl).getD (.c .any))
def jE{r:List Ty}(h:HL ι r):(l:List (Nat×Ob U))->Option (HL ι (KG r l))
 | []=>some h
 | (a,p)::l=>(jE h l).bind λh=>match look a ob with|some o=>fE d ob h p o|none=>J79 d h p
end
def aC{ι:Ty->Type}{M:Type->Type}{r:List Ty}(d:D ι M)(ob:List (Nat×Ob ι))(h:HL ι r):(l:List (List (Nat×V U)))->List (List (Nat×V ι))->Option (HL ι (KH r l))
 | [],[]=>some h
 | p::l,q::m=>(aC d ob h l m).bind λh=>XT d ob h q p
 | _,_=>none
def MG{ι:Ty->Type}(ob:List (Nat×Ob ι)):C U->C ι->List Nat
 | .lf _ _,c=>Kw ob 4 c
 | _,_=>[]
def gq{ι:Ty->Type}(ob:List (Nat×Ob ι)):List (C U)->List (C ι)->List Nat
 | c::l,x::m=>MG ob c x++gq ob l m
 | _,_=>[]
def Oi{ι:Ty->Type}(ob:List (Nat×Ob ι)):List (Bool×List (C U))->List (Bool×List (C ι))->List Nat
 | (_,p)::l,(_,x)::m=>gq ob p x++Oi ob l m
 | _,_=>[]
def ZA{ι:Ty->Type}(ob:List (Nat×Ob ι)):V U->V ι->List Nat
 | .c x,.c y=>MG ob x y
 | .ag l,.ag m=>gq ob l m
 | .tp l,.tp m=>Oi ob l m
 | _,_=>[]
def mO{ι:Ty->Type}(ob:List (Nat×Ob ι)):Ob U->Ob ι->List Nat
 | .box _ cs,.box _ cs'=>gq ob cs cs'
 | .lit _ _ _ cs _,.lit _ _ _ cs' _=>gq ob cs cs'
 | .row _ _ _ _ _ x nest _,.row _ _ _ _ _ a nest' _=>gq ob x a++(match nest,nest' with|some p,some q=>MG ob p.2 q.2|none,some q=>Kw ob 4 q.2|_,_=>[])
 | _,_=>[]
def pY{ι:Ty->Type}(ob:List (Nat×Ob ι))(l:List (Nat×V U))(sl:List (Nat×V ι)):List Nat:=l.flatMap λp=>ZA ob p.2 ((look p.1 sl).getD (.c .any))
def J7m{ι:Ty->Type}(ob:List (Nat×Ob ι)):List (List (Nat×V U))->List (List (Nat×V ι))->List Nat
 | p::l,q::m=>pY ob p q++J7m ob l m
 | _,_=>[]
def aB{ι:Ty->Type}(sh:S U)(s:S ι):List Nat:=
 pY s.ob sh.sl s.sl++J7m s.ob sh.lo s.lo++sh.ob.flatMap λp=>match look p.1 s.ob with|some o=>mO s.ob p.2 o|none=>[]
def S.shut(sh:S U):Bool:=
 ((sh.sl++sh.lo.flatten).all λp=>match p.2 with|.c x=>ok x|.ag l=>l.all ok|.tp l=>l.all λq=>q.2.all ok)&&sh.ob.all λp=>p.2.kids.all ok
where ok (c:C U):Bool:=((refs c).all λr=>match look r.1 sh.ob with|some o=>o.ver==r.2|none=>false)&&(match c with|.k v=>v.flat || nQ sh.mo v|_=>true)
def RS{ι:Ty->Type}{M:Type->Type}(d:D ι M):(m:Option (Mo U))->Option (Mo ι)->Option (HL ι (Lc m))
 | none,none=>some ()
 | some m,some a=>if m.g=a.g/\m.el=a.el then (cast? (.ls (.p a.kt (.ls a.vt))) (.ls (.p m.kt (.ls m.vt))) a.es).map λl=>⟨l,()⟩ else none
 | _,_=>none
def S.fit{ι:Ty->Type}{M:Type->Type}(d:D ι M)(sh:S U)(s:S ι):Option (HL ι sh.lt):=
 if sh.shut/\(aB sh s).all (λg=>(look g sh.ob).isNone&&!FB s.mo g)=true/\sh.ob.all (λp=>!FB sh.mo p.1)=true then (RS d sh.mo s.mo).bind λh=>(jE d s.ob h sh.ob).bind λh=>(aC d s.ob h sh.lo s.lo).bind λh=>XT d s.ob h s.sl sh.sl else none
def I7{ι:Ty->Type}{M:Type->Type}(d:D ι M):(ex:List (LE×S U))->LE->S ι->Option (Ex ι ex)
 | [],_,_=>none
 | [(a,p)],e,s=>if a=e then p.fit d s else none
 | (a,p)::q::r,e,s=>if a=e then (p.fit d s).map Sum.inl else (I7 d (q::r) e s).map Sum.inr
def mU{ι:Ty->Type}{β:Type}(k:LE->S ι->β):(ex:List (LE×S U))->Ex ι ex->β
 | [],h=>nomatch h
 | [(a,p)],h=>k a (p.mk' h)
 | (a,p)::q::r,h=>Sum.casesOn (motive:=λ_=>β) (show HL ι p.lt ⊕ Ex ι (q::r) from h) (λx=>k a (p.mk' x)) (λx=>mU k (q::r) x)
def Px(w:W)(d:D Ty.T Option){α:Type}(sh:S U)(ex:List (LE×S U))(cn:LE->S Ty.T->S Ty.T)
  (body:S Ty.T->(LE->S Ty.T->Option (Nx (HL Ty.T sh.lt) (Ex Ty.T ex)))->Option (Nx (HL Ty.T sh.lt) (Ex Ty.T ex))) (ent:S Ty.T) (k:LE->S Ty.T->Option α):Option α:=
 match sh.fit d ent with
 | none=>none
 | some a=>w.loop (λh=>body (sh.mk' h) λe s'=>match e with
  | .normal=>(sh.fit d (cn .normal s')).map Nx.go
  | e=>(I7 d ex e (cn e s')).map Nx.out) a (mU k ex)
def dW(w:W):D Ty.T Option:={ dL w with loop:=λsh ex cn body ent k=>Px w (dL w) sh ex cn body ent k,join:=λex cn body k=>w.join (body λe s'=>I7 (dL w) ex e (cn e s')) (mU k ex) }
def JG{α β:Type}(x:Option α)(k:α->Option β):Option β:=match x with|some v=>k v|none=>none
def WO(o:BinOp)(k:IntKind)(a b:Int):Int:=
 match o with
 | .add=>k.wrap (a+b)
 | .sub=>k.wrap (a - b)
 | .mul=>k.wrap (a * b)
 | .quo=>k.wrap (a.tdiv b)
 | .rem=>a.tmod b
 | .and=>bits .and k a b
 | .or=>bits .or k a b
 | .xor=>bits .xor k a b
 | .andNot=>bits .andNot k a b
 | _=>0
def QY(o:BinOp)(a b:Int):Bool:=
 match o with
 | .eql=>a==b
 | .neq=>a != b
 | .lss=>decide (a<b)
 | .leq=>decide (a<=b)
 | .gtr=>decide (a > b)
 | .geq=>decide (a>=b)
 | _=>false
def ish(o:BinOp)(k:IntKind)(a b:Int):Int:=
 match o with
 | .shl=>k.wrap (a * 2 ^ (min b.toNat k.bits))
 | .shr=>a.fdiv (2 ^ (min b.toNat k.bits))
 | _=>0
def Hy{α:Type}(l:List α)(i:Int):Option α:=if 0<=i then l[i.toNat]? else none
def Zw{α:Type}:List α->(α->α)->List α
 | [],_=>[]
 | [x],f=>[f x]
 | x::y::r,f=>x::Zw (y::r) f
def X0{A B:Type}(b:A->Option (Nx A B)):Nat->A->Option B
 | 0,_=>none
 | n+1,s=>match b s with
  | none=>none
  | some (.go s')=>X0 b n s'
  | some (.out e)=>some e
def CU:Nat:=18446744073709551616
def Ty.FE:(t:Ty)->t.T->t.T->Bool
 | .int _,x,y=>(show Int from x)==(show Int from y)
 | .bool,x,y=>(show Bool from x)==(show Bool from y)
 | .u,_,_=>true
 | .p a b,x,y=>a.FE x.1 y.1&&b.FE x.2 y.2
 | _,_,_=>false
def FJ{a b:Ty}(k:a.T):List (a.T×b.T)->Option b.T
 | []=>none
 | e::r=>if a.FE k e.1=true then some e.2 else FJ k r
def Fg{a b:Ty}(k:a.T)(v:b.T):List (a.T×b.T)->List (a.T×b.T)
 | []=>[(k,v)]
 | e::r=>if a.FE k e.1=true then (k,v)::r else e::Fg k v r
def Iz{a b:Ty}(k:a.T):List (a.T×b.T)->List (a.T×b.T)
 | []=>[]
 | e::r=>if a.FE k e.1=true then r else e::Iz k r
open Classical in
noncomputable def dK{α:Type}(n:Int)(k:Bool->Option α):Option α:=if n=0 then (if k true=k false then k false else none) else k false
open Classical in
noncomputable def jW{α β:Type}(l:List α)(k:List α->Option β):Option β:=if h:∃v,∀p:List α,p.Perm l->k p=some v then some h.choose else none
@[reducible] noncomputable def wv:W where
 ar:=WO
 cm:=QY
 sh:=ish
 cv:=IntKind.wrap
 mx a b:=if b > a then b else a
 mn a b:=if b<a then b else a
 ng k a:=k.wrap (0 - a)
 nt a:=!a
 an a b:=a&&b
 be a b:=a==b
 ln l:=l.length
 lS s:=s.size
 pl a b:=a+b
 mi a b:=a - b
 ib i n:=decide (0<=i/\i<n)
 le a b:=decide (a<=b)
 ft b n:=decide (n * b<=room/\n<=9223372036854775807)
 ap l m:=l++m
 ct l a n:=(l.drop a.toNat).take n.toNat
 st l i x:=l.set i.toNat x
 rp x n:=Dq n.toNat x
 ml:=Zw
 mg l k z:=(FJ k l).getD z
 mf l k:=(FJ k l).isSome
 ms l k v:=Fg k v l
 md l k:=Iz k l
 br c x y:=if c=true then x else y
 gd c x:=if c=true then x else none
 ge l i k:=JG (Hy l i) k
 nq:=dK
 mq {_ a _} l k:=jW (α:=a.T) (l.map (·.1)) k
 call c a k:=JG (c.fn a) k
 loop b a k:=JG (X0 b CU a) k
 join x k:=JG x k
noncomputable abbrev val:D Ty.T Option:=dW wv
def akOf(P:Program)(t:TypeId):Option (AK×Ty):=
 match P.underlying t with
 | some (.pointer e)=>(LM P 8 e).map λt=>(.rp,t)
 | some (.struct _)|some (.array _ _)=>(LM P 8 t).map λt=>(.ag,t)
 | some _=>(LM P 8 t).map λt=>(.one,t)
 | none=>none
def KL{ι:Ty->Type}{M:Type->Type}(d:D ι M)(a:AK×Ty)(v:ι a.2):V ι:=
 match a.1 with
 | .one=>(match expl d a.2 v with | [c]=>.c c|_=>.c .any)
 | .ag=>.ag (expl d a.2 v)
 | .rp=>.c (.rp a.2 v 0)
def TS{ι:Ty->Type}{M:Type->Type}(d:D ι M):(as:List (AK×Ty))->ι (Jan (as.map (·.2)))->List (V ι)
 | [],_=>[]
 | [a],v=>[KL d a v]
 | a::b::r,v=>KL d a (d.fs v)::TS d (b::r) (d.sn v)
def rk(a:Bool×Ty):AK×Ty:=(if a.1 then .ag else .one,a.2)
def MF{ι:Ty->Type}{M:Type->Type}{α:Type}(d:D ι M)(ob:List (Nat×Ob ι)):(rs:List (Bool×Ty))->List (V ι)->(ι (Jan (rs.map (·.2)))->M α)->M α
 | [],[],k=>k d.un
 | [a],[v],k=>IJ d ob (rk a) v k
 | a::b::r,v::w,k=>IJ d ob (rk a) v λx=>MF d ob (b::r) w λy=>k (d.pr x y)
 | _,_,_=>d.no
def aF{ι:Ty->Type}(rs:List (Bool×Ty))(v:V ι):List (V ι):=match rs,v with
 | [_],v=>[v]
 | _,.tp l=>l.map Sq
 | _,v=>[v]
def VB{ι:Ty->Type}{M:Type->Type}{α:Type}(d:D ι M)(ob:List (Nat×Ob ι))(rs:List (Bool×Ty))(v:V ι)(k:ι (Jan (rs.map (·.2)))->M α):M α:=MF d ob rs (aF rs v) k
def CY(d:D Ty.T Option)(cx:Cx)(n:Nat)(f:FuncId)(as:List (AK×Ty))(rs:List (Bool×Ty))(a:(Jan (as.map (·.2))).T):Option (Jan (rs.map (·.2))).T:=
 den n cx d f 0 (TS d as a) ⟨[],[[]],[],[],none⟩ λv s=>VB d s.ob rs v some
structure ZV where
 id:Nat
 as:List (AK×Ty)
 el:TypeId
 t:Ty
 fn:(Jan (as.map (·.2))).T->Option (List t.T)
def ZV.ctr(c:ZV):BS:=⟨c.id,c.as,[(false,.ls c.t)],c.fn⟩
def YA{ι:Ty->Type}(s:S ι)(vs:List (V ι)):List Nat:=vs.flatMap λv=>v.cells.flatMap (Kw s.ob 4)
def ZV.bi(c:ZV):Bi:=⟨λ{ι M α} d _ base vs s k=>mJ d s.ob c.as vs λa=>
 if vs.any jN || s.has base then d.no else
  d.call c.ctr a λl=>k (.c (.own base 0)) ((Qi s (YA s vs)).obj base (.row 0 c.t.sz c.el c.t (show ι (.ls c.t) from l) [] none false)).pop⟩
def cK{ι:Ty->Type}{M:Type->Type}{α:Type}(d:D ι M)(ob:List (Nat×Ob ι))(t:Ty)(el:TypeId)(v:V ι)(k:ι (.ls t)->M α):M α:=
 match v with
 | .c (.k .BM)=>k (d.nl t)
 | .c (.own g ver)=>(match look g ob with
  | some (.row v e el' a l [] none false)=>if v=ver/\e=a.sz/\0<e/\el'=el then BU d (cast? (.ls a) (.ls t) l) k else d.no
  | _=>d.no)
 | _=>d.no
def tq(d:D Ty.T Option)(cx:Cx)(n:Nat)(f:FuncId)(as:List (AK×Ty))(t:Ty)(el:TypeId)(a:(Jan (as.map (·.2))).T):Option (List t.T):=
 den n cx d f 0 (TS d as a) ⟨[],[[]],[],[],none⟩ λv s=>cK d s.ob t el v some
def BS.bi(c:BS):Bi:=⟨λ{ι M α} d _ base vs s k=>mJ d s.ob c.as vs λa=>
 if vs.any jN then d.no else d.call c a λr=>k (NH d c.rs r) (Qi s (YA s vs)).pop⟩
def gI(hT:TypeId)(bytes:Nat):Bi:=⟨λ{ι M α} d _ _ vs s k=>match vs,s.mo with
 | [.c (.k (.map g 0)),kv,f],some ⟨a,.p (.int .i64) (.int .i64),.int .i64,el,es⟩=>
  if g=a/\el=hT then BU d (Ib d true (.p I I) kv) λkk=>BU d (Ib d false I f) λh=>
   d.gd (d.ft bytes (d.pl (d.ln (d.mg es kk (d.nl I))) (d.int .i64 1))) (k (.tp []) (⟨s.sl,s.lo,s.ob,s.ln,some ⟨a,.p I I,I,el,d.ms es kk (d.ap (d.mg es kk (d.nl I)) (d.cs h (d.nl I)))⟩⟩:Dn.S ι).pop)
  else d.no
 | _,_=>d.no⟩
def Wo(o:List Int)(x:Int):List Int:=if o.getLast?=some x then o else o++[x]
def Cw(l:List Int):List Int:=l.foldl Wo []
def Ws(id:Nat):BS:=⟨1000000+id * 1000+999,[(.one,.ls I)],[(false,.ls I)],λl=>some (Cw l)⟩
def R5(id:Nat)(el:TypeId):Bi:=⟨λ{ι M α} d _ _ vs s k=>match vs with
 | [.c (.own g ver)]=>(match look g s.ob with
  | some (.row v e el' (.int .i64) l [] none false)=>if v=ver/\e=1/\el'=el then
    d.call (Ws id) (show ι (Ws id).aT from l) λm=>k (.c (.lf (.ls I) (show ι (.ls I) from m))) ((s.old g v (d.ln l)).obj g (.row (v+1) 1 el I (show ι (.ls I) from m) [] none true)).pop
   else d.no
  | _=>d.no)
 | [.c (.k .BM)]=>k (.c (.k .BM)) s.pop
 | _=>d.no⟩
abbrev zL(id:FuncId)(fn:List Int×Int->Option Int):BS:=⟨id,[(.one,.ls I),(.one,I)],[(false,I)],fn⟩
section
variable {ι:Ty->Type} {M:Type->Type} {α:Type} (d:D ι M)
def Nu(s:S ι)(g w:Nat)(bytes:Nat)(es:ι (.ls (.p (.p I I) (.ls I))))(kk:ι (.p I I))(l:ι (.ls I))(i j:ι I)(k:V ι->S ι->M α):M α:=
 d.br (d.cm .lss .i64 i (d.int .i64 0)) (k (.c (.kb false)) s.pop)
  (d.br (d.cm .eql .i64 (d.ln l) (d.int .i64 1)) (k (.c (.kb true)) (s.obj g (.mp w (.p I I) (.ls I) (d.md es kk))).pop)
   (d.gd (d.ft bytes (d.ln l)) (d.gd (d.an (d.ib i (d.ln l)) (d.an (d.le (d.pl i (d.int .i64 1)) j) (d.le j (d.ln l))))
    (k (.c (.kb true)) (s.obj g (.mp w (.p I I) (.ls I) (d.ms es kk (d.ap (d.ct l (d.int .i64 0) i) (d.ct l j (d.mi (d.ln l) j)))))).pop))))
end
def takeB(bytes:Nat)(ix:FuncId)(fn:List Int×Int->Option Int):Bi:=⟨λ{ι M α} d _ _ vs s k=>match vs with
 | [.c (.map g ver),kv,a]=>(match look g s.ob with
  | some (.mp w (.p (.int .i64) (.int .i64)) (.ls (.int .i64)) es)=>
   if w=ver then BU d (Ib d true (.p I I) kv) λkk=>BU d (Ib d false I a) λf=>
    d.call (zL ix fn) (show ι (zL ix fn).aT from d.pr (d.mg es kk (d.nl I)) f) λi=>Nu d s g w bytes es kk (d.mg es kk (d.nl I)) i (d.ar .add .i64 i (d.int .i64 1)) k
   else d.no
  | _=>d.no)
 | _=>d.no⟩
def tyM(P:Program)(mo:List Nat)(t:TypeId):Option Ty:=match Bc 1000000000 t with
 | true=>(match FL (t - 1000000000) mo with|true=>some .bool|false=>none)
 | false=>LM P 8 t
def FR(s:S Ty.T)(c:C Ty.T):Prop:=∀r∈refs c,∃o,look r.1 s.ob=some o/\r.2<=o.ver
def CZ(s:S Ty.T)(l:List (C Ty.T)):Prop:=∀c∈l,FR s c
def V.all:V Ty.T->List (C Ty.T)
 | .c x=>[x]
 | .ag l=>l
 | .tp l=>l.flatMap (·.2)
def okV(s:S Ty.T)(v:V Ty.T):Prop:=CZ s v.all
structure Inv (s:S Ty.T):Prop where
 sl:∀p∈s.sl,okV s p.2
 lo:∀l∈s.lo,∀p∈l,okV s p.2
 ob:∀g o,look g s.ob=some o->CZ s o.kids
 mo:∀m,s.mo=some m->m.g<mB/\0<m.vt.sz/\∀g o,look g s.ob=some o->FB s.mo g=false
structure CX (s s':S Ty.T):Prop where
 sl:s'.sl=s.sl
 lo:s'.lo=s.lo
 ok:∀c,FR s c->FR s' c/\AB s' c=AB s c
theorem CX.refl(s:S Ty.T):CX s s:=⟨rfl,rfl,λ_ h=>⟨h,rfl⟩⟩
theorem CX.trans{a b c:S Ty.T}(h:CX a b)(k:CX b c):CX a c:=
 ⟨k.sl.trans h.sl,k.lo.trans h.lo,λx hx=>⟨(k.ok x (h.ok x hx).1).1,((k.ok x (h.ok x hx).1).2).trans (h.ok x hx).2⟩⟩
theorem Mg{α:Type}{d:Nat}:∀ {l:List (Nat×α)} {v:α},look d l=some v->(d,v)∈l
 | [],_,h=>by cases h
 | (n,x)::r,v,h=>by
  simp only [look] at h;cases a:Aa n d with
  | true=>rw [a] at h;injection h with h;subst h;have:=Bs a;subst this;exact .head _
  | false=>rw [a] at h;exact .tail _ (Mg h)
theorem Q0{α:Type}(n d:Nat)(v:α)(l:List (Nat×α)):look d ((n,v)::l)=if n=d then some v else look d l:=by
 simp only [look];cases a:Aa n d with
 | true=>rw [if_pos (Bs a)]
 | false=>rw [if_neg (Nat.ne_of_beq_eq_false a)]
theorem Inv.at{s:S Ty.T}(h:Inv s)(d:Nat):okV s (s.at d):=by
 unfold S.at;cases hl:look d s.sl with
 | none=>intro c a;simp [V.all] at a;subst a;intro r hr;simp [refs] at hr
 | some v=>exact h.sl _ (Mg hl)
theorem CX.okV{s s':S Ty.T}(h:CX s s'){v:V Ty.T}(a:okV s v):Dn.okV s' v:=λc d=>(h.ok c (a c d)).1
theorem CX.IB{s s':S Ty.T}(h:CX s s'){l:List (C Ty.T)}(a:CZ s l):l.map (AB s')=l.map (AB s):=Ak λc d=>(h.ok c (a c d)).2
theorem CX.AQ{s s':S Ty.T}(h:CX s s'){v:V Ty.T}(a:Dn.okV s v):Dn.AQ s' v=Dn.AQ s v:=by
 cases v with
 | c x=>exact (h.ok x (a x (by simp [V.all]))).2
 | ag l=>simp only [Dn.AQ];rw [h.IB (show CZ s l from a)]
 | tp l=>
  simp only [Dn.AQ]
  congr 1
  refine Ak λp d=>?_;have:CZ s p.2:=λc f=>a c (List.mem_flatMap.2 ⟨p,d,f⟩);rw [h.IB this]
theorem Inv.zA{s s':S Ty.T}(hi:Inv s)(h:CX s s')(v:∀g o,look g s'.ob=some o->look g s.ob=some o\/CZ s' o.kids/\FB s.mo g=false)(hmo:s'.mo=s.mo):Inv s' where
 sl p f:=h.okV (hi.sl p (h.sl▸f))
 lo l hl p f:=h.okV (hi.lo l (h.lo▸hl) p f)
 ob g o r:=by
  rcases v g o r with a|a
  ·exact λc w=>(h.ok c (hi.ob g o a c w)).1
  ·exact a.1
 mo m d:=by
  rw [hmo] at d ⊢;refine ⟨(hi.mo m d).1,(hi.mo m d).2.1,λg o r=>?_⟩;rcases v g o r with a|a
  ·exact (hi.mo m d).2.2 g o a
  ·exact a.2
theorem Inv.free{s:S Ty.T}(hi:Inv s){g:Nat}{o:Ob Ty.T}(d:look g s.ob=some o):FB s.mo g=false:=by
 cases a:s.mo with
 | none=>rfl
 | some m=>rw [<-a];exact (hi.mo m a).2.2 g o d
theorem Sz{s:S Ty.T}{g:Nat}(h:s.has g=false):look g s.ob=none:=by
 unfold S.has at h;rw [Bj] at h;cases a:look g s.ob with
 | none=>rfl
 | some o=>rw [a] at h;cases h.1
theorem yN{s:S Ty.T}{g:Nat}(h:s.has g=false):FB s.mo g=false:=by unfold S.has at h;rw [Bj] at h;exact h.2
theorem Kaa{m:Option (Mo Ty.T)}{g:Nat}(h:FB m g=false):Ec m g=none:=by
 cases m with
 | none=>rfl
 | some m=>
  unfold FB at h;rw [Bj] at h;have d:g≠m.g:=λe=>by subst e;rw [Nat.beq_refl] at h;cases h.1
  have a:¬mB<=g:=λe=>by rw [Bt e] at h;cases h.2
  show m.at g=none;unfold Mo.at;rw [if_neg d,if_neg a]
theorem Inv.put{s:S Ty.T}(hi:Inv s){v:V Ty.T}(f:okV s v)(d:Option Nat):Inv (s.put d v):=by
 cases d with
 | none=>exact hi
 | some d=>
  refine ⟨λp a=>?_,hi.lo,hi.ob,hi.mo⟩;rcases Du.1 a with rfl|a
  ·exact f
  ·exact hi.sl p a
theorem Ju6(s:S Ty.T)(d:Option Nat)(v:V Ty.T)(c:C Ty.T):AB (s.put d v) c=AB s c:=by cases d<;>cases c<;>rfl
theorem Rn(s:S Ty.T)(d:Option Nat)(v x:V Ty.T):AQ (s.put d v) x=AQ s x:=by have e:AB (s.put d v)=AB s:=funext (Ju6 s d v);cases x<;>simp only [AQ,e]
theorem iQ(s:S Ty.T)(d:Option Nat)(v:V Ty.T):AA (s.put d v)=AA s:=by
 have e:AB (s.put d v)=AB s:=funext (Ju6 s d v);have:BG (s.put d v)=BG s:=funext λo=>by cases o<;>simp only [BG,e]
 cases d with
 | none=>rfl
 | some d=>funext g;simp only [AA];rw [this];rfl
theorem uQ(s:S Ty.T)(d:Option Nat)(v:V Ty.T):enc (s.put d v)=(enc s).put d (AQ s v) (AA s):=by
 unfold enc;rw [iQ];cases d with
 | none=>rfl
 | some d=>
  simp only [St.put]
  congr 1
  funext n;rw [Rn];simp only [S.at,S.put,Q0,upd];by_cases h:d=n
  ·subst h;simp
  ·rw [if_neg h,if_neg (λe=>h e.symm)]
theorem Sy{s s':S Ty.T}(hi:Inv s)(h:CX s s'):enc s'=⟨(enc s).f,AA s'⟩:=by
 unfold enc
 congr 1
 funext n;have:s'.at n=s.at n:=by simp only [S.at,h.sl]
 rw [this,h.AQ (hi.at n)]
def Ty.one:Ty->Bool
 | .u|.p _ _=>false
 | _=>true
theorem pW{t:Ty}(h:t.one=true)(v:t.T):t.cs v=[zk (t.cs v)]:=by cases t<;>simp [Ty.one] at h<;>rfl
theorem IV:∀(t:Ty) (v:t.T),(t.cs v).length=t.sz
 | .int _,_=>rfl
 | .bool,_=>rfl
 | .str,_=>rfl
 | .ls _,_=>rfl
 | .bf _ _,_=>rfl
 | .u,_=>rfl
 | .p a b,v=>by simp [Ty.cs,Ty.sz,IV a,IV b]
theorem Yx(s:S Ty.T):∀(t:Ty) (v:t.T),(expl val t v).map (AB s)=t.cs v
 | .int _,_=>rfl
 | .bool,_=>rfl
 | .str,_=>rfl
 | .ls _,_=>rfl
 | .bf _ _,_=>rfl
 | .u,_=>rfl
 | .p a b,v=>by simp only [expl,By,Ty.cs];rw [Yx s a,Yx s b];rfl
theorem Tj(t:Ty)(v:t.T):(expl val t v).length=t.sz:=by have:=congrArg List.length (Yx ⟨[],[],[],[],none⟩ t v);rwa [Av,IV] at this
theorem Sr(s:S Ty.T):∀(t:Ty) (v:t.T),CZ s (expl val t v)
 | .int _,_=>λc d=>by simp [expl] at d;subst d;intro r hr;simp [refs] at hr
 | .bool,_=>λc d=>by simp [expl] at d;subst d;intro r hr;simp [refs] at hr
 | .str,_=>λc d=>by simp [expl] at d;subst d;intro r hr;simp [refs] at hr
 | .ls _,_=>λc d=>by simp [expl] at d;subst d;intro r hr;simp [refs] at hr
 | .bf _ _,_=>λc d=>by simp [expl] at d;subst d;intro r hr;simp [refs] at hr
 | .u,_=>λc d=>by simp [expl] at d
 | .p a b,v=>λc d=>by simp only [expl,Bn] at d;exact d.elim (Sr s a _ c) (Sr s b _ c)
theorem Y7{ι:Ty->Type}{a b:Ty}{v:ι a}{x:ι b}(h:cast? a b v=some x):∃e:a=b,x=e▸v:=by
 unfold cast? at h;split at h
 ·rename_i e;injection h with h;exact ⟨e,h.symm⟩
 ·cases h
theorem lM{s:S Ty.T}{t:Ty}{c:C Ty.T}{y:t.T}(a:t.one=true)(h:HV val t c=some y):t.cs y=[AB s c]:=by
 cases c with
 | lf d v=>
  obtain ⟨e,rfl⟩:=Y7 (ι:=Ty.T) h;subst e;exact pW a v
 | kb b=>
  obtain ⟨e,rfl⟩:=Y7 (ι:=Ty.T) h;subst e;rfl
 | _=>simp [HV] at h
def Exact(s:S Ty.T)(lw:(t:Ty)->C Ty.T->Option t.T):Prop:=∀(t:Ty) (c:C Ty.T) (y:t.T),t.one=true->lw t c=some y->t.cs y=[AB s c]
theorem lZ(s:S Ty.T):Exact s (HV val):=λ_ _ _ a h=>lM a h
theorem lD{s:S Ty.T}{lw:(t:Ty)->C Ty.T->Option t.T}(g:Exact s lw):∀(t:Ty) {l r:List (C Ty.T)} {x:t.T},impl val lw t l=some (x,r)->l.map (AB s)=t.cs x++r.map (AB s)
 | .u,l,r,x,h=>by simp only [impl] at h;injection h with h;simp only [Bd] at h;obtain ⟨-,rfl⟩:=h;rfl
 | .p a b,l,r,x,h=>by
  simp only [impl] at h;cases o:impl val lw a l with
  | none=>rw [o] at h;cases h
  | some p=>
   obtain ⟨u,w⟩:=p;rw [o] at h;simp only [Bk] at h;cases m:impl val lw b w with
   | none=>rw [m] at h;cases h
   | some q=>
    obtain ⟨v,A⟩:=q;rw [m] at h;simp only [Ad,Aj,Bd] at h;obtain ⟨rfl,rfl⟩:=h;rw [lD g a o,lD g b m,<-Bf];rfl
 | .int k,l,r,x,h=>by
  cases l with
  | nil=>cases h
  | cons c l=>
   simp only [impl] at h;cases d:lw (.int k) c with
   | none=>rw [d] at h;cases h
   | some y=>rw [d] at h;simp only [Ad,Aj,Bd] at h;obtain ⟨rfl,rfl⟩:=h;rw [g _ _ _ rfl d];rfl
 | .bool,l,r,x,h=>by
  cases l with
  | nil=>cases h
  | cons c l=>
   simp only [impl] at h;cases d:lw .bool c with
   | none=>rw [d] at h;cases h
   | some y=>rw [d] at h;simp only [Ad,Aj,Bd] at h;obtain ⟨rfl,rfl⟩:=h;rw [g _ _ _ rfl d];rfl
 | .str,l,r,x,h=>by
  cases l with
  | nil=>cases h
  | cons c l=>
   simp only [impl] at h;cases d:lw .str c with
   | none=>rw [d] at h;cases h
   | some y=>rw [d] at h;simp only [Ad,Aj,Bd] at h;obtain ⟨rfl,rfl⟩:=h;rw [g _ _ _ rfl d];rfl
 | .ls t,l,r,x,h=>by
  cases l with
  | nil=>cases h
  | cons c l=>
   simp only [impl] at h;cases d:lw (.ls t) c with
   | none=>rw [d] at h;cases h
   | some y=>rw [d] at h;simp only [Ad,Aj,Bd] at h;obtain ⟨rfl,rfl⟩:=h;rw [g _ _ _ rfl d];rfl
 | .bf f t,l,r,x,h=>by
  cases l with
  | nil=>cases h
  | cons c l=>
   simp only [impl] at h;cases d:lw (.bf f t) c with
   | none=>rw [d] at h;cases h
   | some y=>rw [d] at h;simp only [Ad,Aj,Bd] at h;obtain ⟨rfl,rfl⟩:=h;rw [g _ _ _ rfl d];rfl
theorem J0a{s:S Ty.T}{lw:(t:Ty)->C Ty.T->Option t.T}(a:Exact s lw)(t:Ty):∀(n:Nat) {l:List (C Ty.T)} {x:List t.T},JF val lw t n l=some x->l.map (AB s)=x.flatMap t.cs
 | 0,l,x,h=>by cases h
 | n+1,l,x,h=>by
  cases l with
  | nil=>simp only [JF] at h;injection h with h;subst h;rfl
  | cons c l=>
   simp only [JF] at h;cases f:impl val lw t (c::l) with
   | none=>rw [f] at h;cases h
   | some p=>
    obtain ⟨u,r⟩:=p;rw [f] at h;simp only [Bk] at h;cases d:JF val lw t n r with
    | none=>rw [d] at h;cases h
    | some y=>
     rw [d] at h;simp only [Ad] at h;obtain rfl:x=(u:t.T)::(y:List t.T):=(Am h).symm;rw [lD a t f,J0a a t n d];rfl
theorem gY(s:S Ty.T)(v:AV):AB s (cC val v)=v:=by cases v<;>rfl
theorem sP(s:S Ty.T)(v:AV):FR s (cC val v):=by cases v<;>(intro r hr;simp [cC,refs] at hr)
theorem Ku(s:S Ty.T)(x:LO):(enc s).ev x=AQ s (ev val s x):=by
 cases x with
 | t n=>rfl
 | c v=>
  show v=AQ s (cV val v);unfold cV;split
  ·simp only [AQ,Db]
   congr 1
   exact (Dg _).symm.trans (Ak λv _=>(gY s v).symm)
  ·rfl
  ·rfl
  ·exact (gY s _).symm
theorem Zm{s:S Ty.T}{c:C Ty.T}(h:FR s c):okV s (.c c):=λx hx=>by simp [V.all] at hx;subst hx;exact h
theorem Kh(s:S Ty.T){c:C Ty.T}(h:refs c=[]):FR s c:=λr hr=>by rw [h] at hr;cases hr
theorem Mc{s:S Ty.T}(hi:Inv s)(x:LO):okV s (ev val s x):=by
 cases x with
 | t n=>exact hi.at n
 | c v=>
  show okV s (cV val v);unfold cV;split
  ·intro c a;obtain ⟨v,_,rfl⟩:=Dc.1 (show c∈List.map _ _ from a);exact sP s v
  ·intro c a;simp [V.all] at a
  ·exact Zm (Kh s rfl)
  ·exact Zm (sP s _)
structure JM (call:Vv.Call) (base g0:Nat) (s:S Ty.T) (op:CQ) (v:V Ty.T) (s':S Ty.T):Prop where
 ev:Ja call base (enc s) g0 op=some (AQ s' v,AA s')
 st:CX s s'
 iv:Inv s'
 ov:okV s' v
section
variable {call:Vv.Call} {base g0:Nat} {s:S Ty.T} {α:Type} {r:α}
theorem Jk{β:Type}{x:Option β}{k:β->Option α}(h:BU val x k=some r):∃v,x=some v/\k v=some r:=by
 cases x with
 | none=>cases h
 | some v=>exact ⟨v,rfl,h⟩
theorem Km{c:Bool}{x:Option α}(h:val.gd c x=some r):c=true/\x=some r:=by
 cases c with
 | true=>exact ⟨rfl,h⟩
 | false=>cases h
theorem Sv{c:Bool}{x y:Option α}(h:val.br c x y=some r):(c=true/\x=some r)\/(c=false/\y=some r):=by
 cases c with
 | true=>exact .inl ⟨rfl,h⟩
 | false=>exact .inr ⟨rfl,h⟩
theorem J2k{t:Ty}{l:List t.T}{i:Int}{k:t.T->Option α}(h:val.ge (t:=t) l i k=some r):∃x,0<=i/\l[i.toNat]?=some x/\k x=some r:=by
 change JG (Hy l i) k=some r at h;unfold Hy at h;by_cases a:0<=i
 ·rw [if_pos a] at h;cases hx:l[i.toNat]? with
  | none=>rw [hx] at h;cases h
  | some x=>rw [hx] at h;exact ⟨x,a,rfl,h⟩
 ·rw [if_neg a] at h;cases h
theorem JM.same(hi:Inv s){op:CQ}{v:V Ty.T}(d:Ja call base (enc s) g0 op=some (AQ s v,AA s))(a:okV s v):JM call base g0 s op v s:=⟨d,.refl s,hi,a⟩
theorem Ra{x:LO}{k:IntKind}{a:Int}(h:MZ k (ev val s x)=some a):(enc s).ev x=.int k a:=by
 rw [Ku];unfold MZ at h;split at h
 ·rename_i t v hx;obtain ⟨e,rfl⟩:=Y7 (ι:=Ty.T) h;subst e;rw [hx];rfl
 ·cases h
theorem O1{ag:Bool}{l:List (C Ty.T)}{v:V Ty.T}(h:pk ag l=some v)(s:S Ty.T):AQ s v=(if ag=true then .agg (l.map (AB s)) else (l.map (AB s)).headD .any)/\(∀c∈v.all,c∈l)/\(ag=true\/l.length=1):=by
 unfold pk at h;split at h
 ·rename_i a;injection h with h;subst h;rw [if_pos a];exact ⟨rfl,λc d=>d,.inl a⟩
 ·rename_i a;split at h
  ·injection h with h;subst h;rw [if_neg a];exact ⟨rfl,λc d=>d,.inr rfl⟩
  ·cases h
theorem lF{ag:Bool}{l:List (C Ty.T)}{off n:Nat}{v:V Ty.T}(m:off+n<=l.length)(h:pk ag (Ey l off n)=some v)(s:S Ty.T):pack ag (l.map (AB s)) off n=some (AQ s v)/\∀c∈v.all,c∈l:=by
 obtain ⟨r,o,f⟩:=O1 h s;refine ⟨?_,λc g=>Dr (Ds (o c g))⟩;have d:(Ey l off n).length=n:=by simp [Ey];omega
 have g:(Ey l off n).map (AB s)=cut (l.map (AB s)) off n:=by simp [Ey,cut]
 unfold pack;rw [if_pos (by simpa using m),r,g];cases ag with
 | true=>rfl
 | false=>
  rw [d] at f;have f:n=1:=by simpa using f
  subst f;simp only [Az,if_false];unfold cut;have a:off<(l.map (AB s)).length:=by simp;omega
  rw [List.getElem?_eq_getElem a,List.drop_eq_getElem_cons a];rfl
theorem VZ(hi:Inv s){x:LO}:JM call base g0 s (.dS x) (ev val s x) s:=.same hi (by simp only [Ja,Ku];rfl) (Mc hi x)
theorem uy{v:V Ty.T}:∀c∈v.cells,c∈v.all:=by cases v<;>simp [V.cells,V.all]
theorem J8q{c:C Ty.T}(h:c.plain=true)(s:S Ty.T):(AB s c).one=true:=by
 cases c with
 | lf t v=>cases t<;>simp [C.plain] at h<;>rfl
 | any=>cases h
 | k v=>exact h
 | _=>rfl
theorem Jso{v:V Ty.T}(h:v.good=true)(s:S Ty.T):(AQ s v).cells=some (v.cells.map (AB s)):=by
 cases v with
 | tp l=>cases h
 | ag l=>rfl
 | c x=>
  have d:=J8q h s;simp only [AQ,V.cells,Bu,Ao];generalize AB s x=a at d;cases a<;>simp_all [AV.cells,AV.one]
end
section
variable {call:Vv.Call} {base g0:Nat} {s:S Ty.T} {α:Type} {r:α}
theorem CX.BG{s s':S Ty.T}(h:CX s s'){o:Ob Ty.T}(a:CZ s o.kids):Dn.BG s' o=Dn.BG s o:=by
 cases o with
 | mp v kt vt es=>rfl
 | em v kt vt el=>rfl
 | box v cs=>simp only [Dn.BG];rw [h.IB (show CZ s cs from a)]
 | lit v e el cs z=>simp only [Dn.BG];rw [h.IB (show CZ s cs from a)]
 | row v e el t l x nest z=>
  have hx:CZ s x:=λc d=>a c (by simp only [Ob.kids];exact Do _ d);simp only [Dn.BG];rw [h.IB hx];cases nest with
  | none=>rfl
  | some p=>
   simp only [Zs];rw [(h.ok p.2 (a p.2 (by simp [Ob.kids]))).2]
theorem Mj(s:S Ty.T)(o:Ob Ty.T):(Dn.BG s o).ver=o.ver:=by cases o<;>rfl
theorem Qv(g a:Nat)(o:Ob Ty.T):look a (s.obj g o).ob=if g=a then some o else look a s.ob:=Q0 g a o s.ob
theorem Mf{g:Nat}{o:Ob Ty.T}(h:∀a,look g s.ob=some a->a.ver=o.ver/\a.CO=o.CO):CX s (s.obj g o):=by
 refine ⟨rfl,rfl,λc m=>⟨λr hr=>?_,?_⟩⟩
 ·obtain ⟨a,f,l⟩:=m r hr;rw [Qv];by_cases d:g=r.1
  ·subst d;rw [if_pos rfl];exact ⟨o,rfl,by rw [<-(h a f).1];exact l⟩
  ·rw [if_neg d];exact ⟨a,f,l⟩
 ·cases c<;>try rfl
  rename_i w v;obtain ⟨a,f,l⟩:=m (w,v) (by simp [refs]);simp only [Dn.AB,Yk,Qv];by_cases d:g=w
  ·subst d;obtain ⟨A,y⟩:=h a f;rw [if_pos rfl,f];simp only [<-A,<-y];rfl
  ·rw [if_neg d];rfl
theorem J26{g:Nat}{m o:Ob Ty.T}{n:Int}(A:look g s.ob=some m)(H:o.ver=m.ver+1)(G:n.toNat=m.CO):CX s ((s.old g m.ver n).obj g o):=by
 refine ⟨rfl,rfl,λc E=>⟨λr hr=>?_,?_⟩⟩
 ·obtain ⟨B,a,y⟩:=E r hr;show ∃o',look r.1 ((g,o)::s.ob)=some o'/\_;rw [Q0];by_cases w:g=r.1
  ·subst w;rw [if_pos rfl];rw [A] at a;injection a with a;subst a;exact ⟨o,rfl,by omega⟩
  ·rw [if_neg w];exact ⟨B,a,y⟩
 ·cases c<;>try rfl
  rename_i l v;obtain ⟨B,a,y⟩:=E (l,v) (by simp [refs]);have e:look l ((s.old g m.ver n).obj g o).ob=if g=l then some o else look l s.ob:=Q0 g l o s.ob;simp only [Dn.AB,Yk,e];by_cases w:g=l
  ·subst w;rw [A] at a;injection a with a;subst a;simp only at y;rw [if_pos rfl,A];simp only;rw [if_neg (by omega:¬o.ver=v)];show AV.arr g v 0 (mQ g v ((g,m.ver,n)::s.ln))=_;simp only [mQ,true_and];by_cases f:m.ver=v
   ·rw [if_pos f,if_pos f];exact congrArg _ G
   ·rw [if_neg f,if_neg f]
  ·rw [if_neg w];cases J:look l s.ob with
   | none=>rfl
   | some F=>
    simp only;by_cases d:F.ver=v
    ·rw [if_pos d,if_pos d]
    ·rw [if_neg d,if_neg d];show AV.arr l v 0 (mQ l v ((g,m.ver,n)::s.ln))=_;simp only [mQ];rw [if_neg (λh=>w h.1)]
theorem NM(hi:Inv s){s':S Ty.T}{g:Nat}{o:Ob Ty.T}(hs:CX s s')(hl:∀a,look a s'.ob=if g=a then some o else look a s.ob)(hmo:s'.mo=s.mo:=by rfl):AA s'=upd (AA s) g (some (Dn.BG s' o)):=by
 funext a;simp only [AA,hl,upd,hmo];by_cases d:g=a
 ·subst d;simp
 ·rw [if_neg d,if_neg (λe=>d e.symm)];cases f:look a s.ob with
  | none=>rfl
  | some o'=>simp only;rw [hs.BG (hi.ob a o' f)]
theorem NJ(hi:Inv s){s':S Ty.T}{g:Nat}{o:Ob Ty.T}(hs:CX s s')(hl:∀a,look a s'.ob=if g=a then some o else look a s.ob)(l:CZ s' o.kids)(f:FB s.mo g=false)(hmo:s'.mo=s.mo:=by rfl):Inv s':=
 hi.zA hs (hmo:=hmo) λa o' h=>by
  rw [hl] at h;by_cases d:g=a
  ·rw [if_pos d] at h;injection h with h;subst h;exact .inr ⟨l,d▸f⟩
  ·rw [if_neg d] at h;exact .inl h
theorem Jqj{g:Nat}(h:s.has g=false):AA s g=none:=by simp [AA,Sz h,Kaa (yN h)]
theorem lI{m:Option (Mo Ty.T)}{g:Nat}{o:AZ}(h:Ec m g=some o):FB m g=true/\∃a,m=some a/\((g=a.g/\o=.map 0 (F8 a.kt a.vt 0 a.es) false)\/(g≠a.g/\mB<=g/\∃e,Iw (α:=a.kt.T×List a.vt.T) a.es (g - mB)=some e/\o=JE a.vt a.el e.2)):=by
 cases m with
 | none=>cases h
 | some m=>
  have d:m.at g=some o:=h;clear h;unfold Mo.at at d;split at d
  ·rename_i e;injection d with d;subst e;exact ⟨by simp [FB],m,rfl,.inl ⟨rfl,d.symm⟩⟩
  ·rename_i l;split at d
   ·rename_i f;obtain ⟨e,v,r⟩:=Option.map_eq_some_iff.1 d;refine ⟨?_,m,rfl,.inr ⟨l,f,e,v,r.symm⟩⟩;show (Aa m.g g || Bc mB g)=true;rw [Bt f,Bool.or_true]
   ·cases d
theorem uj{g:Nat}{o:AZ}(h:AA s g=some o):(∃ob,look g s.ob=some ob/\o=Dn.BG s ob)\/(look g s.ob=none/\Ec s.mo g=some o):=by
 simp only [AA] at h;cases hl:look g s.ob with
 | some ob=>rw [hl] at h;injection h with h;exact .inl ⟨ob,rfl,h.symm⟩
 | none=>rw [hl] at h;exact .inr ⟨rfl,h⟩
theorem J4y{g v:Nat}{es:List (AV×AV)}{z:Bool}(h:AA s g=some (.map v es z)):z=false:=by
 rcases uj h with ⟨ob,-,e⟩|⟨-,h⟩
 ·cases ob<;>simp only [Dn.BG,AZ.map.injEq,reduceCtorEq] at e
  ·exact e.2.2
  ·exact e.2.2
 ·obtain ⟨-,m,-,⟨-,e⟩|⟨-,-,x,-,e⟩⟩:=lI h
  ·injection e
  ·cases e
theorem Jn{g:Nat}{o:Ob Ty.T}(h:look g s.ob=some o):AA s g=some (Dn.BG s o):=by simp [AA,h]
theorem Yu{g:Nat}(h:s.has g=false):Kg (AA s) g=s.nv g:=by unfold Kg S.nv;rw [Sz h,Jqj h]
theorem kR(hi:Inv s){op:CQ}{v:V Ty.T}{o:Ob Ty.T}{av:AV}{ao:AZ}(f:s.has g0=false)(r:Ja call base (enc s) g0 op=some (av,upd (AA s) g0 (some ao)))
  (g:AQ (s.obj g0 o) v=av) (l:Dn.BG (s.obj g0 o) o=ao) (m:CZ (s.obj g0 o) o.kids) (a:okV (s.obj g0 o) v):JM call base g0 s op v (s.obj g0 o):=by
 have hs:CX s (s.obj g0 o):=Mf λw h=>by rw [Sz f] at h;cases h
 refine ⟨?_,hs,NJ hi hs (λd=>Qv g0 d o) m (yN f),a⟩;rw [r,g,NM hi hs (λd=>Qv g0 d o),l]
theorem nv0{g:Nat}(h:look g s.ob=none):s.nv g=0:=by simp [S.nv,h]
theorem iH{g:Nat}{o:Ob Ty.T}{c:C Ty.T}(h:refs c=[(g,o.ver)]):FR (s.obj g o) c:=λr hr=>by rw [h] at hr;simp at hr;subst hr;exact ⟨o,by rw [Qv,if_pos rfl],Bv _⟩
theorem J8n(hi:Inv s){z:List AV}(a:s.has g0=false):JM call base g0 s (.alloc z) (.c (.ptr g0 (s.nv g0) 0)) (s.obj g0 (.box (s.nv g0) (z.map (cC val)))):=by
 refine kR hi a (by simp only [Ja];rfl) ?_ ?_ (λc d=>?_) (Zm (iH rfl))
 ·simp only [AQ,AB];rw [show (enc s).h=AA s from rfl,Yu a]
 ·simp only [Dn.BG,Db];rw [show (enc s).h=AA s from rfl,Yu a]
  congr 1
  exact (Ak λv _=>gY _ v).trans (Dg _)
 ·obtain ⟨v,_,rfl⟩:=Dc.1 (show c∈List.map _ _ from d);exact sP _ v
theorem Wx(hi:Inv s){x:LO}(d:s.has g0=false)(f:(ev val s x).good=true):JM call base g0 s (.box x) (.c (.ptr g0 (s.nv g0) 0)) (s.obj g0 (.box (s.nv g0) (ev val s x).cells)):=by
 have hs:CX s (s.obj g0 (.box (s.nv g0) (ev val s x).cells)):=Mf λg h=>by rw [Sz d] at h;cases h
 have a:CZ s (ev val s x).cells:=λc a=>Mc hi x c (uy c a);refine kR hi d (by simp only [Ja];rw [Ku,Jso f];rfl) ?_ ?_ (λc h=>(hs.ok c (a c h)).1) (Zm (iH rfl))
 ·simp only [AQ,AB];rw [show (enc s).h=AA s from rfl,Yu d]
 ·simp only [Dn.BG];rw [hs.IB a,show (enc s).h=AA s from rfl,Yu d]
theorem wK(l:List (C Ty.T))(off:Nat)(new:List (C Ty.T))(f:C Ty.T->AV):(Lp l off new).map f=paste (l.map f) off (new.map f):=by simp [Lp,paste]
theorem Jrd{l new:List (C Ty.T)}{off:Nat}{s:S Ty.T}(d:CZ s l)(f:CZ s new):CZ s (Lp l off new):=λc a=>by
 simp only [Lp,Bn] at a;rcases a with (a|a)|a
 ·exact d c (Ds a)
 ·exact f c a
 ·exact d c (Dr a)
theorem J6s{l new:List (C Ty.T)}{off:Nat}(h:off+new.length<=l.length):(Lp l off new).length=l.length:=by simp [Lp];omega
theorem Jqu(hi:Inv s):∀ {ps:List (Nat×Nat×LO)} {z l:List (C Ty.T)},CZ s z->aG (ev val s) z ps=some l->M9 (enc s).ev (z.map (AB s)) ps=some (l.map (AB s))/\CZ s l
 | [],z,l,a,h=>by simp only [aG] at h;injection h with h;subst h;exact ⟨rfl,a⟩
 | (off,n,x)::ps,z,l,a,h=>by
  simp only [aG] at h;split at h
  ·rename_i d;obtain ⟨r,o,m⟩:=d;have hx:CZ s (ev val s x).cells:=λc d=>Mc hi x c (uy c d);obtain ⟨g,f⟩:=Jqu hi (Jrd a hx) h;refine ⟨?_,f⟩;simp only [M9,Ku,Jso m];rw [if_pos (by simp;omega),<-g,wK]
  ·cases h
theorem J8d(hi:Inv s){z:List AV}{ps:List (Nat×Nat×LO)}{l:List (C Ty.T)}(h:aG (ev val s) (z.map (cC val)) ps=some l):JM call base g0 s (.build z ps) (.ag l) s:=by
 obtain ⟨a,g⟩:=Jqu hi (λc f=>by obtain ⟨v,_,rfl⟩:=Dc.1 f;exact sP s v) h;have d:(z.map (cC val)).map (AB s)=z:=by rw [Db];exact (Ak λv _=>gY s v).trans (Dg _)
 rw [d] at a;exact .same hi (by simp only [Ja,a];rfl) g
theorem uq(z:List AV)(s:S Ty.T):∀n,(F3 (z.map (cC val)) n).map (AB s)=z8 z n
 | 0=>rfl
 | n+1=>by
  simp only [F3,z8,By,uq z s n,Db]
  congr 1
  exact (Ak λv _=>gY s v).trans (Dg _)
theorem J2c(z:List AV)(s:S Ty.T):∀n,CZ s (F3 (z.map (cC val)) n)
 | 0=>λc a=>by cases a
 | n+1=>λc a=>by
  simp only [F3,Bn] at a;rcases a with a|a
  ·obtain ⟨v,_,rfl⟩:=Dc.1 a;exact sP s v
  ·exact J2c z s n c a
theorem wM{g:Nat}{o:Ob Ty.T}:Yk (s.obj g o) g o.ver=o.CO:=by simp [Yk,Qv]
theorem J5f(hi:Inv s){n esz:Nat}{el:TypeId}{z:List AV}{ps:List (Nat×Nat×LO)}{l:List (C Ty.T)}(a:s.has g0=false)(h:aG (ev val s) (F3 (z.map (cC val)) n) ps=some l)
  (hl:l.length=n * esz) (g:0<esz):JM call base g0 s (.EX n esz el z ps) (.c (.own g0 (s.nv g0))) (s.obj g0 (.lit (s.nv g0) esz el l false)):=by
 have hs:CX s (s.obj g0 (.lit (s.nv g0) esz el l false)):=Mf λr h=>by rw [Sz a] at h;cases h
 obtain ⟨f,d⟩:=Jqu hi (J2c z s n) h;rw [uq] at f;refine kR hi a (by simp only [Ja,f];rfl) ?_ ?_ (λc m=>(hs.ok c (d c m)).1) (Zm (iH rfl))
 ·simp only [AQ,AB];rw [show Yk (s.obj g0 (.lit (s.nv g0) esz el l false)) g0 (s.nv g0)=l.length / esz from wM (o:=.lit (s.nv g0) esz el l false),show (enc s).h=AA s from rfl,Yu a,hl,Ba _ g]
 ·simp only [Dn.BG];rw [hs.IB d,show (enc s).h=AA s from rfl,Yu a]
end
theorem zo{t:Ty}:∀l:List t.T,(l.flatMap t.cs).length=l.length * t.sz
 | []=>by simp
 | x::l=>by simp only [Ac,Ar,IV,zo l,List.length_cons,Ah];omega
theorem iM{t:Ty}:∀ {l:List t.T} {i:Nat} {e:t.T},l[i]?=some e->cut (l.flatMap t.cs) (i * t.sz) t.sz=t.cs e
 | [],i,e,h=>by cases h
 | x::l,0,e,h=>by simp at h;subst h;simp only [cut,Ac,Bp,List.drop_zero];rw [Bz (by rw [IV];exact Bv _),Be (by rw [IV];exact Bv _)]
 | x::l,i+1,e,h=>by
  have h:l[i]?=some e:=by simpa using h
  have:=iM h;simp only [cut,Ac] at this ⊢;rw [show (i+1) * t.sz=(t.cs x).length+i * t.sz by rw [IV,Ah];omega,Dh,Br (by omega),Dl];rw [show (t.cs x).length+i * t.sz - (t.cs x).length=i * t.sz by omega];exact this
theorem J9q{L:List AV}{a m off n:Nat}(h:off+n<=m):cut (cut L a m) off n=cut L (a+off) n:=by simp only [cut,List.drop_take,List.drop_drop,List.take_take];rw [Nat.min_eq_left (by omega)]
theorem Wj{L:List AV}{a m:Nat}(hl:a+m<=L.length):(cut L a m).length=m:=by simp [cut];omega
theorem Jv3{ag:Bool}{L:List AV}{a m off n:Nat}(h:off+n<=m)(hl:a+m<=L.length)(d:ag=true\/n=1):pack ag L (a+off) n=pack ag (cut L a m) off n:=by
 unfold pack;rw [if_pos (by omega:a+off+n<=L.length),if_pos (by rw [Wj hl];exact h:off+n<=(cut L a m).length),J9q h];cases ag with
 | true=>rfl
 | false=>
  have:n=1:=by simpa using d
  subst this;simp only [Az,if_false,cut,Dd,De];rw [if_pos (by omega)]
theorem Jsl{L:List AV}{k a n:Nat}{c:AV}(h:k<a\/a+n<=k):cut (L.set k c) a n=cut L a n:=by
 refine Bg λj=>?_;simp only [cut,Dd,De];by_cases d:j<n
 ·rw [if_pos d,if_pos d,Bw (by omega)]
 ·rw [if_neg d,if_neg d]
theorem J5h{L:List AV}{a n no:Nat}{c:AV}(h:no<n):cut (L.set (a+no) c) a n=(cut L a n).set no c:=by
 refine Bg λj=>?_;simp only [cut,Dd,De,Bh,List.length_take,Di];by_cases d:j<n
 ·by_cases f:no=j
  ·subst f;simp only [if_pos d,if_true];by_cases hl:a+no<L.length
   ·rw [if_pos hl,if_pos (by omega)]
   ·rw [if_neg hl,if_neg (by omega)]
  ·rw [if_pos d,if_neg (by omega),if_neg f,if_pos d]
 ·rw [if_neg d,if_neg (by omega),if_neg d]
theorem J7k{ag:Bool}{L:List AV}{off n:Nat}(h:off+n<=L.length)(a:ag=true\/n=1):pack ag (L.drop off) 0 n=pack ag L off n:=by
 unfold pack;rw [if_pos (by simp;omega),if_pos h];cases ag with
 | true=>simp [cut]
 | false=>
  have:n=1:=by simpa using a
  subst this;simp
section
variable {call:Vv.Call} {base g0:Nat} {s:S Ty.T} {α:Type} {r:α}
theorem YQ(l:List AV)(n sz:Nat)(ec:C Ty.T->AV)(x:Option (Nat×C Ty.T)):(Zs l n sz ec x).length=l.length:=by cases x<;>simp [Zs]
theorem OQ{t:Ty}{l:List t.T}{i:Nat}{e:t.T}{n:Option (Nat×C Ty.T)}{ec:C Ty.T->AV}(h:l[i]?=some e)(f:0<t.sz):Zs (l.flatMap t.cs) l.length t.sz ec n≠[]:=by intro d;have:=congrArg List.length d;rw [YQ,zo] at this;have hl:=(Ai.1 h).1;rcases Da.1 this with a|a<;>omega
theorem nJ{ag:Bool}{l:List (C Ty.T)}{v:V Ty.T}(h:pk ag l=some v):ag=true\/l.length=1:=(O1 h ⟨[],[],[],[],none⟩).2.2
theorem J3t{l:List (C Ty.T)}{off n:Nat}(h:off+n<=l.length):(Ey l off n).length=n:=by simp [Ey];omega
theorem J7f{i:Int}{n:Nat}(h:val.cm .eql .i64 (val.pl i (1:Int)) ((n:Nat):Int)=true):i+1=n:=by have:((i+1:Int)==(n:Int))=true:=h;simpa using this
theorem J4g{t:Ty}{l:List t.T}{i:Nat}{e:t.T}(h:l[i]?=some e)(s:S Ty.T)(nest:Option (Nat×C Ty.T))(a:∀p,nest=some p->p.1<t.sz) :
  cut (Zs (l.flatMap t.cs) l.length t.sz (AB s) nest) (i * t.sz) t.sz=(match nest with|some p=>if i+1=l.length then (t.cs e).set p.1 (AB s p.2) else t.cs e|none=>t.cs e):=by
 have hl:=(Ai.1 h).1;cases nest with
 | none=>exact iM h
 | some p=>
  have d:=a p rfl;simp only [Zs];split
  ·rename_i hi;rw [show l.length - 1=i by omega,J5h d,iM h]
  ·rename_i hi;rw [Jsl,iM h];right;have:(i+1) * t.sz<=(l.length - 1) * t.sz:=Ae _ (by omega);rw [Ah] at this;omega
theorem J47(hi:Inv s){ag:Bool}{n:Nat}{x:V Ty.T}{k:V Ty.T->Option α}(hx:okV s x)(h:MO val s ag n x k=some r):∃v,IQ (AA s) ag n (AQ s x)=some (AQ s v)/\okV s v/\k v=some r:=by
 unfold MO at h;split at h
 ·rename_i g ver off;split at h
  ·rename_i v cs B;split at h
   ·rename_i d;obtain ⟨rfl,o⟩:=d;obtain ⟨u,w,A⟩:=Jk h;obtain ⟨f,m⟩:=lF o w s;refine ⟨u,?_,λc d=>hi.ob _ _ B c (m c d),A⟩;simp only [IQ,JK,AQ,AB,Jn B,BG];rw [if_pos trivial];exact f
   ·cases h
  ·rename_i v e el cs z B;split at h
   ·rename_i d;obtain ⟨rfl,o,K⟩:=d;obtain ⟨u,w,A⟩:=Jk h;obtain ⟨f,m⟩:=lF o w s;refine ⟨u,?_,λc d=>hi.ob _ _ B c (m c d),A⟩;simp only [IQ,JK,AQ,AB,Jn B,BG];rw [if_pos ⟨trivial,by simpa using K⟩];exact f
   ·cases h
  ·cases h
 ·rename_i g ver esz i off;split at h
  ·rename_i v e el t l nest z B;obtain ⟨L,rfl⟩:∃L:List t.T,(show Ty.T (.ls t) from L)=l:=⟨l,rfl⟩;obtain ⟨I0,rfl⟩:∃I0:Int,(show Ty.T I from I0)=i:=⟨i,rfl⟩;split at h
   ·rename_i d;obtain ⟨rfl,rfl,R,o,P⟩:=d;subst R;obtain ⟨y,X,G,h⟩:=J2k (l:=L) (i:=I0) h;have hl:=(Ai.1 G).1;have F:I0.toNat * t.sz+t.sz<=(Zs (L.flatMap t.cs) L.length t.sz (AB s) nest).length:=by rw [YQ,zo];have:(I0.toNat+1) * t.sz<=L.length * t.sz:=Ae _ hl;rw [Ah] at this;omega
    have key:∀ {E:List (C Ty.T)} {u:V Ty.T},E.length=t.sz->(ag=true\/n=1->pack ag (cut (Zs (L.flatMap t.cs) L.length t.sz (AB s) nest) (I0.toNat * t.sz) t.sz) off n=pack ag (E.map (AB s)) off n)->pk ag (Ey E off n)=some u->IQ (AA s) ag n (AQ s (.c (.Fy g v t.sz (show Ty.T I from I0) off)))=some (AQ s u)/\∀c∈u.all,c∈E:=by intro E u hE H N;obtain ⟨f,m⟩:=lF (by rw [hE];exact o) N s;refine ⟨?_,m⟩;have a:=nJ N;rw [J3t (by rw [hE];exact o)] at a;simp only [IQ,JK,AQ,AB,Jn B,BG,Ao,Af];rw [if_pos ⟨trivial,OQ G P⟩];simp only;rw [show (show Int from (show Ty.T I from I0)).toNat=I0.toNat from rfl];exact (Jv3 o F a).trans ((H a).trans f)
    cases nest with
    | none=>
     obtain ⟨u,w,A⟩:=Jk h;obtain ⟨f,m⟩:=key (Tj t y) (λ_=>by rw [J4g G s none (λp J=>by cases J),Yx]) w;exact ⟨u,f,λc d=>Sr s t y c (m c d),A⟩
    | some p=>
     obtain ⟨no,c⟩:=p;simp only at h;split at h
     ·rename_i hr;obtain ⟨O,h⟩:=Km h;have O:=J7f (n:=L.length) O;obtain ⟨u,w,A⟩:=Jk h;obtain ⟨f,m⟩:=key (by rw [Bo,Tj]) (λ_=>by rw [J4g G s (some (no,c)) (λp J=>by cases J;simp only;omega)];simp only;rw [if_pos (by omega),Dz,Yx]) w
      refine ⟨u,f,λc' d=>?_,A⟩;rcases List.mem_or_eq_of_mem_set (m c' d) with M|M
      ·exact Sr s t y c' M
      ·rw [M];exact hi.ob _ _ B c (by simp [Ob.kids])
     ·rename_i hr;obtain ⟨u,w,A⟩:=Jk h;obtain ⟨f,m⟩:=key (Tj t y) (λa=>by
       rw [Yx,<-Jv3 o F a];have Q:I0.toNat * t.sz+t.sz<=(L.flatMap t.cs).length:=by rwa [YQ] at F
       rw [<-iM G,<-Jv3 o Q a];simp only [Zs];have B:(L.length - 1) * t.sz+no<I0.toNat * t.sz+off\/I0.toNat * t.sz+off+n<=(L.length - 1) * t.sz+no:=by
        by_cases hi:I0.toNat+1=L.length
        ·rw [show L.length - 1=I0.toNat by omega];omega
        ·have:(I0.toNat+1) * t.sz<=(L.length - 1) * t.sz:=Ae _ (by omega);rw [Ah] at this;omega
       unfold pack;rw [Bo,Jsl B];cases ag with
       | true=>rfl
       | false=>
        have:n=1:=by simpa using a
        subst this;simp only [Az,if_false];rw [Bw (by omega)]) w
      exact ⟨u,f,λc d=>Sr s t y c (m c d),A⟩
   ·cases h
  ·cases h
 ·rename_i t v off;split at h
  ·rename_i o;obtain ⟨u,w,A⟩:=Jk h;obtain ⟨f,m⟩:=lF (by rw [Tj];exact o) w s;refine ⟨u,?_,λc d=>Sr s t v c (m c d),A⟩;have a:=nJ w;rw [J3t (by rw [Tj];exact o)] at a;rw [Yx] at f;simp only [IQ,JK,AQ,AB];rw [J7k (by rw [IV];exact o) a];exact f
  ·cases h
 ·cases h
end
theorem J72{L L' c c':List AV}{a:Nat}(f:a+c.length<=L.length)(hl:L'.length=L.length)(d:c'.length=c.length)(h:∀i,(if a<=i/\i<a+c.length then c'[i - a]? else L'[i]?)=(if a<=i/\i<a+c.length then c[i - a]? else L[i]?)):paste L' a c'=paste L a c:=by refine Bg λi=>?_;rw [aj (by omega),aj f,d];exact h i
theorem Jzy{L c:List AV}{a k:Nat}{v:AV}(h:a+c.length<=L.length)(f:a<=k)(d:k<a+c.length):paste (L.set k v) a c=paste L a c:=by
 refine J72 h (by simp) rfl λi=>?_;by_cases hi:a<=i/\i<a+c.length
 ·rw [if_pos hi,if_pos hi]
 ·rw [if_neg hi,if_neg hi,Bw (by omega)]
theorem Jv9{L c:List AV}{a k:Nat}{v:AV}(h:a+c.length<=L.length)(d:k<a\/a+c.length<=k):paste (L.set k v) a c=(paste L a c).set k v:=by
 refine Bg λi=>?_;rw [aj (by simpa using h),Bh,Bh,aj h,aY h];by_cases hi:a<=i/\i<a+c.length
 ·rw [if_pos hi,if_pos hi,if_neg (by omega)]
 ·rw [if_neg hi,if_neg hi]
theorem Jr6{L c:List AV}{a j:Nat}{v:AV}(h:a+c.length<=L.length)(f:j<c.length):paste L a (c.set j v)=(paste L a c).set (a+j) v:=by
 refine Bg λi=>?_;rw [aj (by simpa using h),Bo,Bh (l:=paste L a c),aj h,aY h,Bh (l:=c)];by_cases hi:a<=i/\i<a+c.length
 ·rw [if_pos hi,if_pos hi];by_cases d:a+j=i
  ·rw [if_pos (by omega),if_pos d,if_pos f,if_pos (by omega)]
  ·rw [if_neg (by omega),if_neg d]
 ·rw [if_neg hi,if_neg hi,if_neg (by omega)]
theorem Jyc(A B c:List AV)(k:Nat):paste (A++B) (A.length+k) c=A++paste B k c:=by simp only [paste,Bf];rw [List.take_append,Be (by omega),Dk,Bf,Dv,Dh,Br (by omega),Dk,Dl]
theorem um{t:Ty}{c:List AV}{off:Nat}{x z:t.T}(d:t.cs z=paste (t.cs x) off c)(a:off+c.length<=t.sz):∀ {l:List t.T} {i:Nat},l[i]?=some x->(l.set i z).flatMap t.cs=paste (l.flatMap t.cs) (i * t.sz+off) c
 | [],i,h=>by cases h
 | y::l,0,h=>by simp at h;subst h;simp only [List.set_cons_zero,Ac,Bp,Bq];rw [d];simp only [paste];have hl:=IV t y;rw [Bz (by omega),List.drop_append_of_le_length (by omega)];simp
 | y::l,i+1,h=>by
  have h:l[i]?=some x:=by simpa using h
  have:=um d a h;simp only [List.set_cons_succ,Ac,this];rw [show (i+1) * t.sz+off=(t.cs y).length+(i * t.sz+off) by rw [IV,Ah];omega,Jyc]
theorem kg{β:Type}{l:List β}{i:Nat}{x:β}(h:l[i]?=some x):l.set i x=l:=by obtain ⟨a,rfl⟩:=Ai.1 h;exact List.set_getElem_self a
section
variable {call:Vv.Call} {base g0:Nat} {s:S Ty.T} {α:Type} {r:α}
theorem Jv4{lw:(t:Ty)->C Ty.T->Option t.T}(a:Exact s lw){t:Ty}{l q:List (C Ty.T)}{x:t.T}(h:impl val lw t l=some (x,q))(d:q.isEmpty=true):t.cs x=l.map (AB s):=by have:=lD a t h;rw [Ax.1 d] at this;simpa using this.symm
theorem J6y{h:Heap}{n g ver off:Nat}{y:AV}{c:List AV}(a:y.cells=some c)(hl:c.length=n):Sn h n (.ptr g ver off) y=(match h g with
  | some (.box ver' cells)=>if ver=ver'/\off+n<=cells.length then some (upd h g (some (.box ver' (paste cells off c)))) else none
  | some (.arr ver' esz el cells false)=>if ver=ver'/\off+n<=cells.length/\cells≠[] then some (upd h g (some (.arr ver' esz el (paste cells off c) false))) else none
  | _=>none):=by unfold Sn;rw [a];simp only;rw [if_pos hl];rfl
theorem J8h(hi:Inv s){n:Nat}{x y:V Ty.T}{k:S Ty.T->Option α}(hy:okV s y)(h:J66 val s n x y k=some r):∃s',CX s s'/\Inv s'/\Sn (AA s) n (AQ s x) (AQ s y)=some (AA s')/\k s'=some r:=by
 unfold J66 at h;split at h
 ·cases h
 rename_i K;have hg:y.good=true:=by
  cases hg:y.good with
  | true=>rfl
  | false=>exact (K (.inr hg)).elim
 have P:y.cells.length=n:=by
  by_cases h1:y.cells.length=n
  ·exact h1
  ·exact (K (.inl h1)).elim
 have G:CZ s y.cells:=λc d=>hy c (uy c d);have Q:(y.cells.map (AB s)).length=n:=by simpa using P
 have H:∀g ver off,Sn (AA s) n (.ptr g ver off) (AQ s y)=_:=λg ver off=>J6y (Jso hg s) Q;have fin:∀ {g:Nat} {o:Ob Ty.T} {ao:AZ},FB s.mo g=false->(∀J,look g s.ob=some J->J.ver=o.ver/\J.CO=o.CO)->CZ s o.kids->BG s o=ao->CX s (s.obj g o)/\Inv (s.obj g o)/\AA (s.obj g o)=upd (AA s) g (some ao):=by intro g o ao hf h1 h2 h3;have hs:=Mf h1;refine ⟨hs,NJ hi hs (λg'=>Qv g g' o) (λc d=>(hs.ok c (h2 c d)).1) hf,?_⟩;rw [NM hi hs (λg'=>Qv g g' o),hs.BG h2,h3]
 split at h
 ·rename_i g ver off;split at h
  ·rename_i v cs f;split at h
   ·rename_i d;obtain ⟨rfl,O⟩:=d;obtain ⟨Z,Y,X⟩:=fin (g:=g) (o:=.box v (Lp cs off y.cells)) (hi.free f) (λJ B=>by rw [f] at B;cases B;exact ⟨rfl,rfl⟩) (Jrd (hi.ob _ _ f) G) rfl;refine ⟨_,Z,Y,?_,h⟩;rw [X,AQ,AB,H,Jn f];simp only [BG];rw [if_pos ⟨trivial,by simpa using O⟩,wK]
   ·cases h
  ·rename_i v e el cs f;split at h
   ·rename_i d;obtain ⟨rfl,O,hne⟩:=d;obtain ⟨Z,Y,X⟩:=fin (g:=g) (o:=.lit v e el (Lp cs off y.cells) false) (hi.free f) (λJ B=>by rw [f] at B;cases B;exact ⟨rfl,by simp only [Ob.CO];rw [J6s (by omega)]⟩) (Jrd (hi.ob _ _ f) G) rfl;refine ⟨_,Z,Y,?_,h⟩;rw [X,AQ,AB,H,Jn f];simp only [BG];rw [if_pos ⟨trivial,by simpa using O,by simpa using hne⟩,wK]
   ·cases h
  ·cases h
 ·rename_i g ver esz i off;split at h
  ·rename_i v e el t l nest f;obtain ⟨L,rfl⟩:∃L:List t.T,(show Ty.T (.ls t) from L)=l:=⟨l,rfl⟩;obtain ⟨I0,rfl⟩:∃I0:Int,(show Ty.T I from I0)=i:=⟨i,rfl⟩;split at h
   ·rename_i d;obtain ⟨rfl,rfl,he,O,hz⟩:=d;subst he;obtain ⟨w,B,M,h⟩:=J2k (l:=L) (i:=I0) h;have hl:=(Ai.1 M).1;have hfl:I0.toNat * t.sz+t.sz<=(L.flatMap t.cs).length:=by rw [zo];have:(I0.toNat+1) * t.sz<=L.length * t.sz:=Ae _ hl;rw [Ah] at this;omega
    have goal:∀ {z:t.T} {nst:Option (Nat×C Ty.T)},CZ s (Ob.kids (.row v t.sz el t (show Ty.T (.ls t) from L.set I0.toNat z) [] nst false)) ->
      Zs ((L.set I0.toNat z).flatMap t.cs) L.length t.sz (AB s) nst=paste (Zs (L.flatMap t.cs) L.length t.sz (AB s) nest) (I0.toNat * t.sz+off) (y.cells.map (AB s))->k (s.obj g (.row v t.sz el t (show Ty.T (.ls t) from L.set I0.toNat z) [] nst false))=some r ->
      ∃s',CX s s'/\Inv s'/\Sn (AA s) n (AQ s (.c (.Fy g v t.sz (show Ty.T I from I0) off))) (AQ s y)=some (AA s')/\k s'=some r:=by
     intro z nst hk he hkr;obtain ⟨Z,Y,X⟩:=fin (g:=g) (o:=.row v t.sz el t (show Ty.T (.ls t) from L.set I0.toNat z) [] nst false) (hi.free f) (λJ B=>by rw [f] at B;cases B;exact ⟨rfl,by simp only [Ob.CO];rw [show List.length (α:=t.T) (show Ty.T (.ls t) from L.set I0.toNat z)=List.length (α:=t.T) L from Bo]⟩) hk rfl;refine ⟨_,Z,Y,?_,hkr⟩;rw [X,AQ,AB,H,Jn f];simp only [BG,Ao,Af];rw [if_pos ⟨trivial,by rw [YQ,show (show Int from (show Ty.T I from I0)).toNat=I0.toNat from rfl];omega,OQ M hz⟩];rw [show (show Int from (show Ty.T I from I0)).toNat=I0.toNat from rfl]
     congr 4
     rw [show List.length (α:=t.T) (show Ty.T (.ls t) from L.set I0.toNat z)=L.length from Bo];exact he.symm
    have F:off+(y.cells.map (AB s)).length<=t.sz:=by rw [Q];exact O
    have expP:∀c:List (C Ty.T),(Lp (expl val t w) off c).map (AB s)=paste (t.cs w) off (c.map (AB s)):=λc=>by rw [wK,Yx]
    have A:I0.toNat * t.sz+off+(y.cells.map (AB s)).length<=(L.flatMap t.cs).length:=by omega
    cases nest with
    | none=>
     obtain ⟨q,N,h⟩:=Jk h;obtain ⟨z,zr⟩:=q;simp only at h;split at h
     ·rename_i m;have a:=Jv4 (lZ s) N m;rw [expP] at a;refine goal (z:=z) (nst:=none) (λc d=>by simp [Ob.kids] at d) ?_ h;simp only [Zs];exact um a F M
     ·cases h
    | some p=>
     obtain ⟨no,c0⟩:=p;obtain ⟨g1,h⟩:=Km h;have g1:I0+1=(L.length:Int):=J7f (n:=L.length) g1;have E:(L.length - 1) * t.sz+no=I0.toNat * t.sz+no:=by rw [show L.length - 1=I0.toNat by omega]
     split at h
     ·rename_i hr;split at h
      ·rename_i c' z0 R hz0;obtain ⟨q,N,h⟩:=Jk h;obtain ⟨z,zr⟩:=q;simp only at h;split at h
       ·rename_i m;have a:=Jv4 (lZ s) N m;rw [expP,Dz] at a;have hj:no - off<(y.cells.map (AB s)).length:=by omega
        refine goal (z:=z) (nst:=some (no,c')) (λc d=>by simp [Ob.kids] at d;subst d;exact G _ (Dt R)) ?_ h
        simp only [Zs];rw [E,um a (by simpa using F) M,Jr6 A hj,show I0.toNat * t.sz+off+(no - off)=I0.toNat * t.sz+no by omega,List.set_set,Jzy A (by omega) (by omega)];rw [show I0.toNat * t.sz+no=I0.toNat * t.sz+off+(no - off) by omega,<-Jr6 A hj,<-Dz,kg R]
       ·cases h
      ·cases h
     ·rename_i hr;obtain ⟨q,N,h⟩:=Jk h;obtain ⟨z,zr⟩:=q;simp only at h;split at h
      ·rename_i m;have a:=Jv4 (lZ s) N m;rw [expP] at a;refine goal (z:=z) (nst:=some (no,c0)) (λc d=>by simp [Ob.kids] at d;subst d;exact hi.ob _ _ f _ (by simp [Ob.kids])) ?_ h
       simp only [Zs];rw [E,um a F M,Jv9 A (by omega)]
      ·cases h
   ·cases h
  ·cases h
 ·cases h
theorem Joy{t:Ty}:∀(l:List t.T) (a:Nat),(l.take a).flatMap t.cs=(l.flatMap t.cs).take (a * t.sz)
 | [],a=>by simp
 | x::l,0=>by simp
 | x::l,a+1=>by
  have h:=IV t x;have g:(a+1) * t.sz=t.sz+a * t.sz:=by rw [Ah];omega
  have f:(t.cs x).take ((a+1) * t.sz)=t.cs x:=Be (by omega);have d:(a+1) * t.sz - (t.cs x).length=a * t.sz:=by omega
  rw [Dw,Ac,Ac,Joy l a,List.take_append,f,d]
theorem Jol{t:Ty}:∀(l:List t.T) (a:Nat),(l.drop a).flatMap t.cs=(l.flatMap t.cs).drop (a * t.sz)
 | [],a=>by simp
 | x::l,0=>by simp
 | x::l,a+1=>by
  have h:=IV t x;have g:(a+1) * t.sz=t.sz+a * t.sz:=by rw [Ah];omega
  have f:(t.cs x).drop ((a+1) * t.sz)=[]:=Br (by omega);have d:(a+1) * t.sz - (t.cs x).length=a * t.sz:=by omega
  rw [Dx,Ac,Jol l a,Dh,f,d,Dl]
theorem J8r{t:Ty}(l:List t.T){a b m n:Nat}(d:m<=n)(v:a+m<=l.length)(f:b+n<=l.length) :
  (l.take a++((l.drop b).take m++(l.drop (a+m)).take (l.length - (a+m)))).flatMap t.cs=paste (l.flatMap t.cs) (a * t.sz) ((cut (l.flatMap t.cs) (b * t.sz) (n * t.sz)).take (m * t.sz)):=by
 have g:m * t.sz<=n * t.sz:=Ae _ d;have w:b * t.sz+n * t.sz<=(l.flatMap t.cs).length:=by rw [zo,<-Ah];exact Ae _ f
 have r:(cut (l.flatMap t.cs) (b * t.sz) (n * t.sz)).take (m * t.sz)=((l.flatMap t.cs).drop (b * t.sz)).take (m * t.sz):=by unfold cut;rw [List.take_take,Nat.min_eq_left g]
 have o:(((l.flatMap t.cs).drop (b * t.sz)).take (m * t.sz)).length=m * t.sz:=by rw [List.length_take,Di];omega
 have h:(l.drop (a+m)).take (l.length - (a+m))=l.drop (a+m):=Be (by rw [Di];omega);rw [r,h];unfold paste;rw [o,Bl,Bl,Joy,Joy,Jol,Jol,Ah,Bf]
theorem Wn(hi:Inv s){esz:Nat}{x y:V Ty.T}{k:V Ty.T->S Ty.T->Option α}(h:fT val s esz x y k=some r) :
  ∃v s',CX s s'/\Inv s'/\mK (AA s) esz (AQ s x) (AQ s y)=some (AQ s' v,AA s')/\okV s' v/\k v s'=some r:=by
 unfold fT at h;split at h
 case h_2=>cases h
 rename_i g ver off n G ver' off' Q;split at h
 case h_2=>cases h
 rename_i v e el t l H;split at h
 case isFalse=>cases h
 rename_i E;obtain ⟨rfl,rfl,rfl,rfl,rfl,hz⟩:=E;obtain ⟨L,rfl⟩:∃L:List t.T,(show Ty.T (.ls t) from L)=l:=⟨l,rfl⟩;obtain ⟨A,rfl⟩:∃A:Int,(show Ty.T I from A)=off:=⟨off,rfl⟩;obtain ⟨B,rfl⟩:∃B:Int,(show Ty.T I from B)=off':=⟨off',rfl⟩;obtain ⟨N,rfl⟩:∃N:Int,(show Ty.T I from N)=n:=⟨n,rfl⟩;obtain ⟨M,rfl⟩:∃M:Int,(show Ty.T I from M)=Q:=⟨Q,rfl⟩;obtain ⟨g1,h⟩:=Km h;obtain ⟨g2,h⟩:=Km h;obtain ⟨g3,h⟩:=Km h;obtain ⟨Z,h⟩:=Km h;obtain ⟨Y,h⟩:=Km h;obtain ⟨X,h⟩:=Km h;obtain ⟨R,h⟩:=Km h;have g1:0<(L.length:Int):=by have:decide ((0:Int)<=0/\(0:Int)<(L.length:Int))=true:=g1;exact (of_decide_eq_true this).2
 have g2:0<=A:=of_decide_eq_true (p:=(0:Int)<=A) g2;have g3:0<=N:=of_decide_eq_true (p:=(0:Int)<=N) g3;have Z:A+N<=(L.length:Int):=of_decide_eq_true (p:=A+N<=(L.length:Int)) Z;have Y:0<=B:=of_decide_eq_true (p:=(0:Int)<=B) Y;have X:0<=M:=of_decide_eq_true (p:=(0:Int)<=M) X;have R:B+M<=(L.length:Int):=of_decide_eq_true (p:=B+M<=(L.length:Int)) R;obtain ⟨a,rfl⟩:∃a:Nat,A=a:=⟨A.toNat,by omega⟩;obtain ⟨b,rfl⟩:∃b:Nat,B=b:=⟨B.toNat,by omega⟩;obtain ⟨n,rfl⟩:∃n:Nat,N=n:=⟨N.toNat,by omega⟩;obtain ⟨m,rfl⟩:∃m:Nat,M=m:=⟨M.toNat,by omega⟩;have K:val.mm false .i64 .i64 (show Ty.T I from ((m:Nat):Int)) (show Ty.T I from ((n:Nat):Int))=(show Ty.T I from ((Ea m n:Nat):Int)):=by show (if ((n:Nat):Int)<((m:Nat):Int) then ((n:Nat):Int) else ((m:Nat):Int))=((Ea m n:Nat):Int);simp only [Nat.min_def];split<;>split<;>omega
 rw [K] at h;have w:Ea m n<=m:=Nat.min_le_left ..;have P:Ea m n<=n:=Nat.min_le_right ..;generalize hk:Ea m n=q at h w P;have e0:(val.ap (val.ct (show Ty.T (.ls t) from L) (val.int .i64 0) (show Ty.T I from ((a:Nat):Int))) (val.ap (val.ct (show Ty.T (.ls t) from L) (show Ty.T I from ((b:Nat):Int)) (show Ty.T I from ((q:Nat):Int))) (val.ct (show Ty.T (.ls t) from L) (val.pl (show Ty.T I from ((a:Nat):Int)) (show Ty.T I from ((q:Nat):Int))) (val.mi (val.ln (show Ty.T (.ls t) from L)) (val.pl (show Ty.T I from ((a:Nat):Int)) (show Ty.T I from ((q:Nat):Int)))))))=(show Ty.T (.ls t) from L.take a++((L.drop b).take q++(L.drop (a+q)).take (L.length - (a+q)))):=by show (L.drop (0:Int).toNat).take ((a:Nat):Int).toNat++((L.drop ((b:Nat):Int).toNat).take ((q:Nat):Int).toNat++(L.drop (((a:Nat):Int)+((q:Nat):Int)).toNat).take ((L.length:Int) - (((a:Nat):Int)+((q:Nat):Int))).toNat)=_;rw [show (((a:Nat):Int)+((q:Nat):Int)).toNat=a+q by omega,show ((L.length:Int) - (((a:Nat):Int)+((q:Nat):Int))).toNat=L.length - (a+q) by omega];simp
 rw [e0] at h;have f:(L.take a++((L.drop b).take q++(L.drop (a+q)).take (L.length - (a+q)))).length=L.length:=by simp;omega
 have hs:CX s (s.obj g (.row v t.sz el t (show Ty.T (.ls t) from L.take a++((L.drop b).take q++(L.drop (a+q)).take (L.length - (a+q)))) [] none false)):=Mf λo0 F=>by rw [H] at F;cases F;exact ⟨rfl,by simp only [Ob.CO];rw [show List.length (α:=t.T) (show Ty.T (.ls t) from L.take a++((L.drop b).take q++(L.drop (a+q)).take (L.length - (a+q))))=List.length (α:=t.T) L from f]⟩
 have d:CZ s (Ob.kids (.row v t.sz el t (show Ty.T (.ls t) from L.take a++((L.drop b).take q++(L.drop (a+q)).take (L.length - (a+q)))) [] none false)):=λc E=>by simp [Ob.kids] at E
 refine ⟨_,_,hs,NJ hi hs (λG=>Qv g G _) (λc E=>(hs.ok c (d c E)).1) (hi.free H),?_,Zm (Kh _ rfl),h⟩;rw [NM hi hs (λG=>Qv g G _),hs.BG d];have hG:AA s g=some (.arr v t.sz el (L.flatMap t.cs) false):=by rw [Jn H];simp only [BG,Zs,Ao,Af]
 have O:(b+m) * t.sz<=(L.flatMap t.cs).length:=by rw [zo];exact Ae _ (by omega)
 have o:(a+n) * t.sz<=(L.flatMap t.cs).length:=by rw [zo];exact Ae _ (by omega)
 have J:L.flatMap t.cs≠[]:=λe=>by
  have:=zo (t:=t) L;rw [e] at this;have F:L.length * t.sz=0:=by simpa using this.symm
  rcases Da.1 F with q|q<;>omega
 have hl:C9 (AA s) (.arr g v b m)=some (m:Int):=by simp [C9,GX,hG]
 have he:Ii (AA s) t.sz (.arr g v b m)=some (cut (L.flatMap t.cs) (b * t.sz) (m * t.sz)):=by simp only [Ii,hG];exact if_pos ⟨trivial,trivial,O⟩
 show mK (AA s) t.sz (.arr g v ((a:Nat):Int).toNat ((n:Nat):Int).toNat) (.arr g v ((b:Nat):Int).toNat ((m:Nat):Int).toNat)=_;rw [Ab,Ab,Ab,Ab];unfold mK;rw [hl,he];simp only [hG];rw [if_pos ⟨trivial,trivial,o,J⟩,Ab,hk];simp only [BG,Zs,Ao,Af];rw [show Dj (α:=t.T) t.cs (show Ty.T (.ls t) from L.take a++((L.drop b).take q++(L.drop (a+q)).take (L.length - (a+q))))=_ from J8r L w (by omega) (by omega)];rfl
end
theorem Jqt{t:Ty}(l:List t.T)(a n:Nat):((l.drop a).take n).flatMap t.cs=cut (l.flatMap t.cs) (a * t.sz) (n * t.sz):=by
 have hd:∀(l:List t.T) (a:Nat),(l.drop a).flatMap t.cs=(l.flatMap t.cs).drop (a * t.sz):=by
  intro l
  induction l with
  | nil=>intro a;simp
  | cons x l d=>
   intro a;cases a with
   | zero=>simp
   | succ a=>
    rw [Dx,d,Ac,show (a+1) * t.sz=(t.cs x).length+a * t.sz by rw [IV,Ah];omega];exact (List.drop_length_add_append ..).symm
 have f:∀(l:List t.T) (n:Nat),(l.take n).flatMap t.cs=(l.flatMap t.cs).take (n * t.sz):=by
  intro l
  induction l with
  | nil=>intro n;simp
  | cons x l d=>
   intro n;cases n with
   | zero=>simp
   | succ n=>
    rw [Dw,Ac,d,Ac,show (n+1) * t.sz=(t.cs x).length+n * t.sz by rw [IV,Ah];omega];exact (List.take_length_add_append ..).symm
 rw [f,hd];rfl
theorem J2z(l:List AV):cut l 0 l.length=l:=by simp [cut]
def El.cells(s:S Ty.T):El Ty.T->List AV
 | .t ty v=>Dj (α:=ty.T) ty.cs v
 | .x l=>l.map (AB s)
def El.n(esz:Nat):El Ty.T->Nat
 | .t ty v=>List.length (α:=ty.T) v
 | .x l=>l.length / esz
def El.ok(s:S Ty.T)(esz:Nat):El Ty.T->Prop
 | .t ty _=>ty.sz=esz/\0<esz
 | .x l=>CZ s l/\l.length % esz=0
section
variable {call:Vv.Call} {base g0:Nat} {s:S Ty.T} {α:Type} {r:α}
theorem Lr{a b:Int}(h:val.le a b=true):a<=b:=by have:decide (a<=b)=true:=h;simpa using this
theorem Jvy{g ver len:Nat}{off:Nat}{v e:Nat}{el:TypeId}{cells:List AV}{z:Bool}{h:Heap}(d:h g=some (.arr v e el cells z))(a:v=ver):C9 h (.arr g ver off len)=some (len:Int):=by simp [C9,GX,d,a]
theorem J9e(hi:Inv s){esz:Nat}{y:V Ty.T}{k:El Ty.T->Option α}(h:elems val s esz y k=some r):∃e:El Ty.T,C9 (AA s) (AQ s y)=some (e.n esz:Int)/\Ii (AA s) esz (AQ s y)=some (e.cells s)/\e.ok s esz/\k e=some r:=by
 unfold elems at h;split at h
 ·exact ⟨.x [],by simp [AQ,AB,C9,El.n],by simp [AQ,AB,Ii,El.cells],⟨λc d=>(by cases d),by simp⟩,h⟩
 ·rename_i t v;split at h
  ·rename_i d;obtain ⟨rfl,m⟩:=d;refine ⟨.t t v,rfl,?_,⟨rfl,m⟩,h⟩;show Ii (AA s) t.sz (.CB (List.length (α:=t.T) v) (Dj (α:=t.T) t.cs v))=_;simp only [Ii];rw [if_pos (zo (t:=t) v)];rfl
  ·cases h
 ·rename_i g ver;split at h
  ·rename_i v e el t l z f;obtain ⟨L,rfl⟩:∃L:List t.T,(show Ty.T (.ls t) from L)=l:=⟨l,rfl⟩;split at h
   ·rename_i d;obtain ⟨rfl,rfl,o,m⟩:=d;subst o;have a:Yk s g v=L.length:=by simp only [Yk,f,Ob.ver,if_true,Ob.CO,Aw,As,Au]
    have hH:=Jn f;simp only [BG,Ao,Af,Zs] at hH;refine ⟨.t t L,?_,?_,⟨rfl,m⟩,h⟩
    ·simp only [AQ,AB,a];exact Jvy hH rfl
    ·simp only [AQ,AB,a,Ii,hH,Bq,Bp,true_and];rw [if_pos (by rw [zo];exact Bv _)];have:=J2z (L.flatMap t.cs);rw [zo] at this;rw [this];rfl
   ·cases h
  ·rename_i v e el l z f;split at h
   ·rename_i d;obtain ⟨rfl,rfl,E,m⟩:=d;have a:Yk s g v=l.length / e:=by simp only [Yk,f,Ob.ver,if_true,Ob.CO]
    have hH:=Jn f;simp only [BG] at hH;have w:l.length / e * e=l.length:=Bb (Aq E);refine ⟨.x l,?_,?_,⟨hi.ob _ _ f,E⟩,h⟩
    ·simp only [AQ,AB,a];exact Jvy hH rfl
    ·simp only [AQ,AB,a,Ii,hH,Bq,Bp,true_and,w];rw [if_pos (by simp)];have:=J2z (l.map (AB s));rw [Av] at this;rw [this];rfl
   ·cases h
  ·cases h
 ·rename_i g ver off len;split at h
  ·rename_i v e el t l z f;obtain ⟨L,rfl⟩:∃L:List t.T,(show Ty.T (.ls t) from L)=l:=⟨l,rfl⟩;obtain ⟨A,rfl⟩:∃A:Int,(show Ty.T I from A)=off:=⟨off,rfl⟩;obtain ⟨B,rfl⟩:∃B:Int,(show Ty.T I from B)=len:=⟨len,rfl⟩;split at h
   ·rename_i d;obtain ⟨rfl,rfl,o,m⟩:=d;subst o;obtain ⟨H,h⟩:=Km h;obtain ⟨G,h⟩:=Km h;obtain ⟨F,h⟩:=Km h;have H:(0:Int)<=A:=Lr H;have G:(0:Int)<=B:=Lr G;have F:A+B<=(L.length:Int):=Lr F;have hH:=Jn f;simp only [BG,Ao,Af,Zs] at hH;refine ⟨.t t ((L.drop A.toNat).take B.toNat),?_,?_,⟨rfl,m⟩,h⟩
    ·simp only [AQ,AB];rw [Jvy hH rfl];show some ((B.toNat:Nat):Int)=some ((((L.drop A.toNat).take B.toNat).length:Nat):Int)
     congr 2
     simp;omega
    ·show Ii (AA s) t.sz (.arr g v A.toNat B.toNat)=some (((L.drop A.toNat).take B.toNat).flatMap t.cs);simp only [Ii,hH,true_and];rw [if_pos (by rw [zo];exact Ae _ (by omega)),Jqt]
   ·cases h
  ·cases h
 ·cases h
theorem aI{b:Nat}{n:Int}(h:val.ft b n=true):n * b<=room/\n<=9223372036854775807:=by have:decide (n * b<=room/\n<=9223372036854775807)=true:=h;simpa using this
def Mk(s:S Ty.T)(g0 esz bytes:Nat)(el:TypeId)(x y:AV)(v:V Ty.T)(s':S Ty.T):Prop:=
 EN (AA s) g0 esz bytes el x y=some (AQ s' v,AA s')/\CX s s'/\Inv s'/\okV s' v
theorem J68(hi:Inv s){g0 esz bytes:Nat}{el:TypeId}{y:AV}{m:Nat}{new:List AV}{o:Ob Ty.T}(r:s.has g0=false)(w:C9 (AA s) y=some (m:Int))(A:Ii (AA s) esz y=some new)
  (l:new≠[]) (E:(m:Int) * bytes<=room/\(m:Int)<=9223372036854775807) (a:o.ver=s.nv g0+1) (f:o.CO=m) (d:CZ s o.kids) (g:BG s o=.arr (s.nv g0+1) esz el new false) :
  Mk s g0 esz bytes el .BM y (.c (.own g0 (s.nv g0+1))) (s.obj g0 o):=by
 have hs:CX s (s.obj g0 o):=Mf λF h=>by rw [Sz r] at h;cases h
 refine ⟨?_,hs,NJ hi hs (λv=>Qv g0 v o) (λc B=>(hs.ok c (d c B)).1) (yN r),Zm (iH (by rw [a];rfl))⟩;unfold EN;rw [w,A];simp only;rw [if_neg l,if_pos E,NM hi hs (λv=>Qv g0 v o),hs.BG d,g,Yu r];have hl:Yk (s.obj g0 o) g0 (s.nv g0+1)=m:=by rw [<-a,wM,f]
 simp only [AQ,AB,hl,Ab]
theorem uI(hi:Inv s){g g0 esz bytes:Nat}{el:TypeId}{y:AV}{m:Nat}{new cells:List AV}{a o:Ob Ty.T}{n:Int}(w:look g s.ob=some a)(J:C9 (AA s) y=some (m:Int))(K:Ii (AA s) esz y=some new)
  (F:BG s a=.arr a.ver esz el cells false) (f:cells.length=a.CO * esz) (H:n.toNat=a.CO)
  (G:((a.CO:Int)+m) * bytes<=room/\(a.CO:Int)+m<=9223372036854775807) (h:o.ver=a.ver+1) (A:o.CO=a.CO+m) (l:CZ s o.kids) (B:BG s o=.arr (a.ver+1) esz el (cells++new) false) :
  Mk s g0 esz bytes el (AQ s (.c (.own g a.ver))) y (.c (.own g (a.ver+1))) ((s.old g a.ver n).obj g o):=by
 have hs:CX s ((s.old g a.ver n).obj g o):=J26 w h H;have d:∀v,look v ((s.old g a.ver n).obj g o).ob=if g=v then some o else look v s.ob:=λv=>Q0 g v o s.ob;refine ⟨?_,hs,NJ hi hs d (λc L=>(hs.ok c (l c L)).1) (hi.free w),Zm (λr hr=>?_)⟩
 ·have hl:Yk s g a.ver=a.CO:=by simp only [Yk,w,if_true]
  have E:Yk ((s.old g a.ver n).obj g o) g (a.ver+1)=a.CO+m:=by simp only [Yk,d,if_true,h,A]
  simp only [AQ,AB,hl,E];unfold EN;rw [J,K];simp only [Jn w,F,true_and,Bq];rw [if_pos ⟨by omega,G.1,G.2⟩,if_neg ?_,NM hi hs d,hs.BG l,B]
  ·simp only [Bp,Ab];rw [<-f,J2z]
  ·rintro ⟨N,M,O⟩;rw [M,Bp] at f;exact N (Ap f)
 ·simp only [refs,Df] at hr;subst hr;exact ⟨o,by rw [d,if_pos rfl],by omega⟩
theorem uT{a b:Int}:val.cm .eql .i64 a b=decide (a=b):=by show (a==b)=_;by_cases h:a=b<;>simp [h]
theorem Jun{e:El Ty.T}{k:Option α}(h:yV val e k=some r):e.cells s=[]/\k=some r:=by
 unfold yV at h;split at h
 ·exact ⟨rfl,h⟩
 ·cases h
 ·rename_i t v;obtain ⟨L,rfl⟩:∃L:List t.T,(show Ty.T (.ls t) from L)=v:=⟨v,rfl⟩;obtain ⟨a,h⟩:=Km h;have a:(L.length:Int)=0:=by
   have:decide ((L.length:Int)=0)=true:=by rw [<-uT];exact a
   simpa using this
  have d:L=[]:=Ap (by omega);subst d;exact ⟨rfl,h⟩
theorem XB(hi:Inv s){g0 esz bytes:Nat}{el:TypeId}{x y:V Ty.T}{k:V Ty.T->S Ty.T->Option α}(h:gF val s g0 esz bytes el x y k=some r):∃v s',Mk s g0 esz bytes el (AQ s x) (AQ s y) v s'/\k v s'=some r:=by
 unfold gF at h;obtain ⟨e,J,A,E,h⟩:=J9e hi h;split at h
 ·-- nil
  split at h
  ·cases h
  rename_i h0;have h0:s.has g0=false:=by simpa using h0
  have nothing:e.cells s=[]->∃v s',Mk s g0 esz bytes el (AQ s (.c (.k .BM))) (AQ s y) v s'/\v=.c (.k .BM)/\s'=s:=λO=>
   ⟨_,_,⟨by unfold EN;rw [J,A];simp only [AQ,AB];rw [if_pos O],.refl s,hi,Zm (Kh s rfl)⟩,rfl,rfl⟩
  split at h
  ·obtain ⟨v,s',a1,rfl,rfl⟩:=nothing rfl;exact ⟨_,_,a1,h⟩
  ·rename_i l hl;split at h
   ·rename_i X;obtain ⟨w,h⟩:=Km h;have w:=aI w;refine ⟨_,_,J68 (o:=.lit (s.nv g0+1) esz el l false) hi h0 J A ?_ w rfl rfl E.1 rfl,h⟩;simp only [El.cells,ne_eq,List.map_eq_nil_iff];exact λq=>hl q
   ·cases h
  ·rename_i t v;obtain ⟨L,rfl⟩:∃L:List t.T,(show Ty.T (.ls t) from L)=v:=⟨v,rfl⟩;obtain ⟨hsz,X⟩:=E;rcases Sv h with ⟨w,h⟩|⟨w,h⟩
   ·have w:(L.length:Int)=0:=by
     have:decide ((L.length:Int)=0)=true:=by rw [<-uT];exact w
     simpa using this
    have O:L=[]:=Ap (by omega);obtain ⟨v,s',a1,rfl,rfl⟩:=nothing (by simp only [El.cells];rw [show (show Ty.T (.ls t) from L)=([]:List t.T) from O];rfl);exact ⟨_,_,a1,h⟩
   ·have w:¬(L.length:Int)=0:=by
     have:decide ((L.length:Int)=0)=false:=by rw [<-uT];exact w
     simpa using this
    obtain ⟨g2,h⟩:=Km h;have g2:=aI (n:=(L.length:Int)) g2;refine ⟨_,_,J68 hi h0 J A ?_ g2 rfl (by simp only [Ob.CO,Aw,As,Au];rfl) (λc f=>by simp [Ob.kids] at f) (by simp only [BG,Zs,Ao,Af];rfl),h⟩;intro q;have:=congrArg List.length q;rw [show El.cells s (.t t (show Ty.T (.ls t) from L))=L.flatMap t.cs from rfl,zo] at this;rcases Da.1 this with h4|h4<;>omega
 ·-- a row
  rename_i g ver;split at h
  ·rename_i v d el' t l tl nest F;obtain ⟨L,rfl⟩:∃L:List t.T,(show Ty.T (.ls t) from L)=l:=⟨l,rfl⟩;split at h
   ·rename_i f;obtain ⟨rfl,rfl,rfl,he,htl,X⟩:=f;have hH:BG s (.row v d el' t (show Ty.T (.ls t) from L) tl nest false)=.arr v d el' (Zs (L.flatMap t.cs) L.length t.sz (AB s) nest++tl.map (AB s)) false:=rfl;have B:tl.length / d * d=tl.length:=Bb (Aq htl);have hlO:Ob.CO (.row v d el' t (show Ty.T (.ls t) from L) tl nest false)=L.length+tl.length / d:=rfl;have H:(Zs (L.flatMap t.cs) L.length t.sz (AB s) nest++tl.map (AB s)).length=Ob.CO (.row v d el' t (show Ty.T (.ls t) from L) tl nest false) * d:=by rw [Ar,YQ,zo,hlO,Ah,Av,he,B]
    split at h
    ·rename_i m;obtain ⟨P,Q⟩:=E;have G:m.length / d * d=m.length:=Bb (Aq Q);have M:(if tl.isEmpty=true then val.ln (t:=t) (show Ty.T (.ls t) from L) else val.pl (val.ln (t:=t) (show Ty.T (.ls t) from L)) (val.int .i64 ((tl.length / d:Nat):Int)))=(show Ty.T I from ((L.length+tl.length / d:Nat):Int)):=by
      by_cases K:tl.isEmpty=true
      ·rw [if_pos K,Ax.1 K,Aw,As,Au];rfl
      ·rw [if_neg K,Dm];rfl
     simp only [M] at h;obtain ⟨w,h⟩:=Km h;have w:=aI (n:=((L.length+tl.length / d:Nat):Int)+((m.length / d:Nat):Int)) w;refine ⟨_,_,uI (n:=((L.length+tl.length / d:Nat):Int)) hi F J A hH H (by rw [hlO];exact Ab _) w rfl ?_ (λc f=>?_) ?_,h⟩
     ·show L.length+(tl++m).length / d=L.length+tl.length / d+m.length / d;rw [Ar,Dv]
      congr 1
      rw [<-B,<-G,<-Ah,Ba _ X,B,G]
     ·simp only [Ob.kids,Bn] at f;rcases f with f|f|f
      ·exact hi.ob _ _ F c (by simp only [Ob.kids];exact List.mem_append_left _ f)
      ·exact hi.ob _ _ F c (by simp only [Ob.kids];exact Do _ f)
      ·exact P c f
     ·show AZ.arr _ _ _ (Zs (L.flatMap t.cs) L.length t.sz (AB s) nest++(tl++m).map (AB s)) false=_;rw [By,<-Bf];rfl
    ·rename_i Y m;split at h
     ·rename_i hne;rw [Ay,Ax,Ag] at hne;obtain ⟨rfl,rfl⟩:=hne;obtain ⟨m',hm',h⟩:=Jk h;obtain ⟨eq,rfl⟩:=Y7 (ι:=Ty.T) hm';injection eq with eq;subst eq;obtain ⟨N,rfl⟩:∃N:List Y.T,(show Ty.T (.ls Y) from N)=m:=⟨m,rfl⟩;obtain ⟨w,h⟩:=Km h;have w:=aI (n:=(L.length:Int)+(N.length:Int)) w;refine ⟨_,_,uI (n:=(L.length:Int)) hi F J A hH H (by rw [hlO,Aw,As,Au];exact Ab _) ?_ rfl ?_ (λc f=>by simp [Ob.kids] at f) ?_,h⟩
      ·rw [hlO,Aw,As,Au];exact w
      ·show List.length (L++N)+0 / d=L.length+0 / d+N.length;rw [Ar,As];omega
      ·show AZ.arr _ _ _ ((L++N).flatMap Y.cs++[]) false=.arr _ _ _ (L.flatMap Y.cs++[]++N.flatMap Y.cs) false;rw [Af,Af,Bl];rfl
     ·cases h
   ·cases h
  ·rename_i v d el' l F;split at h
   ·rename_i f;obtain ⟨rfl,rfl,rfl,hld,X⟩:=f;have hH:BG s (.lit v d el' l false)=.arr v d el' (l.map (AB s)) false:=rfl;have B:l.length / d * d=l.length:=Bb (Aq hld);have hlO:Ob.CO (.lit v d el' l false)=l.length / d:=rfl;have H:(l.map (AB s)).length=Ob.CO (.lit v d el' l false) * d:=by rw [Av,hlO,B]
    split at h
    ·rename_i m;obtain ⟨P,Q⟩:=E;have G:m.length / d * d=m.length:=Bb (Aq Q);obtain ⟨w,h⟩:=Km h;have w:=aI (n:=((l.length / d+m.length / d:Nat):Int)) w;refine ⟨_,_,uI (n:=((l.length / d:Nat):Int)) hi F J A hH H (by rw [hlO];exact Ab _) (by rw [Dm] at w;exact w) rfl ?_ (λc f=>?_) ?_,h⟩
     ·show (l++m).length / d=l.length / d+m.length / d;rw [Ar,<-B,<-G,<-Ah,Ba _ X,B,G]
     ·simp only [Ob.kids,Bn] at f;rcases f with f|f
      ·exact hi.ob _ _ F c f
      ·exact P c f
     ·show AZ.arr _ _ _ ((l++m).map (AB s)) false=_;rw [By];rfl
    ·rename_i t m;obtain ⟨N,rfl⟩:∃N:List t.T,(show Ty.T (.ls t) from N)=m:=⟨m,rfl⟩;obtain ⟨hsz,_⟩:=E;obtain ⟨l',hl',h⟩:=Jk h;have hlc:=J0a (lZ s) t _ hl';obtain ⟨L',rfl⟩:∃L':List t.T,(show Ty.T (.ls t) from L')=l':=⟨l',rfl⟩;have R:L'.length * t.sz=l.length:=by have:=congrArg List.length hlc;rw [Av] at this;rw [this];exact (zo L').symm
     obtain ⟨w,h⟩:=Km h;have w:=aI (n:=((l.length / d:Nat):Int)+(N.length:Int)) w;have Z:(if l.isEmpty=true then (show Ty.T (.ls t) from N) else val.ap (t:=t) (show Ty.T (.ls t) from L') (show Ty.T (.ls t) from N))=(show Ty.T (.ls t) from L'++N):=by
      by_cases K:l.isEmpty=true
      ·rw [if_pos K];have:L'=[]:=by
        rw [Ax.1 K,Aw] at R;rcases Da.1 R with h4|h4
        ·exact Ap h4
        ·omega
       rw [this];rfl
      ·rw [if_neg K];rfl
     rw [Z] at h;refine ⟨_,_,uI (n:=((l.length / d:Nat):Int)) hi F J A hH H (by rw [hlO];exact Ab _) w rfl ?_ (λc f=>by simp [Ob.kids] at f) ?_,h⟩
     ·show List.length (L'++N)+0 / d=l.length / d+N.length;rw [Ar,As,<-R,hsz,Ba _ X];omega
     ·show AZ.arr _ _ _ ((L'++N).flatMap t.cs++[]) false=.arr _ _ _ (l.map (AB s)++N.flatMap t.cs) false;rw [hlc,Af,Bl];rfl
   ·cases h
  ·rename_i v d el' t l tl nest F;split at h
   ·rename_i f;subst f;obtain ⟨O,h⟩:=Jun h;refine ⟨_,s,⟨?_,.refl s,hi,Zm λr hr=>?_⟩,h⟩
    ·unfold EN;rw [J,A];have hH:=Jn F;simp only [BG] at hH;simp only [AQ,AB,hH];rw [if_pos ⟨trivial,by rw [O]⟩]
    ·simp only [refs,Df] at hr;subst hr;exact ⟨_,F,Bv _⟩
   ·cases h
  ·cases h
 ·rename_i t v;obtain ⟨O,h⟩:=Jun h;refine ⟨_,s,⟨?_,.refl s,hi,Zm (Kh s rfl)⟩,h⟩;unfold EN;rw [J,A];simp only [AQ,AB,Ty.cs,zk];rw [if_pos (by rw [O])]
 ·cases h
end
def Alt(op op':CQ):Prop:=op'=op\/∃f args,op=.Cz f args/\(op'=.FN f args\/op'=.Eu f args)
section
variable {call:Vv.Call} {base g0:Nat} {s:S Ty.T} {α:Type} {r:α}
theorem KP{t:Ty}{x:t.T}:okV s (.c (.lf t x)):=Zm (Kh s rfl)
theorem RA{o:BinOp}{k:IntKind}{a b:Int}(h:eX o=true):TU o k a b=some (.int k (WO o k a b)):=by cases o<;>simp [eX] at h<;>rfl
theorem QZ{o:BinOp}{k:IntKind}{a b:Int}(h:QO o=true):TU o k a b=some (.bool (QY o a b)):=by cases o<;>simp [QO] at h<;>rfl
theorem qH{g ver:Nat}(h:s.cur g ver=true):Vv.cur (AA s) g ver=true:=by
 unfold S.cur at h;cases a:look g s.ob with
 | none=>rw [a] at h;cases h
 | some o=>rw [a] at h;simp only [Vv.cur,Jn a,Mj];exact h
theorem J7g{b:Bool}{x y:C Ty.T}{z:Bool}(h:ZN val b x y=some z):LB b (AB s x) (AB s y)=some z:=by
 unfold ZN at h;split at h
 ·rename_i k a t b;cases f:cast? (ι:=Ty.T) t (.int k) b with
  | none=>rw [f] at h;cases h
  | some m=>
   rw [f] at h;obtain ⟨e,rfl⟩:=Y7 f;subst e;simp only [Ad] at h;have:=Am h;subst this;simp only [AB,Ty.cs,zk,LB,if_true];rfl
 ·cases l:HV val .bool x with
  | none=>rw [l] at h;cases h
  | some a'=>
   rw [l] at h;simp only [Bk] at h;cases g:HV val .bool y with
   | none=>rw [g] at h;cases h
   | some m=>
    rw [g] at h;simp only [Ad] at h;have hx:=lM (s:=s) (t:=.bool) rfl l;have d:=lM (s:=s) (t:=.bool) rfl g;have hx:AB s x=.bool a':=(List.cons.inj hx).1.symm;have d:AB s y=.bool m:=(List.cons.inj d).1.symm;rw [hx,d];have:=Am h;subst this;rfl
 ·cases h
theorem Jwx:∀ {bs:List Bool} {l m:List (C Ty.T)} {z:Bool},GV val bs l m=some z->Kb bs (l.map (AB s)) (m.map (AB s))=some z
 | [],[],[],z,h=>by simp only [GV] at h;injection h with h;subst h;rfl
 | [b],[x],[y],z,h=>by simp only [GV] at h;have:=J7g (s:=s) h;simp only [Bu,Ao,Kb,this,Dy]
 | b::g::bs,x::xs,y::ys,z,h=>by
  have h':(ZN val b x y).bind (λu=>(GV val (g::bs) xs ys).map (val.an u))=some z:=by cases xs<;>cases ys<;>exact h
  cases a:ZN val b x y with
  | none=>rw [a] at h';cases h'
  | some u=>
   rw [a] at h';simp only [Bk] at h';cases d:GV val (g::bs) xs ys with
   | none=>rw [d] at h';cases h'
   | some v=>
    rw [d] at h';have:=Am h';subst this;have o:=J7g (s:=s) a;have f:=Jwx d;simp only [Bu] at f ⊢;rw [Kb,o,f];rfl
 | [],[],_::_,_,h=>by cases h
 | [],_::_,_,_,h=>by cases h
 | [_],[],_,_,h=>by cases h
 | [_],[_],[],_,h=>by cases h
 | [_],[_],_::_::_,_,h=>by simp only [GV] at h;cases a:ZN val _ _ _<;>rw [a] at h<;>simp [GV] at h
 | [_],_::_::_,[],_,h=>by cases h
 | [_],_::_::_,_::_,_,h=>by simp only [GV] at h;cases a:ZN val _ _ _<;>rw [a] at h<;>simp [GV] at h
 | _::_::_,[],_,_,h=>by cases h
 | _::_::_,_::_,[],_,h=>by cases h
theorem Jov{i:Int}{k:Nat->Option α}:∀ {n j:Nat},pI val i k j n=some r->∃m,j<=m/\m<j+n/\i=(m:Int)/\k m=some r
 | 0,j,h=>by cases h
 | n+1,j,h=>by
  simp only [pI] at h;rcases Sv h with ⟨a,h⟩|⟨a,h⟩
  ·have a:i=(j:Int):=by
    have:decide (i=(j:Int))=true:=by rw [<-uT];exact a
    simpa using this
   exact ⟨j,Bv _,by omega,a,h⟩
  ·obtain ⟨m,l,g,f,d⟩:=Jov h;exact ⟨m,by omega,by omega,f,d⟩
theorem wT{g ver:Nat}{n:Int}(h:NI val s g ver=some n):∃esz el cells z,AA s g=some (.arr ver esz el cells z)/\n=(Yk s g ver:Int):=by
 unfold NI at h;split at h
 ·rename_i v e el t l x nest z a;split at h
  ·rename_i d;subst d;refine ⟨_,_,_,_,by rw [Jn a];rfl,?_⟩;have:=(Am h).symm;rw [this];simp only [Yk,a,Ob.ver,if_true,Ob.CO];by_cases hx:x.isEmpty=true
   ·rw [if_pos hx,Ax.1 hx,Aw,As,Au];rfl
   ·rw [if_neg hx,Dm];rfl
  ·cases h
 ·rename_i v e el l z a;split at h
  ·rename_i d;subst d;refine ⟨_,_,_,_,by rw [Jn a];rfl,?_⟩;have:=(Am h).symm;rw [this];simp only [Yk,a,Ob.ver,if_true,Ob.CO];rfl
  ·cases h
 ·cases h
end
section
variable {call:Vv.Call} {base g0:Nat} {s:S Ty.T} {α:Type} {r:α}
theorem J00{x:Option LO}{z a:Int}(h:J6u val s x z=some a):JR z (x.map (enc s).ev)=some a/\(x=none->a=z):=by
 cases x with
 | none=>have:=Am h;subst this;exact ⟨rfl,λ_=>rfl⟩
 | some x=>
  have h:MZ .i64 (ev val s x)=some a:=h;refine ⟨?_,λe=>by cases e⟩;simp only [Ad,Ra h,JR]
theorem wP{lo hi:Option LO}{n:Int}{k:Int->Int->Option α}(G:0<=n)(h:aK val s lo hi n k=some r) :
  ∃a b:Int,JR 0 (lo.map (enc s).ev)=some a/\JR n (hi.map (enc s).ev)=some b/\0<=a/\a<=b/\b<=n/\(lo=none->a=0)/\k a b=some r:=by
 unfold aK at h;obtain ⟨a,w,h⟩:=Jk h;obtain ⟨b,v,h⟩:=Jk h;obtain ⟨A,rfl⟩:∃A:Int,(show Ty.T I from A)=a:=⟨a,rfl⟩;obtain ⟨B,rfl⟩:∃B:Int,(show Ty.T I from B)=b:=⟨b,rfl⟩;obtain ⟨F,E⟩:=J00 (z:=0) (a:=A) w;obtain ⟨y,m⟩:=J00 (z:=n) (a:=B) v;refine ⟨A,B,F,y,?_⟩;have o:∀ {x:Option α},(if hi.isNone=true then k A B else val.gd (val.le (show Ty.T I from B) (show Ty.T I from n)) (k A B))=some r->B<=n/\k A B=some r:=λ{x} h=>by
  by_cases d:hi.isNone=true
  ·rw [if_pos d] at h;rw [m (Ag.1 d)];rw [m (Ag.1 d)] at h;exact ⟨Dp _,h⟩
  ·rw [if_neg d] at h;obtain ⟨g,h⟩:=Km h;exact ⟨Lr g,h⟩
 by_cases hl:lo.isNone=true
 ·have e:=E (Ag.1 hl);simp only [hl,if_true] at h;by_cases d:hi.isNone=true
  ·simp only [d,true_and,and_self,if_true] at h;have eb:=m (Ag.1 d);refine ⟨by omega,by omega,by omega,λ_=>e,h⟩
  ·have f:¬(True/\hi.isNone=true):=λq=>d q.2;rw [if_neg f] at h;obtain ⟨g,h⟩:=Km h;have g:A<=B:=Lr g;obtain ⟨l,h⟩:=o (x:=none) h;exact ⟨by omega,g,l,λ_=>e,h⟩
 ·rw [if_neg hl] at h;obtain ⟨g0,h⟩:=Km h;have g0:(0:Int)<=A:=Lr g0;have f:¬(lo.isNone=true/\hi.isNone=true):=λq=>hl q.1;simp only at h;rw [if_neg f] at h;obtain ⟨g,h⟩:=Km h;have g:A<=B:=Lr g;obtain ⟨l,h⟩:=o (x:=none) h;exact ⟨g0,g,l,λq=>by rw [q] at hl;exact (hl rfl).elim,h⟩
theorem J7l{lo:Option LO}{a b:Int}(h:lo=none->a=0):(if lo.isNone=true then (show Ty.T I from b) else val.mi (show Ty.T I from b) (show Ty.T I from a))=(show Ty.T I from b - a):=by
 by_cases hl:lo.isNone=true
 ·rw [if_pos hl,h (Ag.1 hl)];show b=b - 0;omega
 ·rw [if_neg hl];rfl
theorem UJ(hi:Inv s){esz:Nat}{x:V Ty.T}{lo d:Option LO}{k:V Ty.T->Option α}(hx:okV s x)(h:bY val s esz x lo d k=some r) :
  ∃v,Ij (AA s) esz (AQ s x) (lo.map (enc s).ev) (d.map (enc s).ev)=some (AQ s v)/\okV s v/\k v=some r:=by
 unfold bY at h;split at h
 ·rename_i t v;obtain ⟨L,rfl⟩:∃L:List t.T,(show Ty.T (.ls t) from L)=v:=⟨v,rfl⟩;split at h
  ·rename_i J;subst J;obtain ⟨a,b,w,o,F,E,y,m,h⟩:=wP (n:=(L.length:Int)) (by omega) h;refine ⟨.c (.lf (.ls t) (show Ty.T (.ls t) from (L.drop a.toNat).take (b - a).toNat)),?_,KP,?_⟩
   ·show Ij (AA s) t.sz (.CB L.length (L.flatMap t.cs)) _ _=some (.CB ((L.drop a.toNat).take (b - a).toNat).length (((L.drop a.toNat).take (b - a).toNat).flatMap t.cs));simp only [Ij,w,o];rw [if_pos ⟨F,E,y,zo L⟩,Jqt]
    congr 2
    simp;omega
   ·have:=J7l (lo:=lo) (a:=a) (b:=b) m;rw [this] at h;exact h
  ·cases h
 ·rename_i g ver;have main:∀ {v e:Nat} {el:TypeId} {cells:List AV} {z:Bool},AA s g=some (.arr v e el cells z)->v=ver->e=esz->BU val (NI val s g ver) (λn=>aK val s lo d n λa b=>k (.c (.part g ver a (if lo.isNone=true then b else val.mi b a))))=some r ->
    ∃v,Ij (AA s) esz (AQ s (.c (.own g ver))) (lo.map (enc s).ev) (d.map (enc s).ev)=some (AQ s v)/\okV s v/\k v=some r:=by intro v e el cells z hH O R h;obtain ⟨n,M,h⟩:=Jk h;obtain ⟨_,_,_,_,hH2,M⟩:=wT (n:=n) M;rw [M] at h;obtain ⟨a,b,w,o,F,E,y,m,h⟩:=wP (n:=(Yk s g ver:Int)) (by omega) h;have:=J7l (lo:=lo) (a:=a) (b:=b) m;rw [this] at h;refine ⟨_,?_,Zm (λq K=>hx _ (by simp [V.all];rfl) q (by simpa [refs] using K)),h⟩;simp only [AQ,AB,Ij,w,o];rw [if_pos ⟨F,E,y,by simp [Ee,hH,O,R]⟩];simp only [Bq]
  split at h
  ·rename_i v e el t l x nest z G;split at h
   ·rename_i f;exact main (by rw [Jn G];rfl) f.1 f.2 h
   ·cases h
  ·rename_i v e el l z G;split at h
   ·rename_i f;exact main (by rw [Jn G];rfl) f.1 f.2 h
   ·cases h
  ·cases h
 ·rename_i g ver off len;obtain ⟨A,rfl⟩:∃A:Int,(show Ty.T I from A)=off:=⟨off,rfl⟩;obtain ⟨B,rfl⟩:∃B:Int,(show Ty.T I from B)=len:=⟨len,rfl⟩;split at h
  ·rename_i v e el t l x nest z G;split at h
   ·rename_i f;obtain ⟨N,h⟩:=Km h;obtain ⟨H,h⟩:=Km h;have N:(0:Int)<=A:=Lr N;have H:(0:Int)<=B:=Lr H;obtain ⟨a,b,w,o,F,E,y,m,h⟩:=wP (n:=B) H h;have Q:=J7l (lo:=lo) (a:=a) (b:=b) m;rw [Q] at h;have P:(if lo.isNone=true then (show Ty.T I from A) else val.pl (show Ty.T I from A) (show Ty.T I from a))=(show Ty.T I from A+a):=by
     by_cases hl:lo.isNone=true
     ·rw [if_pos hl,m (Ag.1 hl)];show A=A+0;omega
     ·rw [if_neg hl];rfl
    rw [P] at h;refine ⟨_,?_,Zm (λq K=>hx _ (by simp [V.all];rfl) q (by simpa [refs] using K)),h⟩;show Ij (AA s) esz (.arr g ver A.toNat B.toNat) _ _=some (.arr g ver (A+a).toNat (b - a).toNat);have hB:((B.toNat:Nat):Int)=B:=Bm H;simp only [Ij,w,hB,o];rw [if_pos ⟨F,E,y,by simp [Ee,Jn G,BG,f.1,f.2]⟩]
    congr 2
    omega
   ·cases h
  ·cases h
 ·obtain ⟨a,b,w,o,F,E,y,m,h⟩:=wP (n:=0) (Dp _) h;refine ⟨_,?_,Zm (Kh s rfl),h⟩;simp only [AQ,AB,Ij,w,o];rw [if_pos ⟨by omega,by omega⟩]
 ·cases h
end
theorem uz{t:Ty}:t.QS=!t.one:=by cases t<;>rfl
theorem J9w{t:Ty}(h:t.one=true)(x:t.T):EA t x=zk (t.cs x):=by unfold EA;rw [uz,h];rfl
theorem J48{t:Ty}:t.dH=t.one:=by cases t<;>rfl
theorem J1s:∀ {a b:List Bool},I9 a b=true->a=b
 | [],[],_=>rfl
 | true::a,true::b,h=>by rw [J1s (a:=a) (b:=b) h]
 | false::a,false::b,h=>by rw [J1s (a:=a) (b:=b) h]
 | [],_::_,h=>by simp [I9] at h
 | true::_,[],h=>by simp [I9] at h
 | false::_,[],h=>by simp [I9] at h
 | true::_,false::_,h=>by simp [I9] at h
 | false::_,true::_,h=>by simp [I9] at h
theorem Jqx:∀ {a b:List Bool} {x y h g:List AV} {p q:Bool},Kb a x y=some p->Kb b h g=some q->Kb (a++b) (x++h) (y++g)=some (p&&q)
 | [],b,[],[],h,g,p,q,f,l=>by injection f with f;subst f;simpa using l
 | s::a,b,u::x,v::y,h,g,p,q,f,l=>by
  simp only [Kb,List.cons_append] at f ⊢;cases m:LB s u v with
  | none=>rw [m] at f;cases f
  | some c=>
   rw [m] at f;cases hr:Kb a x y with
   | none=>rw [hr] at f;cases f
   | some d=>
    rw [hr] at f;injection f with f;subst f;rw [Jqx hr l];simp [Bool.and_assoc]
 | [],_,[],_::_,_,_,_,_,f,_=>by simp [Kb] at f
 | [],_,_::_,_,_,_,_,_,f,_=>by simp [Kb] at f
 | _::_,_,[],_,_,_,_,_,f,_=>by simp [Kb] at f
 | _::_,_,_::_,[],_,_,_,_,f,_=>by simp [Kb] at f
theorem wR:∀ {t:Ty} (h:t.key=true) (x y:t.T),Kb t.tZ (t.cs x) (t.cs y)=some (t.FE x y)
 | .int k,_,x,y=>by show Kb [false] [AV.int k x] [AV.int k y]=some (Ty.FE (.int k) x y);simp only [Kb,LB,if_true,Dy];rfl
 | .bool,_,x,y=>by show Kb [true] [AV.bool x] [AV.bool y]=some (Ty.FE .bool x y);simp only [Kb,LB,Dy];rfl
 | .u,_,x,y=>rfl
 | .p a b,h,x,y=>by simp only [Ty.key,Ay] at h;exact Jqx (wR h.1 x.1 y.1) (wR h.2 x.2 y.2)
theorem J2t{ag:Bool}{sh:List Bool}{t:Ty}(h:MP ag sh t=true)(x y:t.T):E9 ag sh (EA t x) (EA t y)=some (t.FE x y):=by
 unfold MP at h;simp only [Ay,beq_iff_eq] at h;obtain ⟨⟨⟨l,a⟩,g⟩,m⟩:=h;have a:=J1s a;subst l;subst a;unfold E9 EA;cases f:t.QS with
 | true=>simp only [if_true];exact wR g x y
 | false=>
  have d:t.one=true:=by rw [uz] at f;simpa using f
  simp only [Az,if_false];rw [<-pW d,<-pW d];exact wR g x y
def ED{a b:Ty}(k:a.T):List (a.T×b.T)->Option Nat
 | []=>none
 | e::r=>if a.FE k e.1=true then some 0 else (ED k r).map (·+1)
section
variable {ag:Bool} {sh:List Bool} {kt vt:Ty}
theorem uG(h:MP ag sh kt=true)(k:kt.T):∀(i:Nat) (es:List (kt.T×vt.T)),posM ag sh (EA kt k) i (Cq kt vt es)=some ((ED k es).map (i+·))
 | i,[]=>rfl
 | i,e::r=>by
  show (match E9 ag sh (EA kt k) (EA kt e.1) with|some true=>some (some i)|some false=>posM ag sh (EA kt k) (i+1) (Cq kt vt r)|none=>none)=_;rw [J2t h];unfold ED;cases a:kt.FE k e.1 with
  | true=>simp
  | false=>
   simp only [Az,if_false];rw [uG h k (i+1) r];cases ED k r with
   | none=>rfl
   | some j=>simp only [Ad];congr 2;omega
theorem SL(k:kt.T)(z:AV):∀(es:List (kt.T×vt.T)),TQ (Cq kt vt es) z (ED k es)=(match FJ k es with|some v=>EA vt v|none=>z)
 | []=>rfl
 | e::r=>by
  unfold ED FJ;by_cases a:kt.FE k e.1=true
  ·rw [if_pos a,if_pos a];rfl
  ·rw [if_neg a,if_neg a,<-SL k z r];cases ED k r with
   | none=>rfl
   | some j=>rfl
theorem J7p(k:kt.T)(v:vt.T):∀(es:List (kt.T×vt.T)),FK (Cq kt vt es) (EA kt k) (EA vt v) (ED k es)=Cq kt vt (Fg k v es)
 | []=>rfl
 | e::r=>by
  unfold ED Fg;by_cases a:kt.FE k e.1=true
  ·rw [if_pos a,if_pos a];rfl
  ·rw [if_neg a,if_neg a];have d:=J7p k v r;show _=(EA kt e.1,EA vt e.2)::Cq kt vt (Fg k v r);rw [<-d];cases ED k r with
   | none=>rfl
   | some j=>rfl
theorem Kac(k:kt.T):∀(es:List (kt.T×vt.T)),VI (Cq kt vt es) (ED k es)=Cq kt vt (Iz k es)
 | []=>rfl
 | e::r=>by
  unfold ED Iz;by_cases a:kt.FE k e.1=true
  ·rw [if_pos a,if_pos a];rfl
  ·rw [if_neg a,if_neg a];have d:=Kac k r;show _=(EA kt e.1,EA vt e.2)::Cq kt vt (Iz k r);rw [<-d];cases ED k r with
   | none=>rfl
   | some j=>rfl
theorem Jut(k:kt.T):∀(es:List (kt.T×vt.T)),(ED k es).isSome=(FJ k es).isSome
 | []=>rfl
 | e::r=>by
  unfold ED FJ;by_cases a:kt.FE k e.1=true
  ·rw [if_pos a,if_pos a];rfl
  ·rw [if_neg a,if_neg a,<-Jut k r];cases ED k r<;>rfl
theorem Jq8(h:MP ag sh kt=true)(k:kt.T):XY ag sh (EA kt k)=true:=by unfold XY;rw [J2t h];rfl
end
section
variable {call:Vv.Call} {base g0:Nat} {s:S Ty.T} {α:Type} {r:α}
theorem aR{ag:Bool}{t:Ty}{v:V Ty.T}{x:t.T}(g:ag=t.QS)(h:Ib val ag t v=some x):AQ s v=EA t x:=by
 subst g;unfold Ib at h;split at h
 ·rename_i l a;cases d:impl val (HV val) t l with
  | none=>rw [d] at h;cases h
  | some p=>
   obtain ⟨y,r⟩:=p;rw [d] at h;have h:(if r.isEmpty=true then some y else none)=some x:=h;split at h
   ·rename_i hr;injection h with h;subst h;have hr:r=[]:=Ax.1 hr;subst hr;have:=lD (s:=s) (lZ s) t d;simp only [AQ,EA,a,if_true];rw [this];simp
   ·cases h
 ·rename_i c a;have f:t.one=true:=by rw [uz] at a;simpa using a
  have:=lM (s:=s) f h;rw [J9w f,this];rfl
 ·cases h
theorem Kax{t:Ty}{z:AV}{x:t.T}(a:t.one=true)(h:Nc val t z=some x):zk (t.cs x)=z:=by
 unfold Nc at h;split at h
 ·injection h with h;subst h;rfl
 ·have:=lM (s:=⟨[],[],[],[],none⟩) a h;rw [this,gY];rfl
theorem qw{v:V Ty.T}{p}(h:La s v=some p):v=.c (.map p.1 p.2.1)/\look p.1 s.ob=some (.mp p.2.1 p.2.2.1 p.2.2.2.1 p.2.2.2.2):=by
 unfold La at h;split at h
 ·rename_i g ver;split at h
  ·rename_i w kt vt es a;split at h
   ·rename_i e;injection h with h;subst h;subst e;exact ⟨rfl,a⟩
   ·cases h
  ·cases h
 ·cases h
theorem rG{g w:Nat}{kt vt:Ty}{es:List (kt.T×vt.T)}(a:look g s.ob=some (.mp w kt vt es)):GD (AA s) g w=some (Cq kt vt es):=by unfold GD;rw [Jn a];simp [BG]
theorem Pp{ag:Bool}{sh:List Bool}{kt vt:Ty}(a:MP ag sh kt=true)(f:vt.one=true)(es:List (kt.T×vt.T))(k:kt.T)(z:vt.T){zv:AV}(d:zk (vt.cs z)=zv)(ok:Bool) :
  mR ok ag sh zv (EA kt k) (some (Cq kt vt es))=some (if ok=true then .Cn [zk (vt.cs ((FJ k es).getD z)),.bool (FJ k es).isSome] else zk (vt.cs ((FJ k es).getD z))):=by
 unfold mR;simp only;rw [if_pos (Jq8 a k),uG a];have h:(ED k es).map (0+·)=ED k es:=by cases ED k es<;>simp
 rw [h];simp only [ML];rw [SL,Jut];have g:(match FJ k es with|some v=>EA vt v|none=>zv)=zk (vt.cs ((FJ k es).getD z)):=by
  cases FJ k es with
  | none=>exact d.symm
  | some v=>exact J9w f v
 rw [g]
theorem J75{ag:Bool}{sh:List Bool}{kt vt:Ty}(a:MP ag sh kt=true){g w:Nat}{es:List (kt.T×vt.T)}(d:look g s.ob=some (.mp w kt vt es))(k:kt.T)(v:vt.T) :
  OL (AA s) ag sh (EA kt k) (EA vt v) (.map g w)=some (upd (AA s) g (some (.map w (Cq kt vt (Fg k v es)) false))):=by
 unfold OL;simp only;rw [rG d];simp only;rw [if_pos (Jq8 a k),uG a];have f:(ED k es).map (0+·)=ED k es:=by cases ED k es<;>simp
 rw [f];simp only [bg,J7p]
theorem J8o{ag:Bool}{sh:List Bool}{kt vt:Ty}(a:MP ag sh kt=true){g w:Nat}{es:List (kt.T×vt.T)}(d:look g s.ob=some (.mp w kt vt es))(k:kt.T) :
  Rv (AA s) ag sh (EA kt k) (.map g w)=some (upd (AA s) g (some (.map w (Cq kt vt (Iz k es)) false))):=by
 unfold Rv;simp only;rw [rG d];simp only;rw [if_pos (Jq8 a k),uG a];have f:(ED k es).map (0+·)=ED k es:=by cases ED k es<;>simp
 rw [f];simp only [fM,Kac]
theorem Jsj(hi:Inv s){op:CQ}{v:V Ty.T}{g w:Nat}{kt vt:Ty}{es es':List (kt.T×vt.T)}(l:look g s.ob=some (.mp w kt vt es))
  (m:Ja call base (enc s) g0 op=some (AQ s v,upd (AA s) g (some (.map w (Cq kt vt es') false)))) (d:v.all=[.any]\/v.all=[]) :
  JM call base g0 s op v (s.obj g (.mp w kt vt es')):=by
 have st:CX s (s.obj g (.mp w kt vt es')):=Mf λo f=>by rw [l] at f;injection f with f;subst f;exact ⟨rfl,rfl⟩
 have okv:∀s:S Ty.T,okV s v:=λs c a=>by
  rcases d with d|d
  ·rw [d] at a;have:=Df.1 a;subst this;exact Kh s rfl
  ·rw [d] at a;cases a
 refine ⟨?_,st,NJ hi st (λh=>Qv g h _) (λc a=>by cases a) (hi.free l),okv _⟩;rw [m,NM hi st (λh=>Qv g h _),st.AQ (okv s)];rfl
end
section
variable {call:Vv.Call} {base g0:Nat} {s:S Ty.T} {α:Type} {r:α}
def Md(call:Vv.Call)(Γ:FuncId->Option BS):Prop:=∀ {α:Type} {base g0:Nat} {s:S Ty.T} {r:α} {c:BS} {f:FuncId} {args:List LO} {k:CQ->V Ty.T->S Ty.T->Option α},Inv s->Γ f=some c->ZQ val c f args s (args.map (ev val s)) k=some r ->
 ∃op' v s',Alt (.Cz f args) op'/\JM call base g0 s op' v s'/\k op' v s'=some r
theorem XU{x:LO}{c:C Ty.T}(hi:Inv s)(h:ev val s x=.c c):FR s c:=by have:=Mc hi x;rw [h] at this;exact this c (by simp [V.all])
theorem bI{c c':C Ty.T}(h:FR s c)(hr:refs c'=refs c):okV s (.c c'):=Zm (λq a=>h q (by rw [<-hr];exact a))
theorem J9k{o:BinOp}{k:IntKind}{a b:Int}(f:0<=b)(d:o=.shl\/o=.shr):UL o k a b=some (.int k (ish o k a b)):=by rcases d with rfl|rfl<;>(unfold UL;rw [if_neg (by omega)];rfl)
theorem R8{F:LO->Option (Nat×Nat×Nat)}(hF:∀x p,F x=some p->ev val s x=.c (.ptr p.1 p.2.1 p.2.2)){caps:List LO}{l:List (Nat×Nat×Nat)}(hi:Inv s)(h:FT F caps=some l) :
  caps.map (enc s).ev=l.map (λc=>AV.ptr c.1 c.2.1 c.2.2)/\∀c∈l,FR s (.ptr c.1 c.2.1 c.2.2):=by
 induction caps generalizing l with
 | nil=>simp only [FT] at h;injection h with h;subst h;exact ⟨rfl,λc a=>by cases a⟩
 | cons x caps g=>
  simp only [FT] at h;cases hx:F x with
  | none=>rw [hx] at h;cases h
  | some p=>
   have hx:=hF x p hx;rename_i d;rw [d] at h;simp only [Bk] at h;cases f:FT F caps with
   | none=>rw [f] at h;cases h
   | some r=>
    rw [f] at h;have:=Am h;subst this;obtain ⟨o,m⟩:=g f;refine ⟨?_,λc a=>?_⟩
    ·simp only [Bu,o,Ku,hx];rfl
    ·rcases Du.1 a with rfl|a
     ·exact XU hi hx
     ·exact m c a
theorem J50{g ver:Nat}{n:Int}(a:NI val s g ver=some n):GX (AA s) g ver=true:=by
 unfold NI at a;split at a
 ·rename_i f;split at a
  ·rename_i d;simp [GX,Jn f,BG,d]
  ·cases a
 ·rename_i f;split at a
  ·rename_i d;simp [GX,Jn f,BG,d]
  ·cases a
 ·cases a
theorem J3s{t:Ty}(z:t.T):∀n,(Dq n z).flatMap t.cs=z8 (t.cs z) n
 | 0=>rfl
 | n+1=>by rw [List.replicate_succ,Ac,J3s z n];rfl
theorem aP:∀(t:Ty) (x:t.T),(t.cs x).all AV.flat=true
 | .int _,_=>rfl
 | .bool,_=>rfl
 | .str,_=>rfl
 | .ls _,_=>rfl
 | .bf _ _,_=>rfl
 | .u,_=>rfl
 | .p a b,(x,y)=>by show (a.cs x++b.cs y).all AV.flat=true;rw [List.all_append,aP a x,aP b y];rfl
theorem Jz8(s:S Ty.T):∀ {l:List (C Ty.T)} {t:Ty} {v:t.T},mI val l=some ⟨t,v⟩->l.map (AB s)=t.cs v
 | [],t,v,h=>by simp only [mI,Aj,Sigma.mk.injEq] at h;obtain ⟨rfl,h⟩:=h;rfl
 | .lf f x::r,t,v,h=>by
  have key:∀(m:f.one=true) (d:(mI val r).map (λp=>(⟨.p f p.1,val.pr x p.2⟩:(t:Ty)×t.T))=some ⟨t,v⟩),(C.lf f x::r).map (AB s)=t.cs v:=λm d=>by
   cases hr:mI val r with
   | none=>rw [hr] at d;cases d
   | some p=>
    obtain ⟨g,v2⟩:=p;rw [hr] at d;simp only [Ad,Aj,Sigma.mk.injEq] at d;obtain ⟨rfl,d⟩:=d;have d:=eq_of_heq d;subst d;rw [Bu,Jz8 s hr];show zk (f.cs x)::g.cs v2=f.cs x++g.cs v2;rw [pW m x];rfl
  cases f with
  | u=>cases h
  | p a b=>cases h
  | _=>exact key rfl h
 | .any::_,_,_,h=>by cases h
 | .kb _::_,_,_,h=>by cases h
 | .k _::_,_,_,h=>by cases h
 | .own ..::_,_,_,h=>by cases h
 | .part ..::_,_,_,h=>by cases h
 | .ptr ..::_,_,_,h=>by cases h
 | .Fy ..::_,_,_,h=>by cases h
 | .rp ..::_,_,_,h=>by cases h
 | .fn ..::_,_,_,h=>by cases h
 | .map ..::_,_,_,h=>by cases h
 | .yl _::_,_,_,h=>by cases h
theorem dD{Γ:FuncId->Option BS}{ty:TypeId->Option Ty}{op:CQ}{k:CQ->V Ty.T->S Ty.T->Option α}(hC:Md call Γ)(hi:Inv s)(h:dG val Γ ty s g0 op k=some r) :
  ∃op' v s',Alt op op'/\JM call base g0 s op' v s'/\k op' v s'=some r:=by
 have done:∀ {v:V Ty.T} {s':S Ty.T},JM call base g0 s op v s'->k op v s'=some r->∃op' v s',Alt op op'/\JM call base g0 s op' v s'/\k op' v s'=some r:=λa b=>⟨op,_,_,.inl rfl,a,b⟩;have same':∀ {v:V Ty.T},Ja call base (enc s) g0 op=some (AQ s v,AA s)->okV s v->k op v s=some r->∃op' v s',Alt op op'/\JM call base g0 s op' v s'/\k op' v s'=some r:=λa b c=>done (.same hi a b) c;have same:=@same';have sm:∀ {v:V Ty.T},k op v s=some r->Ja call base (enc s) g0 op=some (AQ s v,AA s)->okV s v->∃op' v s',Alt op op'/\JM call base g0 s op' v s'/\k op' v s'=some r:=λc a b=>same' a b c;clear same';cases op<;>simp only [dG] at h<;>try (cases h;done)
 case dS x=>exact done (VZ hi) h
 case pick c a b=>
  split at h
  ·rename_i t d;have hcv:(enc s).ev c=.bool t:=by rw [Ku,d];rfl
   refine same ?_ ?_ h
   ·simp only [Ja,hcv,Ku];cases t<;>rfl
   ·cases t<;>exact Mc hi _
  ·cases h
 case alloc z=>
  split at h
  ·cases h
  ·rename_i H;exact done (J8n hi (by simpa using H)) h
 case box x=>
  split at h
  ·cases h
  ·rename_i H;exact done (Wx hi (by cases hl:s.has g0 with|false=>rfl|true=>exact (H (.inl hl)).elim) (by cases hg:(ev val s x).good with|true=>rfl|false=>exact (H (.inr hg)).elim)) h
 case build z ps=>
  obtain ⟨l,hl,h⟩:=Jk h;exact done (J8d hi hl) h
 case EX n esz el z ps=>
  obtain ⟨l,hl,h⟩:=Jk h;split at h
  ·rename_i d;exact done (J5f hi (by simpa using d.2.2) hl d.1 d.2.1) h
  ·cases h
 case load ag n x=>
  obtain ⟨v,M,h2,h3⟩:=J47 hi (Mc hi x) h;exact same (by simp only [Ja,Ku];rw [show (enc s).h=AA s from rfl,M]) h2 h3
 case store n x y=>
  obtain ⟨s',M,h2,h3,h4⟩:=J8h hi (Mc hi y) h;exact done ⟨by simp only [Ja,Ku];rw [show (enc s).h=AA s from rfl,h3];rfl,M,h2,Zm (Kh s' rfl)⟩ h4
 case KJ o x y=>
  obtain ⟨kk,-,h⟩:=Jk h;obtain ⟨a,ha,h⟩:=Jk h;obtain ⟨b,R,h⟩:=Jk h;obtain ⟨A,rfl⟩:∃A:Int,(show Ty.T (.int kk) from A)=a:=⟨a,rfl⟩;obtain ⟨B,rfl⟩:∃B:Int,(show Ty.T (.int kk) from B)=b:=⟨b,rfl⟩;have e1:=Ra (a:=A) ha;have e2:=Ra (a:=B) R;have eb:∀v:AV,TU o kk A B=some v->Ja call base (enc s) g0 (.KJ o x y)=some (v,AA s):=λv q=>by simp only [Ja,e1,e2,if_true,q];rfl
  split at h
  ·rename_i hcm;exact same (v:=.c (.lf .bool (QY o A B))) (eb _ (QZ hcm)) KP h
  ·split at h
   ·rename_i har;exact same (v:=.c (.lf (.int kk) (WO o kk A B))) (eb _ (RA har)) KP h
   ·have key:∀q,(q=BinOp.quo\/q=BinOp.rem)->B≠0->TU q kk A B=some (.int kk (WO q kk A B)):=by
     rintro q (rfl|rfl) hb0
     ·simp only [TU];rw [if_neg hb0];rfl
     ·simp only [TU];rw [if_neg hb0];rfl
    have nz:val.cm .neq kk B (val.int kk 0)=true->B≠0:=λq=>by have q:(B != 0)=true:=q;simpa using q
    split at h
    ·obtain ⟨E,h⟩:=Km h;exact same (v:=.c (.lf (.int kk) (WO _ kk A B))) (eb _ (key _ (.inl rfl) (nz E))) KP h
    ·obtain ⟨E,h⟩:=Km h;exact same (v:=.c (.lf (.int kk) (WO _ kk A B))) (eb _ (key _ (.inr rfl) (nz E))) KP h
    ·cases h
 case eqv ne ag sh x y=>
  have fin:∀ {b:Bool},E9 ag sh ((enc s).ev x) ((enc s).ev y)=some b->k (.eqv ne ag sh x y) (.c (.lf .bool (if ne=true then val.nt b else b))) s=some r->∃op' v s',Alt (.eqv ne ag sh x y) op'/\JM call base g0 s op' v s'/\k op' v s'=some r:=λ{b} q h=>same (by simp only [Ja,q];cases ne<;>rfl) KP h
  split at h
  ·rename_i l m hx hy;obtain ⟨b,R,h⟩:=Jk h;exact fin (by rw [Ku,Ku,hx,hy];exact Jwx R) h
  ·rename_i u v hx hy;obtain ⟨b,R,h⟩:=Jk h;exact fin (by rw [Ku,Ku,hx,hy];exact Jwx (l:=[u]) (m:=[v]) R) h
  ·cases h
 case un o x=>
  split at h
  ·rename_i b hx;exact sm h (by simp only [Ja,Ku,hx];rfl) (Zm (Kh s rfl))
  ·rename_i b hx;exact sm h (by simp only [Ja,Ku,hx];rfl) KP
  ·rename_i kk v hx;exact sm h (by simp only [Ja,Ku,hx];rfl) KP
  ·cases h
 case conv kk x=>
  split at h
  ·rename_i k' v hx;exact sm h (by simp only [Ja,Ku,hx];rfl) KP
  ·cases h
 case Ep x=>
  split at h
  ·rename_i g v o hx;split at h
   ·rename_i d;exact sm h (by simp only [Ja,Ku,hx,AQ,AB];rw [show (enc s).h=AA s from rfl,if_pos (qH d)]) (bI (XU hi hx) rfl)
   ·cases h
  ·rename_i g v e i o hx;split at h
   ·rename_i d;exact sm h (by simp only [Ja,Ku,hx,AQ,AB];rw [show (enc s).h=AA s from rfl,if_pos (qH d)]) (bI (XU hi hx) rfl)
   ·cases h
  ·rename_i t v o hx;exact sm h (by simp only [Ja,Ku,hx];rfl) (Zm (Kh s rfl))
  ·rename_i f c hx;exact sm h (by simp only [Ja,Ku,hx];rfl) (bI (XU hi hx) rfl)
  ·rename_i f t v hx;exact sm h (by simp only [Ja,Ku,hx];rfl) (Zm (Kh s rfl))
  ·cases h
 case Ms f x=>
  split at h
  ·rename_i l hx;obtain ⟨⟨t,v⟩,Y,h⟩:=Jk h;have e:=Jz8 s Y;refine sm h ?_ (Zm (Kh s rfl));simp only [Ja,Ku,hx,AQ,e,aP t v,if_true];rfl
  ·cases h
 case Lb f caps=>
  obtain ⟨l,hl,h⟩:=Jk h;obtain ⟨c1,c2⟩:=R8 (λx p Y=>by split at Y<;>first|(cases Y;done)|(have:=Am Y;subst this;assumption)) hi hl;refine same (by simp only [Ja,c1,AQ,AB];rfl) (Zm λq hq=>?_) h;simp only [refs,Dc] at hq;obtain ⟨c,d,rfl⟩:=hq;exact c2 c d (c.1,c.2.1) (by simp [refs])
 case mkS esz bytes el z l c=>
  split at h
  ·rename_i a b;split at h
   ·rename_i hab;subst hab;obtain ⟨n,F,h⟩:=Jk h;obtain ⟨t,-,h⟩:=Jk h;obtain ⟨⟨X,zr⟩,hz,h⟩:=Jk h;simp only at h;split at h
    ·rename_i d;obtain ⟨c1,c2,c3,c4,c5⟩:=d;obtain ⟨N,rfl⟩:∃N:Int,(show Ty.T I from N)=n:=⟨n,rfl⟩;have e1:=Ra (a:=N) F;obtain ⟨E,h⟩:=Km h;obtain ⟨g2,h⟩:=Km h;have E:(0:Int)<=N:=Lr E;have g2:N * bytes<=room/\N<=9223372036854775807:=by have:decide (N * bytes<=room/\N<=9223372036854775807)=true:=g2;simpa using this
     have hzr:zr=[]:=by simpa using c2
     subst hzr;have hz1:=lD (lZ s) t hz;rw [Db,show z.map (AB s ∘ cC val)=z from (Ak λv _=>gY s v).trans (Dg _),Ao,Af] at hz1;have H:s.has g0=false:=by simpa using c5
     refine done (kR hi H (av:=.arr g0 (Kg (enc s).h g0) 0 N.toNat) (ao:=.arr (Kg (enc s).h g0) esz el (z8 z N.toNat) false) ?_ ?_ ?_ (λc d=>by cases d) (Zm (iH rfl))) h
     ·simp only [Ja,e1];rw [if_pos ⟨E,Dp _,id,g2.1,g2.2⟩];rfl
     ·simp only [AQ,AB];rw [show Yk (s.obj g0 (.row (s.nv g0) esz el t (val.rp X N) [] none false)) g0 (s.nv g0)=List.length (α:=t.T) (val.rp X N)+0 / esz from wM (o:=.row (s.nv g0) esz el t (val.rp X N) [] none false),show (enc s).h=AA s from rfl,Yu H,As,Au];rw [show List.length (α:=t.T) (val.rp X N)=N.toNat from List.length_replicate]
     ·simp only [Dn.BG];rw [show (enc s).h=AA s from rfl,Yu H,Ao,Af,hz1,<-J3s];rfl
    ·cases h
   ·cases h
  ·rename_i k1 a k2 b;split at h
   ·rename_i d;obtain ⟨c0,c1,c2,c3,c4,c5,c6⟩:=d;subst c0;have H:s.has g0=false:=by simpa using c6
    have hl:(F3 (z.map (cC val)) a.toNat).length=a.toNat * esz:=by
     have:=congrArg List.length (uq z s a.toNat);rw [Av] at this;rw [this,<-c4];generalize a.toNat=m
     induction m with
     | zero=>simp [z8]
     | succ m ih=>simp [z8,ih,Nat.succ_mul,Nat.add_comm]
    have hs:CX s (s.obj g0 (.lit (s.nv g0) esz el (F3 (z.map (cC val)) a.toNat) false)):=Mf λo0 h=>by rw [Sz H] at h;cases h
    refine done (kR hi H (av:=.arr g0 (Kg (enc s).h g0) 0 a.toNat) (ao:=.arr (Kg (enc s).h g0) esz el (z8 z a.toNat) false) ?_ ?_ ?_ (J2c z _ a.toNat) (Zm (iH rfl))) h
    ·simp only [Ja];show (if 0<=a/\a<=a/\(a=0->a=0)/\a * bytes<=room/\a<=9223372036854775807 then _ else none)=_;rw [if_pos ⟨c1,Dp _,id,c2,c3⟩];rfl
    ·simp only [AQ,AB];rw [show Yk (s.obj g0 (.lit (s.nv g0) esz el (F3 (z.map (cC val)) a.toNat) false)) g0 (s.nv g0)=(F3 (z.map (cC val)) a.toNat).length / esz from wM (o:=.lit (s.nv g0) esz el (F3 (z.map (cC val)) a.toNat) false),show (enc s).h=AA s from rfl,Yu H,hl,Ba _ c5]
    ·simp only [Dn.BG];rw [uq,show (enc s).h=AA s from rfl,Yu H]
   ·cases h
  ·cases h
 case slc esz x lo hi'=>
  obtain ⟨v,M,h2,h3⟩:=UJ hi (Mc hi x) h;exact same (by simp only [Ja,Ku];rw [show (enc s).h=AA s from rfl,M]) h2 h3
 case Et off x=>
  split at h
  ·rename_i g v o hx;split at h
   ·rename_i d;exact sm h (by simp only [Ja,Ku,hx,AQ,AB,LD];rw [show (enc s).h=AA s from rfl,if_pos (qH d)]) (bI (XU hi hx) rfl)
   ·cases h
  ·rename_i g v e i o hx;split at h
   ·rename_i d;exact sm h (by simp only [Ja,Ku,hx,AQ,AB,LD];rw [show (enc s).h=AA s from rfl,if_pos (qH d)];simp only [Dv]) (bI (XU hi hx) rfl)
   ·cases h
  ·rename_i t v o hx;exact sm h (by simp only [Ja,Ku,hx,AQ,AB,LD,List.drop_drop];rfl) (Zm (Kh s rfl))
  ·cases h
 case jZ ag off n x=>
  split at h
  ·rename_i l hx;split at h
   ·rename_i F;obtain ⟨v,O,h⟩:=Jk h;obtain ⟨p1,p2⟩:=lF F O s;refine sm h (by simp only [Ja,Ku,hx];show (match pack ag (l.map (AB s)) off n with|some v=>some (v,AA s)|none=>none)=_;rw [p1]) (λc d=>?_);have:=Mc hi x;rw [hx] at this;exact this c (p2 c d)
   ·cases h
  ·cases h
 case dV kt vt el=>
  obtain ⟨kt',-,h⟩:=Jk h;obtain ⟨vt',-,h⟩:=Jk h;split at h
  ·cases h
  ·rename_i H;have H:s.has g0=false:=eq_false_of_ne_true H;split at h
   ·rename_i u0 vt'' heq;split at h
    ·cases h
    ·rename_i d;simp only [not_or] at d;obtain ⟨hc1,hc2,hc3,hc4⟩:=d;have hmo:s.mo=none:=by
      cases hq:s.mo with
      | none=>rfl
      | some m=>rw [hq] at hc1;exact (hc1 rfl).elim
     have hlt:g0<mB:=by
      rcases Nat.lt_or_ge g0 mB with M|M
      ·exact M
      ·exact (hc2 (Bt M)).elim
     obtain ⟨s',K⟩:∃s':S Ty.T,s'=⟨s.sl,s.lo,s.ob,s.ln,some ⟨g0,kt',vt'',el,val.nl (.p kt' (.ls vt''))⟩⟩:=⟨_,rfl⟩;rw [<-K] at h;have hc0:AB s'=AB s:=by subst K;funext c;cases c<;>rfl
     have ho0:Dn.BG s'=Dn.BG s:=by funext o;cases o<;>simp only [Dn.BG,hc0]
     have hok:∀ {c},FR s c->FR s' c:=λhh=>by subst K;exact hh
     have st:CX s s':=⟨by subst K;rfl,by subst K;rfl,λc hh=>⟨hok hh,by rw [hc0]⟩⟩;have eob:s'.ob=s.ob:=by subst K;rfl
     have iv:Inv s':=by
      refine ⟨λp Y=>st.okV (hi.sl p (by subst K;exact Y)),λl hl p Y=>st.okV (hi.lo l (by subst K;exact hl) p Y),λg o hg c d=>hok (hi.ob g o (by rw [<-eob];exact hg) c d),λm Q=>?_⟩;subst K;injection Q with Q;subst Q;refine ⟨hlt,Nat.pos_of_ne_zero hc3,λg o hg=>?_⟩;have hg:look g s.ob=some o:=hg;unfold FB;rw [Bj];refine ⟨?_,?_⟩
      ·cases R:Aa g0 g with
       | false=>rfl
       | true=>
        have:=Bs R;subst this;rw [Sz H] at hg;cases hg
      ·cases R:Bc mB g with
       | false=>rfl
       | true=>exact (hc4 (List.any_eq_true.2 ⟨(g,o),Mg hg,R⟩)).elim
     have eh:AA s'=upd (AA s) g0 (some (.map 0 [] false)):=by
      funext x;simp only [AA,eob,ho0,hmo,upd];by_cases hx:x=g0
      ·subst hx;rw [Sz H,if_pos rfl];subst K;show Mo.at _ x=_;unfold Mo.at;rw [if_pos rfl];rfl
      ·rw [if_neg hx];cases look x s.ob with
       | some o=>rfl
       | none=>
        subst K;show Mo.at _ x=none;unfold Mo.at;rw [if_neg hx];split
        ·rfl
        ·rfl
     refine done ⟨?_,st,iv,Zm (Kh s' rfl)⟩ h;simp only [Ja];rw [show (enc s).h=AA s from rfl,Yu H,nv0 (Sz H),eh];rfl
   ·refine done (kR hi H (by simp only [Ja];rfl) ?_ ?_ (λc d=>by cases d) (Zm (iH rfl))) h
    ·simp only [AQ,AB];rw [show (enc s).h=AA s from rfl,Yu H]
    ·simp only [Dn.BG];rw [show (enc s).h=AA s from rfl,Yu H]
 case look ok ag sh z x y=>
  split at h
  ·rename_i g w kt vt es Q;obtain ⟨hx,G⟩:=qw Q;have hx:ev val s x=.c (.map g w):=hx;have G:look g s.ob=some (.mp w kt vt es):=G;have ex:AQ s (ev val s x)=.map g w:=by rw [hx];rfl
   split at h
   ·rename_i d;obtain ⟨P,M⟩:=d;rw [J48] at M;obtain ⟨k',Z,h⟩:=Jk h;obtain ⟨X,hz',h⟩:=Jk h;have ey:=aR (s:=s) (by unfold MP at P;simp only [Ay,beq_iff_eq] at P;exact P.1.1.1) Z;have key:=Pp P M es k' X (Kax M hz') ok;have he:Ja call base (enc s) g0 (.look ok ag sh z x y)=some ((if ok=true then .Cn [zk (vt.cs ((FJ k' es).getD X)),.bool (FJ k' es).isSome] else zk (vt.cs ((FJ k' es).getD X))),AA s):=by simp only [Ja,Ku];rw [ex,ey,show I8 (enc s).h (.map g w)=some (Cq kt vt es) from rG G,key];rfl
    split at h
    ·rename_i e;subst e;refine sm h (by rw [he];rfl) (λc d=>?_);have d:c∈[C.lf vt ((FJ k' es).getD X),C.lf .bool (FJ k' es).isSome]:=d;simp only [Du,List.not_mem_nil,or_false] at d;rcases d with rfl|rfl<;>exact Kh s rfl
    ·rename_i e;have e:ok=false:=by simpa using e
     subst e;exact sm h (by rw [he];rfl) (Zm (Kh s rfl))
   ·cases h
  ·cases h
 case LV ag sh x y z=>
  split at h
  ·rename_i g w kt vt es Q;obtain ⟨hx,G⟩:=qw Q;have hx:ev val s x=.c (.map g w):=hx;have G:look g s.ob=some (.mp w kt vt es):=G;have ex:AQ s (ev val s x)=.map g w:=by rw [hx];rfl
   split at h
   ·rename_i d;obtain ⟨P,M⟩:=d;rw [J48] at M;obtain ⟨k',Z,h⟩:=Jk h;obtain ⟨X,hz',h⟩:=Jk h;have ey:=aR (s:=s) (by unfold MP at P;simp only [Ay,beq_iff_eq] at P;exact P.1.1.1) Z;have ez:=aR (s:=s) (t:=vt) (by rw [uz,M];rfl) hz';refine done (Jsj hi G (es':=Fg k' X es) ?_ (.inl rfl)) h;simp only [Ja,Ku];rw [ex,ey,ez,show (enc s).h=AA s from rfl,J75 P G k' X];rfl
   ·cases h
  ·cases h
 case Mt ag sh x y=>
  split at h
  ·rename_i g w kt vt es Q;obtain ⟨hx,G⟩:=qw Q;have hx:ev val s x=.c (.map g w):=hx;have G:look g s.ob=some (.mp w kt vt es):=G;have ex:AQ s (ev val s x)=.map g w:=by rw [hx];rfl
   split at h
   ·rename_i P;obtain ⟨k',Z,h⟩:=Jk h;have ey:=aR (s:=s) (by unfold MP at P;simp only [Ay,beq_iff_eq] at P;exact P.1.1.1) Z;refine done (Jsj hi G (es':=Iz k' es) ?_ (.inr rfl)) h;simp only [Ja,Ku];rw [ex,ey,show (enc s).h=AA s from rfl,J8o P G k'];rfl
   ·cases h
  ·cases h
 case kD esz x y=>
  obtain ⟨v,s',M,h2,h3,h4,h5⟩:=Wn hi h;exact done ⟨by simp only [Ja,Ku];exact h3,M,h2,h4⟩ h5
 case Fh x=>
  split at h
  ·rename_i g w kt vt es Q;obtain ⟨hx,G⟩:=qw Q;have hx:ev val s x=.c (.map g w):=hx;have G:look g s.ob=some (.mp w kt vt es):=G;have ex:AQ s (ev val s x)=.map g w:=by rw [hx];rfl
   refine sm h ?_ (Zm (Kh s rfl));simp only [Ja,Ku];rw [ex,show (enc s).h=AA s from rfl];simp only [Vv.Fh,rG G];have el:(Cq kt vt es).length=List.length (α:=kt.T×vt.T) es:=Av _;simp only [el];rfl
  ·cases h
 case Es esz x i=>
  obtain ⟨j,hj,h⟩:=Jk h;obtain ⟨J,rfl⟩:∃J:Int,(show Ty.T I from J)=j:=⟨j,rfl⟩;have ei:=Ra (a:=J) hj;split at h
  ·rename_i t v hx;obtain ⟨L,rfl⟩:∃L:List t.T,(show Ty.T (.ls t) from L)=v:=⟨v,rfl⟩;split at h
   ·rename_i hsz;subst hsz;obtain ⟨z,H,hz,h⟩:=J2k (l:=L) (i:=J) h;have hl:=(Ai.1 hz).1;refine sm h ?_ (Zm (Kh s rfl));simp only [Ja,ei,Ku,hx];show (match JU (AA s) t.sz (.CB L.length (L.flatMap t.cs)) (.int .i64 J) with|some v=>some (v,AA s)|none=>none)=some (AV.CW ((t.cs z).drop 0),AA s);simp only [JU];rw [if_pos ⟨H,by omega⟩,iM hz];rfl
   ·cases h
  ·rename_i g ver hx;split at h
   ·rename_i v e el t l tl nest z G;split at h
    ·rename_i d;obtain ⟨rfl,rfl⟩:=d;obtain ⟨n,F,h⟩:=Jk h;obtain ⟨_,_,_,_,_,F⟩:=wT (n:=n) F;obtain ⟨E,h⟩:=Km h;have E:0<=J/\J<(Yk s g v:Int):=by rw [F] at E;have:decide (0<=J/\J<(Yk s g v:Int))=true:=E;simpa using this
     refine sm h ?_ (bI (XU hi hx) rfl);simp only [Ja,ei,Ku,hx,AQ,AB,JU];rw [show (enc s).h=AA s from rfl,if_pos ⟨E.1,E.2,by simp [Ee,Jn G,BG]⟩];simp only [Bq,Au]
    ·cases h
   ·cases h
  ·rename_i g ver off len hx;obtain ⟨A,rfl⟩:∃A:Int,(show Ty.T I from A)=off:=⟨off,rfl⟩;obtain ⟨B,rfl⟩:∃B:Int,(show Ty.T I from B)=len:=⟨len,rfl⟩;split at h
   ·rename_i v e el t l tl nest z G;split at h
    ·rename_i d;obtain ⟨rfl,rfl⟩:=d;obtain ⟨g0',h⟩:=Km h;have g0':(0:Int)<=A:=Lr g0';obtain ⟨E,h⟩:=Km h;have E:0<=J/\J<B:=by have:decide (0<=J/\J<B)=true:=E;simpa using this
     refine sm h ?_ (bI (XU hi hx) rfl);simp only [Ja,ei,Ku,hx];show (match JU (AA s) e (.arr g v A.toNat B.toNat) (.int .i64 J) with|some v=>some (v,AA s)|none=>none)=some (.ptr g v ((A+J).toNat * e+0),AA s);simp only [JU];rw [if_pos ⟨E.1,by omega,by simp [Ee,Jn G,BG]⟩];simp only [Au];rw [show (A+J).toNat=A.toNat+J.toNat by omega]
    ·cases h
   ·cases h
  ·cases h
 case EO len esz x i=>
  split at h
  ·rename_i g v o hx;split at h
   ·rename_i d;have fin:∀m:Nat,m<len->(enc s).ev i=.int .i64 (m:Int)\/(∃kk,(enc s).ev i=.int kk (m:Int))->k (.EO len esz x i) (.c (.ptr g v (o+m * esz))) s=some r->∃op' v s',Alt (.EO len esz x i) op'/\JM call base g0 s op' v s'/\k op' v s'=some r:=by intro m Q he h;obtain ⟨kk,he⟩:∃kk,(enc s).ev i=.int kk (m:Int):=he.elim (λq=>⟨_,q⟩) id;refine sm h ?_ (bI (XU hi hx) rfl);simp only [Ja,he,Ku,hx,AQ,AB,YK];rw [show (enc s).h=AA s from rfl,if_pos ⟨by omega,by omega,qH d⟩];simp only [Ab]
    split at h
    ·rename_i kk n;split at h
     ·rename_i F;exact fin n.toNat (by omega) (.inr ⟨kk,by show AV.int kk n=_;rw [Bm F.1]⟩) h
     ·cases h
    ·obtain ⟨j,hj,h⟩:=Jk h;obtain ⟨m,m1,m2,m3,m4⟩:=Jov h;exact fin m (by omega) (.inl (by rw [Ra hj];exact congrArg _ m3)) m4
   ·cases h
  ·cases h
 case idx len esz ag x i=>
  split at h
  ·rename_i l hx;have fin:∀m:Nat,m<len->m * esz+esz<=l.length->(∃kk,(enc s).ev i=.int kk (m:Int))->BU val (pk ag (Ey l (m * esz) esz)) (λv=>k (.idx len esz ag x i) v s)=some r->∃op' v s',Alt (.idx len esz ag x i) op'/\JM call base g0 s op' v s'/\k op' v s'=some r:=by
    rintro m Q hl ⟨kk,he⟩ h;obtain ⟨v,O,h⟩:=Jk h;obtain ⟨p1,p2⟩:=lF hl O s;refine sm h ?_ (λc d=>?_)
    ·simp only [Ja,he,Ku,hx,AQ,WM];rw [if_pos ⟨by omega,by omega⟩,Ab,p1];rfl
    ·have:=Mc hi x;rw [hx] at this;exact this c (p2 c d)
   split at h
   ·rename_i kk n;split at h
    ·rename_i F;exact fin n.toNat (by omega) F.2.2 ⟨kk,by show AV.int kk n=_;rw [Bm F.1]⟩ h
    ·cases h
   ·obtain ⟨j,hj,h⟩:=Jk h;obtain ⟨m,m1,m2,m3,m4⟩:=Jov h;split at m4
    ·rename_i hl;exact fin m (by omega) hl ⟨_,by rw [Ra hj];exact congrArg _ m3⟩ m4
    ·cases m4
  ·cases h
 case ext x i=>
  split at h
  ·rename_i l hx;obtain ⟨p,Y,h⟩:=Jk h;have hmem:=Dt Y;have hall:∀c∈p.2,FR s c:=λc d=>by have:=Mc hi x;rw [hx] at this;exact this c (List.mem_flatMap.2 ⟨p,hmem,d⟩)
   have he:Ja call base (enc s) g0 (.ext x i)=some (if p.1 then .agg (p.2.map (AB s)) else zk (p.2.map (AB s)),AA s):=by simp only [Ja,Ku,hx,AQ,List.getElem?_map,Y,Ad];rfl
   split at h
   ·exact sm h he hall
   ·exact sm h he (Zm (hall _ (by simp)))
   ·cases h
  ·cases h
 case len x=>
  split at h
  ·rename_i t v hx;exact sm h (by simp only [Ja,Ku,hx];rfl) KP
  ·rename_i g ver hx;obtain ⟨n,F,h⟩:=Jk h;obtain ⟨_,_,_,_,hH,hn'⟩:=wT (n:=n) F;have O:GX (AA s) g ver=true:=by
    unfold NI at F;split at F
    ·rename_i G;split at F
     ·rename_i O;simp [GX,Jn G,BG,O]
     ·cases F
    ·rename_i G;split at F
     ·rename_i O;simp [GX,Jn G,BG,O]
     ·cases F
    ·cases F
   refine same ?_ KP h;simp only [Ja,Ku,hx,AQ,AB,C9];rw [show (enc s).h=AA s from rfl,if_pos O];simp only [hn',Ty.cs,zk]
  ·rename_i g ver off n hx;obtain ⟨n',F,h⟩:=Jk h;have O:GX (AA s) g ver=true:=by
    unfold NI at F;split at F
    ·rename_i G;split at F
     ·rename_i O;simp [GX,Jn G,BG,O]
     ·cases F
    ·rename_i G;split at F
     ·rename_i O;simp [GX,Jn G,BG,O]
     ·cases F
    ·cases F
   obtain ⟨E,h⟩:=Km h;obtain ⟨B,rfl⟩:∃B:Int,(show Ty.T I from B)=n:=⟨n,rfl⟩;have E:(0:Int)<=B:=Lr E;refine same ?_ KP h;simp only [Ja,Ku,hx,AQ,AB,C9];rw [show (enc s).h=AA s from rfl,if_pos O];simp only [Ty.cs,zk];rw [show ((show Int from (show Ty.T I from B)).toNat:Int)=B from Bm E]
  ·rename_i hx;exact sm h (by simp only [Ja,Ku,hx];rfl) KP
  ·cases h
 case Ia x=>
  split at h
  ·rename_i v hx;exact sm h (by simp only [Ja,Ku,hx];rfl) KP
  ·cases h
 case app esz bytes el zz x y=>
  obtain ⟨v,s',⟨a1,a2,a3,a4⟩,h⟩:=XB hi h;exact done ⟨by simp only [Ja,Ku];exact a1,a2,a3,a4⟩ h
 case Cz f args=>
  obtain ⟨c,d,h⟩:=Jk h;exact hC hi d h
 case bZ o x y=>
  obtain ⟨kk,-,h⟩:=Jk h;obtain ⟨a,ha,h⟩:=Jk h;obtain ⟨k',-,h⟩:=Jk h;obtain ⟨b,R,h⟩:=Jk h;obtain ⟨A,rfl⟩:∃A:Int,(show Ty.T (.int kk) from A)=a:=⟨a,rfl⟩;obtain ⟨B,rfl⟩:∃B:Int,(show Ty.T (.int k') from B)=b:=⟨b,rfl⟩;have e1:=Ra (a:=A) ha;have e2:=Ra (a:=B) R;have nn:val.cm .geq k' B (val.int k' 0)=true->(0:Int)<=B:=λq=>by have q:decide (B>=0)=true:=q;simpa using q
  split at h
  ·obtain ⟨E,h⟩:=Km h;exact sm h (by simp only [Ja,e1,e2];rw [J9k (a:=A) (nn E) (.inl rfl)];rfl) KP
  ·obtain ⟨E,h⟩:=Km h;exact sm h (by simp only [Ja,e1,e2];rw [J9k (a:=A) (nn E) (.inr rfl)];rfl) KP
  ·cases h
 case mm mx x y=>
  obtain ⟨kk,-,h⟩:=Jk h;obtain ⟨a,ha,h⟩:=Jk h;obtain ⟨k',-,h⟩:=Jk h;obtain ⟨b,R,h⟩:=Jk h;exact sm h (by simp only [Ja,Ra ha,Ra R];cases mx<;>rfl) KP
 case Er ne x=>
  split at h
  ·rename_i hx;exact sm h (by simp only [Ja,Ku,hx];cases ne<;>rfl) (Zm (Kh s rfl))
  ·rename_i t v hx;obtain ⟨L,rfl⟩:∃L:List t.T,(show Ty.T (.ls t) from L)=v:=⟨v,rfl⟩;obtain ⟨E,h⟩:=Km h;have E:(0:Int)<(L.length:Int):=by have:decide ((L.length:Int) > 0)=true:=E;simpa using this
   refine sm h ?_ (Zm (Kh s rfl));simp only [Ja,Ku,hx];cases L with
   | nil=>simp at E
   | cons q L=>cases ne<;>rfl
  ·rename_i g ver hx;obtain ⟨n,F,h⟩:=Jk h;obtain ⟨_,_,_,_,hH,hn'⟩:=wT (n:=n) F;obtain ⟨E,h⟩:=Km h;have E:(0:Int)<(Yk s g ver:Int):=by rw [hn'] at E;have:decide ((Yk s g ver:Int) > 0)=true:=E;simpa using this
   refine sm h ?_ (Zm (Kh s rfl));simp only [Ja,Ku,hx,AQ,AB,YF];rw [show (enc s).h=AA s from rfl,if_pos ⟨J50 F,by omega⟩];cases ne<;>rfl
  ·cases h
end
end Go.Dn
