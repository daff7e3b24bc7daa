/- Typed values, typed states and how a typed state reads as a state of the evaluator. Definitions alone. -/
import Derived.Test.YtmfagdfkpjgeiaaGreatNB
set_option linter.unusedVariables false
set_option linter.unusedSimpArgs false
namespace Go.Dn
open Go Go.Vv
open Nat renaming beq -> Aa, add_mul -> Ak, dvd_of_mod_eq_zero -> Ao, zero_div -> Ar, add_zero -> As, mul_le_mul_right -> Aw, ble -> Ax, mul_div_cancel -> Bb, div_mul_cancel -> Bc, zero_mul -> Bm, zero_add -> Bn, eq_of_beq_eq_true -> Bp, ble_eq_true_of_le -> Bq, le_refl -> Bs, add_sub_cancel_left -> Dd, mul_eq_zero -> Dg, add_assoc -> Dq
open Option renaming map_some -> Ab, isNone_iff_eq_none -> Ac, bind_some -> Bh
open List renaming flatMap_cons -> Ad, getElem?_eq_some_iff -> Ae, append_nil -> Af, map_congr_left -> Ai, eq_nil_of_length_eq_zero -> Am, length_append -> Ap, map_nil -> Aq, length_map -> Au, length_nil -> Av, isEmpty_iff -> Ay, ext_getElem? -> Be, getElem?_set -> Bf, mem_append -> Bk, length_set -> Bl, append_assoc -> Bo, map_cons -> Br, getElem?_set_ne -> Bt, map_append -> Bu, take_append_of_le_length -> Bv, map_map -> Bw, mem_map -> By, getElem?_take -> Bz, getElem?_drop -> Da, mem_singleton -> Db, map_id -> Dc, take_of_length_le -> De, drop_eq_nil_of_le -> Df, mem_append_right -> Di, replicate -> Dk, mem_of_mem_drop -> Dl, mem_of_mem_take -> Dm, mem_of_getElem? -> Do, mem_cons -> Dp, flatMap_append -> Dr, flatMap -> Dt, map_set -> Du
open Option.some renaming injEq -> Ag, inj -> Aj
open Int renaming toNat_natCast -> Ah, toNat_of_nonneg -> Bj, natCast_add -> Dh, le_refl -> Dj
open Bool renaming and_eq_true -> Az, false_eq_true -> Ba, or_eq_false_iff -> Bg, and_true -> Ds
open Prod.mk renaming injEq -> Bd
inductive Ty where
 | int (k:IntKind)
 | bool
 | str
 | ls (t:Ty)
 | u
 | p (a b:Ty)
 | bf (f:Nat) (t:Ty)
 deriving DecidableEq,Inhabited
def Ty.T:Ty->Type
 | .int _=>Int
 | .bool=>Bool
 | .str=>ByteArray
 | .ls t=>List t.T
 | .u=>Unit
 | .p a b=>a.T×b.T
 | .bf _ t=>t.T
abbrev I:Ty:=.int .i64
def Ty.sz:Ty->Nat
 | .u=>0
 | .p a b=>a.sz+b.sz
 | _=>1
def Ty.cs:(t:Ty)->t.T->List AV
 | .int k,v=>[.int k v]
 | .bool,v=>[.bool v]
 | .str,v=>[.str v]
 | .ls t,v=>[.lst v.length (v.flatMap t.cs)]
 | .u,_=>[]
 | .p a b,v=>a.cs v.1++b.cs v.2
 | .bf f t,v=>[.bfn f (t.cs v)]
abbrev U:Ty->Type:=λ_=>Unit
inductive C (ι:Ty->Type) where
 | any
 | lf (t:Ty) (v:ι t)
 | kb (b:Bool)
 | k (v:AV)
 | own (g ver:Nat)
 | part (g ver:Nat) (off len:ι I)
 | ptr (g ver off:Nat)
 | pti (g ver esz:Nat) (i:ι I) (off:Nat)
 | rp (t:Ty) (v:ι t) (off:Nat)
 | fn (f:FuncId) (caps:List (Nat×Nat×Nat))
 | map (g ver:Nat)
 | yl (j:Nat)
instance (ι:Ty->Type):Inhabited (C ι):=⟨.any⟩
inductive V (ι:Ty->Type) where
 | c (x:C ι)
 | ag (l:List (C ι))
 | tp (l:List (Bool×List (C ι)))
instance (ι:Ty->Type):Inhabited (V ι):=⟨.c .any⟩
inductive Ob (ι:Ty->Type) where
 | box (ver:Nat) (cs:List (C ι))
 | row (ver esz:Nat) (el:TypeId) (t:Ty) (v:ι (.ls t)) (x:List (C ι)) (nest:Option (Nat×C ι)) (fz:Bool)
 | lit (ver esz:Nat) (el:TypeId) (cs:List (C ι)) (fz:Bool)
 | mp (ver:Nat) (kt vt:Ty) (es:ι (.ls (.p kt vt)))
 | em (ver:Nat) (kt vt:Ty) (el:TypeId)
structure Mo (ι:Ty->Type) where
 g:Nat
 kt:Ty
 vt:Ty
 el:TypeId
 es:ι (.ls (.p kt (.ls vt)))
def mB:Nat:=1000000000000000000000000000000000000000000000000000000000000000000000000000000000000000000000000000000000000000000000000000000000000000000000000000000000000000000000000000000000000000000000000000000000000000
structure S (ι:Ty->Type) where
 sl:List (Nat×V ι)
 lo:List (List (Nat×V ι))
 ob:List (Nat×Ob ι)
 ln:List (Nat×Nat×ι I)
 mo:Option (Mo ι)
def look{α:Type}(d:Nat):List (Nat×α)->Option α
 | []=>none
 | (n,v)::r=>match Aa n d with|true=>some v|false=>look d r
def memN(x:Nat):List Nat->Bool
 | []=>false
 | y::r=>match Aa x y with|true=>true|false=>memN x r
def S.at{ι:Ty->Type}(s:S ι)(d:Nat):V ι:=match look d s.sl with|some v=>v|none=>.c .any
def S.put{ι:Ty->Type}(s:S ι)(d:Option Nat)(v:V ι):S ι:=
 match d with
 | some d=>⟨(d,v)::s.sl,s.lo,s.ob,s.ln,s.mo⟩
 | none=>s
def S.obj{ι:Ty->Type}(s:S ι)(g:Nat)(o:Ob ι):S ι:=⟨s.sl,s.lo,(g,o)::s.ob,s.ln,s.mo⟩
def S.old{ι:Ty->Type}(s:S ι)(g ver:Nat)(n:ι I):S ι:=⟨s.sl,s.lo,s.ob,(g,ver,n)::s.ln,s.mo⟩
def Ob.ver{ι:Ty->Type}:Ob ι->Nat
 | .box v _=>v
 | .row v ..=>v
 | .lit v ..=>v
 | .mp v ..=>v
 | .em v ..=>v
def S.nv{ι:Ty->Type}(s:S ι)(g:Nat):Nat:=match look g s.ob with|some o=>o.ver+1|none=>0
def Xu:List AV->AV
 | [x]=>x
 | _=>.any
def Jzk(g ver:Nat):List (Nat×Nat×Ty.T I)->Nat
 | []=>0
 | (a,v,n)::r=>if a=g/\v=ver then (show Int from n).toNat else Jzk g ver r
def Ob.lenO:Ob Ty.T->Nat
 | .row _ e _ _ l x _ _=>List.length l+x.length / e
 | .lit _ e _ cs _=>cs.length / e
 | .box ..=>0
 | .mp ..=>0
 | .em ..=>0
def Qo(s:S Ty.T)(g ver:Nat):Nat:=
 match look g s.ob with
 | some o=>if o.ver=ver then o.lenO else Jzk g ver s.ln
 | none=>0
def encC(s:S Ty.T):C Ty.T->AV
 | .any=>.any
 | .lf t v=>Xu (t.cs v)
 | .kb b=>.bool b
 | .k v=>v
 | .own g ver=>.arr g ver 0 (Qo s g ver)
 | .part g ver off len=>.arr g ver (show Int from off).toNat (show Int from len).toNat
 | .ptr g ver off=>.ptr g ver off
 | .pti g ver esz i off=>.ptr g ver ((show Int from i).toNat * esz+off)
 | .rp t v off=>.rptr ((t.cs v).drop off)
 | .fn f caps=>.fn f (caps.map λc=>.ptr c.1 c.2.1 c.2.2)
 | .map g ver=>.map g ver
 | .yl j=>.yld j
def encV(s:S Ty.T):V Ty.T->AV
 | .c x=>encC s x
 | .ag l=>.agg (l.map (encC s))
 | .tp l=>.tup (l.map λp=>if p.1 then .agg (p.2.map (encC s)) else Xu (p.2.map (encC s)))
def Xv(l:List AV)(n sz:Nat)(ec:C Ty.T->AV):Option (Nat×C Ty.T)->List AV
 | none=>l
 | some (off,c)=>l.set ((n - 1) * sz+off) (ec c)
def Ty.isAg:Ty->Bool
 | .p _ _|.u=>true
 | _=>false
def avT(t:Ty)(x:t.T):AV:=if t.isAg then .agg (t.cs x) else Xu (t.cs x)
def encE(kt vt:Ty)(l:List (kt.T×vt.T)):List (AV×AV):=l.map λe=>(avT kt e.1,avT vt e.2)
def encO(s:S Ty.T):Ob Ty.T->AObj
 | .mp ver kt vt es=>.map ver (encE kt vt es) false
 | .em ver _ _ _=>.map ver [] false
 | .box ver cs=>.box ver (cs.map (encC s))
 | .lit ver esz el cs fz=>.arr ver esz el (cs.map (encC s)) fz
 | .row ver esz el t v x nest fz=>.arr ver esz el (Xv (Dt (α:=t.T) t.cs v) (List.length (α:=t.T) v) t.sz (encC s) nest++x.map (encC s)) fz
def moEs(kt vt:Ty):Nat->List (kt.T×List vt.T)->List (AV×AV)
 | _,[]=>[]
 | i,e::r=>(avT kt e.1,.arr (mB+i) e.2.length 0 e.2.length)::moEs kt vt (i+1) r
def Jdu(vt:Ty)(el:TypeId)(l:List vt.T):AObj:=.arr l.length vt.sz el (l.flatMap vt.cs) false
def nthL{α:Type}(l:List α)(i:Nat):Option α:=l[i]?
def Mo.at(m:Mo Ty.T)(g:Nat):Option AObj:=
 if g=m.g then some (.map 0 (moEs m.kt m.vt 0 m.es) false)
 else if mB<=g then (nthL (α:=m.kt.T×List m.vt.T) m.es (g - mB)).map λe=>Jdu m.vt m.el e.2
 else none
def moAt:Option (Mo Ty.T)->Nat->Option AObj
 | none,_=>none
 | some m,g=>m.at g
def encH(s:S Ty.T):Heap:=λg=>match look g s.ob with
 | some o=>some (encO s o)
 | none=>moAt s.mo g
def moN{ι:Ty->Type}(m:Option (Mo ι))(g:Nat):Bool:=match m with
 | none=>false
 | some m=>Aa m.g g || Ax mB g
def S.has{ι:Ty->Type}(s:S ι)(g:Nat):Bool:=(look g s.ob).isSome || moN s.mo g
def enc(s:S Ty.T):St:=⟨λd=>encV s (s.at d),encH s⟩
inductive AK where
 | one
 | ag
 | rp
def Yu:List Ty->Ty
 | []=>.u
 | [t]=>t
 | t::r=>.p t (Yu r)
structure Ctr where
 id:Nat
 as:List (AK×Ty)
 rs:List (Bool×Ty)
 fn:(Yu (as.map (·.2))).T->Option (Yu (rs.map (·.2))).T
def Ctr.aT(c:Ctr):Ty:=Yu (c.as.map (·.2))
def Ctr.rT(c:Ctr):Ty:=Yu (c.rs.map (·.2))
inductive LE where
 | normal
 | exit (id:Nat)
 | ret
 deriving DecidableEq,Inhabited
inductive Nx (A B:Type) where
 | go (s:A)
 | out (e:B)
structure HP (A B:Type) where
 e:A
 j:B
def HL(ι:Ty->Type):List Ty->Type
 | []=>Unit
 | t::r=>HP (ι t) (HL ι r)
section
variable {ι:Ty->Type}
def ltC(r:List Ty):C U->List Ty
 | .lf t _=>t::r
 | .part ..=>I::I::r
 | .pti ..=>I::r
 | .rp t _ _=>t::r
 | _=>r
def ltCs(r:List Ty):List (C U)->List Ty
 | []=>r
 | c::l=>ltC (ltCs r l) c
def ltP(r:List Ty):List (Bool×List (C U))->List Ty
 | []=>r
 | (_,q)::l=>ltCs (ltP r l) q
def ltV(r:List Ty):V U->List Ty
 | .c x=>ltC r x
 | .ag l=>ltCs r l
 | .tp l=>ltP r l
def ltN(r:List Ty):Option (Nat×C U)->List Ty
 | none=>r
 | some (_,c)=>ltC r c
def ltO(r:List Ty):Ob U->List Ty
 | .box _ cs=>ltCs r cs
 | .lit _ _ _ cs _=>ltCs r cs
 | .row _ _ _ t _ x nest _=>.ls t::ltCs (ltN r nest) x
 | .mp _ kt vt _=>.ls (.p kt vt)::r
 | .em ..=>r
def ltSl(r:List Ty):List (Nat×V U)->List Ty
 | []=>r
 | (_,v)::l=>ltV (ltSl r l) v
def ltOb(r:List Ty):List (Nat×Ob U)->List Ty
 | []=>r
 | (_,o)::l=>ltO (ltOb r l) o
def ltLo(r:List Ty):List (List (Nat×V U))->List Ty
 | []=>r
 | p::l=>ltSl (ltLo r l) p
def ltMo:Option (Mo U)->List Ty
 | none=>[]
 | some m=>[.ls (.p m.kt (.ls m.vt))]
def S.lt(s:S U):List Ty:=ltSl (ltLo (ltOb (ltMo s.mo) s.ob) s.lo) s.sl
def mkC{r:List Ty}:(c:C U)->HL ι (ltC r c)->C ι×HL ι r
 | .any,h=>(.any,h)
 | .lf t _,h=>(.lf t h.e,h.j)
 | .kb b,h=>(.kb b,h)
 | .k v,h=>(.k v,h)
 | .own g v,h=>(.own g v,h)
 | .part g v _ _,h=>(.part g v h.e h.j.e,h.j.j)
 | .ptr g v o,h=>(.ptr g v o,h)
 | .pti g v e _ o,h=>(.pti g v e h.e o,h.j)
 | .rp t _ o,h=>(.rp t h.e o,h.j)
 | .fn f c,h=>(.fn f c,h)
 | .map g v,h=>(.map g v,h)
 | .yl j,h=>(.yl j,h)
def mkCs{r:List Ty}:(l:List (C U))->HL ι (ltCs r l)->List (C ι)×HL ι r
 | [],h=>([],h)
 | c::l,h=>match mkC c h with
  | (x,h)=>match mkCs l h with
   | (xs,h)=>(x::xs,h)
def mkP{r:List Ty}:(l:List (Bool×List (C U)))->HL ι (ltP r l)->List (Bool×List (C ι))×HL ι r
 | [],h=>([],h)
 | (b,q)::l,h=>match mkCs q h with
  | (x,h)=>match mkP l h with
   | (xs,h)=>((b,x)::xs,h)
def mkV{r:List Ty}:(v:V U)->HL ι (ltV r v)->V ι×HL ι r
 | .c x,h=>match mkC x h with|(x,h)=>(.c x,h)
 | .ag l,h=>match mkCs l h with|(x,h)=>(.ag x,h)
 | .tp l,h=>match mkP l h with|(x,h)=>(.tp x,h)
def mkN{r:List Ty}:(n:Option (Nat×C U))->HL ι (ltN r n)->Option (Nat×C ι)×HL ι r
 | none,h=>(none,h)
 | some (o,c),h=>match mkC c h with|(x,h)=>(some (o,x),h)
def mkO{r:List Ty}:(o:Ob U)->HL ι (ltO r o)->Ob ι×HL ι r
 | .box v cs,h=>match mkCs cs h with|(x,h)=>(.box v x,h)
 | .lit v e el cs z,h=>match mkCs cs h with|(x,h)=>(.lit v e el x z,h)
 | .row v e el t _ x nest fz,h=>match mkCs x h.j with
  | (x,d)=>match mkN nest d with
   | (n,a)=>(.row v e el t h.e x n fz,a)
 | .mp v kt vt _,h=>(.mp v kt vt h.e,h.j)
 | .em v kt vt el,h=>(.em v kt vt el,h)
def mkSl{r:List Ty}:(l:List (Nat×V U))->HL ι (ltSl r l)->List (Nat×V ι)×HL ι r
 | [],h=>([],h)
 | (k,v)::l,h=>match mkV v h with
  | (x,h)=>match mkSl l h with
   | (xs,h)=>((k,x)::xs,h)
def mkOb{r:List Ty}:(l:List (Nat×Ob U))->HL ι (ltOb r l)->List (Nat×Ob ι)×HL ι r
 | [],h=>([],h)
 | (k,o)::l,h=>match mkO o h with
  | (x,h)=>match mkOb l h with
   | (xs,h)=>((k,x)::xs,h)
def mkLo{r:List Ty}:(l:List (List (Nat×V U)))->HL ι (ltLo r l)->List (List (Nat×V ι))×HL ι r
 | [],h=>([],h)
 | p::l,h=>match mkSl p h with
  | (x,h)=>match mkLo l h with
   | (xs,h)=>(x::xs,h)
def mkMo:(m:Option (Mo U))->HL ι (ltMo m)->Option (Mo ι)
 | none,_=>none
 | some m,h=>some ⟨m.g,m.kt,m.vt,m.el,h.e⟩
def S.mk'(sh:S U)(h:HL ι sh.lt):S ι:=
 match mkSl sh.sl h with
 | (sl,h)=>match mkLo sh.lo h with
  | (lo,h)=>match mkOb sh.ob h with
   | (ob,h)=>⟨sl,lo,ob,[],mkMo sh.mo h⟩
def cast?(a b:Ty)(v:ι a):Option (ι b):=if h:a=b then some (h▸v) else none
def Ex(ι:Ty->Type):List (LE×S U)->Type
 | []=>Empty
 | [(_,s)]=>HL ι s.lt
 | (_,s)::q::r=>HL ι s.lt ⊕ Ex ι (q::r)
end
structure D (ι:Ty->Type) (M:Type->Type) where
 int:(k:IntKind)->Int->ι (.int k)
 bool:Bool->ι .bool
 str:ByteArray->ι .str
 nl:(t:Ty)->ι (.ls t)
 un:ι .u
 pr:{a b:Ty}->ι a->ι b->ι (.p a b)
 fs:{a b:Ty}->ι (.p a b)->ι a
 sn:{a b:Ty}->ι (.p a b)->ι b
 ar:BinOp->(k:IntKind)->ι (.int k)->ι (.int k)->ι (.int k)
 cm:BinOp->(k:IntKind)->ι (.int k)->ι (.int k)->ι .bool
 sh:BinOp->(k k':IntKind)->ι (.int k)->ι (.int k')->ι (.int k)
 cv:(k k':IntKind)->ι (.int k)->ι (.int k')
 mm:Bool->(k k':IntKind)->ι (.int k)->ι (.int k')->ι (.int k)
 ng:(k:IntKind)->ι (.int k)->ι (.int k)
 nt:ι .bool->ι .bool
 an:ι .bool->ι .bool->ι .bool
 be:ι .bool->ι .bool->ι .bool
 ln:{t:Ty}->ι (.ls t)->ι I
 ls:ι .str->ι I
 bf:{t:Ty}->(f:Nat)->ι t->ι (.bf f t)
 ub:{f:Nat}->{t:Ty}->ι (.bf f t)->ι t
 pl:ι I->ι I->ι I
 mi:ι I->ι I->ι I
 ib:ι I->ι I->ι .bool
 le:ι I->ι I->ι .bool
 ft:Nat->ι I->ι .bool
 cs:{t:Ty}->ι t->ι (.ls t)->ι (.ls t)
 ap:{t:Ty}->ι (.ls t)->ι (.ls t)->ι (.ls t)
 ct:{t:Ty}->ι (.ls t)->ι I->ι I->ι (.ls t)
 st:{t:Ty}->ι (.ls t)->ι I->ι t->ι (.ls t)
 rp:{t:Ty}->ι t->ι I->ι (.ls t)
 ml:{t:Ty}->ι (.ls t)->(ι t->ι t)->ι (.ls t)
 mg:{a b:Ty}->ι (.ls (.p a b))->ι a->ι b->ι b
 mf:{a b:Ty}->ι (.ls (.p a b))->ι a->ι .bool
 ms:{a b:Ty}->ι (.ls (.p a b))->ι a->ι b->ι (.ls (.p a b))
 md:{a b:Ty}->ι (.ls (.p a b))->ι a->ι (.ls (.p a b))
 br:{α:Type}->ι .bool->M α->M α->M α
 gd:{α:Type}->ι .bool->M α->M α
 no:{α:Type}->M α
 ge:{α:Type}->{t:Ty}->ι (.ls t)->ι I->(ι t->M α)->M α
 nq:{α:Type}->ι I->(ι .bool->M α)->M α
 mq:{α:Type}->{a b:Ty}->ι (.ls (.p a b))->(ι (.ls a)->M α)->M α
 call:{α:Type}->(c:Ctr)->ι c.aT->(ι c.rT->M α)->M α
 join:{α:Type}->(ex:List (LE×S U))->(cn:LE->S ι->S ι)->((LE->S ι->M (Ex Ty.T ex))->M (Ex Ty.T ex))->(LE->S ι->M α)->M α
 loop:{α:Type}->(sh:S U)->(ex:List (LE×S U))->(cn:LE->S ι->S ι)->(S ι->(LE->S ι->M (Nx (HL Ty.T sh.lt) (Ex Ty.T ex)))->M (Nx (HL Ty.T sh.lt) (Ex Ty.T ex)))->S ι->(LE->S ι->M α)->M α
section
variable {ι:Ty->Type} {M:Type->Type} {α:Type} (d:D ι M)
def cC:AV->C ι
 | .int k n=>.lf (.int k) (d.int k n)
 | .bool b=>.kb b
 | .str s=>.lf .str (d.str s)
 | v=>.k v
def cV:AV->V ι
 | .agg l=>.ag (l.map (cC d))
 | .tup []=>.tp []
 | .fn f []=>.c (.fn f [])
 | v=>.c (cC d v)
def ev(s:S ι):LO->V ι
 | .t n=>s.at n
 | .c v=>cV d v
def expl:(t:Ty)->ι t->List (C ι)
 | .u,_=>[]
 | .p a b,v=>expl a (d.fs v)++expl b (d.sn v)
 | .int k,v=>[.lf (.int k) v]
 | .bool,v=>[.lf .bool v]
 | .str,v=>[.lf .str v]
 | .ls t,v=>[.lf (.ls t) v]
 | .bf f t,v=>[.lf (.bf f t) v]
def Y8(t:Ty):C ι->Option (ι t)
 | .lf a v=>cast? a t v
 | .kb b=>cast? .bool t (d.bool b)
 | _=>none
def Jzs:List (C ι)->Option ((t:Ty)×ι t)
 | []=>some ⟨.u,d.un⟩
 | .lf t v::r=>(match t with
  | .u|.p _ _=>none
  | t=>(Jzs r).map λp=>⟨.p t p.1,d.pr v p.2⟩)
 | _::_=>none
def impl(lw:(t:Ty)->C ι->Option (ι t)):(t:Ty)->List (C ι)->Option (ι t×List (C ι))
 | .u,l=>some (d.un,l)
 | .p a b,l=>(impl lw a l).bind λ|(x,l)=>(impl lw b l).map λ|(y,l)=>(d.pr x y,l)
 | t,l=>match l with
  | c::l=>(lw t c).map (·,l)
  | []=>none
def Jd5(lw:(t:Ty)->C ι->Option (ι t))(t:Ty):Nat->List (C ι)->Option (ι (.ls t))
 | 0,_=>none
 | n+1,l=>match l with
  | []=>some (d.nl t)
  | l=>(impl d lw t l).bind λ|(x,l)=>(Jd5 lw t n l).map (d.cs x)
def setF(lw:(t:Ty)->C ι->Option (ι t))(t:Ty)(off:Nat)(c:C ι)(e:ι t):ι t:=
 match impl d lw t ((expl d t e).set off c) with
 | some (x,_)=>x
 | none=>e
def tyAt:Ty->Nat->Option Ty
 | .u,_=>none
 | .p a b,n=>if n<a.sz then tyAt a n else tyAt b (n - a.sz)
 | t,n=>if n=0 then some t else none
def mlN(lw:(t:Ty)->C ι->Option (ι t))(t:Ty)(l:ι (.ls t)):Option (Nat×C ι)->Option (ι (.ls t))
 | none=>some l
 | some (off,c)=>(tyAt t off).bind λa=>(lw a c).bind λ_=>some (d.ml l (setF d lw t off c))
def rowW(lw:(t:Ty)->C ι->Option (ι t))(t:Ty):Ob ι->Option (ι (.ls t))
 | .row _ e _ a l x none _=>if e=a.sz/\0<e then (cast? (.ls a) (.ls t) l).bind λl=>(match x with
  | []=>some l
  | x=>(Jd5 d lw t (x.length+1) x).map (d.ap l)) else none
 | .lit _ e _ x _=>if e=t.sz/\0<e then Jd5 d lw t (x.length+1) x else none
 | _=>none
def Yo(ob:List (Nat×Ob ι)):Nat->(t:Ty)->C ι->Option (ι t)
 | 0,t,c=>Y8 d t c
 | n+1,t,c=>match c with
  | .k .nils=>(match t with|.ls t=>some (d.nl t)|_=>none)
  | .own g ver=>(match t with
   | .ls t=>(match look g ob with|some o=>if o.ver=ver then rowW d (Yo ob n) t o else none|none=>none)
   | _=>none)
  | c=>Y8 d t c
def V.cells:V ι->List (C ι)
 | .c x=>[x]
 | .ag l=>l
 | .tp _=>[]
def C.plain:C ι->Bool
 | .any=>false
 | .lf t _=>(match t with|.u|.p _ _=>false|_=>true)
 | .k v=>v.one
 | _=>true
def V.good:V ι->Bool
 | .c x=>x.plain
 | .ag _=>true
 | .tp _=>false
def pk(ag:Bool)(l:List (C ι)):Option (V ι):=
 if ag then some (.ag l) else match l with
 | [c]=>some (.c c)
 | _=>none
def cutC(l:List (C ι))(off n:Nat):List (C ι):=(l.drop off).take n
def Jbv(l:List (C ι))(off:Nat)(new:List (C ι)):List (C ι):=l.take off++new++l.drop (off+new.length)
def orNo{β:Type}(x:Option β)(k:β->M α):M α:=match x with|some v=>k v|none=>d.no
def loadD(s:S ι)(ag:Bool)(n:Nat)(x:V ι)(k:V ι->M α):M α:=
 match x with
 | .c (.ptr g ver off)=>(match look g s.ob with
  | some (.box v cs)=>if v=ver/\off+n<=cs.length then orNo d (pk ag (cutC cs off n)) k else d.no
  | some (.lit v _ _ cs _)=>if v=ver/\off+n<=cs.length/\cs.isEmpty=false then orNo d (pk ag (cutC cs off n)) k else d.no
  | _=>d.no)
 | .c (.pti g ver esz i off)=>(match look g s.ob with
  | some (.row v e _ t l [] nest _)=>if v=ver/\e=esz/\e=t.sz/\off+n<=e/\0<e then d.ge l i λx=>
    (match nest with
    | none=>orNo d (pk ag (cutC (expl d t x) off n)) k
    | some (no,c)=>if off<=no/\no<off+n then d.gd (d.cm .eql .i64 (d.pl i (d.int .i64 1)) (d.ln l)) (orNo d (pk ag (cutC ((expl d t x).set no c) off n)) k) else orNo d (pk ag (cutC (expl d t x) off n)) k)
   else d.no
  | _=>d.no)
 | .c (.rp t v off)=>if off+n<=t.sz then orNo d (pk ag (cutC (expl d t v) off n)) k else d.no
 | _=>d.no
def J03(s:S ι)(n:Nat)(x y:V ι)(k:S ι->M α):M α:=
 if y.cells.length≠n\/y.good=false then d.no else
 match x with
 | .c (.ptr g ver off)=>(match look g s.ob with
  | some (.box v cs)=>if v=ver/\off+n<=cs.length then k (s.obj g (.box v (Jbv cs off y.cells))) else d.no
  | some (.lit v e el cs false)=>if v=ver/\off+n<=cs.length/\cs.isEmpty=false then k (s.obj g (.lit v e el (Jbv cs off y.cells) false)) else d.no
  | _=>d.no)
 | .c (.pti g ver esz i off)=>(match look g s.ob with
  | some (.row v e el t l [] nest false)=>if v=ver/\e=esz/\e=t.sz/\off+n<=e/\0<e then d.ge l i λx=>
    (match nest with
    | none=>orNo d (impl d (Y8 d) t (Jbv (expl d t x) off y.cells)) λ|(z,zr)=>if zr.isEmpty then k (s.obj g (.row v e el t (d.st l i z) [] none false)) else d.no
    | some (no,c)=>d.gd (d.cm .eql .i64 (d.pl i (d.int .i64 1)) (d.ln l)) (if off<=no/\no<off+n then
      (match y.cells[no - off]?,(expl d t x)[no]? with
      | some c',some z0=>orNo d (impl d (Y8 d) t (Jbv (expl d t x) off (y.cells.set (no - off) z0))) λ|(z,zr)=>if zr.isEmpty then k (s.obj g (.row v e el t (d.st l i z) [] (some (no,c')) false)) else d.no
      | _,_=>d.no)
     else orNo d (impl d (Y8 d) t (Jbv (expl d t x) off y.cells)) λ|(z,zr)=>if zr.isEmpty then k (s.obj g (.row v e el t (d.st l i z) [] (some (no,c)) false)) else d.no))
   else d.no
  | _=>d.no)
 | _=>d.no
def Jhs(k:IntKind):V ι->Option (ι (.int k))
 | .c (.lf t v)=>cast? t (.int k) v
 | _=>none
def Jr6:V ι->Option IntKind
 | .c (.lf (.int k) _)=>some k
 | _=>none
def eqC:Bool->C ι->C ι->Option (ι .bool)
 | false,.lf (.int k) a,.lf t b=>(cast? t (.int k) b).map (d.cm .eql k a)
 | true,a,b=>(Y8 d .bool a).bind λa=>(Y8 d .bool b).map (d.be a)
 | _,_,_=>none
def eqCs:List Bool->List (C ι)->List (C ι)->Option (ι .bool)
 | [],[],[]=>some (d.bool true)
 | [b],[x],[y]=>eqC d b x y
 | b::bs,x::xs,y::ys=>(eqC d b x y).bind λu=>(eqCs bs xs ys).map (d.an u)
 | _,_,_=>none
def isCmp:BinOp->Bool
 | .eql|.neq|.lss|.leq|.gtr|.geq=>true
 | _=>false
def isAr:BinOp->Bool
 | .add|.sub|.mul|.and|.or|.xor|.andNot=>true
 | _=>false
def Jjm(e:LO->V ι):List (C ι)->List (Nat×Nat×LO)->Option (List (C ι))
 | z,[]=>some z
 | z,(off,n,x)::r=>
  match e x with
  | v=>if v.cells.length=n/\off+n<=z.length/\v.good=true then Jjm e (Jbv z off v.cells) r else none
def repC(z:List (C ι)):Nat->List (C ι)
 | 0=>[]
 | n+1=>z++repC z n
inductive El (ι:Ty->Type) where
 | t (t:Ty) (v:ι (.ls t))
 | x (l:List (C ι))
def elems(s:S ι)(esz:Nat)(y:V ι)(k:El ι->M α):M α:=
 match y with
 | .c (.k .nils)=>k (.x [])
 | .c (.lf (.ls t) v)=>if t.sz=esz/\0<esz then k (.t t v) else d.no
 | .c (.own g ver)=>(match look g s.ob with
  | some (.row v e _ t l [] none _)=>if v=ver/\e=esz/\t.sz=esz/\0<esz then k (.t t l) else d.no
  | some (.lit v e _ l _)=>if v=ver/\e=esz/\l.length % esz=0/\0<esz then k (.x l) else d.no
  | _=>d.no)
 | .c (.part g ver off len)=>(match look g s.ob with
  | some (.row v e _ t l [] none _)=>if v=ver/\e=esz/\t.sz=esz/\0<esz then d.gd (d.le (d.int .i64 0) off) (d.gd (d.le (d.int .i64 0) len) (d.gd (d.le (d.pl off len) (d.ln l)) (k (.t t (d.ct l off len))))) else d.no
  | _=>d.no)
 | _=>d.no
def Jya(y:El ι)(k:M α):M α:=
 match y with
 | .x []=>k
 | .x _=>d.no
 | .t _ v=>d.gd (d.cm .eql .i64 (d.ln v) (d.int .i64 0)) k
def appD(s:S ι)(g0 esz bytes:Nat)(el:TypeId)(x y:V ι)(k:V ι->S ι->M α):M α:=
 elems d s esz y λy=>match x with
  | .c (.k .nils)=>if s.has g0 then d.no else
   (match y with
   | .x []=>k (.c (.k .nils)) s
   | .x l=>if 0<esz then d.gd (d.ft bytes (d.int .i64 (l.length / esz:Nat))) (k (.c (.own g0 (s.nv g0+1))) (s.obj g0 (.lit (s.nv g0+1) esz el l false))) else d.no
   | .t t v=>d.br (d.cm .eql .i64 (d.ln v) (d.int .i64 0)) (k (.c (.k .nils)) s)
     (d.gd (d.ft bytes (d.ln v)) (k (.c (.own g0 (s.nv g0+1))) (s.obj g0 (.row (s.nv g0+1) esz el t v [] none false)))))
  | .c (.own g ver)=>(match look g s.ob with
   | some (.row v e el' t l tl nest false)=>
    if v=ver/\e=esz/\el'=el/\t.sz=esz/\tl.length % esz=0/\0<esz then
     (match y with
     | .x m=>
       let n:=if tl.isEmpty then d.ln l else d.pl (d.ln l) (d.int .i64 (tl.length / esz:Nat))
       d.gd (d.ft bytes (d.pl n (d.int .i64 (m.length / esz:Nat)))) (k (.c (.own g (v+1))) ((s.old g v n).obj g (.row (v+1) e el t l (tl++m) nest false)))
     | .t a m=>if tl.isEmpty&&nest.isNone then orNo d (cast? (.ls a) (.ls t) m) λm=>
       d.gd (d.ft bytes (d.pl (d.ln l) (d.ln m))) (k (.c (.own g (v+1))) ((s.old g v (d.ln l)).obj g (.row (v+1) e el t (d.ap l m) [] none false))) else d.no)
    else d.no
   | some (.lit v e el' l false)=>
    if v=ver/\e=esz/\el'=el/\l.length % esz=0/\0<esz then
     (match y with
     | .x m=>d.gd (d.ft bytes (d.int .i64 (l.length / esz+m.length / esz:Nat))) (k (.c (.own g (v+1))) ((s.old g v (d.int .i64 (l.length / esz:Nat))).obj g (.lit (v+1) e el (l++m) false)))
     | .t t m=>orNo d (Jd5 d (Y8 d) t (l.length+1) l) λf=>
       d.gd (d.ft bytes (d.pl (d.int .i64 (l.length / esz:Nat)) (d.ln m))) (k (.c (.own g (v+1))) ((s.old g v (d.int .i64 (l.length / esz:Nat))).obj g (.row (v+1) e el t (if l.isEmpty then m else d.ap f m) [] none false))))
    else d.no
   | some (.row v _ _ _ _ _ _ true)=>if v=ver then Jya d y (k (.c (.own g ver)) s) else d.no
   | _=>d.no)
  | .c (.lf (.ls t) v)=>Jya d y (k (.c (.lf (.ls t) v)) s)
  | _=>d.no
end
section
variable {ι:Ty->Type} {M:Type->Type} {α:Type} (d:D ι M)
def S.cur(s:S ι)(g ver:Nat):Bool:=match look g s.ob with|some o=>o.ver==ver|none=>false
def Jc6(s:S ι)(g ver:Nat):Option (ι I):=
 match look g s.ob with
 | some (.row v e _ _ l x _ _)=>if v=ver then some (if x.isEmpty then d.ln l else d.pl (d.ln l) (d.int .i64 (x.length / e))) else none
 | some (.lit v e _ l _)=>if v=ver then some (d.int .i64 (l.length / e)) else none
 | _=>none
def J2x(s:S ι)(x:Option LO)(z:ι I):Option (ι I):=
 match x with
 | none=>some z
 | some x=>Jhs .i64 (ev d s x)
def Jje(s:S ι)(lo hi:Option LO)(n:ι I)(k:ι I->ι I->M α):M α:=
 orNo d (J2x d s lo (d.int .i64 0)) λa=>orNo d (J2x d s hi n) λb=>
  let t3:=if hi.isNone then k a b else d.gd (d.le b n) (k a b);let f:=if lo.isNone/\hi.isNone then t3 else d.gd (d.le a b) t3
  if lo.isNone then f else d.gd (d.le (d.int .i64 0) a) f
def slcD(s:S ι)(esz:Nat)(x:V ι)(lo hi:Option LO)(k:V ι->M α):M α:=
 match x with
 | .c (.lf (.ls t) v)=>if t.sz=esz then Jje d s lo hi (d.ln v) λa b=>k (.c (.lf (.ls t) (d.ct v a (if lo.isNone then b else d.mi b a)))) else d.no
 | .c (.own g ver)=>(match look g s.ob with
  | some (.row v e _ _ _ _ _ _)=>if v=ver/\e=esz then orNo d (Jc6 d s g ver) λn=>Jje d s lo hi n λa b=>k (.c (.part g ver a (if lo.isNone then b else d.mi b a))) else d.no
  | some (.lit v e _ _ _)=>if v=ver/\e=esz then orNo d (Jc6 d s g ver) λn=>Jje d s lo hi n λa b=>k (.c (.part g ver a (if lo.isNone then b else d.mi b a))) else d.no
  | _=>d.no)
 | .c (.part g ver off len)=>(match look g s.ob with
  | some (.row v e _ _ _ _ _ _)=>if v=ver/\e=esz then d.gd (d.le (d.int .i64 0) off) (d.gd (d.le (d.int .i64 0) len) (Jje d s lo hi len λa b=>k (.c (.part g ver (if lo.isNone then off else d.pl off a) (if lo.isNone then b else d.mi b a))))) else d.no
  | _=>d.no)
 | .c (.k .nils)=>Jje d s lo hi (d.int .i64 0) λ_ _=>k (.c (.k .nils))
 | _=>d.no
def J10(i:ι I)(k:Nat->M α):Nat->Nat->M α
 | _,0=>d.no
 | j,n+1=>d.br (d.cm .eql .i64 i (d.int .i64 j)) (k j) (J10 i k (j+1) n)
def allL(ob:List (Nat×Ob ι))(t:Ty)(l:List (C ι)):Option (ι t):=(impl d (Yo d ob 4) t l).bind λ|(x,r)=>if r.isEmpty then some x else none
def oneL(ob:List (Nat×Ob ι))(t:Ty)(c:C ι)(k:ι t->M α):M α:=
 match c with
 | .part g ver off len=>(match look g ob with
  | some (.row v e _ a l [] none _)=>if v=ver/\e=a.sz/\0<e then orNo d (cast? (.ls a) t (d.ct l off len)) λy=>d.gd (d.le (d.int .i64 0) off) (d.gd (d.le (d.int .i64 0) len) (d.gd (d.le (d.pl off len) (d.ln l)) (k y))) else d.no
  | _=>d.no)
 | c=>orNo d (Yo d ob 4 t c) k
def argL(ob:List (Nat×Ob ι))(a:AK×Ty)(v:V ι)(k:ι a.2->M α):M α:=
 match a.1,v with
 | .one,.c c=>oneL d ob a.2 c k
 | .ag,.ag l=>orNo d (allL d ob a.2 l) k
 | .rp,.c (.rp t v 0)=>orNo d (cast? t a.2 v) k
 | .rp,.c (.ptr g ver 0)=>(match look g ob with
  | some (.box v cs)=>if v=ver then orNo d (allL d ob a.2 cs) k else d.no
  | _=>d.no)
 | _,_=>d.no
def Jzh(ob:List (Nat×Ob ι)):(as:List (AK×Ty))->List (V ι)->(ι (Yu (as.map (·.2)))->M α)->M α
 | [],[],k=>k d.un
 | [a],[v],k=>argL d ob a v k
 | a::b::r,v::w,k=>argL d ob a v λx=>Jzh ob (b::r) w λy=>k (d.pr x y)
 | _,_,_=>d.no
def Kd(ob:List (Nat×Ob ι)):Nat->C ι->List Nat
 | n,.own g _=>g::(match n with|0=>[]|n+1=>(match look g ob with
  | some (.row _ _ _ _ _ x nest _)=>x.flatMap (Kd ob n)++(match nest with|some p=>Kd ob n p.2|none=>[])
  | some (.lit _ _ _ x _)=>x.flatMap (Kd ob n)
  | _=>[]))
 | n,.part g _ _ _=>g::(match n with|0=>[]|n+1=>(match look g ob with
  | some (.row _ _ _ _ _ x nest _)=>x.flatMap (Kd ob n)++(match nest with|some p=>Kd ob n p.2|none=>[])
  | some (.lit _ _ _ x _)=>x.flatMap (Kd ob n)
  | _=>[]))
 | _,_=>[]
def Kt(s:S ι):List Nat->S ι
 | []=>s
 | g::r=>match look g s.ob with
  | some (.row v e el t l x nest _)=>Kt (s.obj g (.row v e el t l x nest true)) r
  | some (.lit v e el x _)=>Kt (s.obj g (.lit v e el x true)) r
  | _=>Kt s r
def Ty.flat:Ty->Bool
 | .ls _|.bf _ _=>false
 | .p a b=>a.flat&&b.flat
 | _=>true
def unL(b:Bool)(t:Ty)(v:ι t):Bool×List (C ι):=(b,expl d t v)
def Jca:Bool×List (C ι)->V ι
 | (true,l)=>.ag l
 | (false,[c])=>.c c
 | _=>.c .any
def Zu:(rs:List (Bool×Ty))->ι (Yu (rs.map (·.2)))->List (Bool×List (C ι))
 | [],_=>[]
 | [a],v=>[unL d a.1 a.2 v]
 | a::b::r,v=>unL d a.1 a.2 (d.fs v)::Zu (b::r) (d.sn v)
def Jcy(rs:List (Bool×Ty))(v:ι (Yu (rs.map (·.2)))):V ι:=
 match Zu d rs v with
 | [p]=>Jca p
 | l=>.tp l
def Jwh:V ι->Bool
 | .c (.ptr ..)=>true
 | _=>false
def callD(c:Ctr)(f:FuncId)(args:List LO)(s:S ι)(vs:List (V ι))(k:LOp->V ι->S ι->M α):M α:=
 Jzh d s.ob c.as vs λa=>
  let ns:=vs.flatMap λv=>v.cells.flatMap (Kd s.ob 4);let flat:=c.rs.all λr=>r.2.flat
  if vs.any Jwh then (if flat then d.call c a λr=>k (.callq f args) (Jcy d c.rs r) s else d.no)
  else if ns.isEmpty || flat then d.call c a λr=>k (.callp f args) (Jcy d c.rs r) s
  else d.call c a λr=>k (.callz f args) (Jcy d c.rs r) (Kt s ns)
def mapL{β γ:Type}(f:β->Option γ):List β->Option (List γ)
 | []=>some []
 | x::r=>(f x).bind λy=>(mapL f r).map (y::·)
def Ty.ksh:Ty->List Bool
 | .int _=>[false]
 | .bool=>[true]
 | .p a b=>a.ksh++b.ksh
 | _=>[]
def Ty.key:Ty->Bool
 | .int _|.bool|.u=>true
 | .p a b=>a.key&&b.key
 | _=>false
def eqBs:List Bool->List Bool->Bool
 | [],[]=>true
 | true::a,true::b=>eqBs a b
 | false::a,false::b=>eqBs a b
 | _,_=>false
def keyD(ag:Bool)(t:Ty)(v:V ι):Option (ι t):=
 match ag,v with
 | true,.ag l=>(impl d (Y8 d) t l).bind λ|(x,r)=>if r.isEmpty then some x else none
 | false,.c c=>Y8 d t c
 | _,_=>none
def zeroD:(t:Ty)->AV->Option (ι t)
 | .ls t,.lst 0 []=>some (d.nl t)
 | t,z=>Y8 d t (cC d z)
def mpAt(s:S ι)(v:V ι):Option (Nat×Nat×(kt:Ty)×(vt:Ty)×ι (.ls (.p kt vt))):=
 match v with
 | .c (.map g ver)=>(match look g s.ob with
  | some (.mp w kt vt es)=>if w=ver then some ⟨g,w,kt,vt,es⟩ else none
  | _=>none)
 | _=>none
def kOK(ag:Bool)(sh:List Bool)(t:Ty):Bool:=(ag==t.isAg)&&eqBs sh t.ksh&&t.key&&(ag || Aa t.sz 1)
def Ty.one1:Ty->Bool
 | .u|.p _ _=>false
 | _=>true
def opD(Γ:FuncId->Option Ctr)(ty:TypeId->Option Ty)(s:S ι)(g0:Nat)(op:LOp)(k:LOp->V ι->S ι->M α):M α:=
 match op with
 | .mov x=>k op (ev d s x) s
 | .pick c a b=>(match ev d s c with
  | .c (.kb t)=>k op (if t then ev d s a else ev d s b) s
  | _=>d.no)
 | .alloc z=>if s.has g0=true then d.no else k op (.c (.ptr g0 (s.nv g0) 0)) (s.obj g0 (.box (s.nv g0) (z.map (cC d))))
 | .box x=>(match ev d s x with
  | v=>if s.has g0=true\/v.good=false then d.no else k op (.c (.ptr g0 (s.nv g0) 0)) (s.obj g0 (.box (s.nv g0) v.cells)))
 | .build z ps=>orNo d (Jjm (ev d s) (z.map (cC d)) ps) λl=>k op (.ag l) s
 | .bslice n esz el z ps=>orNo d (Jjm (ev d s) (repC (z.map (cC d)) n) ps) λl=>
   if l.length=n * esz/\0<esz/\s.has g0=false then k op (.c (.own g0 (s.nv g0))) (s.obj g0 (.lit (s.nv g0) esz el l false)) else d.no
 | .load ag n x=>loadD d s ag n (ev d s x) λv=>k op v s
 | .store n x y=>J03 d s n (ev d s x) (ev d s y) λs'=>k op (.c .any) s'
 | .ibin o x y=>orNo d (Jr6 (ev d s x)) λkk=>orNo d (Jhs kk (ev d s x)) λa=>orNo d (Jhs kk (ev d s y)) λb=>
   if isCmp o then k op (.c (.lf .bool (d.cm o kk a b))) s
   else if isAr o then k op (.c (.lf (.int kk) (d.ar o kk a b))) s
   else (match o with
   | .quo|.rem=>d.gd (d.cm .neq kk b (d.int kk 0)) (k op (.c (.lf (.int kk) (d.ar o kk a b))) s)
   | _=>d.no)
 | .eqv ne ag sh x y=>(match ag,ev d s x,ev d s y with
  | true,.ag l,.ag m=>orNo d (eqCs d sh l m) λb=>k op (.c (.lf .bool (if ne then d.nt b else b))) s
  | false,.c u,.c v=>orNo d (eqCs d sh [u] [v]) λb=>k op (.c (.lf .bool (if ne then d.nt b else b))) s
  | _,_,_=>d.no)
 | .un o x=>(match o,ev d s x with
  | .not,.c (.kb b)=>k op (.c (.kb !b)) s
  | .not,.c (.lf .bool b)=>k op (.c (.lf .bool (d.nt b))) s
  | .neg,.c (.lf (.int kk) v)=>k op (.c (.lf (.int kk) (d.ng kk v))) s
  | _,_=>d.no)
 | .conv kk x=>(match ev d s x with
  | .c (.lf (.int k') v)=>k op (.c (.lf (.int kk) (d.cv k' kk v))) s
  | _=>d.no)
 | .nilck x=>(match ev d s x with
  | .c (.ptr g v o)=>if s.cur g v then k op (.c (.ptr g v o)) s else d.no
  | .c (.pti g v e i o)=>if s.cur g v then k op (.c (.pti g v e i o)) s else d.no
  | .c (.rp t v o)=>k op (.c (.rp t v o)) s
  | .c (.fn f c)=>k op (.c (.fn f c)) s
  | .c (.lf (.bf f t) v)=>k op (.c (.lf (.bf f t) v)) s
  | _=>d.no)
 | .mkbf f x=>(match ev d s x with
  | .ag l=>orNo d (Jzs d l) λp=>k op (.c (.lf (.bf f p.1) (d.bf f p.2))) s
  | _=>d.no)
 | .mkfn f caps=>orNo d (mapL (λx=>match ev d s x with|.c (.ptr g v o)=>some (g,v,o)|_=>none) caps) λl=>k op (.c (.fn f l)) s
 | .mkS esz bytes el z l c=>(match l,c with
  | .t a,.t b=>if a=b then orNo d (Jhs .i64 (ev d s l)) λn=>orNo d (ty el) λt=>orNo d (impl d (Y8 d) t (z.map (cC d))) λzz=>(match zz with
    | (h,zr)=>if t.sz=esz/\zr.isEmpty/\z.length=esz/\0<esz/\s.has g0=false then d.gd (d.le (d.int .i64 0) n) (d.gd (d.ft bytes n) (k op (.c (.own g0 (s.nv g0))) (s.obj g0 (.row (s.nv g0) esz el t (d.rp h n) [] none false)))) else d.no)
   else d.no
  | .c (.int _ a),.c (.int _ b)=>if a=b/\0<=a/\a * bytes<=room/\a<=9223372036854775807/\z.length=esz/\0<esz/\s.has g0=false then k op (.c (.own g0 (s.nv g0))) (s.obj g0 (.lit (s.nv g0) esz el (repC (z.map (cC d)) a.toNat) false)) else d.no
  | _,_=>d.no)
 | .slc esz x lo hi=>slcD d s esz (ev d s x) lo hi λv=>k op v s
 | .faddr off x=>(match ev d s x with
  | .c (.ptr g v o)=>if s.cur g v then k op (.c (.ptr g v (o+off))) s else d.no
  | .c (.pti g v e i o)=>if s.cur g v then k op (.c (.pti g v e i (o+off))) s else d.no
  | .c (.rp t v o)=>k op (.c (.rp t v (o+off))) s
  | _=>d.no)
 | .fld ag off n x=>(match ev d s x with
  | .ag l=>if off+n<=l.length then orNo d (pk ag (cutC l off n)) λv=>k op v s else d.no
  | _=>d.no)
 | .iaddr esz x i=>orNo d (Jhs .i64 (ev d s i)) λi=>(match ev d s x with
  | .c (.lf (.ls t) v)=>if t.sz=esz then d.ge v i λz=>k op (.c (.rp t z 0)) s else d.no
  | .c (.own g ver)=>(match look g s.ob with
   | some (.row v e _ _ _ _ _ _)=>if v=ver/\e=esz then orNo d (Jc6 d s g ver) λn=>d.gd (d.ib i n) (k op (.c (.pti g ver esz i 0)) s) else d.no
   | _=>d.no)
  | .c (.part g ver off len)=>(match look g s.ob with
   | some (.row v e _ _ _ _ _ _)=>if v=ver/\e=esz then d.gd (d.le (d.int .i64 0) off) (d.gd (d.ib i len) (k op (.c (.pti g ver esz (d.pl off i) 0)) s)) else d.no
   | _=>d.no)
  | _=>d.no)
 | .iaddrA len esz x i=>(match ev d s x with
  | .c (.ptr g v o)=>if s.cur g v then (match i with
   | .c (.int _ n)=>if 0<=n/\n<len then k op (.c (.ptr g v (o+n.toNat * esz))) s else d.no
   | i=>orNo d (Jhs .i64 (ev d s i)) λi=>J10 d i (λj=>k op (.c (.ptr g v (o+j * esz))) s) 0 len) else d.no
  | _=>d.no)
 | .idx len esz ag x i=>(match ev d s x with
  | .ag l=>(match i with
   | .c (.int _ n)=>if 0<=n/\n<len/\n.toNat * esz+esz<=l.length then orNo d (pk ag (cutC l (n.toNat * esz) esz)) λv=>k op v s else d.no
   | i=>orNo d (Jhs .i64 (ev d s i)) λi=>J10 d i (λj=>if j * esz+esz<=l.length then orNo d (pk ag (cutC l (j * esz) esz)) λv=>k op v s else d.no) 0 len)
  | _=>d.no)
 | .ext x i=>(match ev d s x with
  | .tp l=>orNo d l[i]? λp=>(match p with
   | (true,cs)=>k op (.ag cs) s
   | (false,[c])=>k op (.c c) s
   | _=>d.no)
  | _=>d.no)
 | .len x=>(match ev d s x with
  | .c (.lf (.ls _) v)=>k op (.c (.lf I (d.ln v))) s
  | .c (.own g ver)=>orNo d (Jc6 d s g ver) λn=>k op (.c (.lf I n)) s
  | .c (.part g ver _ n)=>orNo d (Jc6 d s g ver) λ_=>d.gd (d.le (d.int .i64 0) n) (k op (.c (.lf I n)) s)
  | .c (.k .nils)=>k op (.c (.lf I (d.int .i64 0))) s
  | _=>d.no)
 | .lenS x=>(match ev d s x with
  | .c (.lf .str v)=>k op (.c (.lf I (d.ls v))) s
  | _=>d.no)
 | .app esz bytes el _ x y=>appD d s g0 esz bytes el (ev d s x) (ev d s y) (k op)
 | .callp f args=>orNo d (Γ f) λc=>callD d c f args s (args.map (ev d s)) k
 | .shf o x y=>orNo d (Jr6 (ev d s x)) λkk=>orNo d (Jhs kk (ev d s x)) λa=>orNo d (Jr6 (ev d s y)) λk'=>orNo d (Jhs k' (ev d s y)) λb=>
   (match o with
   | .shl|.shr=>d.gd (d.cm .geq k' b (d.int k' 0)) (k op (.c (.lf (.int kk) (d.sh o kk k' a b))) s)
   | _=>d.no)
 | .mm mx x y=>orNo d (Jr6 (ev d s x)) λkk=>orNo d (Jhs kk (ev d s x)) λa=>orNo d (Jr6 (ev d s y)) λk'=>orNo d (Jhs k' (ev d s y)) λb=>
   k op (.c (.lf (.int kk) (d.mm mx kk k' a b))) s
 | .mkM kt vt el=>orNo d (ty kt) λkt=>orNo d (ty vt) λvt=>if s.has g0=true then d.no else
   (match ty (1000000000+el),vt with
   | some _,.ls vt=>if s.mo.isSome\/Ax mB g0=true\/vt.sz=0\/(s.ob.any λp=>Ax mB p.1)=true then d.no else k op (.c (.k (.map g0 0))) ⟨s.sl,s.lo,s.ob,s.ln,some ⟨g0,kt,vt,el,d.nl _⟩⟩
   | _,vt=>k op (.c (.map g0 (s.nv g0))) (s.obj g0 (.em (s.nv g0) kt vt el)))
 | .look ok ag sh z x y=>(match mpAt s (ev d s x) with
  | some ⟨_,_,kt,vt,es⟩=>if kOK ag sh kt=true/\vt.one1=true then orNo d (keyD d ag kt (ev d s y)) λy=>orNo d (zeroD d vt z) λz=>
    if ok then k op (.tp [(false,[.lf vt (d.mg es y z)]),(false,[.lf .bool (d.mf es y)])]) s else k op (.c (.lf vt (d.mg es y z))) s
   else d.no
  | none=>d.no)
 | .setM ag sh x y z=>(match mpAt s (ev d s x) with
  | some ⟨g,w,kt,vt,es⟩=>if kOK ag sh kt=true/\vt.one1=true then orNo d (keyD d ag kt (ev d s y)) λy=>orNo d (keyD d false vt (ev d s z)) λz=>
    k op (.c .any) (s.obj g (.mp w kt vt (d.ms es y z)))
   else d.no
  | none=>d.no)
 | .delM ag sh x y=>(match mpAt s (ev d s x) with
  | some ⟨g,w,kt,vt,es⟩=>if kOK ag sh kt=true then orNo d (keyD d ag kt (ev d s y)) λy=>k op (.tp []) (s.obj g (.mp w kt vt (d.md es y))) else d.no
  | none=>d.no)
 | .lenM x=>(match mpAt s (ev d s x) with
  | some ⟨_,_,_,_,es⟩=>k op (.c (.lf I (d.ln es))) s
  | none=>d.no)
 | .isnil ne x=>(match ev d s x with
  | .c (.k .nils)=>k op (.c (.kb !ne)) s
  | .c (.lf (.ls _) v)=>d.gd (d.cm .gtr .i64 (d.ln v) (d.int .i64 0)) (k op (.c (.kb ne)) s)
  | .c (.own g ver)=>orNo d (Jc6 d s g ver) λn=>d.gd (d.cm .gtr .i64 n (d.int .i64 0)) (k op (.c (.kb ne)) s)
  | _=>d.no)
 | _=>d.no
end
inductive LC where
 | skip
 | reg (draw:Bool) (id:Nat) (ops:Array Oper) (l:List (Nat×LOper))
 | seq (a b:LC)
 | cond (c:LO) (a b:LC)
 | blk (id:Nat) (b:LC)
 | loop (b:LC)
 | exit (id:Nat)
 | ret
 | rng (g:LO) (ps:List Nat) (a b:LC)
 | keys (id:Nat) (el:TypeId) (bytes:Nat)
 deriving Inhabited
def Jod:List Nat->Bool
 | []=>true
 | x::r=>!memN x r&&Jod r
inductive OpK where
 | mv (x:Nat)
 | asg (x:Nat)
 | range (t:TypeId) (x:Nat)
 | next (x:Nat)
 | ext (x i:Nat)
 | entry (x:Nat)
 | alloc (t:TypeId)
 | store (t:TypeId) (x y:Nat)
 | load (t:TypeId) (x:Nat)
 | lit (t:TypeId) (x:Nat)
 | app (t:TypeId) (x y:Nat)
def OpK.op:OpK->Op
 | .mv x=>.move (.tmp x)
 | .asg x=>.assign (.tmp x)
 | .range t x=>.range t (.tmp x)
 | .next x=>.next (.tmp x) false
 | .ext x i=>.extract (.tmp x) i
 | .entry x=>.entry (.tmp x)
 | .alloc t=>.alloc t
 | .store t x y=>.store t (.tmp x) (.tmp y)
 | .load t x=>.load t (.tmp x)
 | .lit t x=>.buildSlice t 1 #[(0,.tmp x)]
 | .app t x y=>.call ⟨.builtin .append,#[.tmp x,.tmp y],#[t,t]⟩
def OpK.is:OpK->Op->Bool
 | .mv x,.move (.tmp y)=>Aa x y
 | .asg x,.assign (.tmp y)=>Aa x y
 | .range t x,.range u (.tmp y)=>Aa t u&&Aa x y
 | .next x,.next (.tmp y) false=>Aa x y
 | .ext x i,.extract (.tmp y) j=>Aa x y&&Aa i j
 | .entry x,.entry (.tmp y)=>Aa x y
 | .alloc t,.alloc u=>Aa t u
 | .store t x y,.store u (.tmp d) (.tmp a)=>Aa t u&&Aa x d&&Aa y a
 | .load t x,.load u (.tmp y)=>Aa t u&&Aa x y
 | .lit t x,.buildSlice u n ps=>Aa t u&&Aa n 1&&(match ps.toList with | [(0,.tmp y)]=>Aa x y|_=>false)
 | .app t x y,.call ⟨.builtin .append,as,ts⟩=>(match as.toList,ts.toList with | [.tmp d,.tmp a],[u,f]=>Aa x d&&Aa y a&&Aa t u&&Aa t f|_,_=>false)
 | _,_=>false
def dstIs:Option Nat->Option Nat->Bool
 | none,none=>true
 | some a,some b=>Aa a b
 | _,_=>false
def Jhn:List (Option Nat×OpK)->List Oper->Bool
 | [],[]=>true
 | p::l,o::r=>dstIs p.1 o.dst&&p.2.is o.op&&(match o.guard with|none=>true|_=>false)&&Jhn l r
 | _,_=>false
def Jiz(l:List Oper)(i:Nat):TypeId:=match l[i]? with
 | some o=>(match o.op with|.range t _=>t|.alloc t=>t|.buildSlice t _ _=>t|_=>0)
 | none=>0
def keysT(P:Program)(mt kT rT:TypeId):Option Nat:=
 match P.underlying mt,P.underlying rT,P.info? kT,aggT P kT with
 | some (.map _ _),some (.slice e),some i,some true=>if Aa e kT&&Aa i.size 2&&i.zero.isSome&&(zc P kT).isSome then some i.bytes else none
 | _,_,_,_=>none
def Jr4(P:Program)(nt:Nat):Code->Code->Option LC
 | .region m f false,.block n (.loop (.seq (.region _ g false) (.seq (.cond (.tmp c) .skip (.exit l)) (.block h (.seq (.region _ a false) (.region _ d false))))))=>
  match keysT P (Jiz f.toList 1) (Jiz a.toList 2) (Jiz d.toList 2) with
  | some by'=>
   if Aa c 17&&Aa n l&&!Aa h n&&Ax 24 nt &&
    Jhn [(some 14,.mv 3),(some 15,.range (Jiz f.toList 1) 14)] f.toList &&
    Jhn [(some 16,.next 15),(some 17,.ext 16 0)] g.toList &&
    Jhn [(some 18,.entry 15),(some 19,.ext 18 0),(some 5,.alloc (Jiz a.toList 2)),(none,.store (Jiz a.toList 2) 5 19)] a.toList &&
    Jhn [(some 20,.mv 4),(some 21,.load (Jiz a.toList 2) 5),(some 22,.lit (Jiz d.toList 2) 21),(some 23,.app (Jiz d.toList 2) 20 22),(some 4,.asg 23)] d.toList
   then some (.keys m (Jiz a.toList 2) by') else none
  | none=>none
 | _,_=>none
def Jag(P:Program)(nt:Nat):Code->Option LC
 | .skip=>some .skip
 | .region id ops draw=>(Jc0 P [] nt ops (List.range ops.size)).map (.reg draw id ops)
 | .seq a b=>match Jr4 P nt a b with
  | some l=>some l
  | none=>(Jag P nt a).bind λa=>(Jag P nt b).map (.seq a)
 | .scope b=>Jag P nt b
 | .label _=>some .skip
 | .cond c a b=>(cLO c).bind λc=>(Jag P nt a).bind λa=>(Jag P nt b).map (.cond c a)
 | .block id b=>(Jag P nt b).map (.blk id)
 | .loop b=>(Jag P nt b).map .loop
 | .exit id=>some (.exit id)
 | .ret=>some .ret
 | .rangeFunc g ps a b=>(cLO g).bind λg=>(Jag P nt a).bind λa=>(Jag P nt b).bind λb=>if (ps.toList.all λt=>Nat.blt t nt)&&Jod ps.toList then some (.rng g ps.toList a b) else none
 | _=>none
def Jon(P:Program):ResultVar->Option RV
 | .tmp t=>some (.tmp t)
 | .cell t ty=>(aggT P ty).bind λag=>(szT P ty).bind λn=>if ag\/n=1 then some (.cell t ag n) else none
structure LF where
 np:Nat
 nt:Nat
 res:List RV
 body:LC
def compF(P:Program)(f:FuncId):Option LF:=
 (P.funcs[f]?).bind λfn => fn.body.bind λc => if fn.name == "runtime.NumGoroutine" then none else
  (Jag P fn.ntmps c).bind λb=>(mapL (Jon P) fn.results.toList).map λrs=>⟨fn.params.size+fn.nfree,fn.ntmps,rs,b⟩
def tyOf(P:Program):Nat->TypeId->Option Ty
 | 0,_=>none
 | n+1,t=>match P.underlying t with
  | some .bool=>some .bool
  | some (.int k)=>some (.int k)
  | some .string=>some .str
  | some (.slice e)=>(tyOf P n e).map .ls
  | some (.struct fs)=>(mapL (λf=>tyOf P n f.type) fs.toList).map Yu
  | some (.array m e)=>(tyOf P n e).map λt=>Yu (Dk m t)
  | _=>none
def adds:List Nat->List Nat->List Nat
 | [],m=>m
 | x::r,m=>match memN x m with|true=>adds r m|false=>adds r (x::m)
def dropN(d:Option Nat)(l:List Nat):List Nat:=match d with|none=>l|some d=>l.filter λx=>!Aa x d
def Jgt:List (Nat×LOper)->List Nat->List Nat
 | [],n=>n
 | p::r,n=>adds p.2.looks (dropN p.2.dst (Jgt r n))
def Zy:LC->List Nat->List (Nat×List Nat)->List Nat->List Nat
 | .skip,n,_,_=>n
 | .reg _ _ _ l,n,_,_=>Jgt l n
 | .seq a b,n,ex,rt=>Zy a (Zy b n ex rt) ex rt
 | .cond c a b,n,ex,rt=>adds c.tmp? (adds (Zy a n ex rt) (Zy b n ex rt))
 | .blk id b,n,ex,rt=>Zy b n ((id,n)::ex) rt
 | .loop b,_,ex,rt=>Zy b [] ex rt
 | .exit id,_,ex,_=>(look id ex).getD []
 | .ret,_,_,rt=>rt
 | .keys _ _ _,n,_,_=>adds [3,4] (dropN (some 4) n)
 | .rng g ps a b,n,_,_=>adds g.tmp? (adds ((Zy a (Zy b [] [] []) [] []).filter λx=>!memN x ps) n)
def RV.slot:RV->Nat
 | .tmp t=>t
 | .cell t _ _=>t
section
variable {ι:Ty->Type} {M:Type->Type} {α:Type} (d:D ι M)
def nB:Nat:=1000000000000000000000000000000000000000000000000000000000000
def nS(key:Nat):Nat:=nB+key
def nC(g j:Nat):Nat:=g * 4096+j
def refs:C ι->List (Nat×Nat)
 | .own g v|.part g v _ _|.ptr g v _|.pti g v _ _ _|.map g v=>[(g,v)]
 | .fn _ c=>c.map λx=>(x.1,x.2.1)
 | _=>[]
def visR(s:S ι)(nm:Nat):Nat->List (Nat×Nat)->List (Nat×Nat)->List (Nat×Nat)
 | _,[],tb=>tb
 | j,(g,v)::r,tb=>visR s nm (j+1) r (if s.cur g v&&(look g tb).isNone then tb++[(g,nm+j)] else tb)
def visCs(s:S ι)(g:Nat):Nat->List (C ι)->List (Nat×Nat)->List (Nat×Nat)
 | _,[],tb=>tb
 | j,c::r,tb=>visCs s g (j+8) r (visR s (nC g j) 0 (refs c) tb)
def Ob.kids:Ob ι->List (C ι)
 | .box _ cs=>cs
 | .lit _ _ _ cs _=>cs
 | .row _ _ _ _ _ x nest _=>(match nest with|some p=>[p.2]|none=>[])++x
 | .mp ..=>[]
 | .em ..=>[]
def frozen(s:S ι)(g:Nat):Bool:=match look g s.ob with
 | some (.row _ _ _ _ _ _ _ z)=>z
 | some (.lit _ _ _ _ z)=>z
 | _=>false
def J3a(s:S ι):Nat->List (Nat×Nat)->List (Nat×Nat)->List (Nat×Nat)
 | 0,_,tb=>tb
 | n+1,todo,tb=>match todo with
  | []=>tb
  | (g,nn)::r=>match look g s.ob with
   | some o=>if frozen s g then J3a s n r tb else
    let tb':=visCs s nn 0 o.kids tb
    J3a s n (r++tb'.drop tb.length) tb'
   | none=>J3a s n r tb
def J16(s:S ι)(b:Nat):List (Nat×V ι)->List (Nat×Nat)->List (Nat×Nat)
 | [],tb=>tb
 | (k,.c x)::r,tb=>J16 s b r (visR s (nS (b+k)) 0 (refs x) tb)
 | (k,.ag l)::r,tb=>J16 s b r (visCs s (nS (b+k)) 0 l tb)
 | _::r,tb=>J16 s b r tb
def rdF(s:S ι)(g:Nat)(c:C ι):C ι:=
 match look g s.ob with
 | some (.row _ _ _ t _ _ _ _)=>(match Yo d s.ob 4 (.ls t) c with
  | some l=>if (Kd s.ob 4 c).all (frozen s)=true then .lf (.ls t) l else .any
  | none=>.any)
 | _=>.any
def moC(m:Option (Mo ι)):AV->Bool
 | .map g v=>match m with|some m=>Aa m.g g&&Aa v 0|none=>false
 | _=>false
def renC(s:S ι)(tb:List (Nat×Nat))(c:C ι):C ι:=
 match c with
 | .own g v=>if s.cur g v then (if frozen s g then rdF d s g c else match look g tb with|some n=>.own n 0|none=>.any) else .any
 | .part g v a b=>if s.cur g v then (if frozen s g then rdF d s g c else match look g tb with|some n=>.part n 0 a b|none=>.any) else .any
 | .ptr g v o=>if s.cur g v&&!frozen s g then (match look g tb with|some n=>.ptr n 0 o|none=>.any) else .any
 | .pti g v e i o=>if s.cur g v&&!frozen s g then (match look g tb with|some n=>.pti n 0 e i o|none=>.any) else .any
 | .map g v=>if s.cur g v&&!frozen s g then (match look g tb with|some n=>.map n 0|none=>.any) else .any
 | .fn f l=>(match mapL (λx:Nat×Nat×Nat=>if s.cur x.1 x.2.1&&!frozen s x.1 then (look x.1 tb).map λn=>(n,0,x.2.2) else none) l with
  | some l=>.fn f l
  | none=>.any)
 | .k v=>if v.flat || moC s.mo v then .k v else .any
 | c=>c
def renV(s:S ι)(tb:List (Nat×Nat)):V ι->V ι
 | .c x=>.c (renC d s tb x)
 | .ag l=>.ag (l.map (renC d s tb))
 | .tp l=>.tp (l.map λ|(b,q)=>(b,q.map (renC d s tb)))
def renO(s:S ι)(tb:List (Nat×Nat)):Ob ι->Ob ι
 | .box _ cs=>.box 0 (cs.map (renC d s tb))
 | .lit _ e el cs z=>.lit 0 e el (cs.map (renC d s tb)) z
 | .row _ e el t v x nest z=>.row 0 e el t v (x.map (renC d s tb)) (nest.map λ|(o,c)=>(o,renC d s tb c)) z
 | .mp _ kt vt es=>.mp 0 kt vt es
 | .em _ kt vt el=>.em 0 kt vt el
def Jjw(s:S ι)(tb:List (Nat×Nat)):List (Nat×Nat)->List (Nat×Ob ι)
 | []=>[]
 | (g,nn)::r=>match look g s.ob with
  | some o=>if frozen s g then Jjw s tb r else (nn,renO d s tb o)::Jjw s tb r
  | none=>Jjw s tb r
def kept(sl:List (Nat×V ι)):List Nat->List (Nat×V ι)
 | []=>[]
 | k::r=>match look k sl with|some v=>(k,v)::kept sl r|none=>kept sl r
def visLo(s:S ι):Nat->List (List (Nat×V ι))->List (Nat×Nat)->List (Nat×Nat)
 | _,[],tb=>tb
 | n,l::r,tb=>visLo s (n+1) r (J16 s (n * 4096) l tb)
def Jra(s:S ι)(tb:List (Nat×Nat)):List (Nat×V ι)->List (Nat×V ι)
 | []=>[]
 | (k,v)::r=>(k,renV d s tb v)::Jra s tb r
def canonT(s:S ι)(sl:List (Nat×V ι))(tb0:List (Nat×Nat)):S ι:=
 let tb:=J3a s 300 tb0 tb0
 if Jod (tb.map (·.1))&&Jod (tb.map (·.2))&&tb.all (λp=>!moN s.mo p.1&&!moN s.mo p.2) then ⟨Jra d s tb sl,s.lo.map (Jra d s tb),Jjw d s tb tb,[],s.mo⟩
 else ⟨[],s.lo.map (λ_=>[]),[],[],none⟩
def Jgo(keep:List Nat)(s:S ι):S ι:=
 let sl:=kept s.sl keep
 canonT d s sl (visLo s 1 s.lo (J16 s 0 sl []))
def insN(x:Nat):List Nat->List Nat
 | []=>[x]
 | y::r=>match Ax x y with
  | true=>(match Aa x y with|true=>y::r|false=>x::y::r)
  | false=>y::insN x r
def Jcc:List Nat->List Nat
 | []=>[]
 | x::r=>insN x (Jcc r)
def hasX(ob:List (Nat×Ob ι))(g:Nat):Bool:=match look g ob with
 | some (.lit ..)=>true
 | some (.row _ _ _ _ _ x _ _)=>!x.isEmpty
 | some (.em ..)=>true
 | _=>false
def hasN(ob:List (Nat×Ob ι))(g:Nat):Bool:=match look g ob with
 | some (.row _ _ _ _ _ _ (some _) _)=>true
 | _=>false
def Jge(e:Nat)(x:List (C ι)):Option (Nat×C ι):=
 go 0 (x.drop (x.length - e))
where go:Nat->List (C ι)->Option (Nat×C ι)
 | _,[]=>none
 | j,.own g v::_=>some (j,.own g v)
 | j,.k .nils::_=>some (j,.k .nils)
 | j,_::r=>go (j+1) r
def Jvm(x:List (C ι))(j:Nat):List (C ι):=x.set j (.k .nils)
def Jf4(keep:Bool)(e:Nat)(x:List (C ι)):Option (Nat×C ι):=if keep then Jge e x else none
def litX(keep:Bool)(e:Nat)(x:List (C ι)):List (C ι):=match Jf4 keep e x with|some p=>Jvm x (x.length - e+p.1)|none=>x
def Jn3(ob:List (Nat×Ob ι))(nest:Option (Nat×C ι)):List Nat:=match nest with|some p=>Kd ob 4 p.2|none=>[]
def Jsi(ty:TypeId->Option Ty)(keep:Bool)(s:S ι)(g:Nat):S ι:=
 match look g s.ob with
 | some (.lit v e el x z)=>(match ty el with
  | some t=>if t.sz=e/\0<e then
    (match Jd5 d (Yo d s.ob 4) t (x.length+1) (litX keep e x) with
    | some l=>if memN g ((litX keep e x).flatMap (Kd s.ob 4)) then s else (Kt s ((litX keep e x).flatMap (Kd s.ob 4))).obj g (.row v e el t l [] (Jf4 keep e x) z)
    | none=>s) else s
  | none=>s)
 | some (.row v e el t l x nest z)=>if x.isEmpty then (match keep,nest with
   | false,some p=>if t.sz=e/\0<e then (match mlN d (Yo d s.ob 4) t l (some p) with
    | some l0=>if memN g (Kd s.ob 4 p.2) then s else (Kt s (Kd s.ob 4 p.2)).obj g (.row v e el t l0 x none z)
    | none=>s) else s
   | _,_=>s) else if t.sz=e/\0<e then
   (match mlN d (Yo d s.ob 4) t l nest,Jd5 d (Yo d s.ob 4) t (x.length+1) (litX keep e x) with
   | some l0,some a=>if memN g (Jn3 s.ob nest++(litX keep e x).flatMap (Kd s.ob 4)) then s else (Kt s (Jn3 s.ob nest++(litX keep e x).flatMap (Kd s.ob 4))).obj g (.row v e el t (d.ap l0 a) [] (Jf4 keep e x) z)
   | _,_=>s) else s
 | some (.em v kt vt _)=>s.obj g (.mp v kt vt (d.nl (.p kt vt)))
 | _=>s
def news(ob:List (Nat×Ob ι))(n:Nat):List Nat:=adds ((ob.take (ob.length - n)).map (·.1)) []
def Jor(ty:TypeId->Option Ty)(keep:Bool)(n:Nat)(s:S ι):S ι:=((news s.ob n).filter (hasX s.ob)++(match keep with|true=>[]|false=>(adds (s.ob.map (·.1)) []).filter (hasN s.ob))).foldl (Jsi d ty keep) s
end
def joinC:C U->C U->C U
 | .lf t _,.lf l _=>if t=l then .lf t () else .any
 | .lf .bool _,.kb _=>.lf .bool ()
 | .kb _,.lf .bool _=>.lf .bool ()
 | .kb a,.kb b=>if a=b then .kb a else .lf .bool ()
 | .k .nils,.k .nils=>.k .nils
 | .k .nilp,.k .nilp=>.k .nilp
 | .k .nilf,.k .nilf=>.k .nilf
 | .k .nilm,.k .nilm=>.k .nilm
 | .k (.map g v),.k (.map h d)=>if g=h/\v=d then .k (.map g v) else .any
 | .k .nils,.own g v=>.own g v
 | .own g v,.k .nils=>.own g v
 | .k .nils,.lf (.ls t) _=>.lf (.ls t) ()
 | .lf (.ls t) _,.k .nils=>.lf (.ls t) ()
 | .own g v,.own h d=>if g=h/\v=d then .own g v else .any
 | .part g v _ _,.part h d _ _=>if g=h/\v=d then .part g v () () else .any
 | .ptr g v o,.ptr h d o'=>if g=h/\v=d/\o=o' then .ptr g v o else .any
 | .rp t _ o,.rp l _ o'=>if t=l/\o=o' then .rp t () o else .any
 | .fn f c,.fn f' c'=>if f=f'/\c=c' then .fn f c else .any
 | .map g v,.map h d=>if g=h/\v=d then .map g v else .any
 | .yl j,.yl m=>if j=m then .yl j else .any
 | _,_=>.any
def J15:List (C U)->List (C U)->List (C U)
 | x::l,y::m=>joinC x y::J15 l m
 | _,_=>[]
def joinV:V U->V U->V U
 | .c x,.c y=>.c (joinC x y)
 | .ag l,.ag m=>if l.length=m.length then .ag (J15 l m) else .c .any
 | _,_=>.c .any
def joinO:Ob U->Ob U->Ob U
 | .box v cs,.box _ cs'=>.box v (J15 cs cs')
 | .row v e el t _ _ nest z,.row _ _ _ _ _ _ nest' _=>.row v e el t () [] (match nest,nest' with|some p,some q=>some (p.1,joinC p.2 q.2)|none,n=>n|n,none=>n) z
 | o,_=>o
def J4k(m:List (Nat×V U)):List (Nat×V U)->List (Nat×V U)
 | []=>[]
 | p::r=>(match look p.1 m with|some v=>[(p.1,joinV p.2 v)]|none=>[])++J4k m r
def joinOb(a b:List (Nat×Ob U)):List (Nat×Ob U):=
 (a.map λp=>match look p.1 b with|some o=>(p.1,joinO p.2 o)|none=>p)++b.filter λp=>(look p.1 a).isNone
def joinLo:List (List (Nat×V U))->List (List (Nat×V U))->List (List (Nat×V U))
 | a::l,b::m=>J4k b a::joinLo l m
 | _,_=>[]
def joinS(a b:S U):S U:=⟨J4k b.sl a.sl,joinLo a.lo b.lo,joinOb a.ob b.ob,[],a.mo⟩
def refsV:V U->List Nat
 | .c x=>(refs x).map (·.1)
 | .ag l=>l.flatMap λx=>(refs x).map (·.1)
 | .tp l=>l.flatMap λq=>q.2.flatMap λx=>(refs x).map (·.1)
def trimS(s:S U):S U:=
 let used:=(s.sl++s.lo.flatten).flatMap (λp=>refsV p.2)++s.ob.flatMap λp=>p.2.kids.flatMap λx=>(refs x).map (·.1)
 ⟨s.sl,s.lo,s.ob.filter λp=>memN p.1 used,[],s.mo⟩
def serC:C U->List Nat
 | .any=>[0]
 | .lf _ _=>[1]
 | .kb b=>[2,b.toNat]
 | .k _=>[3]
 | .own g v=>[4,g,v]
 | .part g v _ _=>[5,g,v]
 | .ptr g v o=>[6,g,v,o]
 | .pti g v e _ o=>[7,g,v,e,o]
 | .rp _ _ o=>[8,o]
 | .fn f c=>9::f::c.flatMap λx=>[x.1,x.2.1,x.2.2]
 | .map g v=>[10,g,v]
 | .yl j=>[11,j]
def serV:V U->List Nat
 | .c x=>0::serC x
 | .ag l=>1::l.flatMap serC
 | .tp l=>2::l.flatMap λp=>p.2.flatMap serC
def serO:Ob U->List Nat
 | .box v cs=>0::v::cs.flatMap serC
 | .lit v _ _ cs _=>1::v::cs.flatMap serC
 | .row v _ _ _ _ x nest z=>2::v::z.toNat::x.flatMap serC++(match nest with|some p=>p.1::serC p.2|none=>[])
 | .mp v ..=>[3,v]
 | .em v ..=>[4,v]
def eqN:List Nat->List Nat->Bool
 | [],[]=>true
 | x::l,y::m=>match Aa x y with|true=>eqN l m|false=>false
 | _,_=>false
def serS(s:S U):List Nat:=(s.sl++s.lo.flatten).flatMap (λp=>p.1::serV p.2)++s.ob.flatMap λp=>p.1::serO p.2
section
variable {ι:Ty->Type}
def erC:C ι->C U
 | .any=>.any
 | .lf t _=>.lf t ()
 | .kb b=>.kb b
 | .k v=>.k v
 | .own g v=>.own g v
 | .part g v _ _=>.part g v () ()
 | .ptr g v o=>.ptr g v o
 | .pti g v e _ o=>.pti g v e () o
 | .rp t _ o=>.rp t () o
 | .fn f c=>.fn f c
 | .map g v=>.map g v
 | .yl j=>.yl j
def erV:V ι->V U
 | .c x=>.c (erC x)
 | .ag l=>.ag (l.map erC)
 | .tp l=>.tp (l.map λp=>(p.1,p.2.map erC))
def erO:Ob ι->Ob U
 | .box v cs=>.box v (cs.map erC)
 | .lit v e el cs z=>.lit v e el (cs.map erC) z
 | .row v e el t _ x nest z=>.row v e el t () (x.map erC) (nest.map λp=>(p.1,erC p.2)) z
 | .mp v kt vt _=>.mp v kt vt ()
 | .em v kt vt el=>.em v kt vt el
def erS(s:S ι):S U:=⟨s.sl.map λp=>(p.1,erV p.2),s.lo.map λl=>l.map λp=>(p.1,erV p.2),s.ob.map λp=>(p.1,erO p.2),[],s.mo.map λm=>⟨m.g,m.kt,m.vt,m.el,()⟩⟩
end
abbrev Inl:=∀ {ι:Ty->Type} {M:Type->Type} {α:Type},D ι M->FuncId->Nat->List (V ι)->S ι->(V ι->S ι->M α)->M α
structure Hd where
 base:Nat
 ps:List Nat
 a:LC
 b:LC
def yB:Nat:=1000000000
structure SCt where
 id:Nat
 g:Nat
 two:Bool
 t:Ty
 fn:List t.T->Option (List t.T)
def SCt.ctr(x:SCt):Ctr:=⟨1000000+x.id * 1000+x.g,[(.one,.ls x.t)],[(false,.ls x.t)],x.fn⟩
structure Bi where
 run:Inl
def lookB(d:Nat):List (Nat×Bi)->Option Bi
 | []=>none
 | (n,v)::r=>match Aa n d with|true=>some v|false=>lookB d r
structure Cx where
 ct:FuncId->Option Ctr
 ty:TypeId->Option Ty
 code:FuncId->Option LF
 keep:Nat->Bool
 hs:List (Nat×Hd)
 rd:Bool
 so:FuncId->FuncId->Option SCt
 jn:Nat->Bool
 bi:FuncId->Option Bi
def stat:D U (λ_=>List (LE×S U)) where
 int _ _:=()
 bool _:=()
 str _:=()
 nl _:=()
 un:=()
 pr _ _:=()
 fs _:=()
 sn _:=()
 ar _ _ _ _:=()
 cm _ _ _ _:=()
 sh _ _ _ _ _:=()
 cv _ _ _:=()
 mm _ _ _ _ _:=()
 ng _ _:=()
 nt _:=()
 an _ _:=()
 be _ _:=()
 ln _:=()
 ls _:=()
 bf _ _:=()
 ub _:=()
 pl _ _:=()
 mi _ _:=()
 ib _ _:=()
 le _ _:=()
 ft _ _:=()
 cs _ _:=()
 ap _ _:=()
 ct _ _ _:=()
 st _ _ _:=()
 rp _ _:=()
 ml _ _:=()
 mg _ _ _:=()
 mf _ _:=()
 ms _ _ _:=()
 md _ _:=()
 br _ x y:=x++y
 gd _ x:=x
 no:=[]
 ge _ _ k:=k ()
 nq _ k:=k ()
 mq _ k:=k ()
 call _ _ k:=k ()
 join ex _ _ k:=ex.flatMap λp=>k p.1 p.2
 loop _ ex _ _ _ k:=ex.flatMap λp=>k p.1 p.2
section
variable {ι:Ty->Type} {M:Type->Type} {α:Type} (d:D ι M)
def Js1(s:S ι)(o:LOper)(run skip:S ι->M α):M α:=
 match o.guard with
 | none=>run s
 | some (g,want)=>(match s.at g with
  | .c (.kb b)=>if b=want then run s else skip s
  | .c (.lf .bool t)=>if want then d.br t (run (s.put (some g) (.c (.kb true)))) (skip (s.put (some g) (.c (.kb false))))
   else d.br t (skip (s.put (some g) (.c (.kb true)))) (run (s.put (some g) (.c (.kb false))))
  | .tp []=>skip s
  | _=>d.no)
def J0o(s:S ι)(o:LOp)(run:S ι->M α):M α:=
 match o with
 | .pick (.t n) _ _=>(match s.at n with
  | .c (.lf .bool t)=>d.br t (run (s.put (some n) (.c (.kb true)))) (run (s.put (some n) (.c (.kb false))))
  | _=>run s)
 | _=>run s
def J01(cx:Cx)(base:Nat)(s:S ι)(o:LOper)(k:LOp->S ι->M α):M α:=
 Js1 d s o (λs=>J0o d s o.op λs=>opD d cx.ct cx.ty s (base+o.dst.getD 0) o.op λop v s'=>k op (s'.put o.dst v)) (λs=>k o.op (s.put o.dst (.tp [])))
def inlF(cx:Cx)(s:S ι):LOp->Option (FuncId×List (V ι))
 | .callp f args=>if (cx.ct f).isNone&&!Ax yB f then some (f,args.map (ev d s)) else none
 | .callv x args=>(match ev d s x with
  | .c (.fn f caps)=>if Ax yB f then none else some (f,args.map (ev d s)++caps.map λc=>.c (.ptr c.1 c.2.1 c.2.2))
  | .c (.yl j)=>some (yB+j,args.map (ev d s))
  | .c (.lf (.bf f t) v)=>if Ax yB f then none else some (f,.ag (expl d t (d.ub v))::args.map (ev d s))
  | _=>none)
 | _=>none
def srtF(cx:Cx)(s:S ι):LOp->Option (SCt×V ι)
 | .callp f [x,y]=>(match ev d s y with
  | .c (.fn g [])=>(cx.so f g).bind λc=>if c.two then some (c,ev d s x) else none
  | _=>none)
 | .callp f [x]=>(cx.so f 0).bind λc=>if c.two then none else some (c,ev d s x)
 | _=>none
def sortD(c:SCt)(s:S ι)(v:V ι)(k:S ι->M α):M α:=
 match v with
 | .c (.own g ver)=>(match look g s.ob with
  | some (.row v e el t l [] none false)=>if v=ver/\e=t.sz/\0<e then orNo d (cast? (.ls t) (.ls c.t) l) λl=>d.call c.ctr l λa=>k (s.obj g (.row v e el c.t a [] none false)) else d.no
  | _=>d.no)
 | .c (.k .nils)=>k s
 | _=>d.no
def nilOf(s:S ι):LOp->Option (Bool×ι I)
 | .isnil ne x=>(match ev d s x with
  | .c (.lf (.ls _) v)=>some (ne,d.ln v)
  | _=>none)
 | _=>none
def isCall:LOp->Bool
 | .callp .. | .callv ..=>true
 | _=>false
def S.push(s:S ι)(live:List Nat)(sl:List (Nat×V ι)):S ι:=⟨sl,kept s.sl live::s.lo,s.ob,s.ln,s.mo⟩
def S.pop(s:S ι):S ι:=match s.lo with
 | l::r=>⟨l,r,s.ob,s.ln,s.mo⟩
 | []=>s
def Jm9:Nat->List (V ι)->List (Nat×V ι)
 | _,[]=>[]
 | j,v::r=>(j,v)::Jm9 (j+1) r
def Jdd(inl:Inl)(cx:Cx)(base:Nat)(n:List Nat):List (Nat×LOper)->S ι->(S ι->M α)->M α
 | [],s,k=>k s
 | p::r,s,k=>
  if isCall p.2.op then
   Js1 d s p.2 (λs=>match srtF d cx s p.2.op with
    | some (c,v)=>sortD d c s v λs'=>Jdd inl cx base n r (s'.put p.2.dst (.tp [])) k
    | none=>match inlF d cx s p.2.op with
    | some (f,vs)=>inl d f ((base+p.2.dst.getD 0+1) * 4096) vs (s.push (Jcc (Jgt r n)) []) λv s'=>Jdd inl cx base n r (s'.put p.2.dst v) k
    | none=>opD d cx.ct cx.ty s (base+p.2.dst.getD 0) p.2.op λ_ v s'=>Jdd inl cx base n r (s'.put p.2.dst v) k) (λs=>Jdd inl cx base n r (s.put p.2.dst (.tp [])) k)
  else match nilOf d s p.2.op,p.2.guard with
   | some (ne,m),none=>d.nq m λb=>Jdd inl cx base n r (s.put p.2.dst (.c (.lf .bool (if ne then d.nt b else b)))) k
   | _,_=>J01 d cx base s p.2 λ_ s'=>Jdd inl cx base n r s' k
def J20(base:Nat)(o:LOper)(s:S ι):Bool:=o.op.isNew&&s.has (base+o.dst.getD 0)
def newDs:List (Nat×LOper)->List Nat
 | []=>[]
 | p::r=>match p.2.op,p.2.dst with
  | .alloc _,some x=>x::newDs r
  | .bslice ..,some x=>x::newDs r
  | _,_=>newDs r
def usedD(x:Nat):List (Nat×LOper)->Bool
 | []=>false
 | p::r=>(match p.2.dst with|some y=>Aa y x|none=>false) || (match p.2.op with
  | .store _ (.t _) (.t y)=>Aa y x
  | .store ..=>false
  | op=>memN x op.looks) || usedD x r
def J4n(base:Nat)(s:S ι)(all:List (Nat×LOper)):List (Nat×LOper)->List Nat
 | []=>[]
 | p::r=>match p.2.op with
  | .store _ (.t x) _=>(match usedD x all,ev d s (.t x) with
   | false,.c (.ptr g _ _)=>if Ax base g then (g - base)::J4n base s all r else J4n base s all r
   | _,_=>J4n base s all r)
  | _=>J4n base s all r
def offV(base:Nat)(ds:List Nat):V ι->Bool
 | .c (.ptr g _ _)=>!inNm base ds g
 | .c (.own g _)=>!inNm base ds g
 | .c (.lf _ _)=>true
 | .c (.rp _ _ _)=>true
 | .c (.pti g _ _ _ _)=>!inNm base ds g
 | _=>false
def onV(base:Nat)(ds:List Nat):V ι->Bool
 | .c (.ptr g _ _)=>inNm base ds g
 | _=>false
def onA(base:Nat)(ds:List Nat)(dst:Option Nat):V ι->Bool
 | .c (.own g _)=>inNm base ds g
 | .c (.k .nils)=>inNm base ds (base+dst.getD 0)
 | _=>false
def appT(s:S ι)(base:Nat)(dst:Option Nat)(op:LOp)(tg:List Nat):List Nat:=
 match op with
 | .app _ _ _ _ x _=>(match ev d s x with
  | .c (.own g _)=>if Ax base g then (g - base)::tg else tg
  | .c (.k .nils)=>dst.getD 0::tg
  | _=>tg)
 | _=>tg
def Jgd(s:S ι)(base:Nat)(dst:Option Nat)(op:LOp)(ds:List Nat):LOp:=
 match op with
 | .load ag n x=>if offV base ds (ev d s x) then .msk ds (.load ag n x) else .load ag n x
 | .faddr o x=>if offV base ds (ev d s x) then .msk ds (.faddr o x) else .faddr o x
 | .iaddr e x i=>if offV base ds (ev d s x) then .msk ds (.iaddr e x i) else .iaddr e x i
 | .len x=>if offV base ds (ev d s x) then .msk ds (.len x) else .len x
 | .store n x y=>if onV base ds (ev d s x) then .ston ds n x y else .store n x y
 | .nilck x=>if offV base ds (ev d s x) then .msk ds (.nilck x) else .nilck x
 | .app e b t z x y=>if onA base ds dst (ev d s x) then .appn ds e b t z x y else .app e b t z x y
 | .slc e x lo hi=>if offV base ds (ev d s x) then .msk ds (.slc e x lo hi) else .slc e x lo hi
 | op=>op
def Je3(cx:Cx)(base:Nat):List (Nat×LOper)->List (Nat×LOper)->List (List Nat->Nat×LOper)->List Nat->S ι->(List (Nat×LOper)->List (Nat×LOper)->S ι->M α)->M α
 | [],acc,acc2,ds,s,k=>k acc.reverse (acc2.reverse.map λf=>f ds) s
 | p::r,acc,acc2,ds,s,k=>
  if J20 base p.2 s then d.no else
  J01 d cx base s p.2 λop s'=>Je3 cx base r ((p.1,{ p.2 with op:=op })::acc) ((λds=>(p.1,{ p.2 with op:=Jgd d s base p.2.dst op ds }))::acc2) (appT d s base p.2.dst op ds) s' k
def mustIn(cx:Cx):LOp->Bool
 | .callp f _=>(cx.ct f).isNone
 | .callv ..=>true
 | _=>false
def Jud(cx:Cx):List (Nat×LOper)->List (Nat×LOper)×List (Nat×LOper)
 | []=>([],[])
 | p::r=>match mustIn cx p.2.op with
  | true=>([],p::r)
  | false=>match Jud cx r with|(a,b)=>(p::a,b)
def addE(p:LE×S U):List (LE×S U)->List (LE×S U)
 | []=>[p]
 | q::r=>if p.1=q.1 then (q.1,joinS q.2 p.2)::r else q::addE p r
def exits(l:List (LE×S U)):List (LE×S U):=(l.foldl (λm p=>if p.1=.normal then m else addE p m) []).map λp=>(p.1,trimS p.2)
def heads(sh:S U)(l:List (LE×S U)):S U:=trimS (l.foldl (λm p=>if p.1=.normal then joinS m p.2 else m) sh)
def joinX(l:List (LE×S U)):List (LE×S U):=(l.foldl (λm p=>addE p m) []).map λp=>(p.1,trimS p.2)
def Jci:LC->Nat
 | .reg _ id _ _=>id
 | .seq a _=>Jci a
 | .cond _ a b=>match Aa (Jci a) 1000000000 with|true=>Jci b|false=>Jci a
 | .blk _ b=>Jci b
 | .loop b=>Jci b
 | .rng _ _ a _=>Jci a
 | .keys id _ _=>id
 | _=>1000000000
def fixS(run:S U->List (LE×S U)):Nat->S U->S U×List (LE×S U)
 | 0,sh=>(sh,exits (run sh))
 | n+1,sh=>
  let l:=run sh;let sh':=heads sh l
  if eqN (serS sh') (serS sh)=true then (sh',exits l) else fixS run n sh'
def S.kill{ι:Ty->Type}:List Nat->S ι->S ι
 | [],s=>s
 | x::r,s=>S.kill r (s.put (some x) (.c .any))
def unkC{ι:Ty->Type}(g:Nat):C ι->C ι
 | .k v=>match v.flat with
  | true=>.k v
  | false=>(match v with
   | .map a 0=>(match Aa a g with|true=>.map g 0|false=>.any)
   | _=>.any)
 | c=>c
def unkV{ι:Ty->Type}(g:Nat):V ι->V ι
 | .c x=>.c (unkC g x)
 | .ag l=>.ag (l.map (unkC g))
 | .tp []=>.tp []
 | .tp _=>.c .any
def Jnm{ι:Ty->Type}:C ι->Bool
 | .any=>true
 | .lf _ _=>true
 | .kb _=>true
 | .rp _ _ _=>true
 | .k v=>v.flat
 | _=>false
def unmo{ι:Ty->Type}(s:S ι):Option (S ι):=
 match s.mo with
 | none=>some s
 | some m=>if (s.ob.all λp=>p.2.kids.all Jnm)=true then some ⟨s.sl.map λp=>(p.1,unkV m.g p.2),s.lo.map λl=>l.map λp=>(p.1,unkV m.g p.2),(m.g,.mp 0 m.kt (.ls m.vt) m.es)::s.ob,s.ln,none⟩ else none
def Jps:List Nat:=[14,15,16,17,18,19,5,20,21,22,23,4]
def keysD(base:Nat)(el:TypeId)(bytes:Nat)(s:S ι)(k:S ι->M α):M α:=
 orNo d (unmo s) λs=>match mpAt s (s.at 3),s.at 4 with
 | some ⟨_,_,.p (.int .i64) (.int .i64),_,es⟩,.c (.k .nils)=>if s.has (base+23)=true then d.no else
  d.gd (d.ft bytes (d.ln es)) (d.mq es λl=>k ((((S.kill Jps s).obj (base+23) (.row 0 2 el (.p I I) l [] none false)).put (some 4) (.c (.own (base+23) 0)))))
 | _,_=>d.no
def resD(s:S ι):List RV->(List (V ι)->M α)->M α
 | [],k=>k []
 | .tmp t::r,k=>resD s r λl=>k (s.at t::l)
 | .cell t ag n::r,k=>loadD d s ag n (s.at t) λv=>resD s r λl=>k (v::l)
def V.toP:V ι->Bool×List (C ι)
 | .c x=>(false,[x])
 | .ag l=>(true,l)
 | .tp _=>(false,[])
def Jtz:List (V ι)->V ι
 | [v]=>v
 | l=>.tp (l.map V.toP)
end
def Jjs(h:List Nat)(ex:List (Nat×List Nat))(rt:List Nat):LE->List Nat
 | .normal=>h
 | .exit id=>Jcc ((look id ex).getD [])
 | .ret=>Jcc rt
def noYc{ι:Ty->Type}(j:Nat):C ι->Bool
 | .yl i=>!Aa i j
 | .k v=>v.flat
 | _=>true
def noYv{ι:Ty->Type}(j:Nat):V ι->Bool
 | .c x=>noYc j x
 | .ag l=>l.all (noYc j)
 | .tp l=>l.all λp=>p.2.all (noYc j)
def noYs{ι:Ty->Type}(j:Nat)(s:S ι):Bool:=(s.sl.all λp=>noYv j p.2)&&(s.lo.all λl=>l.all λp=>noYv j p.2)&&s.ob.all λp=>p.2.kids.all (noYc j)
def denC(mk:Cx->Inl)(cx:Cx)(base:Nat):LC->(n:List Nat)->(ex:List (Nat×List Nat))->(rt:List Nat)->{ι:Ty->Type}->{M:Type->Type}->{α:Type}->D ι M->S ι->(LE->S ι->M α)->M α
 | .skip,_,_,_,_,_,_,_,s,k=>k .normal s
 | .reg draw id ops l,n,_,_,_,_,_,d,s,k=>
  if draw then (match Jud cx l with
   | (_,[])=>Je3 d cx base l [] [] (newDs l++J4n d base s l l) s λm o s'=>if Jox ops m || Jox ops o then k .normal (Jor d cx.ty (cx.keep id) s.ob.length s') else d.no
   | (L,p::R)=>Je3 d cx base L [] [] [] s λm _ s'=>if Jq9 ops m ((p::R).map (·.1)) then Jdd d (mk { cx with rd:=false }) cx base n (p::R) s' λs''=>k .normal (Jor d cx.ty (cx.keep id) s.ob.length s'') else d.no)
  else Jdd d (mk { cx with rd:=false }) cx base n l s λs'=>k .normal (Jor d cx.ty (cx.keep id) s.ob.length s')
 | .seq a b,n,ex,rt,_,_,_,d,s,k=>match cx.jn (base * 1000+Jci b) with
  | false=>denC mk cx base a (Zy b n ex rt) ex rt d s λe s'=>match e with
   | .normal=>denC mk cx base b n ex rt d s' k
   | e=>k e s'
  | true=>d.join (joinX (denC mk cx base a (Zy b n ex rt) ex rt (α:=Unit) stat (erS s) λe s'=>[(e,Jgo stat (Jjs (Jcc (Zy b n ex rt)) ex rt e) s')]))
    (λe s'=>Jgo d (Jjs (Jcc (Zy b n ex rt)) ex rt e) s') (λk'=>denC mk cx base a (Zy b n ex rt) ex rt d s k') λe s'=>match e with
   | .normal=>denC mk cx base b n ex rt d s' k
   | e=>k e s'
 | .cond c a b,n,ex,rt,_,_,_,d,s,k=>match ev d s c with
  | .c (.kb t)=>if t then denC mk cx base a n ex rt d s k else denC mk cx base b n ex rt d s k
  | .c (.lf .bool t)=>(match c with
   | .t x=>d.br t (denC mk cx base a n ex rt d (s.put (some x) (.c (.kb true))) k) (denC mk cx base b n ex rt d (s.put (some x) (.c (.kb false))) k)
   | _=>d.no)
  | _=>d.no
 | .blk id b,n,ex,rt,_,_,_,d,s,k=>denC mk cx base b n ((id,n)::ex) rt d s λe s'=>if e=.exit id then k .normal s' else k e s'
 | .loop b,_,ex,rt,_,_,_,d,s,k=>
  let h:=Jcc (Zy b [] ex rt);let s0:=Jgo d h s
  match fixS (λsh=>denC mk cx base b h ex rt (α:=Unit) stat sh λe s'=>[(e,Jgo stat (Jjs h ex rt e) s')]) 4 (erS s0) with
  | (sh,xs)=>d.loop sh xs (λe s'=>Jgo d (Jjs h ex rt e) s') (λs' k'=>denC mk cx base b h ex rt d s' k') s0 k
 | .exit id,_,_,_,_,_,_,_,s,k=>k (.exit id) s
 | .ret,_,_,_,_,_,_,_,s,k=>k .ret s
 | .keys _ el bytes,_,_,_,_,_,_,d,s,k=>keysD d base el bytes s λs'=>k .normal s'
 | .rng g ps a b,n,_,_,_,_,_,d,s,k=>match ev d s g with
  | .c (.fn f caps)=>if cx.rd=false/\Ax yB f=false/\noYs s.lo.length s=true then
    mk { cx with hs:=(s.lo.length,⟨base,ps,a,b⟩)::cx.hs,rd:=false } d f ((base+ps.headD 0+1) * 4096) (.c (.yl s.lo.length)::caps.map λc=>.c (.ptr c.1 c.2.1 c.2.2))
     (s.push (Jcc (adds ((Zy a (Zy b [] [] []) [] []).filter λx=>!memN x ps) n)) []) λ_ s'=>if noYs s.lo.length s'=true then k .normal s' else d.no
   else d.no
  | _=>d.no
def J0c(mk:Cx->Inl)(cx:Cx)(base:Nat)(a b:LC){ι:Ty->Type}{M:Type->Type}{α:Type}(d:D ι M)(s:S ι)(k:LE->S ι->M α):M α:=
 denC mk cx base a (Zy b [] [] []) [] [] d s λe s'=>match e with
  | .normal=>denC mk cx base b [] [] [] d s' k
  | e=>k e s'
def psSl{ι:Ty->Type}:List Nat->List (V ι)->List (Nat×V ι)
 | p::ps,v::vs=>(p,v)::psSl ps vs
 | _,_=>[]
def Jqv{ι:Ty->Type}{M:Type->Type}{α:Type}(mk:Cx->Inl)(cx:Cx)(d:D ι M)(f:FuncId)(base:Nat)(vs:List (V ι))(s:S ι)(k:V ι->S ι->M α):M α:=
 match Ax yB f with
 | true=>(match look (f - yB) cx.hs,s.lo with
  | some h,_::c::r=>if r.length=f - yB/\vs.length=h.ps.length then
    J0c mk { cx with hs:=cx.hs.filter (λp=>Nat.blt p.1 (f - yB)),rd:=true } h.base h.a h.b d ⟨psSl h.ps vs++c,s.lo,s.ob,s.ln,s.mo⟩ λe s'=>match e with
     | .normal=>k (.c (.kb true)) s'.pop
     | _=>d.no
   else d.no
  | _,_=>d.no)
 | false=>match cx.code f with
  | none=>d.no
  | some lf=>if vs.length=lf.np then
    denC mk cx base lf.body (lf.res.map RV.slot) [] (lf.res.map RV.slot) d ⟨Jm9 0 vs,s.lo,s.ob,s.ln,s.mo⟩ λe s'=>match e with
     | .exit _=>d.no
     | _=>resD d s' lf.res λl=>k (Jtz l) s'.pop
   else d.no
def den:Nat->Cx->Inl
 | 0,_=>λd _ _ _ _ _=>d.no
 | n+1,cx=>λd f base vs s k=>match cx.bi f with
  | some B=>B.run d f base vs s k
  | none=>Jqv (den n) cx d f base vs s k
class W where
 ar:BinOp->IntKind->Int->Int->Int
 cm:BinOp->Int->Int->Bool
 sh:BinOp->IntKind->Int->Int->Int
 cv:IntKind->Int->Int
 mx:Int->Int->Int
 mn:Int->Int->Int
 ng:IntKind->Int->Int
 nt:Bool->Bool
 an:Bool->Bool->Bool
 be:Bool->Bool->Bool
 ln:{α:Type}->List α->Int
 lS:ByteArray->Int
 pl:Int->Int->Int
 mi:Int->Int->Int
 ib:Int->Int->Bool
 le:Int->Int->Bool
 ft:Nat->Int->Bool
 ap:{α:Type}->List α->List α->List α
 ct:{α:Type}->List α->Int->Int->List α
 st:{α:Type}->List α->Int->α->List α
 rp:{α:Type}->α->Int->List α
 ml:{α:Type}->List α->(α->α)->List α
 mg:{a b:Ty}->List (a.T×b.T)->a.T->b.T->b.T
 mf:{a b:Ty}->List (a.T×b.T)->a.T->Bool
 ms:{a b:Ty}->List (a.T×b.T)->a.T->b.T->List (a.T×b.T)
 md:{a b:Ty}->List (a.T×b.T)->a.T->List (a.T×b.T)
 br:{α:Type}->Bool->Option α->Option α->Option α
 gd:{α:Type}->Bool->Option α->Option α
 ge:{α β:Type}->List β->Int->(β->Option α)->Option α
 nq:{α:Type}->Int->(Bool->Option α)->Option α
 mq:{α:Type}->{a b:Ty}->List (a.T×b.T)->(List a.T->Option α)->Option α
 call:{α:Type}->(c:Ctr)->c.aT.T->(c.rT.T->Option α)->Option α
 loop:{A B α:Type}->(A->Option (Nx A B))->A->(B->Option α)->Option α
 join:{B α:Type}->Option B->(B->Option α)->Option α
def dL(w:W):D Ty.T Option where
 int _ n:=n
 bool b:=b
 str s:=s
 nl t:=([]:List t.T)
 un:=()
 pr a b:=(a,b)
 fs v:=v.1
 sn v:=v.2
 ar o k a b:=w.ar o k a b
 cm o _ a b:=w.cm o a b
 sh o k _ a b:=w.sh o k a b
 cv _ k' a:=w.cv k' a
 mm b _ _ x y:=match b with|true=>w.mx x y|false=>w.mn x y
 ng k a:=w.ng k a
 nt a:=w.nt a
 an a b:=w.an a b
 be a b:=w.be a b
 ln {t} v:=w.ln (α:=t.T) v
 ls s:=w.lS s
 bf _ v:=v
 ub v:=v
 pl a b:=w.pl a b
 mi a b:=w.mi a b
 ib i n:=w.ib i n
 le a b:=w.le a b
 ft b n:=w.ft b n
 cs {t} x l:=List.cons (α:=t.T) x l
 ap {t} l m:=w.ap (α:=t.T) l m
 ct {t} l a n:=w.ct (α:=t.T) l a n
 st {t} l i x:=w.st (α:=t.T) l i x
 rp {t} x n:=w.rp (α:=t.T) x n
 ml {t} l f:=w.ml (α:=t.T) l f
 mg {a b} l k z:=w.mg (a:=a) (b:=b) l k z
 mf {a b} l k:=w.mf (a:=a) (b:=b) l k
 ms {a b} l k v:=w.ms (a:=a) (b:=b) l k v
 md {a b} l k:=w.md (a:=a) (b:=b) l k
 br t x y:=w.br t x y
 gd t x:=w.gd t x
 no:=none
 ge {_ t} l i k:=w.ge (β:=t.T) l i k
 nq n k:=w.nq n k
 mq {_ a b} l k:=w.mq (a:=a) (b:=b) l k
 call c a k:=w.call c a k
 join _ _ _ _:=none
 loop _ _ _ _ _ _:=none
section
variable {ι:Ty->Type} {M:Type->Type} (d:D ι M) (ob:List (Nat×Ob ι))
def fitC{r:List Ty}(h:HL ι r):(c:C U)->C ι->Option (HL ι (ltC r c))
 | .any,_=>some h
 | .lf t _,c=>(Yo d ob 4 t c).map λv=>⟨v,h⟩
 | .kb b,.kb B=>if b=B then some h else none
 | .k .nils,.k .nils=>some h
 | .k .nilp,.k .nilp=>some h
 | .k .nilf,.k .nilf=>some h
 | .k .nilm,.k .nilm=>some h
 | .own g v,.own m l=>if g=m/\v=l then some h else none
 | .own g _,.k .nils=>if (look g ob).isNone then some h else none
 | .part g v _ _,.part m l a b=>if g=m/\v=l then some ⟨a,b,h⟩ else none
 | .ptr g v o,.ptr m l o'=>if g=m/\v=l/\o=o' then some h else none
 | .pti g v e _ o,.pti m l A i o'=>if g=m/\v=l/\e=A/\o=o' then some ⟨i,h⟩ else none
 | .rp t _ o,.rp w v o'=>if o=o' then (cast? w t v).map λv=>⟨v,h⟩ else none
 | .fn f c,.fn f' c'=>if f=f'/\c=c' then some h else none
 | .map g v,.map m l=>if g=m/\v=l then some h else none
 | .yl j,.yl y=>if j=y then some h else none
 | .k (.map g v),.k (.map m l)=>if g=m/\v=l then some h else none
 | _,_=>none
def Jnn{r:List Ty}(h:HL ι r):(l:List (C U))->List (C ι)->Option (HL ι (ltCs r l))
 | [],[]=>some h
 | c::l,x::m=>(Jnn h l m).bind λh=>fitC d ob h c x
 | _,_=>none
def fitP{r:List Ty}(h:HL ι r):(l:List (Bool×List (C U)))->List (Bool×List (C ι))->Option (HL ι (ltP r l))
 | [],[]=>some h
 | (a,p)::l,(b,x)::m=>if a=b then (fitP h l m).bind λh=>Jnn d ob h p x else none
 | _,_=>none
def fitV{r:List Ty}(h:HL ι r):(v:V U)->V ι->Option (HL ι (ltV r v))
 | .c x,.c y=>fitC d ob h x y
 | .c .any,_=>some h
 | .ag l,.ag m=>Jnn d ob h l m
 | .tp l,.tp m=>fitP d ob h l m
 | _,_=>none
def fitN{r:List Ty}(h:HL ι r):(n:Option (Nat×C U))->Option (Nat×C ι)->Option (HL ι (ltN r n))
 | none,none=>some h
 | some (a,p),some (b,q)=>if a=b then fitC d ob h p q else none
 | none,some _=>some h
 | _,_=>none
def fitO{r:List Ty}(h:HL ι r):(o:Ob U)->Ob ι->Option (HL ι (ltO r o))
 | .box v cs,.box a cs'=>if v=a then Jnn d ob h cs cs' else none
 | .lit v e el cs z,.lit a g el' cs' m=>if v=a/\e=g/\el=el'/\z=m then Jnn d ob h cs cs' else none
 | .row v e el t _ x nest fz,.row a g el' f l w nest' fz'=>
  if v=a/\e=g/\el=el'/\fz=fz' then
   (fitN d ob h nest nest').bind λh=>(Jnn d ob h x w).bind λh=>(match nest,nest' with
    | none,some (off,c)=>(mlN d (Yo d ob 4) f l (some (off,c))).bind λl=>(cast? (.ls f) (.ls t) l).map λl=>⟨l,h⟩
    | some _,none=>none
    | _,_=>(cast? (.ls f) (.ls t) l).map λl=>⟨l,h⟩)
  else none
 | .mp v kt vt _,.mp a kt' vt' es=>if v=a then (cast? (.ls (.p kt' vt')) (.ls (.p kt vt)) es).map λl=>⟨l,h⟩ else none
 | _,_=>none
def J0i{r:List Ty}(h:HL ι r):(o:Ob U)->Option (HL ι (ltO r o))
 | .row _ _ _ _ _ [] none _=>some ⟨d.nl _,h⟩
 | .row _ _ _ _ _ [] (some (_,.own _ _)) _=>some ⟨d.nl _,h⟩
 | _=>none
def Jrj{r:List Ty}(h:HL ι r)(sl:List (Nat×V ι)):(l:List (Nat×V U))->Option (HL ι (ltSl r l))
 | []=>some h
 | (a,p)::l=>(Jrj h sl l).bind λh=>fitV d ob h p ((look a sl).getD (.c .any))
def Jv6{r:List Ty}(h:HL ι r):(l:List (Nat×Ob U))->Option (HL ι (ltOb r l))
 | []=>some h
 | (a,p)::l=>(Jv6 h l).bind λh=>match look a ob with|some o=>fitO d ob h p o|none=>J0i d h p
end
def Jss{ι:Ty->Type}{M:Type->Type}{r:List Ty}(d:D ι M)(ob:List (Nat×Ob ι))(h:HL ι r):(l:List (List (Nat×V U)))->List (List (Nat×V ι))->Option (HL ι (ltLo r l))
 | [],[]=>some h
 | p::l,q::m=>(Jss d ob h l m).bind λh=>Jrj d ob h q p
 | _,_=>none
def readC{ι:Ty->Type}(ob:List (Nat×Ob ι)):C U->C ι->List Nat
 | .lf _ _,c=>Kd ob 4 c
 | _,_=>[]
def Jlb{ι:Ty->Type}(ob:List (Nat×Ob ι)):List (C U)->List (C ι)->List Nat
 | c::l,x::m=>readC ob c x++Jlb ob l m
 | _,_=>[]
def readP{ι:Ty->Type}(ob:List (Nat×Ob ι)):List (Bool×List (C U))->List (Bool×List (C ι))->List Nat
 | (_,p)::l,(_,x)::m=>Jlb ob p x++readP ob l m
 | _,_=>[]
def readV{ι:Ty->Type}(ob:List (Nat×Ob ι)):V U->V ι->List Nat
 | .c x,.c y=>readC ob x y
 | .ag l,.ag m=>Jlb ob l m
 | .tp l,.tp m=>readP ob l m
 | _,_=>[]
def Jzg{ι:Ty->Type}(ob:List (Nat×Ob ι)):Ob U->Ob ι->List Nat
 | .box _ cs,.box _ cs'=>Jlb ob cs cs'
 | .lit _ _ _ cs _,.lit _ _ _ cs' _=>Jlb ob cs cs'
 | .row _ _ _ _ _ x nest _,.row _ _ _ _ _ a nest' _=>Jlb ob x a++(match nest,nest' with|some p,some q=>readC ob p.2 q.2|none,some q=>Kd ob 4 q.2|_,_=>[])
 | _,_=>[]
def Jsb{ι:Ty->Type}(ob:List (Nat×Ob ι))(l:List (Nat×V U))(sl:List (Nat×V ι)):List Nat:=l.flatMap λp=>readV ob p.2 ((look p.1 sl).getD (.c .any))
def J37{ι:Ty->Type}(ob:List (Nat×Ob ι)):List (List (Nat×V U))->List (List (Nat×V ι))->List Nat
 | p::l,q::m=>Jsb ob p q++J37 ob l m
 | _,_=>[]
def Jr3{ι:Ty->Type}(sh:S U)(s:S ι):List Nat:=
 Jsb s.ob sh.sl s.sl++J37 s.ob sh.lo s.lo++sh.ob.flatMap λp=>match look p.1 s.ob with|some o=>Jzg s.ob p.2 o|none=>[]
def S.shut(sh:S U):Bool:=
 ((sh.sl++sh.lo.flatten).all λp=>match p.2 with|.c x=>ok x|.ag l=>l.all ok|.tp l=>l.all λq=>q.2.all ok)&&sh.ob.all λp=>p.2.kids.all ok
where ok (c:C U):Bool:=((refs c).all λr=>match look r.1 sh.ob with|some o=>o.ver==r.2|none=>false)&&(match c with|.k v=>v.flat || moC sh.mo v|_=>true)
def fitMo{ι:Ty->Type}{M:Type->Type}(d:D ι M):(m:Option (Mo U))->Option (Mo ι)->Option (HL ι (ltMo m))
 | none,none=>some ()
 | some m,some a=>if m.g=a.g/\m.el=a.el then (cast? (.ls (.p a.kt (.ls a.vt))) (.ls (.p m.kt (.ls m.vt))) a.es).map λl=>⟨l,()⟩ else none
 | _,_=>none
def S.fit{ι:Ty->Type}{M:Type->Type}(d:D ι M)(sh:S U)(s:S ι):Option (HL ι sh.lt):=
 if sh.shut/\(Jr3 sh s).all (λg=>(look g sh.ob).isNone&&!moN s.mo g)=true/\sh.ob.all (λp=>!moN sh.mo p.1)=true then (fitMo d sh.mo s.mo).bind λh=>(Jv6 d s.ob h sh.ob).bind λh=>(Jss d s.ob h sh.lo s.lo).bind λh=>Jrj d s.ob h s.sl sh.sl else none
def exIn{ι:Ty->Type}{M:Type->Type}(d:D ι M):(ex:List (LE×S U))->LE->S ι->Option (Ex ι ex)
 | [],_,_=>none
 | [(a,p)],e,s=>if a=e then p.fit d s else none
 | (a,p)::q::r,e,s=>if a=e then (p.fit d s).map Sum.inl else (exIn d (q::r) e s).map Sum.inr
def Jz6{ι:Ty->Type}{β:Type}(k:LE->S ι->β):(ex:List (LE×S U))->Ex ι ex->β
 | [],h=>nomatch h
 | [(a,p)],h=>k a (p.mk' h)
 | (a,p)::q::r,h=>Sum.casesOn (motive:=λ_=>β) (show HL ι p.lt ⊕ Ex ι (q::r) from h) (λx=>k a (p.mk' x)) (λx=>Jz6 k (q::r) x)
def loopV(w:W)(d:D Ty.T Option){α:Type}(sh:S U)(ex:List (LE×S U))(cn:LE->S Ty.T->S Ty.T)
  (body:S Ty.T->(LE->S Ty.T->Option (Nx (HL Ty.T sh.lt) (Ex Ty.T ex)))->Option (Nx (HL Ty.T sh.lt) (Ex Ty.T ex))) (ent:S Ty.T) (k:LE->S Ty.T->Option α):Option α:=
 match sh.fit d ent with
 | none=>none
 | some a=>w.loop (λh=>body (sh.mk' h) λe s'=>match e with
  | .normal=>(sh.fit d (cn .normal s')).map Nx.go
  | e=>(exIn d ex e (cn e s')).map Nx.out) a (Jz6 k ex)
def dW(w:W):D Ty.T Option:={ dL w with loop:=λsh ex cn body ent k=>loopV w (dL w) sh ex cn body ent k,join:=λex cn body k=>w.join (body λe s'=>exIn (dL w) ex e (cn e s')) (Jz6 k ex) }
def Jed{α β:Type}(x:Option α)(k:α->Option β):Option β:=match x with|some v=>k v|none=>none
def iar(o:BinOp)(k:IntKind)(a b:Int):Int:=
 match o with
 | .add=>k.wrap (a+b)
 | .sub=>k.wrap (a - b)
 | .mul=>k.wrap (a * b)
 | .quo=>k.wrap (a.tdiv b)
 | .rem=>a.tmod b
 | .and=>bits .and k a b
 | .or=>bits .or k a b
 | .xor=>bits .xor k a b
 | .andNot=>bits .andNot k a b
 | _=>0
def icm(o:BinOp)(a b:Int):Bool:=
 match o with
 | .eql=>a==b
 | .neq=>a != b
 | .lss=>decide (a<b)
 | .leq=>decide (a<=b)
 | .gtr=>decide (a > b)
 | .geq=>decide (a>=b)
 | _=>false
def ish(o:BinOp)(k:IntKind)(a b:Int):Int:=
 match o with
 | .shl=>k.wrap (a * 2 ^ (min b.toNat k.bits))
 | .shr=>a.fdiv (2 ^ (min b.toNat k.bits))
 | _=>0
def fget{α:Type}(l:List α)(i:Int):Option α:=if 0<=i then l[i.toNat]? else none
def Xd{α:Type}:List α->(α->α)->List α
 | [],_=>[]
 | [x],f=>[f x]
 | x::y::r,f=>x::Xd (y::r) f
def Yl{A B:Type}(b:A->Option (Nx A B)):Nat->A->Option B
 | 0,_=>none
 | n+1,s=>match b s with
  | none=>none
  | some (.go s')=>Yl b n s'
  | some (.out e)=>some e
def bigN:Nat:=18446744073709551616
def Ty.eqb:(t:Ty)->t.T->t.T->Bool
 | .int _,x,y=>(show Int from x)==(show Int from y)
 | .bool,x,y=>(show Bool from x)==(show Bool from y)
 | .u,_,_=>true
 | .p a b,x,y=>a.eqb x.1 y.1&&b.eqb x.2 y.2
 | _,_,_=>false
def Zl{a b:Ty}(k:a.T):List (a.T×b.T)->Option b.T
 | []=>none
 | e::r=>if a.eqb k e.1=true then some e.2 else Zl k r
def mSet{a b:Ty}(k:a.T)(v:b.T):List (a.T×b.T)->List (a.T×b.T)
 | []=>[(k,v)]
 | e::r=>if a.eqb k e.1=true then (k,v)::r else e::mSet k v r
def mDel{a b:Ty}(k:a.T):List (a.T×b.T)->List (a.T×b.T)
 | []=>[]
 | e::r=>if a.eqb k e.1=true then r else e::mDel k r
open Classical in
noncomputable def nlv{α:Type}(n:Int)(k:Bool->Option α):Option α:=if n=0 then (if k true=k false then k false else none) else k false
open Classical in
noncomputable def mqv{α β:Type}(l:List α)(k:List α->Option β):Option β:=if h:∃v,∀p:List α,p.Perm l->k p=some v then some h.choose else none
@[reducible] noncomputable def wv:W where
 ar:=iar
 cm:=icm
 sh:=ish
 cv:=IntKind.wrap
 mx a b:=if b > a then b else a
 mn a b:=if b<a then b else a
 ng k a:=k.wrap (0 - a)
 nt a:=!a
 an a b:=a&&b
 be a b:=a==b
 ln l:=l.length
 lS s:=s.size
 pl a b:=a+b
 mi a b:=a - b
 ib i n:=decide (0<=i/\i<n)
 le a b:=decide (a<=b)
 ft b n:=decide (n * b<=room/\n<=9223372036854775807)
 ap l m:=l++m
 ct l a n:=(l.drop a.toNat).take n.toNat
 st l i x:=l.set i.toNat x
 rp x n:=Dk n.toNat x
 ml:=Xd
 mg l k z:=(Zl k l).getD z
 mf l k:=(Zl k l).isSome
 ms l k v:=mSet k v l
 md l k:=mDel k l
 br c x y:=if c=true then x else y
 gd c x:=if c=true then x else none
 ge l i k:=Jed (fget l i) k
 nq:=nlv
 mq {_ a _} l k:=mqv (α:=a.T) (l.map (·.1)) k
 call c a k:=Jed (c.fn a) k
 loop b a k:=Jed (Yl b bigN a) k
 join x k:=Jed x k
noncomputable abbrev val:D Ty.T Option:=dW wv
def akOf(P:Program)(t:TypeId):Option (AK×Ty):=
 match P.underlying t with
 | some (.pointer e)=>(tyOf P 8 e).map λt=>(.rp,t)
 | some (.struct _)|some (.array _ _)=>(tyOf P 8 t).map λt=>(.ag,t)
 | some _=>(tyOf P 8 t).map λt=>(.one,t)
 | none=>none
def argV{ι:Ty->Type}{M:Type->Type}(d:D ι M)(a:AK×Ty)(v:ι a.2):V ι:=
 match a.1 with
 | .one=>(match expl d a.2 v with | [c]=>.c c|_=>.c .any)
 | .ag=>.ag (expl d a.2 v)
 | .rp=>.c (.rp a.2 v 0)
def Jnc{ι:Ty->Type}{M:Type->Type}(d:D ι M):(as:List (AK×Ty))->ι (Yu (as.map (·.2)))->List (V ι)
 | [],_=>[]
 | [a],v=>[argV d a v]
 | a::b::r,v=>argV d a (d.fs v)::Jnc d (b::r) (d.sn v)
def rk(a:Bool×Ty):AK×Ty:=(if a.1 then .ag else .one,a.2)
def resGo{ι:Ty->Type}{M:Type->Type}{α:Type}(d:D ι M)(ob:List (Nat×Ob ι)):(rs:List (Bool×Ty))->List (V ι)->(ι (Yu (rs.map (·.2)))->M α)->M α
 | [],[],k=>k d.un
 | [a],[v],k=>argL d ob (rk a) v k
 | a::b::r,v::w,k=>argL d ob (rk a) v λx=>resGo d ob (b::r) w λy=>k (d.pr x y)
 | _,_,_=>d.no
def Juj{ι:Ty->Type}(rs:List (Bool×Ty))(v:V ι):List (V ι):=match rs,v with
 | [_],v=>[v]
 | _,.tp l=>l.map Jca
 | _,v=>[v]
def resL{ι:Ty->Type}{M:Type->Type}{α:Type}(d:D ι M)(ob:List (Nat×Ob ι))(rs:List (Bool×Ty))(v:V ι)(k:ι (Yu (rs.map (·.2)))->M α):M α:=resGo d ob rs (Juj rs v) k
def fnD(d:D Ty.T Option)(cx:Cx)(n:Nat)(f:FuncId)(as:List (AK×Ty))(rs:List (Bool×Ty))(a:(Yu (as.map (·.2))).T):Option (Yu (rs.map (·.2))).T:=
 den n cx d f 0 (Jnc d as a) ⟨[],[[]],[],[],none⟩ λv s=>resL d s.ob rs v some
structure OCt where
 id:Nat
 as:List (AK×Ty)
 el:TypeId
 t:Ty
 fn:(Yu (as.map (·.2))).T->Option (List t.T)
def OCt.ctr(c:OCt):Ctr:=⟨c.id,c.as,[(false,.ls c.t)],c.fn⟩
def Jqn{ι:Ty->Type}(s:S ι)(vs:List (V ι)):List Nat:=vs.flatMap λv=>v.cells.flatMap (Kd s.ob 4)
def OCt.bi(c:OCt):Bi:=⟨λ{ι M α} d _ base vs s k=>Jzh d s.ob c.as vs λa=>
 if vs.any Jwh || s.has base then d.no else
  d.call c.ctr a λl=>k (.c (.own base 0)) ((Kt s (Jqn s vs)).obj base (.row 0 c.t.sz c.el c.t (show ι (.ls c.t) from l) [] none false)).pop⟩
def resO{ι:Ty->Type}{M:Type->Type}{α:Type}(d:D ι M)(ob:List (Nat×Ob ι))(t:Ty)(el:TypeId)(v:V ι)(k:ι (.ls t)->M α):M α:=
 match v with
 | .c (.k .nils)=>k (d.nl t)
 | .c (.own g ver)=>(match look g ob with
  | some (.row v e el' a l [] none false)=>if v=ver/\e=a.sz/\0<e/\el'=el then orNo d (cast? (.ls a) (.ls t) l) k else d.no
  | _=>d.no)
 | _=>d.no
def fnO(d:D Ty.T Option)(cx:Cx)(n:Nat)(f:FuncId)(as:List (AK×Ty))(t:Ty)(el:TypeId)(a:(Yu (as.map (·.2))).T):Option (List t.T):=
 den n cx d f 0 (Jnc d as a) ⟨[],[[]],[],[],none⟩ λv s=>resO d s.ob t el v some
def Ctr.bi(c:Ctr):Bi:=⟨λ{ι M α} d _ base vs s k=>Jzh d s.ob c.as vs λa=>
 if vs.any Jwh then d.no else d.call c a λr=>k (Jcy d c.rs r) (Kt s (Jqn s vs)).pop⟩
def addB(hT:TypeId)(bytes:Nat):Bi:=⟨λ{ι M α} d _ _ vs s k=>match vs,s.mo with
 | [.c (.k (.map g 0)),kv,f],some ⟨a,.p (.int .i64) (.int .i64),.int .i64,el,es⟩=>
  if g=a/\el=hT then orNo d (keyD d true (.p I I) kv) λkk=>orNo d (keyD d false I f) λh=>
   d.gd (d.ft bytes (d.pl (d.ln (d.mg es kk (d.nl I))) (d.int .i64 1))) (k (.tp []) (⟨s.sl,s.lo,s.ob,s.ln,some ⟨a,.p I I,I,el,d.ms es kk (d.ap (d.mg es kk (d.nl I)) (d.cs h (d.nl I)))⟩⟩:Dn.S ι).pop)
  else d.no
 | _,_=>d.no⟩
def cptS(o:List Int)(x:Int):List Int:=if o.getLast?=some x then o else o++[x]
def cptF(l:List Int):List Int:=l.foldl cptS []
def cmpC(id:Nat):Ctr:=⟨1000000+id * 1000+999,[(.one,.ls I)],[(false,.ls I)],λl=>some (cptF l)⟩
def compB(id:Nat)(el:TypeId):Bi:=⟨λ{ι M α} d _ _ vs s k=>match vs with
 | [.c (.own g ver)]=>(match look g s.ob with
  | some (.row v e el' (.int .i64) l [] none false)=>if v=ver/\e=1/\el'=el then
    d.call (cmpC id) (show ι (cmpC id).aT from l) λm=>k (.c (.lf (.ls I) (show ι (.ls I) from m))) ((s.old g v (d.ln l)).obj g (.row (v+1) 1 el I (show ι (.ls I) from m) [] none true)).pop
   else d.no
  | _=>d.no)
 | [.c (.k .nils)]=>k (.c (.k .nils)) s.pop
 | _=>d.no⟩
abbrev ixC(id:FuncId)(fn:List Int×Int->Option Int):Ctr:=⟨id,[(.one,.ls I),(.one,I)],[(false,I)],fn⟩
section
variable {ι:Ty->Type} {M:Type->Type} {α:Type} (d:D ι M)
def takeS(s:S ι)(g w:Nat)(bytes:Nat)(es:ι (.ls (.p (.p I I) (.ls I))))(kk:ι (.p I I))(l:ι (.ls I))(i j:ι I)(k:V ι->S ι->M α):M α:=
 d.br (d.cm .lss .i64 i (d.int .i64 0)) (k (.c (.kb false)) s.pop)
  (d.br (d.cm .eql .i64 (d.ln l) (d.int .i64 1)) (k (.c (.kb true)) (s.obj g (.mp w (.p I I) (.ls I) (d.md es kk))).pop)
   (d.gd (d.ft bytes (d.ln l)) (d.gd (d.an (d.ib i (d.ln l)) (d.an (d.le (d.pl i (d.int .i64 1)) j) (d.le j (d.ln l))))
    (k (.c (.kb true)) (s.obj g (.mp w (.p I I) (.ls I) (d.ms es kk (d.ap (d.ct l (d.int .i64 0) i) (d.ct l j (d.mi (d.ln l) j)))))).pop))))
end
def takeB(bytes:Nat)(ix:FuncId)(fn:List Int×Int->Option Int):Bi:=⟨λ{ι M α} d _ _ vs s k=>match vs with
 | [.c (.map g ver),kv,a]=>(match look g s.ob with
  | some (.mp w (.p (.int .i64) (.int .i64)) (.ls (.int .i64)) es)=>
   if w=ver then orNo d (keyD d true (.p I I) kv) λkk=>orNo d (keyD d false I a) λf=>
    d.call (ixC ix fn) (show ι (ixC ix fn).aT from d.pr (d.mg es kk (d.nl I)) f) λi=>takeS d s g w bytes es kk (d.mg es kk (d.nl I)) i (d.ar .add .i64 i (d.int .i64 1)) k
   else d.no
  | _=>d.no)
 | _=>d.no⟩
def tyM(P:Program)(mo:List Nat)(t:TypeId):Option Ty:=match Ax 1000000000 t with
 | true=>(match memN (t - 1000000000) mo with|true=>some .bool|false=>none)
 | false=>tyOf P 8 t
def okC(s:S Ty.T)(c:C Ty.T):Prop:=∀r∈refs c,∃o,look r.1 s.ob=some o/\r.2<=o.ver
def okCs(s:S Ty.T)(l:List (C Ty.T)):Prop:=∀c∈l,okC s c
def V.all:V Ty.T->List (C Ty.T)
 | .c x=>[x]
 | .ag l=>l
 | .tp l=>l.flatMap (·.2)
def okV(s:S Ty.T)(v:V Ty.T):Prop:=okCs s v.all
structure Inv (s:S Ty.T):Prop where
 sl:∀p∈s.sl,okV s p.2
 lo:∀l∈s.lo,∀p∈l,okV s p.2
 ob:∀g o,look g s.ob=some o->okCs s o.kids
 mo:∀m,s.mo=some m->m.g<mB/\0<m.vt.sz/\∀g o,look g s.ob=some o->moN s.mo g=false
structure Stab (s s':S Ty.T):Prop where
 sl:s'.sl=s.sl
 lo:s'.lo=s.lo
 ok:∀c,okC s c->okC s' c/\encC s' c=encC s c
theorem Stab.refl(s:S Ty.T):Stab s s:=⟨rfl,rfl,λ_ h=>⟨h,rfl⟩⟩
theorem Stab.trans{a b c:S Ty.T}(h:Stab a b)(k:Stab b c):Stab a c:=
 ⟨k.sl.trans h.sl,k.lo.trans h.lo,λx hx=>⟨(k.ok x (h.ok x hx).1).1,((k.ok x (h.ok x hx).1).2).trans (h.ok x hx).2⟩⟩
theorem Xq{α:Type}{d:Nat}:∀ {l:List (Nat×α)} {v:α},look d l=some v->(d,v)∈l
 | [],_,h=>by cases h
 | (n,x)::r,v,h=>by
  simp only [look] at h;cases a:Aa n d with
  | true=>rw [a] at h;injection h with h;subst h;have:=Bp a;subst this;exact .head _
  | false=>rw [a] at h;exact .tail _ (Xq h)
theorem Kb{α:Type}(n d:Nat)(v:α)(l:List (Nat×α)):look d ((n,v)::l)=if n=d then some v else look d l:=by
 simp only [look];cases a:Aa n d with
 | true=>rw [if_pos (Bp a)]
 | false=>rw [if_neg (Nat.ne_of_beq_eq_false a)]
theorem Inv.at{s:S Ty.T}(h:Inv s)(d:Nat):okV s (s.at d):=by
 unfold S.at;cases hl:look d s.sl with
 | none=>intro c a;simp [V.all] at a;subst a;intro r hr;simp [refs] at hr
 | some v=>exact h.sl _ (Xq hl)
theorem Stab.okV{s s':S Ty.T}(h:Stab s s'){v:V Ty.T}(a:okV s v):Dn.okV s' v:=λc d=>(h.ok c (a c d)).1
theorem Stab.encCs{s s':S Ty.T}(h:Stab s s'){l:List (C Ty.T)}(a:okCs s l):l.map (encC s')=l.map (encC s):=Ai λc d=>(h.ok c (a c d)).2
theorem Stab.encV{s s':S Ty.T}(h:Stab s s'){v:V Ty.T}(a:Dn.okV s v):Dn.encV s' v=Dn.encV s v:=by
 cases v with
 | c x=>exact (h.ok x (a x (by simp [V.all]))).2
 | ag l=>simp only [Dn.encV];rw [h.encCs (show okCs s l from a)]
 | tp l=>
  simp only [Dn.encV]
  congr 1
  refine Ai λp d=>?_;have:okCs s p.2:=λc f=>a c (List.mem_flatMap.2 ⟨p,d,f⟩);rw [h.encCs this]
theorem Inv.stab{s s':S Ty.T}(hi:Inv s)(h:Stab s s')(v:∀g o,look g s'.ob=some o->look g s.ob=some o\/okCs s' o.kids/\moN s.mo g=false)(hmo:s'.mo=s.mo):Inv s' where
 sl p f:=h.okV (hi.sl p (h.sl▸f))
 lo l hl p f:=h.okV (hi.lo l (h.lo▸hl) p f)
 ob g o r:=by
  rcases v g o r with a|a
  ·exact λc w=>(h.ok c (hi.ob g o a c w)).1
  ·exact a.1
 mo m d:=by
  rw [hmo] at d ⊢;refine ⟨(hi.mo m d).1,(hi.mo m d).2.1,λg o r=>?_⟩;rcases v g o r with a|a
  ·exact (hi.mo m d).2.2 g o a
  ·exact a.2
theorem Inv.free{s:S Ty.T}(hi:Inv s){g:Nat}{o:Ob Ty.T}(d:look g s.ob=some o):moN s.mo g=false:=by
 cases a:s.mo with
 | none=>rfl
 | some m=>rw [<-a];exact (hi.mo m a).2.2 g o d
theorem ze{s:S Ty.T}{g:Nat}(h:s.has g=false):look g s.ob=none:=by
 unfold S.has at h;rw [Bg] at h;cases a:look g s.ob with
 | none=>rfl
 | some o=>rw [a] at h;cases h.1
theorem Jyc{s:S Ty.T}{g:Nat}(h:s.has g=false):moN s.mo g=false:=by unfold S.has at h;rw [Bg] at h;exact h.2
theorem J2v{m:Option (Mo Ty.T)}{g:Nat}(h:moN m g=false):moAt m g=none:=by
 cases m with
 | none=>rfl
 | some m=>
  unfold moN at h;rw [Bg] at h;have d:g≠m.g:=λe=>by subst e;rw [Nat.beq_refl] at h;cases h.1
  have a:¬mB<=g:=λe=>by rw [Bq e] at h;cases h.2
  show m.at g=none;unfold Mo.at;rw [if_neg d,if_neg a]
theorem Inv.put{s:S Ty.T}(hi:Inv s){v:V Ty.T}(f:okV s v)(d:Option Nat):Inv (s.put d v):=by
 cases d with
 | none=>exact hi
 | some d=>
  refine ⟨λp a=>?_,hi.lo,hi.ob,hi.mo⟩;rcases Dp.1 a with rfl|a
  ·exact f
  ·exact hi.sl p a
theorem Jqu(s:S Ty.T)(d:Option Nat)(v:V Ty.T)(c:C Ty.T):encC (s.put d v) c=encC s c:=by cases d<;>cases c<;>rfl
theorem encV_put(s:S Ty.T)(d:Option Nat)(v x:V Ty.T):encV (s.put d v) x=encV s x:=by have e:encC (s.put d v)=encC s:=funext (Jqu s d v);cases x<;>simp only [encV,e]
theorem Jdm(s:S Ty.T)(d:Option Nat)(v:V Ty.T):encH (s.put d v)=encH s:=by
 have e:encC (s.put d v)=encC s:=funext (Jqu s d v);have:encO (s.put d v)=encO s:=funext λo=>by cases o<;>simp only [encO,e]
 cases d with
 | none=>rfl
 | some d=>funext g;simp only [encH];rw [this];rfl
theorem Jru(s:S Ty.T)(d:Option Nat)(v:V Ty.T):enc (s.put d v)=(enc s).put d (encV s v) (encH s):=by
 unfold enc;rw [Jdm];cases d with
 | none=>rfl
 | some d=>
  simp only [St.put]
  congr 1
  funext n;rw [encV_put];simp only [S.at,S.put,Kb,upd];by_cases h:d=n
  ·subst h;simp
  ·rw [if_neg h,if_neg (λe=>h e.symm)]
theorem zi{s s':S Ty.T}(hi:Inv s)(h:Stab s s'):enc s'=⟨(enc s).f,encH s'⟩:=by
 unfold enc
 congr 1
 funext n;have:s'.at n=s.at n:=by simp only [S.at,h.sl]
 rw [this,h.encV (hi.at n)]
def Ty.one:Ty->Bool
 | .u|.p _ _=>false
 | _=>true
theorem Job{t:Ty}(h:t.one=true)(v:t.T):t.cs v=[Xu (t.cs v)]:=by cases t<;>simp [Ty.one] at h<;>rfl
theorem jx:∀(t:Ty) (v:t.T),(t.cs v).length=t.sz
 | .int _,_=>rfl
 | .bool,_=>rfl
 | .str,_=>rfl
 | .ls _,_=>rfl
 | .bf _ _,_=>rfl
 | .u,_=>rfl
 | .p a b,v=>by simp [Ty.cs,Ty.sz,jx a,jx b]
theorem Qs(s:S Ty.T):∀(t:Ty) (v:t.T),(expl val t v).map (encC s)=t.cs v
 | .int _,_=>rfl
 | .bool,_=>rfl
 | .str,_=>rfl
 | .ls _,_=>rfl
 | .bf _ _,_=>rfl
 | .u,_=>rfl
 | .p a b,v=>by simp only [expl,Bu,Ty.cs];rw [Qs s a,Qs s b];rfl
theorem Jaq(t:Ty)(v:t.T):(expl val t v).length=t.sz:=by have:=congrArg List.length (Qs ⟨[],[],[],[],none⟩ t v);rwa [Au,jx] at this
theorem Jbw(s:S Ty.T):∀(t:Ty) (v:t.T),okCs s (expl val t v)
 | .int _,_=>λc d=>by simp [expl] at d;subst d;intro r hr;simp [refs] at hr
 | .bool,_=>λc d=>by simp [expl] at d;subst d;intro r hr;simp [refs] at hr
 | .str,_=>λc d=>by simp [expl] at d;subst d;intro r hr;simp [refs] at hr
 | .ls _,_=>λc d=>by simp [expl] at d;subst d;intro r hr;simp [refs] at hr
 | .bf _ _,_=>λc d=>by simp [expl] at d;subst d;intro r hr;simp [refs] at hr
 | .u,_=>λc d=>by simp [expl] at d
 | .p a b,v=>λc d=>by simp only [expl,Bk] at d;exact d.elim (Jbw s a _ c) (Jbw s b _ c)
theorem Qy{ι:Ty->Type}{a b:Ty}{v:ι a}{x:ι b}(h:cast? a b v=some x):∃e:a=b,x=e▸v:=by
 unfold cast? at h;split at h
 ·rename_i e;injection h with h;exact ⟨e,h.symm⟩
 ·cases h
theorem Jbl{s:S Ty.T}{t:Ty}{c:C Ty.T}{y:t.T}(a:t.one=true)(h:Y8 val t c=some y):t.cs y=[encC s c]:=by
 cases c with
 | lf d v=>
  obtain ⟨e,rfl⟩:=Qy (ι:=Ty.T) h;subst e;exact Job a v
 | kb b=>
  obtain ⟨e,rfl⟩:=Qy (ι:=Ty.T) h;subst e;rfl
 | _=>simp [Y8] at h
def Exact(s:S Ty.T)(lw:(t:Ty)->C Ty.T->Option t.T):Prop:=∀(t:Ty) (c:C Ty.T) (y:t.T),t.one=true->lw t c=some y->t.cs y=[encC s c]
theorem jy(s:S Ty.T):Exact s (Y8 val):=λ_ _ _ a h=>Jbl a h
theorem Jfq{s:S Ty.T}{lw:(t:Ty)->C Ty.T->Option t.T}(g:Exact s lw):∀(t:Ty) {l r:List (C Ty.T)} {x:t.T},impl val lw t l=some (x,r)->l.map (encC s)=t.cs x++r.map (encC s)
 | .u,l,r,x,h=>by simp only [impl] at h;injection h with h;simp only [Bd] at h;obtain ⟨-,rfl⟩:=h;rfl
 | .p a b,l,r,x,h=>by
  simp only [impl] at h;cases o:impl val lw a l with
  | none=>rw [o] at h;cases h
  | some p=>
   obtain ⟨u,w⟩:=p;rw [o] at h;simp only [Bh] at h;cases m:impl val lw b w with
   | none=>rw [m] at h;cases h
   | some q=>
    obtain ⟨v,A⟩:=q;rw [m] at h;simp only [Ab,Ag,Bd] at h;obtain ⟨rfl,rfl⟩:=h;rw [Jfq g a o,Jfq g b m,<-Bo];rfl
 | .int k,l,r,x,h=>by
  cases l with
  | nil=>cases h
  | cons c l=>
   simp only [impl] at h;cases d:lw (.int k) c with
   | none=>rw [d] at h;cases h
   | some y=>rw [d] at h;simp only [Ab,Ag,Bd] at h;obtain ⟨rfl,rfl⟩:=h;rw [g _ _ _ rfl d];rfl
 | .bool,l,r,x,h=>by
  cases l with
  | nil=>cases h
  | cons c l=>
   simp only [impl] at h;cases d:lw .bool c with
   | none=>rw [d] at h;cases h
   | some y=>rw [d] at h;simp only [Ab,Ag,Bd] at h;obtain ⟨rfl,rfl⟩:=h;rw [g _ _ _ rfl d];rfl
 | .str,l,r,x,h=>by
  cases l with
  | nil=>cases h
  | cons c l=>
   simp only [impl] at h;cases d:lw .str c with
   | none=>rw [d] at h;cases h
   | some y=>rw [d] at h;simp only [Ab,Ag,Bd] at h;obtain ⟨rfl,rfl⟩:=h;rw [g _ _ _ rfl d];rfl
 | .ls t,l,r,x,h=>by
  cases l with
  | nil=>cases h
  | cons c l=>
   simp only [impl] at h;cases d:lw (.ls t) c with
   | none=>rw [d] at h;cases h
   | some y=>rw [d] at h;simp only [Ab,Ag,Bd] at h;obtain ⟨rfl,rfl⟩:=h;rw [g _ _ _ rfl d];rfl
 | .bf f t,l,r,x,h=>by
  cases l with
  | nil=>cases h
  | cons c l=>
   simp only [impl] at h;cases d:lw (.bf f t) c with
   | none=>rw [d] at h;cases h
   | some y=>rw [d] at h;simp only [Ab,Ag,Bd] at h;obtain ⟨rfl,rfl⟩:=h;rw [g _ _ _ rfl d];rfl
theorem Jsm{s:S Ty.T}{lw:(t:Ty)->C Ty.T->Option t.T}(a:Exact s lw)(t:Ty):∀(n:Nat) {l:List (C Ty.T)} {x:List t.T},Jd5 val lw t n l=some x->l.map (encC s)=x.flatMap t.cs
 | 0,l,x,h=>by cases h
 | n+1,l,x,h=>by
  cases l with
  | nil=>simp only [Jd5] at h;injection h with h;subst h;rfl
  | cons c l=>
   simp only [Jd5] at h;cases f:impl val lw t (c::l) with
   | none=>rw [f] at h;cases h
   | some p=>
    obtain ⟨u,r⟩:=p;rw [f] at h;simp only [Bh] at h;cases d:Jd5 val lw t n r with
    | none=>rw [d] at h;cases h
    | some y=>
     rw [d] at h;simp only [Ab] at h;obtain rfl:x=(u:t.T)::(y:List t.T):=(Aj h).symm;rw [Jfq a t f,Jsm a t n d];rfl
theorem Jmm(s:S Ty.T)(v:AV):encC s (cC val v)=v:=by cases v<;>rfl
theorem J0r(s:S Ty.T)(v:AV):okC s (cC val v):=by cases v<;>(intro r hr;simp [cC,refs] at hr)
theorem Kc(s:S Ty.T)(x:LO):(enc s).ev x=encV s (ev val s x):=by
 cases x with
 | t n=>rfl
 | c v=>
  show v=encV s (cV val v);unfold cV;split
  ·simp only [encV,Bw]
   congr 1
   exact (Dc _).symm.trans (Ai λv _=>(Jmm s v).symm)
  ·rfl
  ·rfl
  ·exact (Jmm s _).symm
theorem Qx{s:S Ty.T}{c:C Ty.T}(h:okC s c):okV s (.c c):=λx hx=>by simp [V.all] at hx;subst hx;exact h
theorem J2(s:S Ty.T){c:C Ty.T}(h:refs c=[]):okC s c:=λr hr=>by rw [h] at hr;cases hr
theorem Jgy{s:S Ty.T}(hi:Inv s)(x:LO):okV s (ev val s x):=by
 cases x with
 | t n=>exact hi.at n
 | c v=>
  show okV s (cV val v);unfold cV;split
  ·intro c a;obtain ⟨v,_,rfl⟩:=By.1 (show c∈List.map _ _ from a);exact J0r s v
  ·intro c a;simp [V.all] at a
  ·exact Qx (J2 s rfl)
  ·exact Qx (J0r s _)
structure Sim (call:Vv.Call) (base g0:Nat) (s:S Ty.T) (op:LOp) (v:V Ty.T) (s':S Ty.T):Prop where
 ev:Ja call base (enc s) g0 op=some (encV s' v,encH s')
 st:Stab s s'
 iv:Inv s'
 ov:okV s' v
section
variable {call:Vv.Call} {base g0:Nat} {s:S Ty.T} {α:Type} {r:α}
theorem Jg{β:Type}{x:Option β}{k:β->Option α}(h:orNo val x k=some r):∃v,x=some v/\k v=some r:=by
 cases x with
 | none=>cases h
 | some v=>exact ⟨v,rfl,h⟩
theorem Kp{c:Bool}{x:Option α}(h:val.gd c x=some r):c=true/\x=some r:=by
 cases c with
 | true=>exact ⟨rfl,h⟩
 | false=>cases h
theorem Jby{c:Bool}{x y:Option α}(h:val.br c x y=some r):(c=true/\x=some r)\/(c=false/\y=some r):=by
 cases c with
 | true=>exact .inl ⟨rfl,h⟩
 | false=>exact .inr ⟨rfl,h⟩
theorem Jv3{t:Ty}{l:List t.T}{i:Int}{k:t.T->Option α}(h:val.ge (t:=t) l i k=some r):∃x,0<=i/\l[i.toNat]?=some x/\k x=some r:=by
 change Jed (fget l i) k=some r at h;unfold fget at h;by_cases a:0<=i
 ·rw [if_pos a] at h;cases hx:l[i.toNat]? with
  | none=>rw [hx] at h;cases h
  | some x=>rw [hx] at h;exact ⟨x,a,rfl,h⟩
 ·rw [if_neg a] at h;cases h
theorem Sim.same(hi:Inv s){op:LOp}{v:V Ty.T}(d:Ja call base (enc s) g0 op=some (encV s v,encH s))(a:okV s v):Sim call base g0 s op v s:=⟨d,.refl s,hi,a⟩
theorem evI{x:LO}{k:IntKind}{a:Int}(h:Jhs k (ev val s x)=some a):(enc s).ev x=.int k a:=by
 rw [Kc];unfold Jhs at h;split at h
 ·rename_i t v hx;obtain ⟨e,rfl⟩:=Qy (ι:=Ty.T) h;subst e;rw [hx];rfl
 ·cases h
theorem pk_enc{ag:Bool}{l:List (C Ty.T)}{v:V Ty.T}(h:pk ag l=some v)(s:S Ty.T):encV s v=(if ag=true then .agg (l.map (encC s)) else (l.map (encC s)).headD .any)/\(∀c∈v.all,c∈l)/\(ag=true\/l.length=1):=by
 unfold pk at h;split at h
 ·rename_i a;injection h with h;subst h;rw [if_pos a];exact ⟨rfl,λc d=>d,.inl a⟩
 ·rename_i a;split at h
  ·injection h with h;subst h;rw [if_neg a];exact ⟨rfl,λc d=>d,.inr rfl⟩
  ·cases h
theorem Jfn{ag:Bool}{l:List (C Ty.T)}{off n:Nat}{v:V Ty.T}(m:off+n<=l.length)(h:pk ag (cutC l off n)=some v)(s:S Ty.T):pack ag (l.map (encC s)) off n=some (encV s v)/\∀c∈v.all,c∈l:=by
 obtain ⟨r,o,f⟩:=pk_enc h s;refine ⟨?_,λc g=>Dl (Dm (o c g))⟩;have d:(cutC l off n).length=n:=by simp [cutC];omega
 have g:(cutC l off n).map (encC s)=cut (l.map (encC s)) off n:=by simp [cutC,cut]
 unfold pack;rw [if_pos (by simpa using m),r,g];cases ag with
 | true=>rfl
 | false=>
  rw [d] at f;have f:n=1:=by simpa using f
  subst f;simp only [Ba,if_false];unfold cut;have a:off<(l.map (encC s)).length:=by simp;omega
  rw [List.getElem?_eq_getElem a,List.drop_eq_getElem_cons a];rfl
theorem mov_sim(hi:Inv s){x:LO}:Sim call base g0 s (.mov x) (ev val s x) s:=.same hi (by simp only [Ja,Kc];rfl) (Jgy hi x)
theorem Jkh{v:V Ty.T}:∀c∈v.cells,c∈v.all:=by cases v<;>simp [V.cells,V.all]
theorem J2c{c:C Ty.T}(h:c.plain=true)(s:S Ty.T):(encC s c).one=true:=by
 cases c with
 | lf t v=>cases t<;>simp [C.plain] at h<;>rfl
 | any=>cases h
 | k v=>exact h
 | _=>rfl
theorem Jmj{v:V Ty.T}(h:v.good=true)(s:S Ty.T):(encV s v).cells=some (v.cells.map (encC s)):=by
 cases v with
 | tp l=>cases h
 | ag l=>rfl
 | c x=>
  have d:=J2c h s;simp only [encV,V.cells,Br,Aq];generalize encC s x=a at d;cases a<;>simp_all [AV.cells,AV.one]
end
section
variable {call:Vv.Call} {base g0:Nat} {s:S Ty.T} {α:Type} {r:α}
theorem Stab.encO{s s':S Ty.T}(h:Stab s s'){o:Ob Ty.T}(a:okCs s o.kids):Dn.encO s' o=Dn.encO s o:=by
 cases o with
 | mp v kt vt es=>rfl
 | em v kt vt el=>rfl
 | box v cs=>simp only [Dn.encO];rw [h.encCs (show okCs s cs from a)]
 | lit v e el cs z=>simp only [Dn.encO];rw [h.encCs (show okCs s cs from a)]
 | row v e el t l x nest z=>
  have hx:okCs s x:=λc d=>a c (by simp only [Ob.kids];exact Di _ d);simp only [Dn.encO];rw [h.encCs hx];cases nest with
  | none=>rfl
  | some p=>
   simp only [Xv];rw [(h.ok p.2 (a p.2 (by simp [Ob.kids]))).2]
theorem Y4(s:S Ty.T)(o:Ob Ty.T):(Dn.encO s o).ver=o.ver:=by cases o<;>rfl
theorem K7(g a:Nat)(o:Ob Ty.T):look a (s.obj g o).ob=if g=a then some o else look a s.ob:=Kb g a o s.ob
theorem Zp{g:Nat}{o:Ob Ty.T}(h:∀a,look g s.ob=some a->a.ver=o.ver/\a.lenO=o.lenO):Stab s (s.obj g o):=by
 refine ⟨rfl,rfl,λc m=>⟨λr hr=>?_,?_⟩⟩
 ·obtain ⟨a,f,l⟩:=m r hr;rw [K7];by_cases d:g=r.1
  ·subst d;rw [if_pos rfl];exact ⟨o,rfl,by rw [<-(h a f).1];exact l⟩
  ·rw [if_neg d];exact ⟨a,f,l⟩
 ·cases c<;>try rfl
  rename_i w v;obtain ⟨a,f,l⟩:=m (w,v) (by simp [refs]);simp only [Dn.encC,Qo,K7];by_cases d:g=w
  ·subst d;obtain ⟨A,y⟩:=h a f;rw [if_pos rfl,f];simp only [<-A,<-y];rfl
  ·rw [if_neg d];rfl
theorem Jxh{g:Nat}{m o:Ob Ty.T}{n:Int}(A:look g s.ob=some m)(H:o.ver=m.ver+1)(G:n.toNat=m.lenO):Stab s ((s.old g m.ver n).obj g o):=by
 refine ⟨rfl,rfl,λc E=>⟨λr hr=>?_,?_⟩⟩
 ·obtain ⟨B,a,y⟩:=E r hr;show ∃o',look r.1 ((g,o)::s.ob)=some o'/\_;rw [Kb];by_cases w:g=r.1
  ·subst w;rw [if_pos rfl];rw [A] at a;injection a with a;subst a;exact ⟨o,rfl,by omega⟩
  ·rw [if_neg w];exact ⟨B,a,y⟩
 ·cases c<;>try rfl
  rename_i l v;obtain ⟨B,a,y⟩:=E (l,v) (by simp [refs]);have e:look l ((s.old g m.ver n).obj g o).ob=if g=l then some o else look l s.ob:=Kb g l o s.ob;simp only [Dn.encC,Qo,e];by_cases w:g=l
  ·subst w;rw [A] at a;injection a with a;subst a;simp only at y;rw [if_pos rfl,A];simp only;rw [if_neg (by omega:¬o.ver=v)];show AV.arr g v 0 (Jzk g v ((g,m.ver,n)::s.ln))=_;simp only [Jzk,true_and];by_cases f:m.ver=v
   ·rw [if_pos f,if_pos f];exact congrArg _ G
   ·rw [if_neg f,if_neg f]
  ·rw [if_neg w];cases J:look l s.ob with
   | none=>rfl
   | some F=>
    simp only;by_cases d:F.ver=v
    ·rw [if_pos d,if_pos d]
    ·rw [if_neg d,if_neg d];show AV.arr l v 0 (Jzk l v ((g,m.ver,n)::s.ln))=_;simp only [Jzk];rw [if_neg (λh=>w h.1)]
theorem ji(hi:Inv s){s':S Ty.T}{g:Nat}{o:Ob Ty.T}(hs:Stab s s')(hl:∀a,look a s'.ob=if g=a then some o else look a s.ob)(hmo:s'.mo=s.mo:=by rfl):encH s'=upd (encH s) g (some (Dn.encO s' o)):=by
 funext a;simp only [encH,hl,upd,hmo];by_cases d:g=a
 ·subst d;simp
 ·rw [if_neg d,if_neg (λe=>d e.symm)];cases f:look a s.ob with
  | none=>rfl
  | some o'=>simp only;rw [hs.encO (hi.ob a o' f)]
theorem Ja7(hi:Inv s){s':S Ty.T}{g:Nat}{o:Ob Ty.T}(hs:Stab s s')(hl:∀a,look a s'.ob=if g=a then some o else look a s.ob)(l:okCs s' o.kids)(f:moN s.mo g=false)(hmo:s'.mo=s.mo:=by rfl):Inv s':=
 hi.stab hs (hmo:=hmo) λa o' h=>by
  rw [hl] at h;by_cases d:g=a
  ·rw [if_pos d] at h;injection h with h;subst h;exact .inr ⟨l,d▸f⟩
  ·rw [if_neg d] at h;exact .inl h
theorem Jl9{g:Nat}(h:s.has g=false):encH s g=none:=by simp [encH,ze h,J2v (Jyc h)]
theorem Jbq{m:Option (Mo Ty.T)}{g:Nat}{o:AObj}(h:moAt m g=some o):moN m g=true/\∃a,m=some a/\((g=a.g/\o=.map 0 (moEs a.kt a.vt 0 a.es) false)\/(g≠a.g/\mB<=g/\∃e,nthL (α:=a.kt.T×List a.vt.T) a.es (g - mB)=some e/\o=Jdu a.vt a.el e.2)):=by
 cases m with
 | none=>cases h
 | some m=>
  have d:m.at g=some o:=h;clear h;unfold Mo.at at d;split at d
  ·rename_i e;injection d with d;subst e;exact ⟨by simp [moN],m,rfl,.inl ⟨rfl,d.symm⟩⟩
  ·rename_i l;split at d
   ·rename_i f;obtain ⟨e,v,r⟩:=Option.map_eq_some_iff.1 d;refine ⟨?_,m,rfl,.inr ⟨l,f,e,v,r.symm⟩⟩;show (Aa m.g g || Ax mB g)=true;rw [Bq f,Bool.or_true]
   ·cases d
theorem Jhf{g:Nat}{o:AObj}(h:encH s g=some o):(∃ob,look g s.ob=some ob/\o=Dn.encO s ob)\/(look g s.ob=none/\moAt s.mo g=some o):=by
 simp only [encH] at h;cases hl:look g s.ob with
 | some ob=>rw [hl] at h;injection h with h;exact .inl ⟨ob,rfl,h.symm⟩
 | none=>rw [hl] at h;exact .inr ⟨rfl,h⟩
theorem Jwq{g v:Nat}{es:List (AV×AV)}{z:Bool}(h:encH s g=some (.map v es z)):z=false:=by
 rcases Jhf h with ⟨ob,-,e⟩|⟨-,h⟩
 ·cases ob<;>simp only [Dn.encO,AObj.map.injEq,reduceCtorEq] at e
  ·exact e.2.2
  ·exact e.2.2
 ·obtain ⟨-,m,-,⟨-,e⟩|⟨-,-,x,-,e⟩⟩:=Jbq h
  ·injection e
  ·cases e
theorem Jj{g:Nat}{o:Ob Ty.T}(h:look g s.ob=some o):encH s g=some (Dn.encO s o):=by simp [encH,h]
theorem Qq{g:Nat}(h:s.has g=false):J4 (encH s) g=s.nv g:=by unfold J4 S.nv;rw [ze h,Jl9 h]
theorem Jig(hi:Inv s){op:LOp}{v:V Ty.T}{o:Ob Ty.T}{av:AV}{ao:AObj}(f:s.has g0=false)(r:Ja call base (enc s) g0 op=some (av,upd (encH s) g0 (some ao)))
  (g:encV (s.obj g0 o) v=av) (l:Dn.encO (s.obj g0 o) o=ao) (m:okCs (s.obj g0 o) o.kids) (a:okV (s.obj g0 o) v):Sim call base g0 s op v (s.obj g0 o):=by
 have hs:Stab s (s.obj g0 o):=Zp λw h=>by rw [ze f] at h;cases h
 refine ⟨?_,hs,Ja7 hi hs (λd=>K7 g0 d o) m (Jyc f),a⟩;rw [r,g,ji hi hs (λd=>K7 g0 d o),l]
theorem nv0{g:Nat}(h:look g s.ob=none):s.nv g=0:=by simp [S.nv,h]
theorem Jgh{g:Nat}{o:Ob Ty.T}{c:C Ty.T}(h:refs c=[(g,o.ver)]):okC (s.obj g o) c:=λr hr=>by rw [h] at hr;simp at hr;subst hr;exact ⟨o,by rw [K7,if_pos rfl],Bs _⟩
theorem J0q(hi:Inv s){z:List AV}(a:s.has g0=false):Sim call base g0 s (.alloc z) (.c (.ptr g0 (s.nv g0) 0)) (s.obj g0 (.box (s.nv g0) (z.map (cC val)))):=by
 refine Jig hi a (by simp only [Ja];rfl) ?_ ?_ (λc d=>?_) (Qx (Jgh rfl))
 ·simp only [encV,encC];rw [show (enc s).h=encH s from rfl,Qq a]
 ·simp only [Dn.encO,Bw];rw [show (enc s).h=encH s from rfl,Qq a]
  congr 1
  exact (Ai λv _=>Jmm _ v).trans (Dc _)
 ·obtain ⟨v,_,rfl⟩:=By.1 (show c∈List.map _ _ from d);exact J0r _ v
theorem box_sim(hi:Inv s){x:LO}(d:s.has g0=false)(f:(ev val s x).good=true):Sim call base g0 s (.box x) (.c (.ptr g0 (s.nv g0) 0)) (s.obj g0 (.box (s.nv g0) (ev val s x).cells)):=by
 have hs:Stab s (s.obj g0 (.box (s.nv g0) (ev val s x).cells)):=Zp λg h=>by rw [ze d] at h;cases h
 have a:okCs s (ev val s x).cells:=λc a=>Jgy hi x c (Jkh c a);refine Jig hi d (by simp only [Ja];rw [Kc,Jmj f];rfl) ?_ ?_ (λc h=>(hs.ok c (a c h)).1) (Qx (Jgh rfl))
 ·simp only [encV,encC];rw [show (enc s).h=encH s from rfl,Qq d]
 ·simp only [Dn.encO];rw [hs.encCs a,show (enc s).h=encH s from rfl,Qq d]
theorem Jfv(l:List (C Ty.T))(off:Nat)(new:List (C Ty.T))(f:C Ty.T->AV):(Jbv l off new).map f=paste (l.map f) off (new.map f):=by simp [Jbv,paste]
theorem Jk6{l new:List (C Ty.T)}{off:Nat}{s:S Ty.T}(d:okCs s l)(f:okCs s new):okCs s (Jbv l off new):=λc a=>by
 simp only [Jbv,Bk] at a;rcases a with (a|a)|a
 ·exact d c (Dm a)
 ·exact f c a
 ·exact d c (Dl a)
theorem Jzy{l new:List (C Ty.T)}{off:Nat}(h:off+new.length<=l.length):(Jbv l off new).length=l.length:=by simp [Jbv];omega
theorem Jmo(hi:Inv s):∀ {ps:List (Nat×Nat×LO)} {z l:List (C Ty.T)},okCs s z->Jjm (ev val s) z ps=some l->Jil (enc s).ev (z.map (encC s)) ps=some (l.map (encC s))/\okCs s l
 | [],z,l,a,h=>by simp only [Jjm] at h;injection h with h;subst h;exact ⟨rfl,a⟩
 | (off,n,x)::ps,z,l,a,h=>by
  simp only [Jjm] at h;split at h
  ·rename_i d;obtain ⟨r,o,m⟩:=d;have hx:okCs s (ev val s x).cells:=λc d=>Jgy hi x c (Jkh c d);obtain ⟨g,f⟩:=Jmo hi (Jk6 a hx) h;refine ⟨?_,f⟩;simp only [Jil,Kc,Jmj m];rw [if_pos (by simp;omega),<-g,Jfv]
  ·cases h
theorem J26(hi:Inv s){z:List AV}{ps:List (Nat×Nat×LO)}{l:List (C Ty.T)}(h:Jjm (ev val s) (z.map (cC val)) ps=some l):Sim call base g0 s (.build z ps) (.ag l) s:=by
 obtain ⟨a,g⟩:=Jmo hi (λc f=>by obtain ⟨v,_,rfl⟩:=By.1 f;exact J0r s v) h;have d:(z.map (cC val)).map (encC s)=z:=by rw [Bw];exact (Ai λv _=>Jmm s v).trans (Dc _)
 rw [d] at a;exact .same hi (by simp only [Ja,a];rfl) g
theorem Jkk(z:List AV)(s:S Ty.T):∀n,(repC (z.map (cC val)) n).map (encC s)=Ye z n
 | 0=>rfl
 | n+1=>by
  simp only [repC,Ye,Bu,Jkk z s n,Bw]
  congr 1
  exact (Ai λv _=>Jmm s v).trans (Dc _)
theorem Juz(z:List AV)(s:S Ty.T):∀n,okCs s (repC (z.map (cC val)) n)
 | 0=>λc a=>by cases a
 | n+1=>λc a=>by
  simp only [repC,Bk] at a;rcases a with a|a
  ·obtain ⟨v,_,rfl⟩:=By.1 a;exact J0r s v
  ·exact Juz z s n c a
theorem Jfk{g:Nat}{o:Ob Ty.T}:Qo (s.obj g o) g o.ver=o.lenO:=by simp [Qo,K7]
theorem Jz1(hi:Inv s){n esz:Nat}{el:TypeId}{z:List AV}{ps:List (Nat×Nat×LO)}{l:List (C Ty.T)}(a:s.has g0=false)(h:Jjm (ev val s) (repC (z.map (cC val)) n) ps=some l)
  (hl:l.length=n * esz) (g:0<esz):Sim call base g0 s (.bslice n esz el z ps) (.c (.own g0 (s.nv g0))) (s.obj g0 (.lit (s.nv g0) esz el l false)):=by
 have hs:Stab s (s.obj g0 (.lit (s.nv g0) esz el l false)):=Zp λr h=>by rw [ze a] at h;cases h
 obtain ⟨f,d⟩:=Jmo hi (Juz z s n) h;rw [Jkk] at f;refine Jig hi a (by simp only [Ja,f];rfl) ?_ ?_ (λc m=>(hs.ok c (d c m)).1) (Qx (Jgh rfl))
 ·simp only [encV,encC];rw [show Qo (s.obj g0 (.lit (s.nv g0) esz el l false)) g0 (s.nv g0)=l.length / esz from Jfk (o:=.lit (s.nv g0) esz el l false),show (enc s).h=encH s from rfl,Qq a,hl,Bb _ g]
 ·simp only [Dn.encO];rw [hs.encCs d,show (enc s).h=encH s from rfl,Qq a]
end
theorem jl{t:Ty}:∀l:List t.T,(l.flatMap t.cs).length=l.length * t.sz
 | []=>by simp
 | x::l=>by simp only [Ad,Ap,jx,jl l,List.length_cons,Ak];omega
theorem Jdf{t:Ty}:∀ {l:List t.T} {i:Nat} {e:t.T},l[i]?=some e->cut (l.flatMap t.cs) (i * t.sz) t.sz=t.cs e
 | [],i,e,h=>by cases h
 | x::l,0,e,h=>by simp at h;subst h;simp only [cut,Ad,Bm,List.drop_zero];rw [Bv (by rw [jx];exact Bs _),De (by rw [jx];exact Bs _)]
 | x::l,i+1,e,h=>by
  have h:l[i]?=some e:=by simpa using h
  have:=Jdf h;simp only [cut,Ad] at this ⊢;rw [show (i+1) * t.sz=(t.cs x).length+i * t.sz by rw [jx,Ak];omega,List.drop_append,Df (by omega),List.nil_append];rw [show (t.cs x).length+i * t.sz - (t.cs x).length=i * t.sz by omega];exact this
theorem J2a{L:List AV}{a m off n:Nat}(h:off+n<=m):cut (cut L a m) off n=cut L (a+off) n:=by simp only [cut,List.drop_take,List.drop_drop,List.take_take];rw [Nat.min_eq_left (by omega)]
theorem cut_len{L:List AV}{a m:Nat}(hl:a+m<=L.length):(cut L a m).length=m:=by simp [cut];omega
theorem Jp2{ag:Bool}{L:List AV}{a m off n:Nat}(h:off+n<=m)(hl:a+m<=L.length)(d:ag=true\/n=1):pack ag L (a+off) n=pack ag (cut L a m) off n:=by
 unfold pack;rw [if_pos (by omega:a+off+n<=L.length),if_pos (by rw [cut_len hl];exact h:off+n<=(cut L a m).length),J2a h];cases ag with
 | true=>rfl
 | false=>
  have:n=1:=by simpa using d
  subst this;simp only [Ba,if_false,cut,Bz,Da];rw [if_pos (by omega)]
theorem Jl7{L:List AV}{k a n:Nat}{c:AV}(h:k<a\/a+n<=k):cut (L.set k c) a n=cut L a n:=by
 refine Be λj=>?_;simp only [cut,Bz,Da];by_cases d:j<n
 ·rw [if_pos d,if_pos d,Bt (by omega)]
 ·rw [if_neg d,if_neg d]
theorem Jy1{L:List AV}{a n no:Nat}{c:AV}(h:no<n):cut (L.set (a+no) c) a n=(cut L a n).set no c:=by
 refine Be λj=>?_;simp only [cut,Bz,Da,Bf,List.length_take,List.length_drop];by_cases d:j<n
 ·by_cases f:no=j
  ·subst f;simp only [if_pos d,if_true];by_cases hl:a+no<L.length
   ·rw [if_pos hl,if_pos (by omega)]
   ·rw [if_neg hl,if_neg (by omega)]
  ·rw [if_pos d,if_neg (by omega),if_neg f,if_pos d]
 ·rw [if_neg d,if_neg (by omega),if_neg d]
theorem J2d{ag:Bool}{L:List AV}{off n:Nat}(h:off+n<=L.length)(a:ag=true\/n=1):pack ag (L.drop off) 0 n=pack ag L off n:=by
 unfold pack;rw [if_pos (by simp;omega),if_pos h];cases ag with
 | true=>simp [cut]
 | false=>
  have:n=1:=by simpa using a
  subst this;simp
section
variable {call:Vv.Call} {base g0:Nat} {s:S Ty.T} {α:Type} {r:α}
theorem zj(l:List AV)(n sz:Nat)(ec:C Ty.T->AV)(x:Option (Nat×C Ty.T)):(Xv l n sz ec x).length=l.length:=by cases x<;>simp [Xv]
theorem row_ne{t:Ty}{l:List t.T}{i:Nat}{e:t.T}{n:Option (Nat×C Ty.T)}{ec:C Ty.T->AV}(h:l[i]?=some e)(f:0<t.sz):Xv (l.flatMap t.cs) l.length t.sz ec n≠[]:=by intro d;have:=congrArg List.length d;rw [zj,jl] at this;have hl:=(Ae.1 h).1;rcases Dg.1 this with a|a<;>omega
theorem pk_n{ag:Bool}{l:List (C Ty.T)}{v:V Ty.T}(h:pk ag l=some v):ag=true\/l.length=1:=(pk_enc h ⟨[],[],[],[],none⟩).2.2
theorem Jw6{l:List (C Ty.T)}{off n:Nat}(h:off+n<=l.length):(cutC l off n).length=n:=by simp [cutC];omega
theorem J31{i:Int}{n:Nat}(h:val.cm .eql .i64 (val.pl i (1:Int)) ((n:Nat):Int)=true):i+1=n:=by have:((i+1:Int)==(n:Int))=true:=h;simpa using this
theorem Jye{t:Ty}{l:List t.T}{i:Nat}{e:t.T}(h:l[i]?=some e)(s:S Ty.T)(nest:Option (Nat×C Ty.T))(a:∀p,nest=some p->p.1<t.sz) :
  cut (Xv (l.flatMap t.cs) l.length t.sz (encC s) nest) (i * t.sz) t.sz=(match nest with|some p=>if i+1=l.length then (t.cs e).set p.1 (encC s p.2) else t.cs e|none=>t.cs e):=by
 have hl:=(Ae.1 h).1;cases nest with
 | none=>exact Jdf h
 | some p=>
  have d:=a p rfl;simp only [Xv];split
  ·rename_i hi;rw [show l.length - 1=i by omega,Jy1 d,Jdf h]
  ·rename_i hi;rw [Jl7,Jdf h];right;have:(i+1) * t.sz<=(l.length - 1) * t.sz:=Aw _ (by omega);rw [Ak] at this;omega
theorem Jxn(hi:Inv s){ag:Bool}{n:Nat}{x:V Ty.T}{k:V Ty.T->Option α}(hx:okV s x)(h:loadD val s ag n x k=some r):∃v,Jcb (encH s) ag n (encV s x)=some (encV s v)/\okV s v/\k v=some r:=by
 unfold loadD at h;split at h
 ·rename_i g ver off;split at h
  ·rename_i v cs B;split at h
   ·rename_i d;obtain ⟨rfl,o⟩:=d;obtain ⟨u,w,A⟩:=Jg h;obtain ⟨f,m⟩:=Jfn o w s;refine ⟨u,?_,λc d=>hi.ob _ _ B c (m c d),A⟩;simp only [Jcb,jz,encV,encC,Jj B,encO];rw [if_pos trivial];exact f
   ·cases h
  ·rename_i v e el cs z B;split at h
   ·rename_i d;obtain ⟨rfl,o,K⟩:=d;obtain ⟨u,w,A⟩:=Jg h;obtain ⟨f,m⟩:=Jfn o w s;refine ⟨u,?_,λc d=>hi.ob _ _ B c (m c d),A⟩;simp only [Jcb,jz,encV,encC,Jj B,encO];rw [if_pos ⟨trivial,by simpa using K⟩];exact f
   ·cases h
  ·cases h
 ·rename_i g ver esz i off;split at h
  ·rename_i v e el t l nest z B;obtain ⟨L,rfl⟩:∃L:List t.T,(show Ty.T (.ls t) from L)=l:=⟨l,rfl⟩;obtain ⟨I0,rfl⟩:∃I0:Int,(show Ty.T I from I0)=i:=⟨i,rfl⟩;split at h
   ·rename_i d;obtain ⟨rfl,rfl,R,o,P⟩:=d;subst R;obtain ⟨y,X,G,h⟩:=Jv3 (l:=L) (i:=I0) h;have hl:=(Ae.1 G).1;have F:I0.toNat * t.sz+t.sz<=(Xv (L.flatMap t.cs) L.length t.sz (encC s) nest).length:=by rw [zj,jl];have:(I0.toNat+1) * t.sz<=L.length * t.sz:=Aw _ hl;rw [Ak] at this;omega
    have key:∀ {E:List (C Ty.T)} {u:V Ty.T},E.length=t.sz->(ag=true\/n=1->pack ag (cut (Xv (L.flatMap t.cs) L.length t.sz (encC s) nest) (I0.toNat * t.sz) t.sz) off n=pack ag (E.map (encC s)) off n)->pk ag (cutC E off n)=some u->Jcb (encH s) ag n (encV s (.c (.pti g v t.sz (show Ty.T I from I0) off)))=some (encV s u)/\∀c∈u.all,c∈E:=by intro E u hE H N;obtain ⟨f,m⟩:=Jfn (by rw [hE];exact o) N s;refine ⟨?_,m⟩;have a:=pk_n N;rw [Jw6 (by rw [hE];exact o)] at a;simp only [Jcb,jz,encV,encC,Jj B,encO,Aq,Af];rw [if_pos ⟨trivial,row_ne G P⟩];simp only;rw [show (show Int from (show Ty.T I from I0)).toNat=I0.toNat from rfl];exact (Jp2 o F a).trans ((H a).trans f)
    cases nest with
    | none=>
     obtain ⟨u,w,A⟩:=Jg h;obtain ⟨f,m⟩:=key (Jaq t y) (λ_=>by rw [Jye G s none (λp J=>by cases J),Qs]) w;exact ⟨u,f,λc d=>Jbw s t y c (m c d),A⟩
    | some p=>
     obtain ⟨no,c⟩:=p;simp only at h;split at h
     ·rename_i hr;obtain ⟨O,h⟩:=Kp h;have O:=J31 (n:=L.length) O;obtain ⟨u,w,A⟩:=Jg h;obtain ⟨f,m⟩:=key (by rw [Bl,Jaq]) (λ_=>by rw [Jye G s (some (no,c)) (λp J=>by cases J;simp only;omega)];simp only;rw [if_pos (by omega),Du,Qs]) w
      refine ⟨u,f,λc' d=>?_,A⟩;rcases List.mem_or_eq_of_mem_set (m c' d) with M|M
      ·exact Jbw s t y c' M
      ·rw [M];exact hi.ob _ _ B c (by simp [Ob.kids])
     ·rename_i hr;obtain ⟨u,w,A⟩:=Jg h;obtain ⟨f,m⟩:=key (Jaq t y) (λa=>by
       rw [Qs,<-Jp2 o F a];have Q:I0.toNat * t.sz+t.sz<=(L.flatMap t.cs).length:=by rwa [zj] at F
       rw [<-Jdf G,<-Jp2 o Q a];simp only [Xv];have B:(L.length - 1) * t.sz+no<I0.toNat * t.sz+off\/I0.toNat * t.sz+off+n<=(L.length - 1) * t.sz+no:=by
        by_cases hi:I0.toNat+1=L.length
        ·rw [show L.length - 1=I0.toNat by omega];omega
        ·have:(I0.toNat+1) * t.sz<=(L.length - 1) * t.sz:=Aw _ (by omega);rw [Ak] at this;omega
       unfold pack;rw [Bl,Jl7 B];cases ag with
       | true=>rfl
       | false=>
        have:n=1:=by simpa using a
        subst this;simp only [Ba,if_false];rw [Bt (by omega)]) w
      exact ⟨u,f,λc d=>Jbw s t y c (m c d),A⟩
   ·cases h
  ·cases h
 ·rename_i t v off;split at h
  ·rename_i o;obtain ⟨u,w,A⟩:=Jg h;obtain ⟨f,m⟩:=Jfn (by rw [Jaq];exact o) w s;refine ⟨u,?_,λc d=>Jbw s t v c (m c d),A⟩;have a:=pk_n w;rw [Jw6 (by rw [Jaq];exact o)] at a;rw [Qs] at f;simp only [Jcb,jz,encV,encC];rw [J2d (by rw [jx];exact o) a];exact f
  ·cases h
 ·cases h
end
theorem J3e{L L' c c':List AV}{a:Nat}(f:a+c.length<=L.length)(hl:L'.length=L.length)(d:c'.length=c.length)(h:∀i,(if a<=i/\i<a+c.length then c'[i - a]? else L'[i]?)=(if a<=i/\i<a+c.length then c[i - a]? else L[i]?)):paste L' a c'=paste L a c:=by refine Be λi=>?_;rw [Jas (by omega),Jas f,d];exact h i
theorem Js5{L c:List AV}{a k:Nat}{v:AV}(h:a+c.length<=L.length)(f:a<=k)(d:k<a+c.length):paste (L.set k v) a c=paste L a c:=by
 refine J3e h (by simp) rfl λi=>?_;by_cases hi:a<=i/\i<a+c.length
 ·rw [if_pos hi,if_pos hi]
 ·rw [if_neg hi,if_neg hi,Bt (by omega)]
theorem Jp8{L c:List AV}{a k:Nat}{v:AV}(h:a+c.length<=L.length)(d:k<a\/a+c.length<=k):paste (L.set k v) a c=(paste L a c).set k v:=by
 refine Be λi=>?_;rw [Jas (by simpa using h),Bf,Bf,Jas h,Jc2 h];by_cases hi:a<=i/\i<a+c.length
 ·rw [if_pos hi,if_pos hi,if_neg (by omega)]
 ·rw [if_neg hi,if_neg hi]
theorem Jkq{L c:List AV}{a j:Nat}{v:AV}(h:a+c.length<=L.length)(f:j<c.length):paste L a (c.set j v)=(paste L a c).set (a+j) v:=by
 refine Be λi=>?_;rw [Jas (by simpa using h),Bl,Bf (l:=paste L a c),Jas h,Jc2 h,Bf (l:=c)];by_cases hi:a<=i/\i<a+c.length
 ·rw [if_pos hi,if_pos hi];by_cases d:a+j=i
  ·rw [if_pos (by omega),if_pos d,if_pos f,if_pos (by omega)]
  ·rw [if_neg (by omega),if_neg d]
 ·rw [if_neg hi,if_neg hi,if_neg (by omega)]
theorem Jsn(A B c:List AV)(k:Nat):paste (A++B) (A.length+k) c=A++paste B k c:=by simp only [paste,Bo];rw [List.take_append,De (by omega),Dd,Bo,Dq,List.drop_append,Df (by omega),Dd,List.nil_append]
theorem Jkd{t:Ty}{c:List AV}{off:Nat}{x z:t.T}(d:t.cs z=paste (t.cs x) off c)(a:off+c.length<=t.sz):∀ {l:List t.T} {i:Nat},l[i]?=some x->(l.set i z).flatMap t.cs=paste (l.flatMap t.cs) (i * t.sz+off) c
 | [],i,h=>by cases h
 | y::l,0,h=>by simp at h;subst h;simp only [List.set_cons_zero,Ad,Bm,Bn];rw [d];simp only [paste];have hl:=jx t y;rw [Bv (by omega),List.drop_append_of_le_length (by omega)];simp
 | y::l,i+1,h=>by
  have h:l[i]?=some x:=by simpa using h
  have:=Jkd d a h;simp only [List.set_cons_succ,Ad,this];rw [show (i+1) * t.sz+off=(t.cs y).length+(i * t.sz+off) by rw [jx,Ak];omega,Jsn]
theorem Jho{β:Type}{l:List β}{i:Nat}{x:β}(h:l[i]?=some x):l.set i x=l:=by obtain ⟨a,rfl⟩:=Ae.1 h;exact List.set_getElem_self a
section
variable {call:Vv.Call} {base g0:Nat} {s:S Ty.T} {α:Type} {r:α}
theorem Jq6{lw:(t:Ty)->C Ty.T->Option t.T}(a:Exact s lw){t:Ty}{l q:List (C Ty.T)}{x:t.T}(h:impl val lw t l=some (x,q))(d:q.isEmpty=true):t.cs x=l.map (encC s):=by have:=Jfq a t h;rw [Ay.1 d] at this;simpa using this.symm
theorem J00{h:Heap}{n g ver off:Nat}{y:AV}{c:List AV}(a:y.cells=some c)(hl:c.length=n):Jey h n (.ptr g ver off) y=(match h g with
  | some (.box ver' cells)=>if ver=ver'/\off+n<=cells.length then some (upd h g (some (.box ver' (paste cells off c)))) else none
  | some (.arr ver' esz el cells false)=>if ver=ver'/\off+n<=cells.length/\cells≠[] then some (upd h g (some (.arr ver' esz el (paste cells off c) false))) else none
  | _=>none):=by unfold Jey;rw [a];simp only;rw [if_pos hl];rfl
theorem J4g(hi:Inv s){n:Nat}{x y:V Ty.T}{k:S Ty.T->Option α}(hy:okV s y)(h:J03 val s n x y k=some r):∃s',Stab s s'/\Inv s'/\Jey (encH s) n (encV s x) (encV s y)=some (encH s')/\k s'=some r:=by
 unfold J03 at h;split at h
 ·cases h
 rename_i K;have hg:y.good=true:=by
  cases hg:y.good with
  | true=>rfl
  | false=>exact (K (.inr hg)).elim
 have P:y.cells.length=n:=by
  by_cases h1:y.cells.length=n
  ·exact h1
  ·exact (K (.inl h1)).elim
 have G:okCs s y.cells:=λc d=>hy c (Jkh c d);have Q:(y.cells.map (encC s)).length=n:=by simpa using P
 have H:∀g ver off,Jey (encH s) n (.ptr g ver off) (encV s y)=_:=λg ver off=>J00 (Jmj hg s) Q;have fin:∀ {g:Nat} {o:Ob Ty.T} {ao:AObj},moN s.mo g=false->(∀J,look g s.ob=some J->J.ver=o.ver/\J.lenO=o.lenO)->okCs s o.kids->encO s o=ao->Stab s (s.obj g o)/\Inv (s.obj g o)/\encH (s.obj g o)=upd (encH s) g (some ao):=by intro g o ao hf h1 h2 h3;have hs:=Zp h1;refine ⟨hs,Ja7 hi hs (λg'=>K7 g g' o) (λc d=>(hs.ok c (h2 c d)).1) hf,?_⟩;rw [ji hi hs (λg'=>K7 g g' o),hs.encO h2,h3]
 split at h
 ·rename_i g ver off;split at h
  ·rename_i v cs f;split at h
   ·rename_i d;obtain ⟨rfl,O⟩:=d;obtain ⟨Z,Y,X⟩:=fin (g:=g) (o:=.box v (Jbv cs off y.cells)) (hi.free f) (λJ B=>by rw [f] at B;cases B;exact ⟨rfl,rfl⟩) (Jk6 (hi.ob _ _ f) G) rfl;refine ⟨_,Z,Y,?_,h⟩;rw [X,encV,encC,H,Jj f];simp only [encO];rw [if_pos ⟨trivial,by simpa using O⟩,Jfv]
   ·cases h
  ·rename_i v e el cs f;split at h
   ·rename_i d;obtain ⟨rfl,O,hne⟩:=d;obtain ⟨Z,Y,X⟩:=fin (g:=g) (o:=.lit v e el (Jbv cs off y.cells) false) (hi.free f) (λJ B=>by rw [f] at B;cases B;exact ⟨rfl,by simp only [Ob.lenO];rw [Jzy (by omega)]⟩) (Jk6 (hi.ob _ _ f) G) rfl;refine ⟨_,Z,Y,?_,h⟩;rw [X,encV,encC,H,Jj f];simp only [encO];rw [if_pos ⟨trivial,by simpa using O,by simpa using hne⟩,Jfv]
   ·cases h
  ·cases h
 ·rename_i g ver esz i off;split at h
  ·rename_i v e el t l nest f;obtain ⟨L,rfl⟩:∃L:List t.T,(show Ty.T (.ls t) from L)=l:=⟨l,rfl⟩;obtain ⟨I0,rfl⟩:∃I0:Int,(show Ty.T I from I0)=i:=⟨i,rfl⟩;split at h
   ·rename_i d;obtain ⟨rfl,rfl,he,O,hz⟩:=d;subst he;obtain ⟨w,B,M,h⟩:=Jv3 (l:=L) (i:=I0) h;have hl:=(Ae.1 M).1;have hfl:I0.toNat * t.sz+t.sz<=(L.flatMap t.cs).length:=by rw [jl];have:(I0.toNat+1) * t.sz<=L.length * t.sz:=Aw _ hl;rw [Ak] at this;omega
    have goal:∀ {z:t.T} {nst:Option (Nat×C Ty.T)},okCs s (Ob.kids (.row v t.sz el t (show Ty.T (.ls t) from L.set I0.toNat z) [] nst false)) ->
      Xv ((L.set I0.toNat z).flatMap t.cs) L.length t.sz (encC s) nst=paste (Xv (L.flatMap t.cs) L.length t.sz (encC s) nest) (I0.toNat * t.sz+off) (y.cells.map (encC s))->k (s.obj g (.row v t.sz el t (show Ty.T (.ls t) from L.set I0.toNat z) [] nst false))=some r ->
      ∃s',Stab s s'/\Inv s'/\Jey (encH s) n (encV s (.c (.pti g v t.sz (show Ty.T I from I0) off))) (encV s y)=some (encH s')/\k s'=some r:=by
     intro z nst hk he hkr;obtain ⟨Z,Y,X⟩:=fin (g:=g) (o:=.row v t.sz el t (show Ty.T (.ls t) from L.set I0.toNat z) [] nst false) (hi.free f) (λJ B=>by rw [f] at B;cases B;exact ⟨rfl,by simp only [Ob.lenO];rw [show List.length (α:=t.T) (show Ty.T (.ls t) from L.set I0.toNat z)=List.length (α:=t.T) L from Bl]⟩) hk rfl;refine ⟨_,Z,Y,?_,hkr⟩;rw [X,encV,encC,H,Jj f];simp only [encO,Aq,Af];rw [if_pos ⟨trivial,by rw [zj,show (show Int from (show Ty.T I from I0)).toNat=I0.toNat from rfl];omega,row_ne M hz⟩];rw [show (show Int from (show Ty.T I from I0)).toNat=I0.toNat from rfl]
     congr 4
     rw [show List.length (α:=t.T) (show Ty.T (.ls t) from L.set I0.toNat z)=L.length from Bl];exact he.symm
    have F:off+(y.cells.map (encC s)).length<=t.sz:=by rw [Q];exact O
    have expP:∀c:List (C Ty.T),(Jbv (expl val t w) off c).map (encC s)=paste (t.cs w) off (c.map (encC s)):=λc=>by rw [Jfv,Qs]
    have A:I0.toNat * t.sz+off+(y.cells.map (encC s)).length<=(L.flatMap t.cs).length:=by omega
    cases nest with
    | none=>
     obtain ⟨q,N,h⟩:=Jg h;obtain ⟨z,zr⟩:=q;simp only at h;split at h
     ·rename_i m;have a:=Jq6 (jy s) N m;rw [expP] at a;refine goal (z:=z) (nst:=none) (λc d=>by simp [Ob.kids] at d) ?_ h;simp only [Xv];exact Jkd a F M
     ·cases h
    | some p=>
     obtain ⟨no,c0⟩:=p;obtain ⟨g1,h⟩:=Kp h;have g1:I0+1=(L.length:Int):=J31 (n:=L.length) g1;have E:(L.length - 1) * t.sz+no=I0.toNat * t.sz+no:=by rw [show L.length - 1=I0.toNat by omega]
     split at h
     ·rename_i hr;split at h
      ·rename_i c' z0 R hz0;obtain ⟨q,N,h⟩:=Jg h;obtain ⟨z,zr⟩:=q;simp only at h;split at h
       ·rename_i m;have a:=Jq6 (jy s) N m;rw [expP,Du] at a;have hj:no - off<(y.cells.map (encC s)).length:=by omega
        refine goal (z:=z) (nst:=some (no,c')) (λc d=>by simp [Ob.kids] at d;subst d;exact G _ (Do R)) ?_ h
        simp only [Xv];rw [E,Jkd a (by simpa using F) M,Jkq A hj,show I0.toNat * t.sz+off+(no - off)=I0.toNat * t.sz+no by omega,List.set_set,Js5 A (by omega) (by omega)];rw [show I0.toNat * t.sz+no=I0.toNat * t.sz+off+(no - off) by omega,<-Jkq A hj,<-Du,Jho R]
       ·cases h
      ·cases h
     ·rename_i hr;obtain ⟨q,N,h⟩:=Jg h;obtain ⟨z,zr⟩:=q;simp only at h;split at h
      ·rename_i m;have a:=Jq6 (jy s) N m;rw [expP] at a;refine goal (z:=z) (nst:=some (no,c0)) (λc d=>by simp [Ob.kids] at d;subst d;exact hi.ob _ _ f _ (by simp [Ob.kids])) ?_ h
       simp only [Xv];rw [E,Jkd a F M,Jp8 A (by omega)]
      ·cases h
   ·cases h
  ·cases h
 ·cases h
end
theorem Jmz{t:Ty}(l:List t.T)(a n:Nat):((l.drop a).take n).flatMap t.cs=cut (l.flatMap t.cs) (a * t.sz) (n * t.sz):=by
 have hd:∀(l:List t.T) (a:Nat),(l.drop a).flatMap t.cs=(l.flatMap t.cs).drop (a * t.sz):=by
  intro l
  induction l with
  | nil=>intro a;simp
  | cons x l d=>
   intro a;cases a with
   | zero=>simp
   | succ a=>
    rw [List.drop_succ_cons,d,Ad,show (a+1) * t.sz=(t.cs x).length+a * t.sz by rw [jx,Ak];omega];exact (List.drop_length_add_append ..).symm
 have f:∀(l:List t.T) (n:Nat),(l.take n).flatMap t.cs=(l.flatMap t.cs).take (n * t.sz):=by
  intro l
  induction l with
  | nil=>intro n;simp
  | cons x l d=>
   intro n;cases n with
   | zero=>simp
   | succ n=>
    rw [List.take_succ_cons,Ad,d,Ad,show (n+1) * t.sz=(t.cs x).length+n * t.sz by rw [jx,Ak];omega];exact (List.take_length_add_append ..).symm
 rw [f,hd];rfl
theorem Jvd(l:List AV):cut l 0 l.length=l:=by simp [cut]
def El.cells(s:S Ty.T):El Ty.T->List AV
 | .t ty v=>Dt (α:=ty.T) ty.cs v
 | .x l=>l.map (encC s)
def El.n(esz:Nat):El Ty.T->Nat
 | .t ty v=>List.length (α:=ty.T) v
 | .x l=>l.length / esz
def El.ok(s:S Ty.T)(esz:Nat):El Ty.T->Prop
 | .t ty _=>ty.sz=esz/\0<esz
 | .x l=>okCs s l/\l.length % esz=0
section
variable {call:Vv.Call} {base g0:Nat} {s:S Ty.T} {α:Type} {r:α}
theorem Jbp{a b:Int}(h:val.le a b=true):a<=b:=by have:decide (a<=b)=true:=h;simpa using this
theorem Jpl{g ver len:Nat}{off:Nat}{v e:Nat}{el:TypeId}{cells:List AV}{z:Bool}{h:Heap}(d:h g=some (.arr v e el cells z))(a:v=ver):lenV h (.arr g ver off len)=some (len:Int):=by simp [lenV,Y7,d,a]
theorem J1t(hi:Inv s){esz:Nat}{y:V Ty.T}{k:El Ty.T->Option α}(h:elems val s esz y k=some r):∃e:El Ty.T,lenV (encH s) (encV s y)=some (e.n esz:Int)/\z6 (encH s) esz (encV s y)=some (e.cells s)/\e.ok s esz/\k e=some r:=by
 unfold elems at h;split at h
 ·exact ⟨.x [],by simp [encV,encC,lenV,El.n],by simp [encV,encC,z6,El.cells],⟨λc d=>(by cases d),by simp⟩,h⟩
 ·rename_i t v;split at h
  ·rename_i d;obtain ⟨rfl,m⟩:=d;refine ⟨.t t v,rfl,?_,⟨rfl,m⟩,h⟩;show z6 (encH s) t.sz (.lst (List.length (α:=t.T) v) (Dt (α:=t.T) t.cs v))=_;simp only [z6];rw [if_pos (jl (t:=t) v)];rfl
  ·cases h
 ·rename_i g ver;split at h
  ·rename_i v e el t l z f;obtain ⟨L,rfl⟩:∃L:List t.T,(show Ty.T (.ls t) from L)=l:=⟨l,rfl⟩;split at h
   ·rename_i d;obtain ⟨rfl,rfl,o,m⟩:=d;subst o;have a:Qo s g v=L.length:=by simp only [Qo,f,Ob.ver,if_true,Ob.lenO,Av,Ar,As]
    have hH:=Jj f;simp only [encO,Aq,Af,Xv] at hH;refine ⟨.t t L,?_,?_,⟨rfl,m⟩,h⟩
    ·simp only [encV,encC,a];exact Jpl hH rfl
    ·simp only [encV,encC,a,z6,hH,Bn,Bm,true_and];rw [if_pos (by rw [jl];exact Bs _)];have:=Jvd (L.flatMap t.cs);rw [jl] at this;rw [this];rfl
   ·cases h
  ·rename_i v e el l z f;split at h
   ·rename_i d;obtain ⟨rfl,rfl,E,m⟩:=d;have a:Qo s g v=l.length / e:=by simp only [Qo,f,Ob.ver,if_true,Ob.lenO]
    have hH:=Jj f;simp only [encO] at hH;have w:l.length / e * e=l.length:=Bc (Ao E);refine ⟨.x l,?_,?_,⟨hi.ob _ _ f,E⟩,h⟩
    ·simp only [encV,encC,a];exact Jpl hH rfl
    ·simp only [encV,encC,a,z6,hH,Bn,Bm,true_and,w];rw [if_pos (by simp)];have:=Jvd (l.map (encC s));rw [Au] at this;rw [this];rfl
   ·cases h
  ·cases h
 ·rename_i g ver off len;split at h
  ·rename_i v e el t l z f;obtain ⟨L,rfl⟩:∃L:List t.T,(show Ty.T (.ls t) from L)=l:=⟨l,rfl⟩;obtain ⟨A,rfl⟩:∃A:Int,(show Ty.T I from A)=off:=⟨off,rfl⟩;obtain ⟨B,rfl⟩:∃B:Int,(show Ty.T I from B)=len:=⟨len,rfl⟩;split at h
   ·rename_i d;obtain ⟨rfl,rfl,o,m⟩:=d;subst o;obtain ⟨H,h⟩:=Kp h;obtain ⟨G,h⟩:=Kp h;obtain ⟨F,h⟩:=Kp h;have H:(0:Int)<=A:=Jbp H;have G:(0:Int)<=B:=Jbp G;have F:A+B<=(L.length:Int):=Jbp F;have hH:=Jj f;simp only [encO,Aq,Af,Xv] at hH;refine ⟨.t t ((L.drop A.toNat).take B.toNat),?_,?_,⟨rfl,m⟩,h⟩
    ·simp only [encV,encC];rw [Jpl hH rfl];show some ((B.toNat:Nat):Int)=some ((((L.drop A.toNat).take B.toNat).length:Nat):Int)
     congr 2
     simp;omega
    ·show z6 (encH s) t.sz (.arr g v A.toNat B.toNat)=some (((L.drop A.toNat).take B.toNat).flatMap t.cs);simp only [z6,hH,true_and];rw [if_pos (by rw [jl];exact Aw _ (by omega)),Jmz]
   ·cases h
  ·cases h
 ·cases h
theorem Jjc{b:Nat}{n:Int}(h:val.ft b n=true):n * b<=room/\n<=9223372036854775807:=by have:decide (n * b<=room/\n<=9223372036854775807)=true:=h;simpa using this
def AppOK(s:S Ty.T)(g0 esz bytes:Nat)(el:TypeId)(x y:AV)(v:V Ty.T)(s':S Ty.T):Prop:=
 appV (encH s) g0 esz bytes el x y=some (encV s' v,encH s')/\Stab s s'/\Inv s'/\okV s' v
theorem J2b(hi:Inv s){g0 esz bytes:Nat}{el:TypeId}{y:AV}{m:Nat}{new:List AV}{o:Ob Ty.T}(r:s.has g0=false)(w:lenV (encH s) y=some (m:Int))(A:z6 (encH s) esz y=some new)
  (l:new≠[]) (E:(m:Int) * bytes<=room/\(m:Int)<=9223372036854775807) (a:o.ver=s.nv g0+1) (f:o.lenO=m) (d:okCs s o.kids) (g:encO s o=.arr (s.nv g0+1) esz el new false) :
  AppOK s g0 esz bytes el .nils y (.c (.own g0 (s.nv g0+1))) (s.obj g0 o):=by
 have hs:Stab s (s.obj g0 o):=Zp λF h=>by rw [ze r] at h;cases h
 refine ⟨?_,hs,Ja7 hi hs (λv=>K7 g0 v o) (λc B=>(hs.ok c (d c B)).1) (Jyc r),Qx (Jgh (by rw [a];rfl))⟩;unfold appV;rw [w,A];simp only;rw [if_neg l,if_pos E,ji hi hs (λv=>K7 g0 v o),hs.encO d,g,Qq r];have hl:Qo (s.obj g0 o) g0 (s.nv g0+1)=m:=by rw [<-a,Jfk,f]
 simp only [encV,encC,hl,Ah]
theorem Jp7(hi:Inv s){g g0 esz bytes:Nat}{el:TypeId}{y:AV}{m:Nat}{new cells:List AV}{a o:Ob Ty.T}{n:Int}(w:look g s.ob=some a)(J:lenV (encH s) y=some (m:Int))(K:z6 (encH s) esz y=some new)
  (F:encO s a=.arr a.ver esz el cells false) (f:cells.length=a.lenO * esz) (H:n.toNat=a.lenO)
  (G:((a.lenO:Int)+m) * bytes<=room/\(a.lenO:Int)+m<=9223372036854775807) (h:o.ver=a.ver+1) (A:o.lenO=a.lenO+m) (l:okCs s o.kids) (B:encO s o=.arr (a.ver+1) esz el (cells++new) false) :
  AppOK s g0 esz bytes el (encV s (.c (.own g a.ver))) y (.c (.own g (a.ver+1))) ((s.old g a.ver n).obj g o):=by
 have hs:Stab s ((s.old g a.ver n).obj g o):=Jxh w h H;have d:∀v,look v ((s.old g a.ver n).obj g o).ob=if g=v then some o else look v s.ob:=λv=>Kb g v o s.ob;refine ⟨?_,hs,Ja7 hi hs d (λc L=>(hs.ok c (l c L)).1) (hi.free w),Qx (λr hr=>?_)⟩
 ·have hl:Qo s g a.ver=a.lenO:=by simp only [Qo,w,if_true]
  have E:Qo ((s.old g a.ver n).obj g o) g (a.ver+1)=a.lenO+m:=by simp only [Qo,d,if_true,h,A]
  simp only [encV,encC,hl,E];unfold appV;rw [J,K];simp only [Jj w,F,true_and,Bn];rw [if_pos ⟨by omega,G.1,G.2⟩,if_neg ?_,ji hi hs d,hs.encO l,B]
  ·simp only [Bm,Ah];rw [<-f,Jvd]
  ·rintro ⟨N,M,O⟩;rw [M,Bm] at f;exact N (Am f)
 ·simp only [refs,Db] at hr;subst hr;exact ⟨o,by rw [d,if_pos rfl],by omega⟩
theorem Jrm{a b:Int}:val.cm .eql .i64 a b=decide (a=b):=by show (a==b)=_;by_cases h:a=b<;>simp [h]
theorem Jo3{e:El Ty.T}{k:Option α}(h:Jya val e k=some r):e.cells s=[]/\k=some r:=by
 unfold Jya at h;split at h
 ·exact ⟨rfl,h⟩
 ·cases h
 ·rename_i t v;obtain ⟨L,rfl⟩:∃L:List t.T,(show Ty.T (.ls t) from L)=v:=⟨v,rfl⟩;obtain ⟨a,h⟩:=Kp h;have a:(L.length:Int)=0:=by
   have:decide ((L.length:Int)=0)=true:=by rw [<-Jrm];exact a
   simpa using this
  have d:L=[]:=Am (by omega);subst d;exact ⟨rfl,h⟩
theorem app_sim(hi:Inv s){g0 esz bytes:Nat}{el:TypeId}{x y:V Ty.T}{k:V Ty.T->S Ty.T->Option α}(h:appD val s g0 esz bytes el x y k=some r):∃v s',AppOK s g0 esz bytes el (encV s x) (encV s y) v s'/\k v s'=some r:=by
 unfold appD at h;obtain ⟨e,J,A,E,h⟩:=J1t hi h;split at h
 ·-- nil
  split at h
  ·cases h
  rename_i h0;have h0:s.has g0=false:=by simpa using h0
  have nothing:e.cells s=[]->∃v s',AppOK s g0 esz bytes el (encV s (.c (.k .nils))) (encV s y) v s'/\v=.c (.k .nils)/\s'=s:=λO=>
   ⟨_,_,⟨by unfold appV;rw [J,A];simp only [encV,encC];rw [if_pos O],.refl s,hi,Qx (J2 s rfl)⟩,rfl,rfl⟩
  split at h
  ·obtain ⟨v,s',a1,rfl,rfl⟩:=nothing rfl;exact ⟨_,_,a1,h⟩
  ·rename_i l hl;split at h
   ·rename_i X;obtain ⟨w,h⟩:=Kp h;have w:=Jjc w;refine ⟨_,_,J2b (o:=.lit (s.nv g0+1) esz el l false) hi h0 J A ?_ w rfl rfl E.1 rfl,h⟩;simp only [El.cells,ne_eq,List.map_eq_nil_iff];exact λq=>hl q
   ·cases h
  ·rename_i t v;obtain ⟨L,rfl⟩:∃L:List t.T,(show Ty.T (.ls t) from L)=v:=⟨v,rfl⟩;obtain ⟨hsz,X⟩:=E;rcases Jby h with ⟨w,h⟩|⟨w,h⟩
   ·have w:(L.length:Int)=0:=by
     have:decide ((L.length:Int)=0)=true:=by rw [<-Jrm];exact w
     simpa using this
    have O:L=[]:=Am (by omega);obtain ⟨v,s',a1,rfl,rfl⟩:=nothing (by simp only [El.cells];rw [show (show Ty.T (.ls t) from L)=([]:List t.T) from O];rfl);exact ⟨_,_,a1,h⟩
   ·have w:¬(L.length:Int)=0:=by
     have:decide ((L.length:Int)=0)=false:=by rw [<-Jrm];exact w
     simpa using this
    obtain ⟨g2,h⟩:=Kp h;have g2:=Jjc (n:=(L.length:Int)) g2;refine ⟨_,_,J2b hi h0 J A ?_ g2 rfl (by simp only [Ob.lenO,Av,Ar,As];rfl) (λc f=>by simp [Ob.kids] at f) (by simp only [encO,Xv,Aq,Af];rfl),h⟩;intro q;have:=congrArg List.length q;rw [show El.cells s (.t t (show Ty.T (.ls t) from L))=L.flatMap t.cs from rfl,jl] at this;rcases Dg.1 this with h4|h4<;>omega
 ·-- a row
  rename_i g ver;split at h
  ·rename_i v d el' t l tl nest F;obtain ⟨L,rfl⟩:∃L:List t.T,(show Ty.T (.ls t) from L)=l:=⟨l,rfl⟩;split at h
   ·rename_i f;obtain ⟨rfl,rfl,rfl,he,htl,X⟩:=f;have hH:encO s (.row v d el' t (show Ty.T (.ls t) from L) tl nest false)=.arr v d el' (Xv (L.flatMap t.cs) L.length t.sz (encC s) nest++tl.map (encC s)) false:=rfl;have B:tl.length / d * d=tl.length:=Bc (Ao htl);have hlO:Ob.lenO (.row v d el' t (show Ty.T (.ls t) from L) tl nest false)=L.length+tl.length / d:=rfl;have H:(Xv (L.flatMap t.cs) L.length t.sz (encC s) nest++tl.map (encC s)).length=Ob.lenO (.row v d el' t (show Ty.T (.ls t) from L) tl nest false) * d:=by rw [Ap,zj,jl,hlO,Ak,Au,he,B]
    split at h
    ·rename_i m;obtain ⟨P,Q⟩:=E;have G:m.length / d * d=m.length:=Bc (Ao Q);have M:(if tl.isEmpty=true then val.ln (t:=t) (show Ty.T (.ls t) from L) else val.pl (val.ln (t:=t) (show Ty.T (.ls t) from L)) (val.int .i64 ((tl.length / d:Nat):Int)))=(show Ty.T I from ((L.length+tl.length / d:Nat):Int)):=by
      by_cases K:tl.isEmpty=true
      ·rw [if_pos K,Ay.1 K,Av,Ar,As];rfl
      ·rw [if_neg K,Dh];rfl
     simp only [M] at h;obtain ⟨w,h⟩:=Kp h;have w:=Jjc (n:=((L.length+tl.length / d:Nat):Int)+((m.length / d:Nat):Int)) w;refine ⟨_,_,Jp7 (n:=((L.length+tl.length / d:Nat):Int)) hi F J A hH H (by rw [hlO];exact Ah _) w rfl ?_ (λc f=>?_) ?_,h⟩
     ·show L.length+(tl++m).length / d=L.length+tl.length / d+m.length / d;rw [Ap,Dq]
      congr 1
      rw [<-B,<-G,<-Ak,Bb _ X,B,G]
     ·simp only [Ob.kids,Bk] at f;rcases f with f|f|f
      ·exact hi.ob _ _ F c (by simp only [Ob.kids];exact List.mem_append_left _ f)
      ·exact hi.ob _ _ F c (by simp only [Ob.kids];exact Di _ f)
      ·exact P c f
     ·show AObj.arr _ _ _ (Xv (L.flatMap t.cs) L.length t.sz (encC s) nest++(tl++m).map (encC s)) false=_;rw [Bu,<-Bo];rfl
    ·rename_i Y m;split at h
     ·rename_i hne;rw [Az,Ay,Ac] at hne;obtain ⟨rfl,rfl⟩:=hne;obtain ⟨m',hm',h⟩:=Jg h;obtain ⟨eq,rfl⟩:=Qy (ι:=Ty.T) hm';injection eq with eq;subst eq;obtain ⟨N,rfl⟩:∃N:List Y.T,(show Ty.T (.ls Y) from N)=m:=⟨m,rfl⟩;obtain ⟨w,h⟩:=Kp h;have w:=Jjc (n:=(L.length:Int)+(N.length:Int)) w;refine ⟨_,_,Jp7 (n:=(L.length:Int)) hi F J A hH H (by rw [hlO,Av,Ar,As];exact Ah _) ?_ rfl ?_ (λc f=>by simp [Ob.kids] at f) ?_,h⟩
      ·rw [hlO,Av,Ar,As];exact w
      ·show List.length (L++N)+0 / d=L.length+0 / d+N.length;rw [Ap,Ar];omega
      ·show AObj.arr _ _ _ ((L++N).flatMap Y.cs++[]) false=.arr _ _ _ (L.flatMap Y.cs++[]++N.flatMap Y.cs) false;rw [Af,Af,Dr];rfl
     ·cases h
   ·cases h
  ·rename_i v d el' l F;split at h
   ·rename_i f;obtain ⟨rfl,rfl,rfl,hld,X⟩:=f;have hH:encO s (.lit v d el' l false)=.arr v d el' (l.map (encC s)) false:=rfl;have B:l.length / d * d=l.length:=Bc (Ao hld);have hlO:Ob.lenO (.lit v d el' l false)=l.length / d:=rfl;have H:(l.map (encC s)).length=Ob.lenO (.lit v d el' l false) * d:=by rw [Au,hlO,B]
    split at h
    ·rename_i m;obtain ⟨P,Q⟩:=E;have G:m.length / d * d=m.length:=Bc (Ao Q);obtain ⟨w,h⟩:=Kp h;have w:=Jjc (n:=((l.length / d+m.length / d:Nat):Int)) w;refine ⟨_,_,Jp7 (n:=((l.length / d:Nat):Int)) hi F J A hH H (by rw [hlO];exact Ah _) (by rw [Dh] at w;exact w) rfl ?_ (λc f=>?_) ?_,h⟩
     ·show (l++m).length / d=l.length / d+m.length / d;rw [Ap,<-B,<-G,<-Ak,Bb _ X,B,G]
     ·simp only [Ob.kids,Bk] at f;rcases f with f|f
      ·exact hi.ob _ _ F c f
      ·exact P c f
     ·show AObj.arr _ _ _ ((l++m).map (encC s)) false=_;rw [Bu];rfl
    ·rename_i t m;obtain ⟨N,rfl⟩:∃N:List t.T,(show Ty.T (.ls t) from N)=m:=⟨m,rfl⟩;obtain ⟨hsz,_⟩:=E;obtain ⟨l',hl',h⟩:=Jg h;have hlc:=Jsm (jy s) t _ hl';obtain ⟨L',rfl⟩:∃L':List t.T,(show Ty.T (.ls t) from L')=l':=⟨l',rfl⟩;have R:L'.length * t.sz=l.length:=by have:=congrArg List.length hlc;rw [Au] at this;rw [this];exact (jl L').symm
     obtain ⟨w,h⟩:=Kp h;have w:=Jjc (n:=((l.length / d:Nat):Int)+(N.length:Int)) w;have Z:(if l.isEmpty=true then (show Ty.T (.ls t) from N) else val.ap (t:=t) (show Ty.T (.ls t) from L') (show Ty.T (.ls t) from N))=(show Ty.T (.ls t) from L'++N):=by
      by_cases K:l.isEmpty=true
      ·rw [if_pos K];have:L'=[]:=by
        rw [Ay.1 K,Av] at R;rcases Dg.1 R with h4|h4
        ·exact Am h4
        ·omega
       rw [this];rfl
      ·rw [if_neg K];rfl
     rw [Z] at h;refine ⟨_,_,Jp7 (n:=((l.length / d:Nat):Int)) hi F J A hH H (by rw [hlO];exact Ah _) w rfl ?_ (λc f=>by simp [Ob.kids] at f) ?_,h⟩
     ·show List.length (L'++N)+0 / d=l.length / d+N.length;rw [Ap,Ar,<-R,hsz,Bb _ X];omega
     ·show AObj.arr _ _ _ ((L'++N).flatMap t.cs++[]) false=.arr _ _ _ (l.map (encC s)++N.flatMap t.cs) false;rw [hlc,Af,Dr];rfl
   ·cases h
  ·rename_i v d el' t l tl nest F;split at h
   ·rename_i f;subst f;obtain ⟨O,h⟩:=Jo3 h;refine ⟨_,s,⟨?_,.refl s,hi,Qx λr hr=>?_⟩,h⟩
    ·unfold appV;rw [J,A];have hH:=Jj F;simp only [encO] at hH;simp only [encV,encC,hH];rw [if_pos ⟨trivial,by rw [O]⟩]
    ·simp only [refs,Db] at hr;subst hr;exact ⟨_,F,Bs _⟩
   ·cases h
  ·cases h
 ·rename_i t v;obtain ⟨O,h⟩:=Jo3 h;refine ⟨_,s,⟨?_,.refl s,hi,Qx (J2 s rfl)⟩,h⟩;unfold appV;rw [J,A];simp only [encV,encC,Ty.cs,Xu];rw [if_pos (by rw [O])]
 ·cases h
end
def Alt(op op':LOp):Prop:=op'=op\/∃f args,op=.callp f args/\(op'=.callq f args\/op'=.callz f args)
section
variable {call:Vv.Call} {base g0:Nat} {s:S Ty.T} {α:Type} {r:α}
theorem Jfa{t:Ty}{x:t.T}:okV s (.c (.lf t x)):=Qx (J2 s rfl)
theorem ibinV_ar{o:BinOp}{k:IntKind}{a b:Int}(h:isAr o=true):Jnd o k a b=some (.int k (iar o k a b)):=by cases o<;>simp [isAr] at h<;>rfl
theorem ibinV_cm{o:BinOp}{k:IntKind}{a b:Int}(h:isCmp o=true):Jnd o k a b=some (.bool (icm o a b)):=by cases o<;>simp [isCmp] at h<;>rfl
theorem Jml{g ver:Nat}(h:s.cur g ver=true):Vv.cur (encH s) g ver=true:=by
 unfold S.cur at h;cases a:look g s.ob with
 | none=>rw [a] at h;cases h
 | some o=>rw [a] at h;simp only [Vv.cur,Jj a,Y4];exact h
theorem J4s{b:Bool}{x y:C Ty.T}{z:Bool}(h:eqC val b x y=some z):Ja9 b (encC s x) (encC s y)=some z:=by
 unfold eqC at h;split at h
 ·rename_i k a t b;cases f:cast? (ι:=Ty.T) t (.int k) b with
  | none=>rw [f] at h;cases h
  | some m=>
   rw [f] at h;obtain ⟨e,rfl⟩:=Qy f;subst e;simp only [Ab] at h;have:=Aj h;subst this;simp only [encC,Ty.cs,Xu,Ja9,if_true];rfl
 ·cases l:Y8 val .bool x with
  | none=>rw [l] at h;cases h
  | some a'=>
   rw [l] at h;simp only [Bh] at h;cases g:Y8 val .bool y with
   | none=>rw [g] at h;cases h
   | some m=>
    rw [g] at h;simp only [Ab] at h;have hx:=Jbl (s:=s) (t:=.bool) rfl l;have d:=Jbl (s:=s) (t:=.bool) rfl g;have hx:encC s x=.bool a':=(List.cons.inj hx).1.symm;have d:encC s y=.bool m:=(List.cons.inj d).1.symm;rw [hx,d];have:=Aj h;subst this;rfl
 ·cases h
theorem Jqd:∀ {bs:List Bool} {l m:List (C Ty.T)} {z:Bool},eqCs val bs l m=some z->Jz bs (l.map (encC s)) (m.map (encC s))=some z
 | [],[],[],z,h=>by simp only [eqCs] at h;injection h with h;subst h;rfl
 | [b],[x],[y],z,h=>by simp only [eqCs] at h;have:=J4s (s:=s) h;simp only [Br,Aq,Jz,this,Ds]
 | b::g::bs,x::xs,y::ys,z,h=>by
  have h':(eqC val b x y).bind (λu=>(eqCs val (g::bs) xs ys).map (val.an u))=some z:=by cases xs<;>cases ys<;>exact h
  cases a:eqC val b x y with
  | none=>rw [a] at h';cases h'
  | some u=>
   rw [a] at h';simp only [Bh] at h';cases d:eqCs val (g::bs) xs ys with
   | none=>rw [d] at h';cases h'
   | some v=>
    rw [d] at h';have:=Aj h';subst this;have o:=J4s (s:=s) a;have f:=Jqd d;simp only [Br] at f ⊢;rw [Jz,o,f];rfl
 | [],[],_::_,_,h=>by cases h
 | [],_::_,_,_,h=>by cases h
 | [_],[],_,_,h=>by cases h
 | [_],[_],[],_,h=>by cases h
 | [_],[_],_::_::_,_,h=>by simp only [eqCs] at h;cases a:eqC val _ _ _<;>rw [a] at h<;>simp [eqCs] at h
 | [_],_::_::_,[],_,h=>by cases h
 | [_],_::_::_,_::_,_,h=>by simp only [eqCs] at h;cases a:eqC val _ _ _<;>rw [a] at h<;>simp [eqCs] at h
 | _::_::_,[],_,_,h=>by cases h
 | _::_::_,_::_,[],_,h=>by cases h
theorem Ji7{i:Int}{k:Nat->Option α}:∀ {n j:Nat},J10 val i k j n=some r->∃m,j<=m/\m<j+n/\i=(m:Int)/\k m=some r
 | 0,j,h=>by cases h
 | n+1,j,h=>by
  simp only [J10] at h;rcases Jby h with ⟨a,h⟩|⟨a,h⟩
  ·have a:i=(j:Int):=by
    have:decide (i=(j:Int))=true:=by rw [<-Jrm];exact a
    simpa using this
   exact ⟨j,Bs _,by omega,a,h⟩
  ·obtain ⟨m,l,g,f,d⟩:=Ji7 h;exact ⟨m,by omega,by omega,f,d⟩
theorem Jd1{g ver:Nat}{n:Int}(h:Jc6 val s g ver=some n):∃esz el cells z,encH s g=some (.arr ver esz el cells z)/\n=(Qo s g ver:Int):=by
 unfold Jc6 at h;split at h
 ·rename_i v e el t l x nest z a;split at h
  ·rename_i d;subst d;refine ⟨_,_,_,_,by rw [Jj a];rfl,?_⟩;have:=(Aj h).symm;rw [this];simp only [Qo,a,Ob.ver,if_true,Ob.lenO];by_cases hx:x.isEmpty=true
   ·rw [if_pos hx,Ay.1 hx,Av,Ar,As];rfl
   ·rw [if_neg hx,Dh];rfl
  ·cases h
 ·rename_i v e el l z a;split at h
  ·rename_i d;subst d;refine ⟨_,_,_,_,by rw [Jj a];rfl,?_⟩;have:=(Aj h).symm;rw [this];simp only [Qo,a,Ob.ver,if_true,Ob.lenO];rfl
  ·cases h
 ·cases h
end
section
variable {call:Vv.Call} {base g0:Nat} {s:S Ty.T} {α:Type} {r:α}
theorem Jtc{x:Option LO}{z a:Int}(h:J2x val s x z=some a):zw z (x.map (enc s).ev)=some a/\(x=none->a=z):=by
 cases x with
 | none=>have:=Aj h;subst this;exact ⟨rfl,λ_=>rfl⟩
 | some x=>
  have h:Jhs .i64 (ev val s x)=some a:=h;refine ⟨?_,λe=>by cases e⟩;simp only [Ab,evI h,zw]
theorem Jfh{lo hi:Option LO}{n:Int}{k:Int->Int->Option α}(G:0<=n)(h:Jje val s lo hi n k=some r) :
  ∃a b:Int,zw 0 (lo.map (enc s).ev)=some a/\zw n (hi.map (enc s).ev)=some b/\0<=a/\a<=b/\b<=n/\(lo=none->a=0)/\k a b=some r:=by
 unfold Jje at h;obtain ⟨a,w,h⟩:=Jg h;obtain ⟨b,v,h⟩:=Jg h;obtain ⟨A,rfl⟩:∃A:Int,(show Ty.T I from A)=a:=⟨a,rfl⟩;obtain ⟨B,rfl⟩:∃B:Int,(show Ty.T I from B)=b:=⟨b,rfl⟩;obtain ⟨F,E⟩:=Jtc (z:=0) (a:=A) w;obtain ⟨y,m⟩:=Jtc (z:=n) (a:=B) v;refine ⟨A,B,F,y,?_⟩;have o:∀ {x:Option α},(if hi.isNone=true then k A B else val.gd (val.le (show Ty.T I from B) (show Ty.T I from n)) (k A B))=some r->B<=n/\k A B=some r:=λ{x} h=>by
  by_cases d:hi.isNone=true
  ·rw [if_pos d] at h;rw [m (Ac.1 d)];rw [m (Ac.1 d)] at h;exact ⟨Dj _,h⟩
  ·rw [if_neg d] at h;obtain ⟨g,h⟩:=Kp h;exact ⟨Jbp g,h⟩
 by_cases hl:lo.isNone=true
 ·have e:=E (Ac.1 hl);simp only [hl,if_true] at h;by_cases d:hi.isNone=true
  ·simp only [d,true_and,and_self,if_true] at h;have eb:=m (Ac.1 d);refine ⟨by omega,by omega,by omega,λ_=>e,h⟩
  ·have f:¬(True/\hi.isNone=true):=λq=>d q.2;rw [if_neg f] at h;obtain ⟨g,h⟩:=Kp h;have g:A<=B:=Jbp g;obtain ⟨l,h⟩:=o (x:=none) h;exact ⟨by omega,g,l,λ_=>e,h⟩
 ·rw [if_neg hl] at h;obtain ⟨g0,h⟩:=Kp h;have g0:(0:Int)<=A:=Jbp g0;have f:¬(lo.isNone=true/\hi.isNone=true):=λq=>hl q.1;simp only at h;rw [if_neg f] at h;obtain ⟨g,h⟩:=Kp h;have g:A<=B:=Jbp g;obtain ⟨l,h⟩:=o (x:=none) h;exact ⟨g0,g,l,λq=>by rw [q] at hl;exact (hl rfl).elim,h⟩
theorem J0h{lo:Option LO}{a b:Int}(h:lo=none->a=0):(if lo.isNone=true then (show Ty.T I from b) else val.mi (show Ty.T I from b) (show Ty.T I from a))=(show Ty.T I from b - a):=by
 by_cases hl:lo.isNone=true
 ·rw [if_pos hl,h (Ac.1 hl)];show b=b - 0;omega
 ·rw [if_neg hl];rfl
theorem slc_sim(hi:Inv s){esz:Nat}{x:V Ty.T}{lo d:Option LO}{k:V Ty.T->Option α}(hx:okV s x)(h:slcD val s esz x lo d k=some r) :
  ∃v,jg (encH s) esz (encV s x) (lo.map (enc s).ev) (d.map (enc s).ev)=some (encV s v)/\okV s v/\k v=some r:=by
 unfold slcD at h;split at h
 ·rename_i t v;obtain ⟨L,rfl⟩:∃L:List t.T,(show Ty.T (.ls t) from L)=v:=⟨v,rfl⟩;split at h
  ·rename_i J;subst J;obtain ⟨a,b,w,o,F,E,y,m,h⟩:=Jfh (n:=(L.length:Int)) (by omega) h;refine ⟨.c (.lf (.ls t) (show Ty.T (.ls t) from (L.drop a.toNat).take (b - a).toNat)),?_,Jfa,?_⟩
   ·show jg (encH s) t.sz (.lst L.length (L.flatMap t.cs)) _ _=some (.lst ((L.drop a.toNat).take (b - a).toNat).length (((L.drop a.toNat).take (b - a).toNat).flatMap t.cs));simp only [jg,w,o];rw [if_pos ⟨F,E,y,jl L⟩,Jmz]
    congr 2
    simp;omega
   ·have:=J0h (lo:=lo) (a:=a) (b:=b) m;rw [this] at h;exact h
  ·cases h
 ·rename_i g ver;have main:∀ {v e:Nat} {el:TypeId} {cells:List AV} {z:Bool},encH s g=some (.arr v e el cells z)->v=ver->e=esz->orNo val (Jc6 val s g ver) (λn=>Jje val s lo d n λa b=>k (.c (.part g ver a (if lo.isNone=true then b else val.mi b a))))=some r ->
    ∃v,jg (encH s) esz (encV s (.c (.own g ver))) (lo.map (enc s).ev) (d.map (enc s).ev)=some (encV s v)/\okV s v/\k v=some r:=by intro v e el cells z hH O R h;obtain ⟨n,M,h⟩:=Jg h;obtain ⟨_,_,_,_,hH2,M⟩:=Jd1 (n:=n) M;rw [M] at h;obtain ⟨a,b,w,o,F,E,y,m,h⟩:=Jfh (n:=(Qo s g ver:Int)) (by omega) h;have:=J0h (lo:=lo) (a:=a) (b:=b) m;rw [this] at h;refine ⟨_,?_,Qx (λq K=>hx _ (by simp [V.all];rfl) q (by simpa [refs] using K)),h⟩;simp only [encV,encC,jg,w,o];rw [if_pos ⟨F,E,y,by simp [curA,hH,O,R]⟩];simp only [Bn]
  split at h
  ·rename_i v e el t l x nest z G;split at h
   ·rename_i f;exact main (by rw [Jj G];rfl) f.1 f.2 h
   ·cases h
  ·rename_i v e el l z G;split at h
   ·rename_i f;exact main (by rw [Jj G];rfl) f.1 f.2 h
   ·cases h
  ·cases h
 ·rename_i g ver off len;obtain ⟨A,rfl⟩:∃A:Int,(show Ty.T I from A)=off:=⟨off,rfl⟩;obtain ⟨B,rfl⟩:∃B:Int,(show Ty.T I from B)=len:=⟨len,rfl⟩;split at h
  ·rename_i v e el t l x nest z G;split at h
   ·rename_i f;obtain ⟨N,h⟩:=Kp h;obtain ⟨H,h⟩:=Kp h;have N:(0:Int)<=A:=Jbp N;have H:(0:Int)<=B:=Jbp H;obtain ⟨a,b,w,o,F,E,y,m,h⟩:=Jfh (n:=B) H h;have Q:=J0h (lo:=lo) (a:=a) (b:=b) m;rw [Q] at h;have P:(if lo.isNone=true then (show Ty.T I from A) else val.pl (show Ty.T I from A) (show Ty.T I from a))=(show Ty.T I from A+a):=by
     by_cases hl:lo.isNone=true
     ·rw [if_pos hl,m (Ac.1 hl)];show A=A+0;omega
     ·rw [if_neg hl];rfl
    rw [P] at h;refine ⟨_,?_,Qx (λq K=>hx _ (by simp [V.all];rfl) q (by simpa [refs] using K)),h⟩;show jg (encH s) esz (.arr g ver A.toNat B.toNat) _ _=some (.arr g ver (A+a).toNat (b - a).toNat);have hB:((B.toNat:Nat):Int)=B:=Bj H;simp only [jg,w,hB,o];rw [if_pos ⟨F,E,y,by simp [curA,Jj G,encO,f.1,f.2]⟩]
    congr 2
    omega
   ·cases h
  ·cases h
 ·obtain ⟨a,b,w,o,F,E,y,m,h⟩:=Jfh (n:=0) (Dj _) h;refine ⟨_,?_,Qx (J2 s rfl),h⟩;simp only [encV,encC,jg,w,o];rw [if_pos ⟨by omega,by omega⟩]
 ·cases h
end
theorem Jhk{t:Ty}:t.isAg=!t.one:=by cases t<;>rfl
theorem J1a{t:Ty}(h:t.one=true)(x:t.T):avT t x=Xu (t.cs x):=by unfold avT;rw [Jhk,h];rfl
theorem Jxb{t:Ty}:t.one1=t.one:=by cases t<;>rfl
theorem Juv:∀ {a b:List Bool},eqBs a b=true->a=b
 | [],[],_=>rfl
 | true::a,true::b,h=>by rw [Juv (a:=a) (b:=b) h]
 | false::a,false::b,h=>by rw [Juv (a:=a) (b:=b) h]
 | [],_::_,h=>by simp [eqBs] at h
 | true::_,[],h=>by simp [eqBs] at h
 | false::_,[],h=>by simp [eqBs] at h
 | true::_,false::_,h=>by simp [eqBs] at h
 | false::_,true::_,h=>by simp [eqBs] at h
theorem Jku:∀ {a b:List Bool} {x y h g:List AV} {p q:Bool},Jz a x y=some p->Jz b h g=some q->Jz (a++b) (x++h) (y++g)=some (p&&q)
 | [],b,[],[],h,g,p,q,f,l=>by injection f with f;subst f;simpa using l
 | s::a,b,u::x,v::y,h,g,p,q,f,l=>by
  simp only [Jz,List.cons_append] at f ⊢;cases m:Ja9 s u v with
  | none=>rw [m] at f;cases f
  | some c=>
   rw [m] at f;cases hr:Jz a x y with
   | none=>rw [hr] at f;cases f
   | some d=>
    rw [hr] at f;injection f with f;subst f;rw [Jku hr l];simp [Bool.and_assoc]
 | [],_,[],_::_,_,_,_,_,f,_=>by simp [Jz] at f
 | [],_,_::_,_,_,_,_,_,f,_=>by simp [Jz] at f
 | _::_,_,[],_,_,_,_,_,f,_=>by simp [Jz] at f
 | _::_,_,_::_,[],_,_,_,_,f,_=>by simp [Jz] at f
theorem Jec:∀ {t:Ty} (h:t.key=true) (x y:t.T),Jz t.ksh (t.cs x) (t.cs y)=some (t.eqb x y)
 | .int k,_,x,y=>by show Jz [false] [AV.int k x] [AV.int k y]=some (Ty.eqb (.int k) x y);simp only [Jz,Ja9,if_true,Ds];rfl
 | .bool,_,x,y=>by show Jz [true] [AV.bool x] [AV.bool y]=some (Ty.eqb .bool x y);simp only [Jz,Ja9,Ds];rfl
 | .u,_,x,y=>rfl
 | .p a b,h,x,y=>by simp only [Ty.key,Az] at h;exact Jku (Jec h.1 x.1 y.1) (Jec h.2 x.2 y.2)
theorem Jvn{ag:Bool}{sh:List Bool}{t:Ty}(h:kOK ag sh t=true)(x y:t.T):eqV ag sh (avT t x) (avT t y)=some (t.eqb x y):=by
 unfold kOK at h;simp only [Az,beq_iff_eq] at h;obtain ⟨⟨⟨l,a⟩,g⟩,m⟩:=h;have a:=Juv a;subst l;subst a;unfold eqV avT;cases f:t.isAg with
 | true=>simp only [if_true];exact Jec g x y
 | false=>
  have d:t.one=true:=by rw [Jhk] at f;simpa using f
  simp only [Ba,if_false];rw [<-Job d,<-Job d];exact Jec g x y
def mPos{a b:Ty}(k:a.T):List (a.T×b.T)->Option Nat
 | []=>none
 | e::r=>if a.eqb k e.1=true then some 0 else (mPos k r).map (·+1)
section
variable {ag:Bool} {sh:List Bool} {kt vt:Ty}
theorem Jqy(h:kOK ag sh kt=true)(k:kt.T):∀(i:Nat) (es:List (kt.T×vt.T)),posM ag sh (avT kt k) i (encE kt vt es)=some ((mPos k es).map (i+·))
 | i,[]=>rfl
 | i,e::r=>by
  show (match eqV ag sh (avT kt k) (avT kt e.1) with|some true=>some (some i)|some false=>posM ag sh (avT kt k) (i+1) (encE kt vt r)|none=>none)=_;rw [Jvn h];unfold mPos;cases a:kt.eqb k e.1 with
  | true=>simp
  | false=>
   simp only [Ba,if_false];rw [Jqy h k (i+1) r];cases mPos k r with
   | none=>rfl
   | some j=>simp only [Ab];congr 2;omega
theorem at_enc(k:kt.T)(z:AV):∀(es:List (kt.T×vt.T)),atM (encE kt vt es) z (mPos k es)=(match Zl k es with|some v=>avT vt v|none=>z)
 | []=>rfl
 | e::r=>by
  unfold mPos Zl;by_cases a:kt.eqb k e.1=true
  ·rw [if_pos a,if_pos a];rfl
  ·rw [if_neg a,if_neg a,<-at_enc k z r];cases mPos k r with
   | none=>rfl
   | some j=>rfl
theorem J0t(k:kt.T)(v:vt.T):∀(es:List (kt.T×vt.T)),putM (encE kt vt es) (avT kt k) (avT vt v) (mPos k es)=encE kt vt (mSet k v es)
 | []=>rfl
 | e::r=>by
  unfold mPos mSet;by_cases a:kt.eqb k e.1=true
  ·rw [if_pos a,if_pos a];rfl
  ·rw [if_neg a,if_neg a];have d:=J0t k v r;show _=(avT kt e.1,avT vt e.2)::encE kt vt (mSet k v r);rw [<-d];cases mPos k r with
   | none=>rfl
   | some j=>rfl
theorem J2g(k:kt.T):∀(es:List (kt.T×vt.T)),outM (encE kt vt es) (mPos k es)=encE kt vt (mDel k es)
 | []=>rfl
 | e::r=>by
  unfold mPos mDel;by_cases a:kt.eqb k e.1=true
  ·rw [if_pos a,if_pos a];rfl
  ·rw [if_neg a,if_neg a];have d:=J2g k r;show _=(avT kt e.1,avT vt e.2)::encE kt vt (mDel k r);rw [<-d];cases mPos k r with
   | none=>rfl
   | some j=>rfl
theorem Joj(k:kt.T):∀(es:List (kt.T×vt.T)),(mPos k es).isSome=(Zl k es).isSome
 | []=>rfl
 | e::r=>by
  unfold mPos Zl;by_cases a:kt.eqb k e.1=true
  ·rw [if_pos a,if_pos a];rfl
  ·rw [if_neg a,if_neg a,<-Joj k r];cases mPos k r<;>rfl
theorem Jly(h:kOK ag sh kt=true)(k:kt.T):Jq1 ag sh (avT kt k)=true:=by unfold Jq1;rw [Jvn h];rfl
end
section
variable {call:Vv.Call} {base g0:Nat} {s:S Ty.T} {α:Type} {r:α}
theorem Jcg{ag:Bool}{t:Ty}{v:V Ty.T}{x:t.T}(g:ag=t.isAg)(h:keyD val ag t v=some x):encV s v=avT t x:=by
 subst g;unfold keyD at h;split at h
 ·rename_i l a;cases d:impl val (Y8 val) t l with
  | none=>rw [d] at h;cases h
  | some p=>
   obtain ⟨y,r⟩:=p;rw [d] at h;have h:(if r.isEmpty=true then some y else none)=some x:=h;split at h
   ·rename_i hr;injection h with h;subst h;have hr:r=[]:=Ay.1 hr;subst hr;have:=Jfq (s:=s) (jy s) t d;simp only [encV,avT,a,if_true];rw [this];simp
   ·cases h
 ·rename_i c a;have f:t.one=true:=by rw [Jhk] at a;simpa using a
  have:=Jbl (s:=s) f h;rw [J1a f,this];rfl
 ·cases h
theorem J1j{t:Ty}{z:AV}{x:t.T}(a:t.one=true)(h:zeroD val t z=some x):Xu (t.cs x)=z:=by
 unfold zeroD at h;split at h
 ·injection h with h;subst h;rfl
 ·have:=Jbl (s:=⟨[],[],[],[],none⟩) a h;rw [this,Jmm];rfl
theorem Je4{v:V Ty.T}{p}(h:mpAt s v=some p):v=.c (.map p.1 p.2.1)/\look p.1 s.ob=some (.mp p.2.1 p.2.2.1 p.2.2.2.1 p.2.2.2.2):=by
 unfold mpAt at h;split at h
 ·rename_i g ver;split at h
  ·rename_i w kt vt es a;split at h
   ·rename_i e;injection h with h;subst h;subst e;exact ⟨rfl,a⟩
   ·cases h
  ·cases h
 ·cases h
theorem Jc8{g w:Nat}{kt vt:Ty}{es:List (kt.T×vt.T)}(a:look g s.ob=some (.mp w kt vt es)):curM (encH s) g w=some (encE kt vt es):=by unfold curM;rw [Jj a];simp [encO]
theorem mg_enc{ag:Bool}{sh:List Bool}{kt vt:Ty}(a:kOK ag sh kt=true)(f:vt.one=true)(es:List (kt.T×vt.T))(k:kt.T)(z:vt.T){zv:AV}(d:Xu (vt.cs z)=zv)(ok:Bool) :
  Jy6 ok ag sh zv (avT kt k) (some (encE kt vt es))=some (if ok=true then .tup [Xu (vt.cs ((Zl k es).getD z)),.bool (Zl k es).isSome] else Xu (vt.cs ((Zl k es).getD z))):=by
 unfold Jy6;simp only;rw [if_pos (Jly a k),Jqy a];have h:(mPos k es).map (0+·)=mPos k es:=by cases mPos k es<;>simp
 rw [h];simp only [lookP];rw [at_enc,Joj];have g:(match Zl k es with|some v=>avT vt v|none=>zv)=Xu (vt.cs ((Zl k es).getD z)):=by
  cases Zl k es with
  | none=>exact d.symm
  | some v=>exact J1a f v
 rw [g]
theorem J13{ag:Bool}{sh:List Bool}{kt vt:Ty}(a:kOK ag sh kt=true){g w:Nat}{es:List (kt.T×vt.T)}(d:look g s.ob=some (.mp w kt vt es))(k:kt.T)(v:vt.T) :
  setV (encH s) ag sh (avT kt k) (avT vt v) (.map g w)=some (upd (encH s) g (some (.map w (encE kt vt (mSet k v es)) false))):=by
 unfold setV;simp only;rw [Jc8 d];simp only;rw [if_pos (Jly a k),Jqy a];have f:(mPos k es).map (0+·)=mPos k es:=by cases mPos k es<;>simp
 rw [f];simp only [setE,J0t]
theorem J19{ag:Bool}{sh:List Bool}{kt vt:Ty}(a:kOK ag sh kt=true){g w:Nat}{es:List (kt.T×vt.T)}(d:look g s.ob=some (.mp w kt vt es))(k:kt.T) :
  delV (encH s) ag sh (avT kt k) (.map g w)=some (upd (encH s) g (some (.map w (encE kt vt (mDel k es)) false))):=by
 unfold delV;simp only;rw [Jc8 d];simp only;rw [if_pos (Jly a k),Jqy a];have f:(mPos k es).map (0+·)=mPos k es:=by cases mPos k es<;>simp
 rw [f];simp only [delE,J2g]
theorem Jl0(hi:Inv s){op:LOp}{v:V Ty.T}{g w:Nat}{kt vt:Ty}{es es':List (kt.T×vt.T)}(l:look g s.ob=some (.mp w kt vt es))
  (m:Ja call base (enc s) g0 op=some (encV s v,upd (encH s) g (some (.map w (encE kt vt es') false)))) (d:v.all=[.any]\/v.all=[]) :
  Sim call base g0 s op v (s.obj g (.mp w kt vt es')):=by
 have st:Stab s (s.obj g (.mp w kt vt es')):=Zp λo f=>by rw [l] at f;injection f with f;subst f;exact ⟨rfl,rfl⟩
 have okv:∀s:S Ty.T,okV s v:=λs c a=>by
  rcases d with d|d
  ·rw [d] at a;have:=Db.1 a;subst this;exact J2 s rfl
  ·rw [d] at a;cases a
 refine ⟨?_,st,Ja7 hi st (λh=>K7 g h _) (λc a=>by cases a) (hi.free l),okv _⟩;rw [m,ji hi st (λh=>K7 g h _),st.encV (okv s)];rfl
end
section
variable {call:Vv.Call} {base g0:Nat} {s:S Ty.T} {α:Type} {r:α}
def Zt(call:Vv.Call)(Γ:FuncId->Option Ctr):Prop:=∀ {α:Type} {base g0:Nat} {s:S Ty.T} {r:α} {c:Ctr} {f:FuncId} {args:List LO} {k:LOp->V Ty.T->S Ty.T->Option α},Inv s->Γ f=some c->callD val c f args s (args.map (ev val s)) k=some r ->
 ∃op' v s',Alt (.callp f args) op'/\Sim call base g0 s op' v s'/\k op' v s'=some r
theorem Jqs{x:LO}{c:C Ty.T}(hi:Inv s)(h:ev val s x=.c c):okC s c:=by have:=Jgy hi x;rw [h] at this;exact this c (by simp [V.all])
theorem Juh{c c':C Ty.T}(h:okC s c)(hr:refs c'=refs c):okV s (.c c'):=Qx (λq a=>h q (by rw [<-hr];exact a))
theorem J3o{o:BinOp}{k:IntKind}{a b:Int}(f:0<=b)(d:o=.shl\/o=.shr):shfV o k a b=some (.int k (ish o k a b)):=by rcases d with rfl|rfl<;>(unfold shfV;rw [if_neg (by omega)];rfl)
theorem caps_enc{F:LO->Option (Nat×Nat×Nat)}(hF:∀x p,F x=some p->ev val s x=.c (.ptr p.1 p.2.1 p.2.2)){caps:List LO}{l:List (Nat×Nat×Nat)}(hi:Inv s)(h:mapL F caps=some l) :
  caps.map (enc s).ev=l.map (λc=>AV.ptr c.1 c.2.1 c.2.2)/\∀c∈l,okC s (.ptr c.1 c.2.1 c.2.2):=by
 induction caps generalizing l with
 | nil=>simp only [mapL] at h;injection h with h;subst h;exact ⟨rfl,λc a=>by cases a⟩
 | cons x caps g=>
  simp only [mapL] at h;cases hx:F x with
  | none=>rw [hx] at h;cases h
  | some p=>
   have hx:=hF x p hx;rename_i d;rw [d] at h;simp only [Bh] at h;cases f:mapL F caps with
   | none=>rw [f] at h;cases h
   | some r=>
    rw [f] at h;have:=Aj h;subst this;obtain ⟨o,m⟩:=g f;refine ⟨?_,λc a=>?_⟩
    ·simp only [Br,o,Kc,hx];rfl
    ·rcases Dp.1 a with rfl|a
     ·exact Jqs hi hx
     ·exact m c a
theorem Jzf{g ver:Nat}{n:Int}(a:Jc6 val s g ver=some n):Y7 (encH s) g ver=true:=by
 unfold Jc6 at a;split at a
 ·rename_i f;split at a
  ·rename_i d;simp [Y7,Jj f,encO,d]
  ·cases a
 ·rename_i f;split at a
  ·rename_i d;simp [Y7,Jj f,encO,d]
  ·cases a
 ·cases a
theorem Jw4{t:Ty}(z:t.T):∀n,(Dk n z).flatMap t.cs=Ye (t.cs z) n
 | 0=>rfl
 | n+1=>by rw [List.replicate_succ,Ad,Jw4 z n];rfl
theorem Jb4:∀(t:Ty) (x:t.T),(t.cs x).all AV.flat=true
 | .int _,_=>rfl
 | .bool,_=>rfl
 | .str,_=>rfl
 | .ls _,_=>rfl
 | .bf _ _,_=>rfl
 | .u,_=>rfl
 | .p a b,(x,y)=>by show (a.cs x++b.cs y).all AV.flat=true;rw [List.all_append,Jb4 a x,Jb4 b y];rfl
theorem Jsy(s:S Ty.T):∀ {l:List (C Ty.T)} {t:Ty} {v:t.T},Jzs val l=some ⟨t,v⟩->l.map (encC s)=t.cs v
 | [],t,v,h=>by simp only [Jzs,Ag,Sigma.mk.injEq] at h;obtain ⟨rfl,h⟩:=h;rfl
 | .lf f x::r,t,v,h=>by
  have key:∀(m:f.one=true) (d:(Jzs val r).map (λp=>(⟨.p f p.1,val.pr x p.2⟩:(t:Ty)×t.T))=some ⟨t,v⟩),(C.lf f x::r).map (encC s)=t.cs v:=λm d=>by
   cases hr:Jzs val r with
   | none=>rw [hr] at d;cases d
   | some p=>
    obtain ⟨g,v2⟩:=p;rw [hr] at d;simp only [Ab,Ag,Sigma.mk.injEq] at d;obtain ⟨rfl,d⟩:=d;have d:=eq_of_heq d;subst d;rw [Br,Jsy s hr];show Xu (f.cs x)::g.cs v2=f.cs x++g.cs v2;rw [Job m x];rfl
  cases f with
  | u=>cases h
  | p a b=>cases h
  | _=>exact key rfl h
 | .any::_,_,_,h=>by cases h
 | .kb _::_,_,_,h=>by cases h
 | .k _::_,_,_,h=>by cases h
 | .own ..::_,_,_,h=>by cases h
 | .part ..::_,_,_,h=>by cases h
 | .ptr ..::_,_,_,h=>by cases h
 | .pti ..::_,_,_,h=>by cases h
 | .rp ..::_,_,_,h=>by cases h
 | .fn ..::_,_,_,h=>by cases h
 | .map ..::_,_,_,h=>by cases h
 | .yl _::_,_,_,h=>by cases h
theorem op_sim{Γ:FuncId->Option Ctr}{ty:TypeId->Option Ty}{op:LOp}{k:LOp->V Ty.T->S Ty.T->Option α}(hC:Zt call Γ)(hi:Inv s)(h:opD val Γ ty s g0 op k=some r) :
  ∃op' v s',Alt op op'/\Sim call base g0 s op' v s'/\k op' v s'=some r:=by
 have done:∀ {v:V Ty.T} {s':S Ty.T},Sim call base g0 s op v s'->k op v s'=some r->∃op' v s',Alt op op'/\Sim call base g0 s op' v s'/\k op' v s'=some r:=λa b=>⟨op,_,_,.inl rfl,a,b⟩;have same':∀ {v:V Ty.T},Ja call base (enc s) g0 op=some (encV s v,encH s)->okV s v->k op v s=some r->∃op' v s',Alt op op'/\Sim call base g0 s op' v s'/\k op' v s'=some r:=λa b c=>done (.same hi a b) c;have same:=@same';have sm:∀ {v:V Ty.T},k op v s=some r->Ja call base (enc s) g0 op=some (encV s v,encH s)->okV s v->∃op' v s',Alt op op'/\Sim call base g0 s op' v s'/\k op' v s'=some r:=λc a b=>same' a b c;clear same';cases op<;>simp only [opD] at h<;>try (cases h;done)
 case mov x=>exact done (mov_sim hi) h
 case pick c a b=>
  split at h
  ·rename_i t d;have hcv:(enc s).ev c=.bool t:=by rw [Kc,d];rfl
   refine same ?_ ?_ h
   ·simp only [Ja,hcv,Kc];cases t<;>rfl
   ·cases t<;>exact Jgy hi _
  ·cases h
 case alloc z=>
  split at h
  ·cases h
  ·rename_i H;exact done (J0q hi (by simpa using H)) h
 case box x=>
  split at h
  ·cases h
  ·rename_i H;exact done (box_sim hi (by cases hl:s.has g0 with|false=>rfl|true=>exact (H (.inl hl)).elim) (by cases hg:(ev val s x).good with|true=>rfl|false=>exact (H (.inr hg)).elim)) h
 case build z ps=>
  obtain ⟨l,hl,h⟩:=Jg h;exact done (J26 hi hl) h
 case bslice n esz el z ps=>
  obtain ⟨l,hl,h⟩:=Jg h;split at h
  ·rename_i d;exact done (Jz1 hi (by simpa using d.2.2) hl d.1 d.2.1) h
  ·cases h
 case load ag n x=>
  obtain ⟨v,M,h2,h3⟩:=Jxn hi (Jgy hi x) h;exact same (by simp only [Ja,Kc];rw [show (enc s).h=encH s from rfl,M]) h2 h3
 case store n x y=>
  obtain ⟨s',M,h2,h3,h4⟩:=J4g hi (Jgy hi y) h;exact done ⟨by simp only [Ja,Kc];rw [show (enc s).h=encH s from rfl,h3];rfl,M,h2,Qx (J2 s' rfl)⟩ h4
 case ibin o x y=>
  obtain ⟨kk,-,h⟩:=Jg h;obtain ⟨a,ha,h⟩:=Jg h;obtain ⟨b,R,h⟩:=Jg h;obtain ⟨A,rfl⟩:∃A:Int,(show Ty.T (.int kk) from A)=a:=⟨a,rfl⟩;obtain ⟨B,rfl⟩:∃B:Int,(show Ty.T (.int kk) from B)=b:=⟨b,rfl⟩;have e1:=evI (a:=A) ha;have e2:=evI (a:=B) R;have eb:∀v:AV,Jnd o kk A B=some v->Ja call base (enc s) g0 (.ibin o x y)=some (v,encH s):=λv q=>by simp only [Ja,e1,e2,if_true,q];rfl
  split at h
  ·rename_i hcm;exact same (v:=.c (.lf .bool (icm o A B))) (eb _ (ibinV_cm hcm)) Jfa h
  ·split at h
   ·rename_i har;exact same (v:=.c (.lf (.int kk) (iar o kk A B))) (eb _ (ibinV_ar har)) Jfa h
   ·have key:∀q,(q=BinOp.quo\/q=BinOp.rem)->B≠0->Jnd q kk A B=some (.int kk (iar q kk A B)):=by
     rintro q (rfl|rfl) hb0
     ·simp only [Jnd];rw [if_neg hb0];rfl
     ·simp only [Jnd];rw [if_neg hb0];rfl
    have nz:val.cm .neq kk B (val.int kk 0)=true->B≠0:=λq=>by have q:(B != 0)=true:=q;simpa using q
    split at h
    ·obtain ⟨E,h⟩:=Kp h;exact same (v:=.c (.lf (.int kk) (iar _ kk A B))) (eb _ (key _ (.inl rfl) (nz E))) Jfa h
    ·obtain ⟨E,h⟩:=Kp h;exact same (v:=.c (.lf (.int kk) (iar _ kk A B))) (eb _ (key _ (.inr rfl) (nz E))) Jfa h
    ·cases h
 case eqv ne ag sh x y=>
  have fin:∀ {b:Bool},eqV ag sh ((enc s).ev x) ((enc s).ev y)=some b->k (.eqv ne ag sh x y) (.c (.lf .bool (if ne=true then val.nt b else b))) s=some r->∃op' v s',Alt (.eqv ne ag sh x y) op'/\Sim call base g0 s op' v s'/\k op' v s'=some r:=λ{b} q h=>same (by simp only [Ja,q];cases ne<;>rfl) Jfa h
  split at h
  ·rename_i l m hx hy;obtain ⟨b,R,h⟩:=Jg h;exact fin (by rw [Kc,Kc,hx,hy];exact Jqd R) h
  ·rename_i u v hx hy;obtain ⟨b,R,h⟩:=Jg h;exact fin (by rw [Kc,Kc,hx,hy];exact Jqd (l:=[u]) (m:=[v]) R) h
  ·cases h
 case un o x=>
  split at h
  ·rename_i b hx;exact sm h (by simp only [Ja,Kc,hx];rfl) (Qx (J2 s rfl))
  ·rename_i b hx;exact sm h (by simp only [Ja,Kc,hx];rfl) Jfa
  ·rename_i kk v hx;exact sm h (by simp only [Ja,Kc,hx];rfl) Jfa
  ·cases h
 case conv kk x=>
  split at h
  ·rename_i k' v hx;exact sm h (by simp only [Ja,Kc,hx];rfl) Jfa
  ·cases h
 case nilck x=>
  split at h
  ·rename_i g v o hx;split at h
   ·rename_i d;exact sm h (by simp only [Ja,Kc,hx,encV,encC];rw [show (enc s).h=encH s from rfl,if_pos (Jml d)]) (Juh (Jqs hi hx) rfl)
   ·cases h
  ·rename_i g v e i o hx;split at h
   ·rename_i d;exact sm h (by simp only [Ja,Kc,hx,encV,encC];rw [show (enc s).h=encH s from rfl,if_pos (Jml d)]) (Juh (Jqs hi hx) rfl)
   ·cases h
  ·rename_i t v o hx;exact sm h (by simp only [Ja,Kc,hx];rfl) (Qx (J2 s rfl))
  ·rename_i f c hx;exact sm h (by simp only [Ja,Kc,hx];rfl) (Juh (Jqs hi hx) rfl)
  ·rename_i f t v hx;exact sm h (by simp only [Ja,Kc,hx];rfl) (Qx (J2 s rfl))
  ·cases h
 case mkbf f x=>
  split at h
  ·rename_i l hx;obtain ⟨⟨t,v⟩,Y,h⟩:=Jg h;have e:=Jsy s Y;refine sm h ?_ (Qx (J2 s rfl));simp only [Ja,Kc,hx,encV,e,Jb4 t v,if_true];rfl
  ·cases h
 case mkfn f caps=>
  obtain ⟨l,hl,h⟩:=Jg h;obtain ⟨c1,c2⟩:=caps_enc (λx p Y=>by split at Y<;>first|(cases Y;done)|(have:=Aj Y;subst this;assumption)) hi hl;refine same (by simp only [Ja,c1,encV,encC];rfl) (Qx λq hq=>?_) h;simp only [refs,By] at hq;obtain ⟨c,d,rfl⟩:=hq;exact c2 c d (c.1,c.2.1) (by simp [refs])
 case mkS esz bytes el z l c=>
  split at h
  ·rename_i a b;split at h
   ·rename_i hab;subst hab;obtain ⟨n,F,h⟩:=Jg h;obtain ⟨t,-,h⟩:=Jg h;obtain ⟨⟨X,zr⟩,hz,h⟩:=Jg h;simp only at h;split at h
    ·rename_i d;obtain ⟨c1,c2,c3,c4,c5⟩:=d;obtain ⟨N,rfl⟩:∃N:Int,(show Ty.T I from N)=n:=⟨n,rfl⟩;have e1:=evI (a:=N) F;obtain ⟨E,h⟩:=Kp h;obtain ⟨g2,h⟩:=Kp h;have E:(0:Int)<=N:=Jbp E;have g2:N * bytes<=room/\N<=9223372036854775807:=by have:decide (N * bytes<=room/\N<=9223372036854775807)=true:=g2;simpa using this
     have hzr:zr=[]:=by simpa using c2
     subst hzr;have hz1:=Jfq (jy s) t hz;rw [Bw,show z.map (encC s ∘ cC val)=z from (Ai λv _=>Jmm s v).trans (Dc _),Aq,Af] at hz1;have H:s.has g0=false:=by simpa using c5
     refine done (Jig hi H (av:=.arr g0 (J4 (enc s).h g0) 0 N.toNat) (ao:=.arr (J4 (enc s).h g0) esz el (Ye z N.toNat) false) ?_ ?_ ?_ (λc d=>by cases d) (Qx (Jgh rfl))) h
     ·simp only [Ja,e1];rw [if_pos ⟨E,Dj _,id,g2.1,g2.2⟩];rfl
     ·simp only [encV,encC];rw [show Qo (s.obj g0 (.row (s.nv g0) esz el t (val.rp X N) [] none false)) g0 (s.nv g0)=List.length (α:=t.T) (val.rp X N)+0 / esz from Jfk (o:=.row (s.nv g0) esz el t (val.rp X N) [] none false),show (enc s).h=encH s from rfl,Qq H,Ar,As];rw [show List.length (α:=t.T) (val.rp X N)=N.toNat from List.length_replicate]
     ·simp only [Dn.encO];rw [show (enc s).h=encH s from rfl,Qq H,Aq,Af,hz1,<-Jw4];rfl
    ·cases h
   ·cases h
  ·rename_i k1 a k2 b;split at h
   ·rename_i d;obtain ⟨c0,c1,c2,c3,c4,c5,c6⟩:=d;subst c0;have H:s.has g0=false:=by simpa using c6
    have hl:(repC (z.map (cC val)) a.toNat).length=a.toNat * esz:=by
     have:=congrArg List.length (Jkk z s a.toNat);rw [Au] at this;rw [this,<-c4];generalize a.toNat=m
     induction m with
     | zero=>simp [Ye]
     | succ m ih=>simp [Ye,ih,Nat.succ_mul,Nat.add_comm]
    have hs:Stab s (s.obj g0 (.lit (s.nv g0) esz el (repC (z.map (cC val)) a.toNat) false)):=Zp λo0 h=>by rw [ze H] at h;cases h
    refine done (Jig hi H (av:=.arr g0 (J4 (enc s).h g0) 0 a.toNat) (ao:=.arr (J4 (enc s).h g0) esz el (Ye z a.toNat) false) ?_ ?_ ?_ (Juz z _ a.toNat) (Qx (Jgh rfl))) h
    ·simp only [Ja];show (if 0<=a/\a<=a/\(a=0->a=0)/\a * bytes<=room/\a<=9223372036854775807 then _ else none)=_;rw [if_pos ⟨c1,Dj _,id,c2,c3⟩];rfl
    ·simp only [encV,encC];rw [show Qo (s.obj g0 (.lit (s.nv g0) esz el (repC (z.map (cC val)) a.toNat) false)) g0 (s.nv g0)=(repC (z.map (cC val)) a.toNat).length / esz from Jfk (o:=.lit (s.nv g0) esz el (repC (z.map (cC val)) a.toNat) false),show (enc s).h=encH s from rfl,Qq H,hl,Bb _ c5]
    ·simp only [Dn.encO];rw [Jkk,show (enc s).h=encH s from rfl,Qq H]
   ·cases h
  ·cases h
 case slc esz x lo hi'=>
  obtain ⟨v,M,h2,h3⟩:=slc_sim hi (Jgy hi x) h;exact same (by simp only [Ja,Kc];rw [show (enc s).h=encH s from rfl,M]) h2 h3
 case faddr off x=>
  split at h
  ·rename_i g v o hx;split at h
   ·rename_i d;exact sm h (by simp only [Ja,Kc,hx,encV,encC,Jbd];rw [show (enc s).h=encH s from rfl,if_pos (Jml d)]) (Juh (Jqs hi hx) rfl)
   ·cases h
  ·rename_i g v e i o hx;split at h
   ·rename_i d;exact sm h (by simp only [Ja,Kc,hx,encV,encC,Jbd];rw [show (enc s).h=encH s from rfl,if_pos (Jml d)];simp only [Dq]) (Juh (Jqs hi hx) rfl)
   ·cases h
  ·rename_i t v o hx;exact sm h (by simp only [Ja,Kc,hx,encV,encC,Jbd,List.drop_drop];rfl) (Qx (J2 s rfl))
  ·cases h
 case fld ag off n x=>
  split at h
  ·rename_i l hx;split at h
   ·rename_i F;obtain ⟨v,O,h⟩:=Jg h;obtain ⟨p1,p2⟩:=Jfn F O s;refine sm h (by simp only [Ja,Kc,hx];show (match pack ag (l.map (encC s)) off n with|some v=>some (v,encH s)|none=>none)=_;rw [p1]) (λc d=>?_);have:=Jgy hi x;rw [hx] at this;exact this c (p2 c d)
   ·cases h
  ·cases h
 case mkM kt vt el=>
  obtain ⟨kt',-,h⟩:=Jg h;obtain ⟨vt',-,h⟩:=Jg h;split at h
  ·cases h
  ·rename_i H;have H:s.has g0=false:=eq_false_of_ne_true H;split at h
   ·rename_i u0 vt'' heq;split at h
    ·cases h
    ·rename_i d;simp only [not_or] at d;obtain ⟨hc1,hc2,hc3,hc4⟩:=d;have hmo:s.mo=none:=by
      cases hq:s.mo with
      | none=>rfl
      | some m=>rw [hq] at hc1;exact (hc1 rfl).elim
     have hlt:g0<mB:=by
      rcases Nat.lt_or_ge g0 mB with M|M
      ·exact M
      ·exact (hc2 (Bq M)).elim
     obtain ⟨s',K⟩:∃s':S Ty.T,s'=⟨s.sl,s.lo,s.ob,s.ln,some ⟨g0,kt',vt'',el,val.nl (.p kt' (.ls vt''))⟩⟩:=⟨_,rfl⟩;rw [<-K] at h;have hc0:encC s'=encC s:=by subst K;funext c;cases c<;>rfl
     have ho0:Dn.encO s'=Dn.encO s:=by funext o;cases o<;>simp only [Dn.encO,hc0]
     have hok:∀ {c},okC s c->okC s' c:=λhh=>by subst K;exact hh
     have st:Stab s s':=⟨by subst K;rfl,by subst K;rfl,λc hh=>⟨hok hh,by rw [hc0]⟩⟩;have eob:s'.ob=s.ob:=by subst K;rfl
     have iv:Inv s':=by
      refine ⟨λp Y=>st.okV (hi.sl p (by subst K;exact Y)),λl hl p Y=>st.okV (hi.lo l (by subst K;exact hl) p Y),λg o hg c d=>hok (hi.ob g o (by rw [<-eob];exact hg) c d),λm Q=>?_⟩;subst K;injection Q with Q;subst Q;refine ⟨hlt,Nat.pos_of_ne_zero hc3,λg o hg=>?_⟩;have hg:look g s.ob=some o:=hg;unfold moN;rw [Bg];refine ⟨?_,?_⟩
      ·cases R:Aa g0 g with
       | false=>rfl
       | true=>
        have:=Bp R;subst this;rw [ze H] at hg;cases hg
      ·cases R:Ax mB g with
       | false=>rfl
       | true=>exact (hc4 (List.any_eq_true.2 ⟨(g,o),Xq hg,R⟩)).elim
     have eh:encH s'=upd (encH s) g0 (some (.map 0 [] false)):=by
      funext x;simp only [encH,eob,ho0,hmo,upd];by_cases hx:x=g0
      ·subst hx;rw [ze H,if_pos rfl];subst K;show Mo.at _ x=_;unfold Mo.at;rw [if_pos rfl];rfl
      ·rw [if_neg hx];cases look x s.ob with
       | some o=>rfl
       | none=>
        subst K;show Mo.at _ x=none;unfold Mo.at;rw [if_neg hx];split
        ·rfl
        ·rfl
     refine done ⟨?_,st,iv,Qx (J2 s' rfl)⟩ h;simp only [Ja];rw [show (enc s).h=encH s from rfl,Qq H,nv0 (ze H),eh];rfl
   ·refine done (Jig hi H (by simp only [Ja];rfl) ?_ ?_ (λc d=>by cases d) (Qx (Jgh rfl))) h
    ·simp only [encV,encC];rw [show (enc s).h=encH s from rfl,Qq H]
    ·simp only [Dn.encO];rw [show (enc s).h=encH s from rfl,Qq H]
 case look ok ag sh z x y=>
  split at h
  ·rename_i g w kt vt es Q;obtain ⟨hx,G⟩:=Je4 Q;have hx:ev val s x=.c (.map g w):=hx;have G:look g s.ob=some (.mp w kt vt es):=G;have ex:encV s (ev val s x)=.map g w:=by rw [hx];rfl
   split at h
   ·rename_i d;obtain ⟨P,M⟩:=d;rw [Jxb] at M;obtain ⟨k',Z,h⟩:=Jg h;obtain ⟨X,hz',h⟩:=Jg h;have ey:=Jcg (s:=s) (by unfold kOK at P;simp only [Az,beq_iff_eq] at P;exact P.1.1.1) Z;have key:=mg_enc P M es k' X (J1j M hz') ok;have he:Ja call base (enc s) g0 (.look ok ag sh z x y)=some ((if ok=true then .tup [Xu (vt.cs ((Zl k' es).getD X)),.bool (Zl k' es).isSome] else Xu (vt.cs ((Zl k' es).getD X))),encH s):=by simp only [Ja,Kc];rw [ex,ey,show esOf (enc s).h (.map g w)=some (encE kt vt es) from Jc8 G,key];rfl
    split at h
    ·rename_i e;subst e;refine sm h (by rw [he];rfl) (λc d=>?_);have d:c∈[C.lf vt ((Zl k' es).getD X),C.lf .bool (Zl k' es).isSome]:=d;simp only [Dp,List.not_mem_nil,or_false] at d;rcases d with rfl|rfl<;>exact J2 s rfl
    ·rename_i e;have e:ok=false:=by simpa using e
     subst e;exact sm h (by rw [he];rfl) (Qx (J2 s rfl))
   ·cases h
  ·cases h
 case setM ag sh x y z=>
  split at h
  ·rename_i g w kt vt es Q;obtain ⟨hx,G⟩:=Je4 Q;have hx:ev val s x=.c (.map g w):=hx;have G:look g s.ob=some (.mp w kt vt es):=G;have ex:encV s (ev val s x)=.map g w:=by rw [hx];rfl
   split at h
   ·rename_i d;obtain ⟨P,M⟩:=d;rw [Jxb] at M;obtain ⟨k',Z,h⟩:=Jg h;obtain ⟨X,hz',h⟩:=Jg h;have ey:=Jcg (s:=s) (by unfold kOK at P;simp only [Az,beq_iff_eq] at P;exact P.1.1.1) Z;have ez:=Jcg (s:=s) (t:=vt) (by rw [Jhk,M];rfl) hz';refine done (Jl0 hi G (es':=mSet k' X es) ?_ (.inl rfl)) h;simp only [Ja,Kc];rw [ex,ey,ez,show (enc s).h=encH s from rfl,J13 P G k' X];rfl
   ·cases h
  ·cases h
 case delM ag sh x y=>
  split at h
  ·rename_i g w kt vt es Q;obtain ⟨hx,G⟩:=Je4 Q;have hx:ev val s x=.c (.map g w):=hx;have G:look g s.ob=some (.mp w kt vt es):=G;have ex:encV s (ev val s x)=.map g w:=by rw [hx];rfl
   split at h
   ·rename_i P;obtain ⟨k',Z,h⟩:=Jg h;have ey:=Jcg (s:=s) (by unfold kOK at P;simp only [Az,beq_iff_eq] at P;exact P.1.1.1) Z;refine done (Jl0 hi G (es':=mDel k' es) ?_ (.inr rfl)) h;simp only [Ja,Kc];rw [ex,ey,show (enc s).h=encH s from rfl,J19 P G k'];rfl
   ·cases h
  ·cases h
 case lenM x=>
  split at h
  ·rename_i g w kt vt es Q;obtain ⟨hx,G⟩:=Je4 Q;have hx:ev val s x=.c (.map g w):=hx;have G:look g s.ob=some (.mp w kt vt es):=G;have ex:encV s (ev val s x)=.map g w:=by rw [hx];rfl
   refine sm h ?_ (Qx (J2 s rfl));simp only [Ja,Kc];rw [ex,show (enc s).h=encH s from rfl];simp only [Vv.lenM,Jc8 G];have el:(encE kt vt es).length=List.length (α:=kt.T×vt.T) es:=Au _;simp only [el];rfl
  ·cases h
 case iaddr esz x i=>
  obtain ⟨j,hj,h⟩:=Jg h;obtain ⟨J,rfl⟩:∃J:Int,(show Ty.T I from J)=j:=⟨j,rfl⟩;have ei:=evI (a:=J) hj;split at h
  ·rename_i t v hx;obtain ⟨L,rfl⟩:∃L:List t.T,(show Ty.T (.ls t) from L)=v:=⟨v,rfl⟩;split at h
   ·rename_i hsz;subst hsz;obtain ⟨z,H,hz,h⟩:=Jv3 (l:=L) (i:=J) h;have hl:=(Ae.1 hz).1;refine sm h ?_ (Qx (J2 s rfl));simp only [Ja,ei,Kc,hx];show (match zx (encH s) t.sz (.lst L.length (L.flatMap t.cs)) (.int .i64 J) with|some v=>some (v,encH s)|none=>none)=some (AV.rptr ((t.cs z).drop 0),encH s);simp only [zx];rw [if_pos ⟨H,by omega⟩,Jdf hz];rfl
   ·cases h
  ·rename_i g ver hx;split at h
   ·rename_i v e el t l tl nest z G;split at h
    ·rename_i d;obtain ⟨rfl,rfl⟩:=d;obtain ⟨n,F,h⟩:=Jg h;obtain ⟨_,_,_,_,_,F⟩:=Jd1 (n:=n) F;obtain ⟨E,h⟩:=Kp h;have E:0<=J/\J<(Qo s g v:Int):=by rw [F] at E;have:decide (0<=J/\J<(Qo s g v:Int))=true:=E;simpa using this
     refine sm h ?_ (Juh (Jqs hi hx) rfl);simp only [Ja,ei,Kc,hx,encV,encC,zx];rw [show (enc s).h=encH s from rfl,if_pos ⟨E.1,E.2,by simp [curA,Jj G,encO]⟩];simp only [Bn,As]
    ·cases h
   ·cases h
  ·rename_i g ver off len hx;obtain ⟨A,rfl⟩:∃A:Int,(show Ty.T I from A)=off:=⟨off,rfl⟩;obtain ⟨B,rfl⟩:∃B:Int,(show Ty.T I from B)=len:=⟨len,rfl⟩;split at h
   ·rename_i v e el t l tl nest z G;split at h
    ·rename_i d;obtain ⟨rfl,rfl⟩:=d;obtain ⟨g0',h⟩:=Kp h;have g0':(0:Int)<=A:=Jbp g0';obtain ⟨E,h⟩:=Kp h;have E:0<=J/\J<B:=by have:decide (0<=J/\J<B)=true:=E;simpa using this
     refine sm h ?_ (Juh (Jqs hi hx) rfl);simp only [Ja,ei,Kc,hx];show (match zx (encH s) e (.arr g v A.toNat B.toNat) (.int .i64 J) with|some v=>some (v,encH s)|none=>none)=some (.ptr g v ((A+J).toNat * e+0),encH s);simp only [zx];rw [if_pos ⟨E.1,by omega,by simp [curA,Jj G,encO]⟩];simp only [As];rw [show (A+J).toNat=A.toNat+J.toNat by omega]
    ·cases h
   ·cases h
  ·cases h
 case iaddrA len esz x i=>
  split at h
  ·rename_i g v o hx;split at h
   ·rename_i d;have fin:∀m:Nat,m<len->(enc s).ev i=.int .i64 (m:Int)\/(∃kk,(enc s).ev i=.int kk (m:Int))->k (.iaddrA len esz x i) (.c (.ptr g v (o+m * esz))) s=some r->∃op' v s',Alt (.iaddrA len esz x i) op'/\Sim call base g0 s op' v s'/\k op' v s'=some r:=by intro m Q he h;obtain ⟨kk,he⟩:∃kk,(enc s).ev i=.int kk (m:Int):=he.elim (λq=>⟨_,q⟩) id;refine sm h ?_ (Juh (Jqs hi hx) rfl);simp only [Ja,he,Kc,hx,encV,encC,Jdn];rw [show (enc s).h=encH s from rfl,if_pos ⟨by omega,by omega,Jml d⟩];simp only [Ah]
    split at h
    ·rename_i kk n;split at h
     ·rename_i F;exact fin n.toNat (by omega) (.inr ⟨kk,by show AV.int kk n=_;rw [Bj F.1]⟩) h
     ·cases h
    ·obtain ⟨j,hj,h⟩:=Jg h;obtain ⟨m,m1,m2,m3,m4⟩:=Ji7 h;exact fin m (by omega) (.inl (by rw [evI hj];exact congrArg _ m3)) m4
   ·cases h
  ·cases h
 case idx len esz ag x i=>
  split at h
  ·rename_i l hx;have fin:∀m:Nat,m<len->m * esz+esz<=l.length->(∃kk,(enc s).ev i=.int kk (m:Int))->orNo val (pk ag (cutC l (m * esz) esz)) (λv=>k (.idx len esz ag x i) v s)=some r->∃op' v s',Alt (.idx len esz ag x i) op'/\Sim call base g0 s op' v s'/\k op' v s'=some r:=by
    rintro m Q hl ⟨kk,he⟩ h;obtain ⟨v,O,h⟩:=Jg h;obtain ⟨p1,p2⟩:=Jfn hl O s;refine sm h ?_ (λc d=>?_)
    ·simp only [Ja,he,Kc,hx,encV,idxV];rw [if_pos ⟨by omega,by omega⟩,Ah,p1];rfl
    ·have:=Jgy hi x;rw [hx] at this;exact this c (p2 c d)
   split at h
   ·rename_i kk n;split at h
    ·rename_i F;exact fin n.toNat (by omega) F.2.2 ⟨kk,by show AV.int kk n=_;rw [Bj F.1]⟩ h
    ·cases h
   ·obtain ⟨j,hj,h⟩:=Jg h;obtain ⟨m,m1,m2,m3,m4⟩:=Ji7 h;split at m4
    ·rename_i hl;exact fin m (by omega) hl ⟨_,by rw [evI hj];exact congrArg _ m3⟩ m4
    ·cases m4
  ·cases h
 case ext x i=>
  split at h
  ·rename_i l hx;obtain ⟨p,Y,h⟩:=Jg h;have hmem:=Do Y;have hall:∀c∈p.2,okC s c:=λc d=>by have:=Jgy hi x;rw [hx] at this;exact this c (List.mem_flatMap.2 ⟨p,hmem,d⟩)
   have he:Ja call base (enc s) g0 (.ext x i)=some (if p.1 then .agg (p.2.map (encC s)) else Xu (p.2.map (encC s)),encH s):=by simp only [Ja,Kc,hx,encV,List.getElem?_map,Y,Ab];rfl
   split at h
   ·exact sm h he hall
   ·exact sm h he (Qx (hall _ (by simp)))
   ·cases h
  ·cases h
 case len x=>
  split at h
  ·rename_i t v hx;exact sm h (by simp only [Ja,Kc,hx];rfl) Jfa
  ·rename_i g ver hx;obtain ⟨n,F,h⟩:=Jg h;obtain ⟨_,_,_,_,hH,hn'⟩:=Jd1 (n:=n) F;have O:Y7 (encH s) g ver=true:=by
    unfold Jc6 at F;split at F
    ·rename_i G;split at F
     ·rename_i O;simp [Y7,Jj G,encO,O]
     ·cases F
    ·rename_i G;split at F
     ·rename_i O;simp [Y7,Jj G,encO,O]
     ·cases F
    ·cases F
   refine same ?_ Jfa h;simp only [Ja,Kc,hx,encV,encC,lenV];rw [show (enc s).h=encH s from rfl,if_pos O];simp only [hn',Ty.cs,Xu]
  ·rename_i g ver off n hx;obtain ⟨n',F,h⟩:=Jg h;have O:Y7 (encH s) g ver=true:=by
    unfold Jc6 at F;split at F
    ·rename_i G;split at F
     ·rename_i O;simp [Y7,Jj G,encO,O]
     ·cases F
    ·rename_i G;split at F
     ·rename_i O;simp [Y7,Jj G,encO,O]
     ·cases F
    ·cases F
   obtain ⟨E,h⟩:=Kp h;obtain ⟨B,rfl⟩:∃B:Int,(show Ty.T I from B)=n:=⟨n,rfl⟩;have E:(0:Int)<=B:=Jbp E;refine same ?_ Jfa h;simp only [Ja,Kc,hx,encV,encC,lenV];rw [show (enc s).h=encH s from rfl,if_pos O];simp only [Ty.cs,Xu];rw [show ((show Int from (show Ty.T I from B)).toNat:Int)=B from Bj E]
  ·rename_i hx;exact sm h (by simp only [Ja,Kc,hx];rfl) Jfa
  ·cases h
 case lenS x=>
  split at h
  ·rename_i v hx;exact sm h (by simp only [Ja,Kc,hx];rfl) Jfa
  ·cases h
 case app esz bytes el zz x y=>
  obtain ⟨v,s',⟨a1,a2,a3,a4⟩,h⟩:=app_sim hi h;exact done ⟨by simp only [Ja,Kc];exact a1,a2,a3,a4⟩ h
 case callp f args=>
  obtain ⟨c,d,h⟩:=Jg h;exact hC hi d h
 case shf o x y=>
  obtain ⟨kk,-,h⟩:=Jg h;obtain ⟨a,ha,h⟩:=Jg h;obtain ⟨k',-,h⟩:=Jg h;obtain ⟨b,R,h⟩:=Jg h;obtain ⟨A,rfl⟩:∃A:Int,(show Ty.T (.int kk) from A)=a:=⟨a,rfl⟩;obtain ⟨B,rfl⟩:∃B:Int,(show Ty.T (.int k') from B)=b:=⟨b,rfl⟩;have e1:=evI (a:=A) ha;have e2:=evI (a:=B) R;have nn:val.cm .geq k' B (val.int k' 0)=true->(0:Int)<=B:=λq=>by have q:decide (B>=0)=true:=q;simpa using q
  split at h
  ·obtain ⟨E,h⟩:=Kp h;exact sm h (by simp only [Ja,e1,e2];rw [J3o (a:=A) (nn E) (.inl rfl)];rfl) Jfa
  ·obtain ⟨E,h⟩:=Kp h;exact sm h (by simp only [Ja,e1,e2];rw [J3o (a:=A) (nn E) (.inr rfl)];rfl) Jfa
  ·cases h
 case mm mx x y=>
  obtain ⟨kk,-,h⟩:=Jg h;obtain ⟨a,ha,h⟩:=Jg h;obtain ⟨k',-,h⟩:=Jg h;obtain ⟨b,R,h⟩:=Jg h;exact sm h (by simp only [Ja,evI ha,evI R];cases mx<;>rfl) Jfa
 case isnil ne x=>
  split at h
  ·rename_i hx;exact sm h (by simp only [Ja,Kc,hx];cases ne<;>rfl) (Qx (J2 s rfl))
  ·rename_i t v hx;obtain ⟨L,rfl⟩:∃L:List t.T,(show Ty.T (.ls t) from L)=v:=⟨v,rfl⟩;obtain ⟨E,h⟩:=Kp h;have E:(0:Int)<(L.length:Int):=by have:decide ((L.length:Int) > 0)=true:=E;simpa using this
   refine sm h ?_ (Qx (J2 s rfl));simp only [Ja,Kc,hx];cases L with
   | nil=>simp at E
   | cons q L=>cases ne<;>rfl
  ·rename_i g ver hx;obtain ⟨n,F,h⟩:=Jg h;obtain ⟨_,_,_,_,hH,hn'⟩:=Jd1 (n:=n) F;obtain ⟨E,h⟩:=Kp h;have E:(0:Int)<(Qo s g ver:Int):=by rw [hn'] at E;have:decide ((Qo s g ver:Int) > 0)=true:=E;simpa using this
   refine sm h ?_ (Qx (J2 s rfl));simp only [Ja,Kc,hx,encV,encC,Jh1];rw [show (enc s).h=encH s from rfl,if_pos ⟨Jzf F,by omega⟩];cases ne<;>rfl
  ·cases h
end
end Go.Dn
