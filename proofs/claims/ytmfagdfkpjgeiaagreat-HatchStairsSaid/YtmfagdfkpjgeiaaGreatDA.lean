/- Typed values, typed states and how a typed state reads as a state of the evaluator. Definitions alone. -/
import Derived.Test.YtmfagdfkpjgeiaaGreatNB
set_option linter.unusedVariables false
set_option linter.unusedSimpArgs false
namespace Go.Dn
open Go Go.Vv
open Nat renaming beq -> Aa, mul_le_mul_right -> Ae, add_mul -> Ah, dvd_of_mod_eq_zero -> Ap, zero_div -> Ar, add_zero -> As, ble -> Aw, mul_div_cancel -> Ba, div_mul_cancel -> Bb, zero_mul -> Bo, zero_add -> Bp, eq_of_beq_eq_true -> Br, ble_eq_true_of_le -> Bs, le_refl -> Bu, mul_eq_zero -> By, add_sub_cancel_left -> Di, add_assoc -> Dt, min -> Dy
open Int renaming toNat_natCast -> Ab, toNat_of_nonneg -> Bl, natCast_add -> Dk, le_refl -> Dm
open List renaming flatMap_cons -> Ac, append_nil -> Af, getElem?_eq_some_iff -> Ai, map_congr_left -> Ak, map_nil -> Am, eq_nil_of_length_eq_zero -> Ao, length_append -> Aq, length_map -> Au, length_nil -> Av, isEmpty_iff -> Ax, take_of_length_le -> Bd, append_assoc -> Be, ext_getElem? -> Bf, getElem?_set -> Bg, flatMap_append -> Bk, mem_append -> Bm, length_set -> Bn, drop_eq_nil_of_le -> Bq, map_cons -> Bt, getElem?_set_ne -> Bv, map_append -> Bw, take_append_of_le_length -> Bx, map_map -> Bz, mem_map -> Da, getElem?_take -> Db, getElem?_drop -> Dc, mem_singleton -> Dd, map_id -> De, drop_append -> Df, length_drop -> Dg, flatMap -> Dh, nil_append -> Dj, mem_append_right -> Dl, replicate -> Do, mem_of_mem_drop -> Dp, mem_of_mem_take -> Dq, mem_of_getElem? -> Dr, mem_cons -> Ds, take_succ_cons -> Du, drop_succ_cons -> Dv, map_set -> Dx
open Option renaming map_some -> Ad, isNone_iff_eq_none -> Ag, bind_some -> Bj
open Option.some renaming injEq -> Aj, inj -> Al
open Bool renaming and_eq_true -> Ay, false_eq_true -> Az, or_eq_false_iff -> Bh, and_true -> Dw
open Prod.mk renaming injEq -> Bc
inductive Ty where
 | int (k:IntKind)
 | bool
 | str
 | ls (t:Ty)
 | u
 | p (a b:Ty)
 | bf (f:Nat) (t:Ty)
 deriving DecidableEq,Inhabited
def Ty.T:Ty->Type
 | .int _=>Int
 | .bool=>Bool
 | .str=>ByteArray
 | .ls t=>List t.T
 | .u=>Unit
 | .p a b=>a.T×b.T
 | .bf _ t=>t.T
abbrev I:Ty:=.int .i64
def Ty.sz:Ty->Nat
 | .u=>0
 | .p a b=>a.sz+b.sz
 | _=>1
def Ty.cs:(t:Ty)->t.T->List AV
 | .int k,v=>[.int k v]
 | .bool,v=>[.bool v]
 | .str,v=>[.str v]
 | .ls t,v=>[.lst v.length (v.flatMap t.cs)]
 | .u,_=>[]
 | .p a b,v=>a.cs v.1++b.cs v.2
 | .bf f t,v=>[.bfn f (t.cs v)]
abbrev U:Ty->Type:=λ_=>Unit
inductive C (ι:Ty->Type) where
 | any
 | lf (t:Ty) (v:ι t)
 | kb (b:Bool)
 | k (v:AV)
 | own (g ver:Nat)
 | part (g ver:Nat) (off len:ι I)
 | ptr (g ver off:Nat)
 | pti (g ver esz:Nat) (i:ι I) (off:Nat)
 | rp (t:Ty) (v:ι t) (off:Nat)
 | fn (f:FuncId) (caps:List (Nat×Nat×Nat))
 | map (g ver:Nat)
 | yl (j:Nat)
instance (ι:Ty->Type):Inhabited (C ι):=⟨.any⟩
inductive V (ι:Ty->Type) where
 | c (x:C ι)
 | ag (l:List (C ι))
 | tp (l:List (Bool×List (C ι)))
instance (ι:Ty->Type):Inhabited (V ι):=⟨.c .any⟩
inductive Ob (ι:Ty->Type) where
 | box (ver:Nat) (cs:List (C ι))
 | row (ver esz:Nat) (el:TypeId) (t:Ty) (v:ι (.ls t)) (x:List (C ι)) (nest:Option (Nat×C ι)) (fz:Bool)
 | lit (ver esz:Nat) (el:TypeId) (cs:List (C ι)) (fz:Bool)
 | mp (ver:Nat) (kt vt:Ty) (es:ι (.ls (.p kt vt)))
 | em (ver:Nat) (kt vt:Ty) (el:TypeId)
structure Mo (ι:Ty->Type) where
 g:Nat
 kt:Ty
 vt:Ty
 el:TypeId
 es:ι (.ls (.p kt (.ls vt)))
def mB:Nat:=1000000000000000000000000000000000000000000000000000000000000000000000000000000000000000000000000000000000000000000000000000000000000000000000000000000000000000000000000000000000000000000000000000000000000000
structure S (ι:Ty->Type) where
 sl:List (Nat×V ι)
 lo:List (List (Nat×V ι))
 ob:List (Nat×Ob ι)
 ln:List (Nat×Nat×ι I)
 mo:Option (Mo ι)
def look{α:Type}(d:Nat):List (Nat×α)->Option α
 | []=>none
 | (n,v)::r=>match Aa n d with|true=>some v|false=>look d r
def memN(x:Nat):List Nat->Bool
 | []=>false
 | y::r=>match Aa x y with|true=>true|false=>memN x r
def S.at{ι:Ty->Type}(s:S ι)(d:Nat):V ι:=match look d s.sl with|some v=>v|none=>.c .any
def S.put{ι:Ty->Type}(s:S ι)(d:Option Nat)(v:V ι):S ι:=
 match d with
 | some d=>⟨(d,v)::s.sl,s.lo,s.ob,s.ln,s.mo⟩
 | none=>s
def S.obj{ι:Ty->Type}(s:S ι)(g:Nat)(o:Ob ι):S ι:=⟨s.sl,s.lo,(g,o)::s.ob,s.ln,s.mo⟩
def S.old{ι:Ty->Type}(s:S ι)(g ver:Nat)(n:ι I):S ι:=⟨s.sl,s.lo,s.ob,(g,ver,n)::s.ln,s.mo⟩
def Ob.ver{ι:Ty->Type}:Ob ι->Nat
 | .box v _=>v
 | .row v ..=>v
 | .lit v ..=>v
 | .mp v ..=>v
 | .em v ..=>v
def S.nv{ι:Ty->Type}(s:S ι)(g:Nat):Nat:=match look g s.ob with|some o=>o.ver+1|none=>0
def Qx:List AV->AV
 | [x]=>x
 | _=>.any
def Jvt(g ver:Nat):List (Nat×Nat×Ty.T I)->Nat
 | []=>0
 | (a,v,n)::r=>if a=g/\v=ver then (show Int from n).toNat else Jvt g ver r
def Ob.lenO:Ob Ty.T->Nat
 | .row _ e _ _ l x _ _=>List.length l+x.length / e
 | .lit _ e _ cs _=>cs.length / e
 | .box ..=>0
 | .mp ..=>0
 | .em ..=>0
def K9(s:S Ty.T)(g ver:Nat):Nat:=
 match look g s.ob with
 | some o=>if o.ver=ver then o.lenO else Jvt g ver s.ln
 | none=>0
def encC(s:S Ty.T):C Ty.T->AV
 | .any=>.any
 | .lf t v=>Qx (t.cs v)
 | .kb b=>.bool b
 | .k v=>v
 | .own g ver=>.arr g ver 0 (K9 s g ver)
 | .part g ver off len=>.arr g ver (show Int from off).toNat (show Int from len).toNat
 | .ptr g ver off=>.ptr g ver off
 | .pti g ver esz i off=>.ptr g ver ((show Int from i).toNat * esz+off)
 | .rp t v off=>.rptr ((t.cs v).drop off)
 | .fn f caps=>.fn f (caps.map λc=>.ptr c.1 c.2.1 c.2.2)
 | .map g ver=>.map g ver
 | .yl j=>.yld j
def encV(s:S Ty.T):V Ty.T->AV
 | .c x=>encC s x
 | .ag l=>.agg (l.map (encC s))
 | .tp l=>.tup (l.map λp=>if p.1 then .agg (p.2.map (encC s)) else Qx (p.2.map (encC s)))
def Qr(l:List AV)(n sz:Nat)(ec:C Ty.T->AV):Option (Nat×C Ty.T)->List AV
 | none=>l
 | some (off,c)=>l.set ((n - 1) * sz+off) (ec c)
def Ty.isAg:Ty->Bool
 | .p _ _|.u=>true
 | _=>false
def avT(t:Ty)(x:t.T):AV:=if t.isAg then .agg (t.cs x) else Qx (t.cs x)
def encE(kt vt:Ty)(l:List (kt.T×vt.T)):List (AV×AV):=l.map λe=>(avT kt e.1,avT vt e.2)
def encO(s:S Ty.T):Ob Ty.T->AObj
 | .mp ver kt vt es=>.map ver (encE kt vt es) false
 | .em ver _ _ _=>.map ver [] false
 | .box ver cs=>.box ver (cs.map (encC s))
 | .lit ver esz el cs fz=>.arr ver esz el (cs.map (encC s)) fz
 | .row ver esz el t v x nest fz=>.arr ver esz el (Qr (Dh (α:=t.T) t.cs v) (List.length (α:=t.T) v) t.sz (encC s) nest++x.map (encC s)) fz
def moEs(kt vt:Ty):Nat->List (kt.T×List vt.T)->List (AV×AV)
 | _,[]=>[]
 | i,e::r=>(avT kt e.1,.arr (mB+i) e.2.length 0 e.2.length)::moEs kt vt (i+1) r
def Jz0(vt:Ty)(el:TypeId)(l:List vt.T):AObj:=.arr l.length vt.sz el (l.flatMap vt.cs) false
def nthL{α:Type}(l:List α)(i:Nat):Option α:=l[i]?
def Mo.at(m:Mo Ty.T)(g:Nat):Option AObj:=
 if g=m.g then some (.map 0 (moEs m.kt m.vt 0 m.es) false)
 else if mB<=g then (nthL (α:=m.kt.T×List m.vt.T) m.es (g - mB)).map λe=>Jz0 m.vt m.el e.2
 else none
def moAt:Option (Mo Ty.T)->Nat->Option AObj
 | none,_=>none
 | some m,g=>m.at g
def encH(s:S Ty.T):Heap:=λg=>match look g s.ob with
 | some o=>some (encO s o)
 | none=>moAt s.mo g
def moN{ι:Ty->Type}(m:Option (Mo ι))(g:Nat):Bool:=match m with
 | none=>false
 | some m=>Aa m.g g || Aw mB g
def S.has{ι:Ty->Type}(s:S ι)(g:Nat):Bool:=(look g s.ob).isSome || moN s.mo g
def enc(s:S Ty.T):St:=⟨λd=>encV s (s.at d),encH s⟩
inductive AK where
 | one
 | ag
 | rp
 | fr
def Xq:List Ty->Ty
 | []=>.u
 | [t]=>t
 | t::r=>.p t (Xq r)
structure Ctr where
 id:Nat
 as:List (AK×Ty)
 rs:List (Bool×Ty)
 fn:(Xq (as.map (·.2))).T->Option (Xq (rs.map (·.2))).T
def Ctr.fresh(c:Ctr):Bool:=c.as.any λa=>match a.1 with|.fr=>true|_=>false
def Ctr.aT(c:Ctr):Ty:=Xq (c.as.map (·.2))
def Ctr.rT(c:Ctr):Ty:=Xq (c.rs.map (·.2))
inductive LE where
 | normal
 | exit (id:Nat)
 | ret
 deriving DecidableEq,Inhabited
inductive Nx (A B:Type) where
 | go (s:A)
 | out (e:B)
structure HP (A B:Type) where
 e:A
 j:B
def HL(ι:Ty->Type):List Ty->Type
 | []=>Unit
 | t::r=>HP (ι t) (HL ι r)
section
variable {ι:Ty->Type}
def ltC(r:List Ty):C U->List Ty
 | .lf t _=>t::r
 | .part ..=>I::I::r
 | .pti ..=>I::r
 | .rp t _ _=>t::r
 | _=>r
def ltCs(r:List Ty):List (C U)->List Ty
 | []=>r
 | c::l=>ltC (ltCs r l) c
def ltP(r:List Ty):List (Bool×List (C U))->List Ty
 | []=>r
 | (_,q)::l=>ltCs (ltP r l) q
def ltV(r:List Ty):V U->List Ty
 | .c x=>ltC r x
 | .ag l=>ltCs r l
 | .tp l=>ltP r l
def ltN(r:List Ty):Option (Nat×C U)->List Ty
 | none=>r
 | some (_,c)=>ltC r c
def ltO(r:List Ty):Ob U->List Ty
 | .box _ cs=>ltCs r cs
 | .lit _ _ _ cs _=>ltCs r cs
 | .row _ _ _ t _ x nest _=>.ls t::ltCs (ltN r nest) x
 | .mp _ kt vt _=>.ls (.p kt vt)::r
 | .em ..=>r
def ltSl(r:List Ty):List (Nat×V U)->List Ty
 | []=>r
 | (_,v)::l=>ltV (ltSl r l) v
def ltOb(r:List Ty):List (Nat×Ob U)->List Ty
 | []=>r
 | (_,o)::l=>ltO (ltOb r l) o
def ltLo(r:List Ty):List (List (Nat×V U))->List Ty
 | []=>r
 | p::l=>ltSl (ltLo r l) p
def ltMo:Option (Mo U)->List Ty
 | none=>[]
 | some m=>[.ls (.p m.kt (.ls m.vt))]
def S.lt(s:S U):List Ty:=ltSl (ltLo (ltOb (ltMo s.mo) s.ob) s.lo) s.sl
def mkC{r:List Ty}:(c:C U)->HL ι (ltC r c)->C ι×HL ι r
 | .any,h=>(.any,h)
 | .lf t _,h=>(.lf t h.e,h.j)
 | .kb b,h=>(.kb b,h)
 | .k v,h=>(.k v,h)
 | .own g v,h=>(.own g v,h)
 | .part g v _ _,h=>(.part g v h.e h.j.e,h.j.j)
 | .ptr g v o,h=>(.ptr g v o,h)
 | .pti g v e _ o,h=>(.pti g v e h.e o,h.j)
 | .rp t _ o,h=>(.rp t h.e o,h.j)
 | .fn f c,h=>(.fn f c,h)
 | .map g v,h=>(.map g v,h)
 | .yl j,h=>(.yl j,h)
def mkCs{r:List Ty}:(l:List (C U))->HL ι (ltCs r l)->List (C ι)×HL ι r
 | [],h=>([],h)
 | c::l,h=>match mkC c h with
  | (x,h)=>match mkCs l h with
   | (xs,h)=>(x::xs,h)
def mkP{r:List Ty}:(l:List (Bool×List (C U)))->HL ι (ltP r l)->List (Bool×List (C ι))×HL ι r
 | [],h=>([],h)
 | (b,q)::l,h=>match mkCs q h with
  | (x,h)=>match mkP l h with
   | (xs,h)=>((b,x)::xs,h)
def mkV{r:List Ty}:(v:V U)->HL ι (ltV r v)->V ι×HL ι r
 | .c x,h=>match mkC x h with|(x,h)=>(.c x,h)
 | .ag l,h=>match mkCs l h with|(x,h)=>(.ag x,h)
 | .tp l,h=>match mkP l h with|(x,h)=>(.tp x,h)
def mkN{r:List Ty}:(n:Option (Nat×C U))->HL ι (ltN r n)->Option (Nat×C ι)×HL ι r
 | none,h=>(none,h)
 | some (o,c),h=>match mkC c h with|(x,h)=>(some (o,x),h)
def mkO{r:List Ty}:(o:Ob U)->HL ι (ltO r o)->Ob ι×HL ι r
 | .box v cs,h=>match mkCs cs h with|(x,h)=>(.box v x,h)
 | .lit v e el cs z,h=>match mkCs cs h with|(x,h)=>(.lit v e el x z,h)
 | .row v e el t _ x nest fz,h=>match mkCs x h.j with
  | (x,d)=>match mkN nest d with
   | (n,a)=>(.row v e el t h.e x n fz,a)
 | .mp v kt vt _,h=>(.mp v kt vt h.e,h.j)
 | .em v kt vt el,h=>(.em v kt vt el,h)
def mkSl{r:List Ty}:(l:List (Nat×V U))->HL ι (ltSl r l)->List (Nat×V ι)×HL ι r
 | [],h=>([],h)
 | (k,v)::l,h=>match mkV v h with
  | (x,h)=>match mkSl l h with
   | (xs,h)=>((k,x)::xs,h)
def mkOb{r:List Ty}:(l:List (Nat×Ob U))->HL ι (ltOb r l)->List (Nat×Ob ι)×HL ι r
 | [],h=>([],h)
 | (k,o)::l,h=>match mkO o h with
  | (x,h)=>match mkOb l h with
   | (xs,h)=>((k,x)::xs,h)
def mkLo{r:List Ty}:(l:List (List (Nat×V U)))->HL ι (ltLo r l)->List (List (Nat×V ι))×HL ι r
 | [],h=>([],h)
 | p::l,h=>match mkSl p h with
  | (x,h)=>match mkLo l h with
   | (xs,h)=>(x::xs,h)
def mkMo:(m:Option (Mo U))->HL ι (ltMo m)->Option (Mo ι)
 | none,_=>none
 | some m,h=>some ⟨m.g,m.kt,m.vt,m.el,h.e⟩
def S.mk'(sh:S U)(h:HL ι sh.lt):S ι:=
 match mkSl sh.sl h with
 | (sl,h)=>match mkLo sh.lo h with
  | (lo,h)=>match mkOb sh.ob h with
   | (ob,h)=>⟨sl,lo,ob,[],mkMo sh.mo h⟩
def cast?(a b:Ty)(v:ι a):Option (ι b):=if h:a=b then some (h▸v) else none
def Ex(ι:Ty->Type):List (LE×S U)->Type
 | []=>Empty
 | [(_,s)]=>HL ι s.lt
 | (_,s)::q::r=>HL ι s.lt ⊕ Ex ι (q::r)
end
structure D (ι:Ty->Type) (M:Type->Type) where
 int:(k:IntKind)->Int->ι (.int k)
 bool:Bool->ι .bool
 str:ByteArray->ι .str
 nl:(t:Ty)->ι (.ls t)
 un:ι .u
 pr:{a b:Ty}->ι a->ι b->ι (.p a b)
 fs:{a b:Ty}->ι (.p a b)->ι a
 sn:{a b:Ty}->ι (.p a b)->ι b
 ar:BinOp->(k:IntKind)->ι (.int k)->ι (.int k)->ι (.int k)
 cm:BinOp->(k:IntKind)->ι (.int k)->ι (.int k)->ι .bool
 sh:BinOp->(k k':IntKind)->ι (.int k)->ι (.int k')->ι (.int k)
 cv:(k k':IntKind)->ι (.int k)->ι (.int k')
 mm:Bool->(k k':IntKind)->ι (.int k)->ι (.int k')->ι (.int k)
 ng:(k:IntKind)->ι (.int k)->ι (.int k)
 nt:ι .bool->ι .bool
 an:ι .bool->ι .bool->ι .bool
 be:ι .bool->ι .bool->ι .bool
 ln:{t:Ty}->ι (.ls t)->ι I
 ls:ι .str->ι I
 bf:{t:Ty}->(f:Nat)->ι t->ι (.bf f t)
 ub:{f:Nat}->{t:Ty}->ι (.bf f t)->ι t
 pl:ι I->ι I->ι I
 mi:ι I->ι I->ι I
 ib:ι I->ι I->ι .bool
 le:ι I->ι I->ι .bool
 ft:Nat->ι I->ι .bool
 cs:{t:Ty}->ι t->ι (.ls t)->ι (.ls t)
 ap:{t:Ty}->ι (.ls t)->ι (.ls t)->ι (.ls t)
 ct:{t:Ty}->ι (.ls t)->ι I->ι I->ι (.ls t)
 st:{t:Ty}->ι (.ls t)->ι I->ι t->ι (.ls t)
 rp:{t:Ty}->ι t->ι I->ι (.ls t)
 ml:{t:Ty}->ι (.ls t)->(ι t->ι t)->ι (.ls t)
 mg:{a b:Ty}->ι (.ls (.p a b))->ι a->ι b->ι b
 mf:{a b:Ty}->ι (.ls (.p a b))->ι a->ι .bool
 ms:{a b:Ty}->ι (.ls (.p a b))->ι a->ι b->ι (.ls (.p a b))
 md:{a b:Ty}->ι (.ls (.p a b))->ι a->ι (.ls (.p a b))
 br:{α:Type}->ι .bool->M α->M α->M α
 gd:{α:Type}->ι .bool->M α->M α
 no:{α:Type}->M α
 ge:{α:Type}->{t:Ty}->ι (.ls t)->ι I->(ι t->M α)->M α
 nq:{α:Type}->ι I->(ι .bool->M α)->M α
 mq:{α:Type}->{a b:Ty}->ι (.ls (.p a b))->(ι (.ls a)->M α)->M α
 call:{α:Type}->(c:Ctr)->ι c.aT->(ι c.rT->M α)->M α
 join:{α:Type}->(ex:List (LE×S U))->(cn:LE->S ι->S ι)->((LE->S ι->M (Ex Ty.T ex))->M (Ex Ty.T ex))->(LE->S ι->M α)->M α
 loop:{α:Type}->(sh:S U)->(ex:List (LE×S U))->(cn:LE->S ι->S ι)->(S ι->(LE->S ι->M (Nx (HL Ty.T sh.lt) (Ex Ty.T ex)))->M (Nx (HL Ty.T sh.lt) (Ex Ty.T ex)))->S ι->(LE->S ι->M α)->M α
section
variable {ι:Ty->Type} {M:Type->Type} {α:Type} (d:D ι M)
def cC:AV->C ι
 | .int k n=>.lf (.int k) (d.int k n)
 | .bool b=>.kb b
 | .str s=>.lf .str (d.str s)
 | v=>.k v
def cV:AV->V ι
 | .agg l=>.ag (l.map (cC d))
 | .tup []=>.tp []
 | .fn f []=>.c (.fn f [])
 | v=>.c (cC d v)
def ev(s:S ι):LO->V ι
 | .t n=>s.at n
 | .c v=>cV d v
def expl:(t:Ty)->ι t->List (C ι)
 | .u,_=>[]
 | .p a b,v=>expl a (d.fs v)++expl b (d.sn v)
 | .int k,v=>[.lf (.int k) v]
 | .bool,v=>[.lf .bool v]
 | .str,v=>[.lf .str v]
 | .ls t,v=>[.lf (.ls t) v]
 | .bf f t,v=>[.lf (.bf f t) v]
def Yc(t:Ty):C ι->Option (ι t)
 | .lf a v=>cast? a t v
 | .kb b=>cast? .bool t (d.bool b)
 | _=>none
def Jvj:List (C ι)->Option ((t:Ty)×ι t)
 | []=>some ⟨.u,d.un⟩
 | .lf t v::r=>(match t with
  | .u|.p _ _=>none
  | t=>(Jvj r).map λp=>⟨.p t p.1,d.pr v p.2⟩)
 | _::_=>none
def impl(lw:(t:Ty)->C ι->Option (ι t)):(t:Ty)->List (C ι)->Option (ι t×List (C ι))
 | .u,l=>some (d.un,l)
 | .p a b,l=>(impl lw a l).bind λ|(x,l)=>(impl lw b l).map λ|(y,l)=>(d.pr x y,l)
 | t,l=>match l with
  | c::l=>(lw t c).map (·,l)
  | []=>none
def Jcc(lw:(t:Ty)->C ι->Option (ι t))(t:Ty):Nat->List (C ι)->Option (ι (.ls t))
 | 0,_=>none
 | n+1,l=>match l with
  | []=>some (d.nl t)
  | l=>(impl d lw t l).bind λ|(x,l)=>(Jcc lw t n l).map (d.cs x)
def setF(lw:(t:Ty)->C ι->Option (ι t))(t:Ty)(off:Nat)(c:C ι)(e:ι t):ι t:=
 match impl d lw t ((expl d t e).set off c) with
 | some (x,_)=>x
 | none=>e
def tyAt:Ty->Nat->Option Ty
 | .u,_=>none
 | .p a b,n=>if n<a.sz then tyAt a n else tyAt b (n - a.sz)
 | t,n=>if n=0 then some t else none
def mlN(lw:(t:Ty)->C ι->Option (ι t))(t:Ty)(l:ι (.ls t)):Option (Nat×C ι)->Option (ι (.ls t))
 | none=>some l
 | some (off,c)=>(tyAt t off).bind λa=>(lw a c).bind λ_=>some (d.ml l (setF d lw t off c))
def rowW(lw:(t:Ty)->C ι->Option (ι t))(t:Ty):Ob ι->Option (ι (.ls t))
 | .row _ e _ a l x none _=>if e=a.sz/\0<e then (cast? (.ls a) (.ls t) l).bind λl=>(match x with
  | []=>some l
  | x=>(Jcc d lw t (x.length+1) x).map (d.ap l)) else none
 | .lit _ e _ x _=>if e=t.sz/\0<e then Jcc d lw t (x.length+1) x else none
 | _=>none
def Xw(ob:List (Nat×Ob ι)):Nat->(t:Ty)->C ι->Option (ι t)
 | 0,t,c=>Yc d t c
 | n+1,t,c=>match c with
  | .k .nils=>(match t with|.ls t=>some (d.nl t)|_=>none)
  | .own g ver=>(match t with
   | .ls t=>(match look g ob with|some o=>if o.ver=ver then rowW d (Xw ob n) t o else none|none=>none)
   | _=>none)
  | c=>Yc d t c
def V.cells:V ι->List (C ι)
 | .c x=>[x]
 | .ag l=>l
 | .tp _=>[]
def C.plain:C ι->Bool
 | .any=>false
 | .lf t _=>(match t with|.u|.p _ _=>false|_=>true)
 | .k v=>v.one
 | _=>true
def V.good:V ι->Bool
 | .c x=>x.plain
 | .ag _=>true
 | .tp _=>false
def pk(ag:Bool)(l:List (C ι)):Option (V ι):=
 if ag then some (.ag l) else match l with
 | [c]=>some (.c c)
 | _=>none
def cutC(l:List (C ι))(off n:Nat):List (C ι):=(l.drop off).take n
def Jaw(l:List (C ι))(off:Nat)(new:List (C ι)):List (C ι):=l.take off++new++l.drop (off+new.length)
def orNo{β:Type}(x:Option β)(k:β->M α):M α:=match x with|some v=>k v|none=>d.no
def loadD(s:S ι)(ag:Bool)(n:Nat)(x:V ι)(k:V ι->M α):M α:=
 match x with
 | .c (.ptr g ver off)=>(match look g s.ob with
  | some (.box v cs)=>if v=ver/\off+n<=cs.length then orNo d (pk ag (cutC cs off n)) k else d.no
  | some (.lit v _ _ cs _)=>if v=ver/\off+n<=cs.length/\cs.isEmpty=false then orNo d (pk ag (cutC cs off n)) k else d.no
  | _=>d.no)
 | .c (.pti g ver esz i off)=>(match look g s.ob with
  | some (.row v e _ t l [] nest _)=>if v=ver/\e=esz/\e=t.sz/\off+n<=e/\0<e then d.ge l i λx=>
    (match nest with
    | none=>orNo d (pk ag (cutC (expl d t x) off n)) k
    | some (no,c)=>if off<=no/\no<off+n then d.gd (d.cm .eql .i64 (d.pl i (d.int .i64 1)) (d.ln l)) (orNo d (pk ag (cutC ((expl d t x).set no c) off n)) k) else orNo d (pk ag (cutC (expl d t x) off n)) k)
   else d.no
  | _=>d.no)
 | .c (.rp t v off)=>if off+n<=t.sz then orNo d (pk ag (cutC (expl d t v) off n)) k else d.no
 | _=>d.no
def Jyt(s:S ι)(n:Nat)(x y:V ι)(k:S ι->M α):M α:=
 if y.cells.length≠n\/y.good=false then d.no else
 match x with
 | .c (.ptr g ver off)=>(match look g s.ob with
  | some (.box v cs)=>if v=ver/\off+n<=cs.length then k (s.obj g (.box v (Jaw cs off y.cells))) else d.no
  | some (.lit v e el cs false)=>if v=ver/\off+n<=cs.length/\cs.isEmpty=false then k (s.obj g (.lit v e el (Jaw cs off y.cells) false)) else d.no
  | _=>d.no)
 | .c (.pti g ver esz i off)=>(match look g s.ob with
  | some (.row v e el t l [] nest false)=>if v=ver/\e=esz/\e=t.sz/\off+n<=e/\0<e then d.ge l i λx=>
    (match nest with
    | none=>orNo d (impl d (Yc d) t (Jaw (expl d t x) off y.cells)) λ|(z,zr)=>if zr.isEmpty then k (s.obj g (.row v e el t (d.st l i z) [] none false)) else d.no
    | some (no,c)=>d.gd (d.cm .eql .i64 (d.pl i (d.int .i64 1)) (d.ln l)) (if off<=no/\no<off+n then
      (match y.cells[no - off]?,(expl d t x)[no]? with
      | some c',some z0=>orNo d (impl d (Yc d) t (Jaw (expl d t x) off (y.cells.set (no - off) z0))) λ|(z,zr)=>if zr.isEmpty then k (s.obj g (.row v e el t (d.st l i z) [] (some (no,c')) false)) else d.no
      | _,_=>d.no)
     else orNo d (impl d (Yc d) t (Jaw (expl d t x) off y.cells)) λ|(z,zr)=>if zr.isEmpty then k (s.obj g (.row v e el t (d.st l i z) [] (some (no,c)) false)) else d.no))
   else d.no
  | _=>d.no)
 | _=>d.no
def Jga(k:IntKind):V ι->Option (ι (.int k))
 | .c (.lf t v)=>cast? t (.int k) v
 | _=>none
def Jpb:V ι->Option IntKind
 | .c (.lf (.int k) _)=>some k
 | _=>none
def eqC:Bool->C ι->C ι->Option (ι .bool)
 | false,.lf (.int k) a,.lf t b=>(cast? t (.int k) b).map (d.cm .eql k a)
 | true,a,b=>(Yc d .bool a).bind λa=>(Yc d .bool b).map (d.be a)
 | _,_,_=>none
def eqCs:List Bool->List (C ι)->List (C ι)->Option (ι .bool)
 | [],[],[]=>some (d.bool true)
 | [b],[x],[y]=>eqC d b x y
 | b::bs,x::xs,y::ys=>(eqC d b x y).bind λu=>(eqCs bs xs ys).map (d.an u)
 | _,_,_=>none
def isCmp:BinOp->Bool
 | .eql|.neq|.lss|.leq|.gtr|.geq=>true
 | _=>false
def isAr:BinOp->Bool
 | .add|.sub|.mul|.and|.or|.xor|.andNot=>true
 | _=>false
def Jhf(e:LO->V ι):List (C ι)->List (Nat×Nat×LO)->Option (List (C ι))
 | z,[]=>some z
 | z,(off,n,x)::r=>
  match e x with
  | v=>if v.cells.length=n/\off+n<=z.length/\v.good=true then Jhf e (Jaw z off v.cells) r else none
def repC(z:List (C ι)):Nat->List (C ι)
 | 0=>[]
 | n+1=>z++repC z n
inductive El (ι:Ty->Type) where
 | t (t:Ty) (v:ι (.ls t))
 | x (l:List (C ι))
def elems(s:S ι)(esz:Nat)(y:V ι)(k:El ι->M α):M α:=
 match y with
 | .c (.k .nils)=>k (.x [])
 | .c (.lf (.ls t) v)=>if t.sz=esz/\0<esz then k (.t t v) else d.no
 | .c (.own g ver)=>(match look g s.ob with
  | some (.row v e _ t l [] none _)=>if v=ver/\e=esz/\t.sz=esz/\0<esz then k (.t t l) else d.no
  | some (.lit v e _ l _)=>if v=ver/\e=esz/\l.length % esz=0/\0<esz then k (.x l) else d.no
  | _=>d.no)
 | .c (.part g ver off len)=>(match look g s.ob with
  | some (.row v e _ t l [] none _)=>if v=ver/\e=esz/\t.sz=esz/\0<esz then d.gd (d.le (d.int .i64 0) off) (d.gd (d.le (d.int .i64 0) len) (d.gd (d.le (d.pl off len) (d.ln l)) (k (.t t (d.ct l off len))))) else d.no
  | _=>d.no)
 | _=>d.no
def Jub(y:El ι)(k:M α):M α:=
 match y with
 | .x []=>k
 | .x _=>d.no
 | .t _ v=>d.gd (d.cm .eql .i64 (d.ln v) (d.int .i64 0)) k
def appD(s:S ι)(g0 esz bytes:Nat)(el:TypeId)(x y:V ι)(k:V ι->S ι->M α):M α:=
 elems d s esz y λy=>match x with
  | .c (.k .nils)=>if s.has g0 then d.no else
   (match y with
   | .x []=>k (.c (.k .nils)) s
   | .x l=>if 0<esz then d.gd (d.ft bytes (d.int .i64 (l.length / esz:Nat))) (k (.c (.own g0 (s.nv g0+1))) (s.obj g0 (.lit (s.nv g0+1) esz el l false))) else d.no
   | .t t v=>d.br (d.cm .eql .i64 (d.ln v) (d.int .i64 0)) (k (.c (.k .nils)) s)
     (d.gd (d.ft bytes (d.ln v)) (k (.c (.own g0 (s.nv g0+1))) (s.obj g0 (.row (s.nv g0+1) esz el t v [] none false)))))
  | .c (.own g ver)=>(match look g s.ob with
   | some (.row v e el' t l tl nest false)=>
    if v=ver/\e=esz/\el'=el/\t.sz=esz/\tl.length % esz=0/\0<esz then
     (match y with
     | .x m=>
       let n:=if tl.isEmpty then d.ln l else d.pl (d.ln l) (d.int .i64 (tl.length / esz:Nat))
       d.gd (d.ft bytes (d.pl n (d.int .i64 (m.length / esz:Nat)))) (k (.c (.own g (v+1))) ((s.old g v n).obj g (.row (v+1) e el t l (tl++m) nest false)))
     | .t a m=>if tl.isEmpty&&nest.isNone then orNo d (cast? (.ls a) (.ls t) m) λm=>
       d.gd (d.ft bytes (d.pl (d.ln l) (d.ln m))) (k (.c (.own g (v+1))) ((s.old g v (d.ln l)).obj g (.row (v+1) e el t (d.ap l m) [] none false))) else d.no)
    else d.no
   | some (.lit v e el' l false)=>
    if v=ver/\e=esz/\el'=el/\l.length % esz=0/\0<esz then
     (match y with
     | .x m=>d.gd (d.ft bytes (d.int .i64 (l.length / esz+m.length / esz:Nat))) (k (.c (.own g (v+1))) ((s.old g v (d.int .i64 (l.length / esz:Nat))).obj g (.lit (v+1) e el (l++m) false)))
     | .t t m=>orNo d (Jcc d (Yc d) t (l.length+1) l) λf=>
       d.gd (d.ft bytes (d.pl (d.int .i64 (l.length / esz:Nat)) (d.ln m))) (k (.c (.own g (v+1))) ((s.old g v (d.int .i64 (l.length / esz:Nat))).obj g (.row (v+1) e el t (if l.isEmpty then m else d.ap f m) [] none false))))
    else d.no
   | some (.row v _ _ _ _ _ _ true)=>if v=ver then Jub d y (k (.c (.own g ver)) s) else d.no
   | _=>d.no)
  | .c (.lf (.ls t) v)=>Jub d y (k (.c (.lf (.ls t) v)) s)
  | _=>d.no
end
section
variable {ι:Ty->Type} {M:Type->Type} {α:Type} (d:D ι M)
def S.cur(s:S ι)(g ver:Nat):Bool:=match look g s.ob with|some o=>o.ver==ver|none=>false
def Jbj(s:S ι)(g ver:Nat):Option (ι I):=
 match look g s.ob with
 | some (.row v e _ _ l x _ _)=>if v=ver then some (if x.isEmpty then d.ln l else d.pl (d.ln l) (d.int .i64 (x.length / e))) else none
 | some (.lit v e _ l _)=>if v=ver then some (d.int .i64 (l.length / e)) else none
 | _=>none
def Jz1(s:S ι)(x:Option LO)(z:ι I):Option (ι I):=
 match x with
 | none=>some z
 | some x=>Jga .i64 (ev d s x)
def Jhk(s:S ι)(lo e:Option LO)(n:ι I)(k:ι I->ι I->M α):M α:=
 orNo d (Jz1 d s lo (d.int .i64 0)) λa=>orNo d (Jz1 d s e n) λb=>
  let t3:=if e.isNone then k a b else d.gd (d.le b n) (k a b);let f:=if lo.isNone/\e.isNone then t3 else d.gd (d.le a b) t3
  if lo.isNone then f else d.gd (d.le (d.int .i64 0) a) f
def slcD(s:S ι)(esz:Nat)(x:V ι)(lo f:Option LO)(k:V ι->M α):M α:=
 match x with
 | .c (.lf (.ls t) v)=>if t.sz=esz then Jhk d s lo f (d.ln v) λa b=>k (.c (.lf (.ls t) (d.ct v a (if lo.isNone then b else d.mi b a)))) else d.no
 | .c (.own g ver)=>(match look g s.ob with
  | some (.row v e _ _ _ _ _ _)=>if v=ver/\e=esz then orNo d (Jbj d s g ver) λn=>Jhk d s lo f n λa b=>k (.c (.part g ver a (if lo.isNone then b else d.mi b a))) else d.no
  | some (.lit v e _ _ _)=>if v=ver/\e=esz then orNo d (Jbj d s g ver) λn=>Jhk d s lo f n λa b=>k (.c (.part g ver a (if lo.isNone then b else d.mi b a))) else d.no
  | _=>d.no)
 | .c (.part g ver off len)=>(match look g s.ob with
  | some (.row v e _ _ _ _ _ _)=>if v=ver/\e=esz then d.gd (d.le (d.int .i64 0) off) (d.gd (d.le (d.int .i64 0) len) (Jhk d s lo f len λa b=>k (.c (.part g ver (if lo.isNone then off else d.pl off a) (if lo.isNone then b else d.mi b a))))) else d.no
  | _=>d.no)
 | .c (.k .nils)=>Jhk d s lo f (d.int .i64 0) λ_ _=>k (.c (.k .nils))
 | _=>d.no
def Jzg(i:ι I)(k:Nat->M α):Nat->Nat->M α
 | _,0=>d.no
 | j,n+1=>d.br (d.cm .eql .i64 i (d.int .i64 j)) (k j) (Jzg i k (j+1) n)
def allL(ob:List (Nat×Ob ι))(t:Ty)(l:List (C ι)):Option (ι t):=(impl d (Xw d ob 4) t l).bind λ|(x,r)=>if r.isEmpty then some x else none
def oneL(ob:List (Nat×Ob ι))(t:Ty)(c:C ι)(k:ι t->M α):M α:=
 match c with
 | .part g ver off len=>(match look g ob with
  | some (.row v e _ a l [] none _)=>if v=ver/\e=a.sz/\0<e then orNo d (cast? (.ls a) t (d.ct l off len)) λy=>d.gd (d.le (d.int .i64 0) off) (d.gd (d.le (d.int .i64 0) len) (d.gd (d.le (d.pl off len) (d.ln l)) (k y))) else d.no
  | _=>d.no)
 | c=>orNo d (Xw d ob 4 t c) k
def argL(ob:List (Nat×Ob ι))(a:AK×Ty)(v:V ι)(k:ι a.2->M α):M α:=
 match a.1,v with
 | .one,.c c=>oneL d ob a.2 c k
 | .fr,.c c=>oneL d ob a.2 c k
 | .ag,.ag l=>orNo d (allL d ob a.2 l) k
 | .rp,.c (.rp t v 0)=>orNo d (cast? t a.2 v) k
 | .rp,.c (.ptr g ver 0)=>(match look g ob with
  | some (.box v cs)=>if v=ver then orNo d (allL d ob a.2 cs) k else d.no
  | _=>d.no)
 | _,_=>d.no
def Jvc(ob:List (Nat×Ob ι)):(as:List (AK×Ty))->List (V ι)->(ι (Xq (as.map (·.2)))->M α)->M α
 | [],[],k=>k d.un
 | [a],[v],k=>argL d ob a v k
 | a::b::r,v::w,k=>argL d ob a v λx=>Jvc ob (b::r) w λy=>k (d.pr x y)
 | _,_,_=>d.no
def Jx(ob:List (Nat×Ob ι)):Nat->C ι->List Nat
 | n,.own g _=>g::(match n with|0=>[]|n+1=>(match look g ob with
  | some (.row _ _ _ _ _ x nest _)=>x.flatMap (Jx ob n)++(match nest with|some p=>Jx ob n p.2|none=>[])
  | some (.lit _ _ _ x _)=>x.flatMap (Jx ob n)
  | _=>[]))
 | n,.part g _ _ _=>g::(match n with|0=>[]|n+1=>(match look g ob with
  | some (.row _ _ _ _ _ x nest _)=>x.flatMap (Jx ob n)++(match nest with|some p=>Jx ob n p.2|none=>[])
  | some (.lit _ _ _ x _)=>x.flatMap (Jx ob n)
  | _=>[]))
 | _,_=>[]
def Ju(s:S ι):List Nat->S ι
 | []=>s
 | g::r=>match look g s.ob with
  | some (.row v e el t l x nest _)=>Ju (s.obj g (.row v e el t l x nest true)) r
  | some (.lit v e el x _)=>Ju (s.obj g (.lit v e el x true)) r
  | _=>Ju s r
def Ty.flat:Ty->Bool
 | .ls _|.bf _ _=>false
 | .p a b=>a.flat&&b.flat
 | _=>true
def unL(b:Bool)(t:Ty)(v:ι t):Bool×List (C ι):=(b,expl d t v)
def Jax:Bool×List (C ι)->V ι
 | (true,l)=>.ag l
 | (false,[c])=>.c c
 | _=>.c .any
def Y2:(rs:List (Bool×Ty))->ι (Xq (rs.map (·.2)))->List (Bool×List (C ι))
 | [],_=>[]
 | [a],v=>[unL d a.1 a.2 v]
 | a::b::r,v=>unL d a.1 a.2 (d.fs v)::Y2 (b::r) (d.sn v)
def Jcu(rs:List (Bool×Ty))(v:ι (Xq (rs.map (·.2)))):V ι:=
 match Y2 d rs v with
 | [p]=>Jax p
 | l=>.tp l
def Jsk:V ι->Bool
 | .c (.ptr ..)=>true
 | _=>false
def callD(c:Ctr)(f:FuncId)(args:List LO)(s:S ι)(vs:List (V ι))(k:LOp->V ι->S ι->M α):M α:=
 Jvc d s.ob c.as vs λa=>
  let ns:=vs.flatMap λv=>v.cells.flatMap (Jx s.ob 4);let flat:=c.rs.all λr=>r.2.flat
  if vs.any Jsk then (if flat then d.call c a λr=>k (.callq f args) (Jcu d c.rs r) s else d.no)
  else if ns.isEmpty || flat || c.fresh then d.call c a λr=>k (.callp f args) (Jcu d c.rs r) s
  else d.call c a λr=>k (.callz f args) (Jcu d c.rs r) (Ju s ns)
def mapL{β γ:Type}(f:β->Option γ):List β->Option (List γ)
 | []=>some []
 | x::r=>(f x).bind λy=>(mapL f r).map (y::·)
def Ty.ksh:Ty->List Bool
 | .int _=>[false]
 | .bool=>[true]
 | .p a b=>a.ksh++b.ksh
 | _=>[]
def Ty.key:Ty->Bool
 | .int _|.bool|.u=>true
 | .p a b=>a.key&&b.key
 | _=>false
def eqBs:List Bool->List Bool->Bool
 | [],[]=>true
 | true::a,true::b=>eqBs a b
 | false::a,false::b=>eqBs a b
 | _,_=>false
def keyD(ag:Bool)(t:Ty)(v:V ι):Option (ι t):=
 match ag,v with
 | true,.ag l=>(impl d (Yc d) t l).bind λ|(x,r)=>if r.isEmpty then some x else none
 | false,.c c=>Yc d t c
 | _,_=>none
def zeroD:(t:Ty)->AV->Option (ι t)
 | .ls t,.lst 0 []=>some (d.nl t)
 | t,z=>Yc d t (cC d z)
def mpAt(s:S ι)(v:V ι):Option (Nat×Nat×(kt:Ty)×(vt:Ty)×ι (.ls (.p kt vt))):=
 match v with
 | .c (.map g ver)=>(match look g s.ob with
  | some (.mp w kt vt es)=>if w=ver then some ⟨g,w,kt,vt,es⟩ else none
  | _=>none)
 | _=>none
def kOK(ag:Bool)(sh:List Bool)(t:Ty):Bool:=(ag==t.isAg)&&eqBs sh t.ksh&&t.key&&(ag || Aa t.sz 1)
def Ty.one1:Ty->Bool
 | .u|.p _ _=>false
 | _=>true
def cpyD(s:S ι)(esz:Nat)(x y:V ι)(k:V ι->S ι->M α):M α:=match x,y with
 | .c (.part g ver off n),.c (.part f ver' off' a)=>(match look g s.ob with
  | some (.row v e el t l [] none false)=>if g=f/\v=ver/\v=ver'/\e=esz/\t.sz=esz/\0<esz then
    d.gd (d.ib (d.int .i64 0) (d.ln l)) (d.gd (d.le (d.int .i64 0) off) (d.gd (d.le (d.int .i64 0) n) (d.gd (d.le (d.pl off n) (d.ln l))
     (d.gd (d.le (d.int .i64 0) off') (d.gd (d.le (d.int .i64 0) a) (d.gd (d.le (d.pl off' a) (d.ln l))
      (k (.c (.lf I (d.mm false .i64 .i64 a n))) (s.obj g (.row v e el t (d.ap (d.ct l (d.int .i64 0) off) (d.ap (d.ct l off' (d.mm false .i64 .i64 a n)) (d.ct l (d.pl off (d.mm false .i64 .i64 a n)) (d.mi (d.ln l) (d.pl off (d.mm false .i64 .i64 a n)))))) [] none false)))))))))
   else d.no
  | _=>d.no)
 | _,_=>d.no
def opD(Γ:FuncId->Option Ctr)(ty:TypeId->Option Ty)(s:S ι)(g0:Nat)(op:LOp)(k:LOp->V ι->S ι->M α):M α:=
 match op with
 | .mov x=>k op (ev d s x) s
 | .pick c a b=>(match ev d s c with
  | .c (.kb t)=>k op (if t then ev d s a else ev d s b) s
  | _=>d.no)
 | .alloc z=>if s.has g0=true then d.no else k op (.c (.ptr g0 (s.nv g0) 0)) (s.obj g0 (.box (s.nv g0) (z.map (cC d))))
 | .box x=>(match ev d s x with
  | v=>if s.has g0=true\/v.good=false then d.no else k op (.c (.ptr g0 (s.nv g0) 0)) (s.obj g0 (.box (s.nv g0) v.cells)))
 | .build z ps=>orNo d (Jhf (ev d s) (z.map (cC d)) ps) λl=>k op (.ag l) s
 | .bslice n esz el z ps=>orNo d (Jhf (ev d s) (repC (z.map (cC d)) n) ps) λl=>
   if l.length=n * esz/\0<esz/\s.has g0=false then k op (.c (.own g0 (s.nv g0))) (s.obj g0 (.lit (s.nv g0) esz el l false)) else d.no
 | .load ag n x=>loadD d s ag n (ev d s x) λv=>k op v s
 | .store n x y=>Jyt d s n (ev d s x) (ev d s y) λs'=>k op (.c .any) s'
 | .ibin o x y=>orNo d (Jpb (ev d s x)) λkk=>orNo d (Jga kk (ev d s x)) λa=>orNo d (Jga kk (ev d s y)) λb=>
   if isCmp o then k op (.c (.lf .bool (d.cm o kk a b))) s
   else if isAr o then k op (.c (.lf (.int kk) (d.ar o kk a b))) s
   else (match o with
   | .quo|.rem=>d.gd (d.cm .neq kk b (d.int kk 0)) (k op (.c (.lf (.int kk) (d.ar o kk a b))) s)
   | _=>d.no)
 | .eqv ne ag sh x y=>(match ag,ev d s x,ev d s y with
  | true,.ag l,.ag m=>orNo d (eqCs d sh l m) λb=>k op (.c (.lf .bool (if ne then d.nt b else b))) s
  | false,.c u,.c v=>orNo d (eqCs d sh [u] [v]) λb=>k op (.c (.lf .bool (if ne then d.nt b else b))) s
  | _,_,_=>d.no)
 | .un o x=>(match o,ev d s x with
  | .not,.c (.kb b)=>k op (.c (.kb !b)) s
  | .not,.c (.lf .bool b)=>k op (.c (.lf .bool (d.nt b))) s
  | .neg,.c (.lf (.int kk) v)=>k op (.c (.lf (.int kk) (d.ng kk v))) s
  | _,_=>d.no)
 | .conv kk x=>(match ev d s x with
  | .c (.lf (.int k') v)=>k op (.c (.lf (.int kk) (d.cv k' kk v))) s
  | _=>d.no)
 | .nilck x=>(match ev d s x with
  | .c (.ptr g v o)=>if s.cur g v then k op (.c (.ptr g v o)) s else d.no
  | .c (.pti g v e i o)=>if s.cur g v then k op (.c (.pti g v e i o)) s else d.no
  | .c (.rp t v o)=>k op (.c (.rp t v o)) s
  | .c (.fn f c)=>k op (.c (.fn f c)) s
  | .c (.lf (.bf f t) v)=>k op (.c (.lf (.bf f t) v)) s
  | _=>d.no)
 | .mkbf f x=>(match ev d s x with
  | .ag l=>orNo d (Jvj d l) λp=>k op (.c (.lf (.bf f p.1) (d.bf f p.2))) s
  | _=>d.no)
 | .mkfn f caps=>orNo d (mapL (λx=>match ev d s x with|.c (.ptr g v o)=>some (g,v,o)|_=>none) caps) λl=>k op (.c (.fn f l)) s
 | .mkS esz bytes el z l c=>(match l,c with
  | .t a,.t b=>if a=b then orNo d (Jga .i64 (ev d s l)) λn=>orNo d (ty el) λt=>orNo d (impl d (Yc d) t (z.map (cC d))) λzz=>(match zz with
    | (h,zr)=>if t.sz=esz/\zr.isEmpty/\z.length=esz/\0<esz/\s.has g0=false then d.gd (d.le (d.int .i64 0) n) (d.gd (d.ft bytes n) (k op (.c (.own g0 (s.nv g0))) (s.obj g0 (.row (s.nv g0) esz el t (d.rp h n) [] none false)))) else d.no)
   else d.no
  | .c (.int _ a),.c (.int _ b)=>if a=b/\0<=a/\a * bytes<=room/\a<=9223372036854775807/\z.length=esz/\0<esz/\s.has g0=false then k op (.c (.own g0 (s.nv g0))) (s.obj g0 (.lit (s.nv g0) esz el (repC (z.map (cC d)) a.toNat) false)) else d.no
  | _,_=>d.no)
 | .slc esz x lo r=>slcD d s esz (ev d s x) lo r λv=>k op v s
 | .faddr off x=>(match ev d s x with
  | .c (.ptr g v o)=>if s.cur g v then k op (.c (.ptr g v (o+off))) s else d.no
  | .c (.pti g v e i o)=>if s.cur g v then k op (.c (.pti g v e i (o+off))) s else d.no
  | .c (.rp t v o)=>k op (.c (.rp t v (o+off))) s
  | _=>d.no)
 | .fld ag off n x=>(match ev d s x with
  | .ag l=>if off+n<=l.length then orNo d (pk ag (cutC l off n)) λv=>k op v s else d.no
  | _=>d.no)
 | .iaddr esz x i=>orNo d (Jga .i64 (ev d s i)) λi=>(match ev d s x with
  | .c (.lf (.ls t) v)=>if t.sz=esz then d.ge v i λz=>k op (.c (.rp t z 0)) s else d.no
  | .c (.own g ver)=>(match look g s.ob with
   | some (.row v e _ _ _ _ _ _)=>if v=ver/\e=esz then orNo d (Jbj d s g ver) λn=>d.gd (d.ib i n) (k op (.c (.pti g ver esz i 0)) s) else d.no
   | _=>d.no)
  | .c (.part g ver off len)=>(match look g s.ob with
   | some (.row v e _ _ _ _ _ _)=>if v=ver/\e=esz then d.gd (d.le (d.int .i64 0) off) (d.gd (d.ib i len) (k op (.c (.pti g ver esz (d.pl off i) 0)) s)) else d.no
   | _=>d.no)
  | _=>d.no)
 | .iaddrA len esz x i=>(match ev d s x with
  | .c (.ptr g v o)=>if s.cur g v then (match i with
   | .c (.int _ n)=>if 0<=n/\n<len then k op (.c (.ptr g v (o+n.toNat * esz))) s else d.no
   | i=>orNo d (Jga .i64 (ev d s i)) λi=>Jzg d i (λj=>k op (.c (.ptr g v (o+j * esz))) s) 0 len) else d.no
  | _=>d.no)
 | .idx len esz ag x i=>(match ev d s x with
  | .ag l=>(match i with
   | .c (.int _ n)=>if 0<=n/\n<len/\n.toNat * esz+esz<=l.length then orNo d (pk ag (cutC l (n.toNat * esz) esz)) λv=>k op v s else d.no
   | i=>orNo d (Jga .i64 (ev d s i)) λi=>Jzg d i (λj=>if j * esz+esz<=l.length then orNo d (pk ag (cutC l (j * esz) esz)) λv=>k op v s else d.no) 0 len)
  | _=>d.no)
 | .ext x i=>(match ev d s x with
  | .tp l=>orNo d l[i]? λp=>(match p with
   | (true,cs)=>k op (.ag cs) s
   | (false,[c])=>k op (.c c) s
   | _=>d.no)
  | _=>d.no)
 | .len x=>(match ev d s x with
  | .c (.lf (.ls _) v)=>k op (.c (.lf I (d.ln v))) s
  | .c (.own g ver)=>orNo d (Jbj d s g ver) λn=>k op (.c (.lf I n)) s
  | .c (.part g ver _ n)=>orNo d (Jbj d s g ver) λ_=>d.gd (d.le (d.int .i64 0) n) (k op (.c (.lf I n)) s)
  | .c (.k .nils)=>k op (.c (.lf I (d.int .i64 0))) s
  | _=>d.no)
 | .lenS x=>(match ev d s x with
  | .c (.lf .str v)=>k op (.c (.lf I (d.ls v))) s
  | _=>d.no)
 | .app esz bytes el _ x y=>appD d s g0 esz bytes el (ev d s x) (ev d s y) (k op)
 | .callp f args=>orNo d (Γ f) λc=>callD d c f args s (args.map (ev d s)) k
 | .shf o x y=>orNo d (Jpb (ev d s x)) λkk=>orNo d (Jga kk (ev d s x)) λa=>orNo d (Jpb (ev d s y)) λk'=>orNo d (Jga k' (ev d s y)) λb=>
   (match o with
   | .shl|.shr=>d.gd (d.cm .geq k' b (d.int k' 0)) (k op (.c (.lf (.int kk) (d.sh o kk k' a b))) s)
   | _=>d.no)
 | .mm mx x y=>orNo d (Jpb (ev d s x)) λkk=>orNo d (Jga kk (ev d s x)) λa=>orNo d (Jpb (ev d s y)) λk'=>orNo d (Jga k' (ev d s y)) λb=>
   k op (.c (.lf (.int kk) (d.mm mx kk k' a b))) s
 | .mkM kt vt el=>orNo d (ty kt) λkt=>orNo d (ty vt) λvt=>if s.has g0=true then d.no else
   (match ty (1000000000+el),vt with
   | some _,.ls vt=>if s.mo.isSome\/Aw mB g0=true\/vt.sz=0\/(s.ob.any λp=>Aw mB p.1)=true then d.no else k op (.c (.k (.map g0 0))) ⟨s.sl,s.lo,s.ob,s.ln,some ⟨g0,kt,vt,el,d.nl _⟩⟩
   | _,vt=>k op (.c (.map g0 (s.nv g0))) (s.obj g0 (.em (s.nv g0) kt vt el)))
 | .look ok ag sh z x y=>(match mpAt s (ev d s x) with
  | some ⟨_,_,kt,vt,es⟩=>if kOK ag sh kt=true/\vt.one1=true then orNo d (keyD d ag kt (ev d s y)) λy=>orNo d (zeroD d vt z) λz=>
    if ok then k op (.tp [(false,[.lf vt (d.mg es y z)]),(false,[.lf .bool (d.mf es y)])]) s else k op (.c (.lf vt (d.mg es y z))) s
   else d.no
  | none=>d.no)
 | .setM ag sh x y z=>(match mpAt s (ev d s x) with
  | some ⟨g,w,kt,vt,es⟩=>if kOK ag sh kt=true/\vt.one1=true then orNo d (keyD d ag kt (ev d s y)) λy=>orNo d (keyD d false vt (ev d s z)) λz=>
    k op (.c .any) (s.obj g (.mp w kt vt (d.ms es y z)))
   else d.no
  | none=>d.no)
 | .delM ag sh x y=>(match mpAt s (ev d s x) with
  | some ⟨g,w,kt,vt,es⟩=>if kOK ag sh kt=true then orNo d (keyD d ag kt (ev d s y)) λy=>k op (.tp []) (s.obj g (.mp w kt vt (d.md es y))) else d.no
  | none=>d.no)
 | .cpy esz x y=>cpyD d s esz (ev d s x) (ev d s y) (k op)
 | .lenM x=>(match mpAt s (ev d s x) with
  | some ⟨_,_,_,_,es⟩=>k op (.c (.lf I (d.ln es))) s
  | none=>d.no)
 | .isnil ne x=>(match ev d s x with
  | .c (.k .nils)=>k op (.c (.kb !ne)) s
  | .c (.lf (.ls _) v)=>d.gd (d.cm .gtr .i64 (d.ln v) (d.int .i64 0)) (k op (.c (.kb ne)) s)
  | .c (.own g ver)=>orNo d (Jbj d s g ver) λn=>d.gd (d.cm .gtr .i64 n (d.int .i64 0)) (k op (.c (.kb ne)) s)
  | _=>d.no)
 | _=>d.no
end
inductive LC where
 | skip
 | reg (draw:Bool) (id:Nat) (ops:Array Oper) (l:List (Nat×LOper))
 | seq (a b:LC)
 | cond (c:LO) (a b:LC)
 | blk (id:Nat) (b:LC)
 | loop (b:LC)
 | exit (id:Nat)
 | ret
 | rng (g:LO) (ps:List Nat) (a b:LC)
 | keys (id:Nat) (el:TypeId) (bytes:Nat)
 deriving Inhabited
def Jl4:List Nat->Bool
 | []=>true
 | x::r=>!memN x r&&Jl4 r
inductive OpK where
 | mv (x:Nat)
 | asg (x:Nat)
 | range (t:TypeId) (x:Nat)
 | next (x:Nat)
 | ext (x i:Nat)
 | entry (x:Nat)
 | alloc (t:TypeId)
 | store (t:TypeId) (x y:Nat)
 | load (t:TypeId) (x:Nat)
 | lit (t:TypeId) (x:Nat)
 | app (t:TypeId) (x y:Nat)
def OpK.op:OpK->Op
 | .mv x=>.move (.tmp x)
 | .asg x=>.assign (.tmp x)
 | .range t x=>.range t (.tmp x)
 | .next x=>.next (.tmp x) false
 | .ext x i=>.extract (.tmp x) i
 | .entry x=>.entry (.tmp x)
 | .alloc t=>.alloc t
 | .store t x y=>.store t (.tmp x) (.tmp y)
 | .load t x=>.load t (.tmp x)
 | .lit t x=>.buildSlice t 1 #[(0,.tmp x)]
 | .app t x y=>.call ⟨.builtin .append,#[.tmp x,.tmp y],#[t,t]⟩
def OpK.is:OpK->Op->Bool
 | .mv x,.move (.tmp y)=>Aa x y
 | .asg x,.assign (.tmp y)=>Aa x y
 | .range t x,.range u (.tmp y)=>Aa t u&&Aa x y
 | .next x,.next (.tmp y) false=>Aa x y
 | .ext x i,.extract (.tmp y) j=>Aa x y&&Aa i j
 | .entry x,.entry (.tmp y)=>Aa x y
 | .alloc t,.alloc u=>Aa t u
 | .store t x y,.store u (.tmp d) (.tmp a)=>Aa t u&&Aa x d&&Aa y a
 | .load t x,.load u (.tmp y)=>Aa t u&&Aa x y
 | .lit t x,.buildSlice u n ps=>Aa t u&&Aa n 1&&(match ps.toList with | [(0,.tmp y)]=>Aa x y|_=>false)
 | .app t x y,.call ⟨.builtin .append,as,ts⟩=>(match as.toList,ts.toList with | [.tmp d,.tmp a],[u,e]=>Aa x d&&Aa y a&&Aa t u&&Aa t e|_,_=>false)
 | _,_=>false
def dstIs:Option Nat->Option Nat->Bool
 | none,none=>true
 | some a,some b=>Aa a b
 | _,_=>false
def Jfk:List (Option Nat×OpK)->List Oper->Bool
 | [],[]=>true
 | p::l,o::r=>dstIs p.1 o.dst&&p.2.is o.op&&(match o.guard with|none=>true|_=>false)&&Jfk l r
 | _,_=>false
def Jge(l:List Oper)(i:Nat):TypeId:=match l[i]? with
 | some o=>(match o.op with|.range t _=>t|.alloc t=>t|.buildSlice t _ _=>t|_=>0)
 | none=>0
def keysT(P:Program)(mt kT rT:TypeId):Option Nat:=
 match P.underlying mt,P.underlying rT,P.info? kT,aggT P kT with
 | some (.map _ _),some (.slice e),some i,some true=>if Aa e kT&&Aa i.size 2&&i.zero.isSome&&(zc P kT).isSome then some i.bytes else none
 | _,_,_,_=>none
def Jl2(P:Program)(nt:Nat):Code->Code->Option LC
 | .region l e false,.block n (.loop (.seq (.region _ f false) (.seq (.cond (.tmp c) .skip (.exit h)) (.block g (.seq (.region _ a false) (.region _ d false))))))=>
  match keysT P (Jge e.toList 1) (Jge a.toList 2) (Jge d.toList 2) with
  | some by'=>
   if Aa c 17&&Aa n h&&!Aa g n&&Aw 24 nt &&
    Jfk [(some 14,.mv 3),(some 15,.range (Jge e.toList 1) 14)] e.toList &&
    Jfk [(some 16,.next 15),(some 17,.ext 16 0)] f.toList &&
    Jfk [(some 18,.entry 15),(some 19,.ext 18 0),(some 5,.alloc (Jge a.toList 2)),(none,.store (Jge a.toList 2) 5 19)] a.toList &&
    Jfk [(some 20,.mv 4),(some 21,.load (Jge a.toList 2) 5),(some 22,.lit (Jge d.toList 2) 21),(some 23,.app (Jge d.toList 2) 20 22),(some 4,.asg 23)] d.toList
   then some (.keys l (Jge a.toList 2) by') else none
  | none=>none
 | _,_=>none
def Y8(P:Program)(nt:Nat):Code->Option LC
 | .skip=>some .skip
 | .region id ops draw=>(Jbk P [] nt ops (List.range ops.size)).map (.reg draw id ops)
 | .seq a b=>match Jl2 P nt a b with
  | some l=>some l
  | none=>(Y8 P nt a).bind λa=>(Y8 P nt b).map (.seq a)
 | .scope b=>Y8 P nt b
 | .label _=>some .skip
 | .cond c a b=>(cLO c).bind λc=>(Y8 P nt a).bind λa=>(Y8 P nt b).map (.cond c a)
 | .block id b=>(Y8 P nt b).map (.blk id)
 | .loop b=>(Y8 P nt b).map .loop
 | .exit id=>some (.exit id)
 | .ret=>some .ret
 | .rangeFunc g ps a b=>(cLO g).bind λg=>(Y8 P nt a).bind λa=>(Y8 P nt b).bind λb=>if (ps.toList.all λt=>Nat.blt t nt)&&Jl4 ps.toList then some (.rng g ps.toList a b) else none
 | _=>none
def Jlz(P:Program):ResultVar->Option RV
 | .tmp t=>some (.tmp t)
 | .cell t ty=>(aggT P ty).bind λag=>(szT P ty).bind λn=>if ag\/n=1 then some (.cell t ag n) else none
structure LF where
 np:Nat
 nt:Nat
 res:List RV
 body:LC
def Jyf(P:Program)(f:FuncId):Option LF:=
 (P.funcs[f]?).bind λfn => fn.body.bind λc => if fn.name == "runtime.NumGoroutine" then none else
  (Y8 P fn.ntmps c).bind λb=>(mapL (Jlz P) fn.results.toList).map λrs=>⟨fn.params.size+fn.nfree,fn.ntmps,rs,b⟩
def tyOf(P:Program):Nat->TypeId->Option Ty
 | 0,_=>none
 | n+1,t=>match P.underlying t with
  | some .bool=>some .bool
  | some (.int k)=>some (.int k)
  | some .string=>some .str
  | some (.slice e)=>(tyOf P n e).map .ls
  | some (.struct fs)=>(mapL (λf=>tyOf P n f.type) fs.toList).map Xq
  | some (.array m e)=>(tyOf P n e).map λt=>Xq (Do m t)
  | _=>none
def adds:List Nat->List Nat->List Nat
 | [],m=>m
 | x::r,m=>match memN x m with|true=>adds r m|false=>adds r (x::m)
def dropN(d:Option Nat)(l:List Nat):List Nat:=match d with|none=>l|some d=>l.filter λx=>!Aa x d
def Jep:List (Nat×LOper)->List Nat->List Nat
 | [],n=>n
 | p::r,n=>adds p.2.looks (dropN p.2.dst (Jep r n))
def Y1:LC->List Nat->List (Nat×List Nat)->List Nat->List Nat
 | .skip,n,_,_=>n
 | .reg _ _ _ l,n,_,_=>Jep l n
 | .seq a b,n,ex,rt=>Y1 a (Y1 b n ex rt) ex rt
 | .cond c a b,n,ex,rt=>adds c.tmp? (adds (Y1 a n ex rt) (Y1 b n ex rt))
 | .blk id b,n,ex,rt=>Y1 b n ((id,n)::ex) rt
 | .loop b,_,ex,rt=>Y1 b [] ex rt
 | .exit id,_,ex,_=>(look id ex).getD []
 | .ret,_,_,rt=>rt
 | .keys _ _ _,n,_,_=>adds [3,4] (dropN (some 4) n)
 | .rng g ps a b,n,_,_=>adds g.tmp? (adds ((Y1 a (Y1 b [] [] []) [] []).filter λx=>!memN x ps) n)
def RV.slot:RV->Nat
 | .tmp t=>t
 | .cell t _ _=>t
section
variable {ι:Ty->Type} {M:Type->Type} {α:Type} (d:D ι M)
def nB:Nat:=1000000000000000000000000000000000000000000000000000000000000
def nS(key:Nat):Nat:=nB+key
def nC(g j:Nat):Nat:=g * 4096+j
def refs:C ι->List (Nat×Nat)
 | .own g v|.part g v _ _|.ptr g v _|.pti g v _ _ _|.map g v=>[(g,v)]
 | .fn _ c=>c.map λx=>(x.1,x.2.1)
 | _=>[]
def visR(s:S ι)(nm:Nat):Nat->List (Nat×Nat)->List (Nat×Nat)->List (Nat×Nat)
 | _,[],tb=>tb
 | j,(g,v)::r,tb=>visR s nm (j+1) r (if s.cur g v&&(look g tb).isNone then tb++[(g,nm+j)] else tb)
def visCs(s:S ι)(g:Nat):Nat->List (C ι)->List (Nat×Nat)->List (Nat×Nat)
 | _,[],tb=>tb
 | j,c::r,tb=>visCs s g (j+8) r (visR s (nC g j) 0 (refs c) tb)
def Ob.kids:Ob ι->List (C ι)
 | .box _ cs=>cs
 | .lit _ _ _ cs _=>cs
 | .row _ _ _ _ _ x nest _=>(match nest with|some p=>[p.2]|none=>[])++x
 | .mp ..=>[]
 | .em ..=>[]
def frozen(s:S ι)(g:Nat):Bool:=match look g s.ob with
 | some (.row _ _ _ _ _ _ _ z)=>z
 | some (.lit _ _ _ _ z)=>z
 | _=>false
def Jx4(s:S ι):Nat->List (Nat×Nat)->List (Nat×Nat)->List (Nat×Nat)
 | 0,_,tb=>tb
 | n+1,todo,tb=>match todo with
  | []=>tb
  | (g,nn)::r=>match look g s.ob with
   | some o=>if frozen s g then Jx4 s n r tb else
    let tb':=visCs s nn 0 o.kids tb
    Jx4 s n (r++tb'.drop tb.length) tb'
   | none=>Jx4 s n r tb
def Jw2(s:S ι)(b:Nat):List (Nat×V ι)->List (Nat×Nat)->List (Nat×Nat)
 | [],tb=>tb
 | (k,.c x)::r,tb=>Jw2 s b r (visR s (nS (b+k)) 0 (refs x) tb)
 | (k,.ag l)::r,tb=>Jw2 s b r (visCs s (nS (b+k)) 0 l tb)
 | _::r,tb=>Jw2 s b r tb
def rdF(s:S ι)(g:Nat)(c:C ι):C ι:=
 match look g s.ob with
 | some (.row _ _ _ t _ _ _ _)=>(match Xw d s.ob 4 (.ls t) c with
  | some l=>if (Jx s.ob 4 c).all (frozen s)=true then .lf (.ls t) l else .any
  | none=>.any)
 | _=>.any
def moC(m:Option (Mo ι)):AV->Bool
 | .map g v=>match m with|some m=>Aa m.g g&&Aa v 0|none=>false
 | _=>false
def renC(s:S ι)(tb:List (Nat×Nat))(c:C ι):C ι:=
 match c with
 | .own g v=>if s.cur g v then (if frozen s g then rdF d s g c else match look g tb with|some n=>.own n 0|none=>.any) else .any
 | .part g v a b=>if s.cur g v then (if frozen s g then rdF d s g c else match look g tb with|some n=>.part n 0 a b|none=>.any) else .any
 | .ptr g v o=>if s.cur g v&&!frozen s g then (match look g tb with|some n=>.ptr n 0 o|none=>.any) else .any
 | .pti g v e i o=>if s.cur g v&&!frozen s g then (match look g tb with|some n=>.pti n 0 e i o|none=>.any) else .any
 | .map g v=>if s.cur g v&&!frozen s g then (match look g tb with|some n=>.map n 0|none=>.any) else .any
 | .fn f l=>(match mapL (λx:Nat×Nat×Nat=>if s.cur x.1 x.2.1&&!frozen s x.1 then (look x.1 tb).map λn=>(n,0,x.2.2) else none) l with
  | some l=>.fn f l
  | none=>.any)
 | .k v=>if v.flat || moC s.mo v then .k v else .any
 | c=>c
def renV(s:S ι)(tb:List (Nat×Nat)):V ι->V ι
 | .c x=>.c (renC d s tb x)
 | .ag l=>.ag (l.map (renC d s tb))
 | .tp l=>.tp (l.map λ|(b,q)=>(b,q.map (renC d s tb)))
def renO(s:S ι)(tb:List (Nat×Nat)):Ob ι->Ob ι
 | .box _ cs=>.box 0 (cs.map (renC d s tb))
 | .lit _ e el cs z=>.lit 0 e el (cs.map (renC d s tb)) z
 | .row _ e el t v x nest z=>.row 0 e el t v (x.map (renC d s tb)) (nest.map λ|(o,c)=>(o,renC d s tb c)) z
 | .mp _ kt vt es=>.mp 0 kt vt es
 | .em _ kt vt el=>.em 0 kt vt el
def Jhr(s:S ι)(tb:List (Nat×Nat)):List (Nat×Nat)->List (Nat×Ob ι)
 | []=>[]
 | (g,nn)::r=>match look g s.ob with
  | some o=>if frozen s g then Jhr s tb r else (nn,renO d s tb o)::Jhr s tb r
  | none=>Jhr s tb r
def kept(sl:List (Nat×V ι)):List Nat->List (Nat×V ι)
 | []=>[]
 | k::r=>match look k sl with|some v=>(k,v)::kept sl r|none=>kept sl r
def visLo(s:S ι):Nat->List (List (Nat×V ι))->List (Nat×Nat)->List (Nat×Nat)
 | _,[],tb=>tb
 | n,l::r,tb=>visLo s (n+1) r (Jw2 s (n * 4096) l tb)
def Jnj(s:S ι)(tb:List (Nat×Nat)):List (Nat×V ι)->List (Nat×V ι)
 | []=>[]
 | (k,v)::r=>(k,renV d s tb v)::Jnj s tb r
def canonT(s:S ι)(sl:List (Nat×V ι))(tb0:List (Nat×Nat)):S ι:=
 let tb:=Jx4 s 300 tb0 tb0
 if Jl4 (tb.map (·.1))&&Jl4 (tb.map (·.2))&&tb.all (λp=>!moN s.mo p.1&&!moN s.mo p.2) then ⟨Jnj d s tb sl,s.lo.map (Jnj d s tb),Jhr d s tb tb,[],s.mo⟩
 else ⟨[],s.lo.map (λ_=>[]),[],[],none⟩
def Je0(keep:List Nat)(s:S ι):S ι:=
 let sl:=kept s.sl keep
 canonT d s sl (visLo s 1 s.lo (Jw2 s 0 sl []))
def insN(x:Nat):List Nat->List Nat
 | []=>[x]
 | y::r=>match Aw x y with
  | true=>(match Aa x y with|true=>y::r|false=>x::y::r)
  | false=>y::insN x r
def Jaz:List Nat->List Nat
 | []=>[]
 | x::r=>insN x (Jaz r)
def hasX(ob:List (Nat×Ob ι))(g:Nat):Bool:=match look g ob with
 | some (.lit ..)=>true
 | some (.row _ _ _ _ _ x _ _)=>!x.isEmpty
 | some (.em ..)=>true
 | _=>false
def hasN(ob:List (Nat×Ob ι))(g:Nat):Bool:=match look g ob with
 | some (.row _ _ _ _ _ _ (some _) _)=>true
 | _=>false
def Jej(e:Nat)(x:List (C ι)):Option (Nat×C ι):=
 go 0 (x.drop (x.length - e))
where go:Nat->List (C ι)->Option (Nat×C ι)
 | _,[]=>none
 | j,.own g v::_=>some (j,.own g v)
 | j,.k .nils::_=>some (j,.k .nils)
 | j,_::r=>go (j+1) r
def Jrf(x:List (C ι))(j:Nat):List (C ι):=x.set j (.k .nils)
def Jd6(keep:Bool)(e:Nat)(x:List (C ι)):Option (Nat×C ι):=if keep then Jej e x else none
def litX(keep:Bool)(e:Nat)(x:List (C ι)):List (C ι):=match Jd6 keep e x with|some p=>Jrf x (x.length - e+p.1)|none=>x
def Jmh(ob:List (Nat×Ob ι))(nest:Option (Nat×C ι)):List Nat:=match nest with|some p=>Jx ob 4 p.2|none=>[]
def Jqv(ty:TypeId->Option Ty)(keep:Bool)(s:S ι)(g:Nat):S ι:=
 match look g s.ob with
 | some (.lit v e el x z)=>(match ty el with
  | some t=>if t.sz=e/\0<e then
    (match Jcc d (Xw d s.ob 4) t (x.length+1) (litX keep e x) with
    | some l=>if memN g ((litX keep e x).flatMap (Jx s.ob 4)) then s else (Ju s ((litX keep e x).flatMap (Jx s.ob 4))).obj g (.row v e el t l [] (Jd6 keep e x) z)
    | none=>s) else s
  | none=>s)
 | some (.row v e el t l x nest z)=>if x.isEmpty then (match keep,nest with
   | false,some p=>if t.sz=e/\0<e then (match mlN d (Xw d s.ob 4) t l (some p) with
    | some l0=>if memN g (Jx s.ob 4 p.2) then s else (Ju s (Jx s.ob 4 p.2)).obj g (.row v e el t l0 x none z)
    | none=>s) else s
   | _,_=>s) else if t.sz=e/\0<e then
   (match mlN d (Xw d s.ob 4) t l nest,Jcc d (Xw d s.ob 4) t (x.length+1) (litX keep e x) with
   | some l0,some a=>if memN g (Jmh s.ob nest++(litX keep e x).flatMap (Jx s.ob 4)) then s else (Ju s (Jmh s.ob nest++(litX keep e x).flatMap (Jx s.ob 4))).obj g (.row v e el t (d.ap l0 a) [] (Jd6 keep e x) z)
   | _,_=>s) else s
 | some (.em v kt vt _)=>s.obj g (.mp v kt vt (d.nl (.p kt vt)))
 | _=>s
def news(ob:List (Nat×Ob ι))(n:Nat):List Nat:=adds ((ob.take (ob.length - n)).map (·.1)) []
def Jl3(ty:TypeId->Option Ty)(keep:Bool)(n:Nat)(s:S ι):S ι:=((news s.ob n).filter (hasX s.ob)++(match keep with|true=>[]|false=>(adds (s.ob.map (·.1)) []).filter (hasN s.ob))).foldl (Jqv d ty keep) s
end
def joinC:C U->C U->C U
 | .lf t _,.lf h _=>if t=h then .lf t () else .any
 | .lf .bool _,.kb _=>.lf .bool ()
 | .kb _,.lf .bool _=>.lf .bool ()
 | .kb a,.kb b=>if a=b then .kb a else .lf .bool ()
 | .k .nils,.k .nils=>.k .nils
 | .k .nilp,.k .nilp=>.k .nilp
 | .k .nilf,.k .nilf=>.k .nilf
 | .k .nilm,.k .nilm=>.k .nilm
 | .k (.map g v),.k (.map e d)=>if g=e/\v=d then .k (.map g v) else .any
 | .k .nils,.own g v=>.own g v
 | .own g v,.k .nils=>.own g v
 | .k .nils,.lf (.ls t) _=>.lf (.ls t) ()
 | .lf (.ls t) _,.k .nils=>.lf (.ls t) ()
 | .own g v,.own e d=>if g=e/\v=d then .own g v else .any
 | .part g v _ _,.part e d _ _=>if g=e/\v=d then .part g v () () else .any
 | .ptr g v o,.ptr e d o'=>if g=e/\v=d/\o=o' then .ptr g v o else .any
 | .rp t _ o,.rp h _ o'=>if t=h/\o=o' then .rp t () o else .any
 | .fn f c,.fn f' c'=>if f=f'/\c=c' then .fn f c else .any
 | .map g v,.map e d=>if g=e/\v=d then .map g v else .any
 | .yl j,.yl l=>if j=l then .yl j else .any
 | _,_=>.any
def J0k:List (C U)->List (C U)->List (C U)
 | x::l,y::m=>joinC x y::J0k l m
 | _,_=>[]
def joinV:V U->V U->V U
 | .c x,.c y=>.c (joinC x y)
 | .ag l,.ag m=>if l.length=m.length then .ag (J0k l m) else .c .any
 | _,_=>.c .any
def joinO:Ob U->Ob U->Ob U
 | .box v cs,.box _ cs'=>.box v (J0k cs cs')
 | .row v e el t _ _ nest z,.row _ _ _ _ _ _ nest' _=>.row v e el t () [] (match nest,nest' with|some p,some q=>some (p.1,joinC p.2 q.2)|none,n=>n|n,none=>n) z
 | o,_=>o
def Jx2(m:List (Nat×V U)):List (Nat×V U)->List (Nat×V U)
 | []=>[]
 | p::r=>(match look p.1 m with|some v=>[(p.1,joinV p.2 v)]|none=>[])++Jx2 m r
def joinOb(a b:List (Nat×Ob U)):List (Nat×Ob U):=
 (a.map λp=>match look p.1 b with|some o=>(p.1,joinO p.2 o)|none=>p)++b.filter λp=>(look p.1 a).isNone
def joinLo:List (List (Nat×V U))->List (List (Nat×V U))->List (List (Nat×V U))
 | a::l,b::m=>Jx2 b a::joinLo l m
 | _,_=>[]
def joinS(a b:S U):S U:=⟨Jx2 b.sl a.sl,joinLo a.lo b.lo,joinOb a.ob b.ob,[],a.mo⟩
def refsV:V U->List Nat
 | .c x=>(refs x).map (·.1)
 | .ag l=>l.flatMap λx=>(refs x).map (·.1)
 | .tp l=>l.flatMap λq=>q.2.flatMap λx=>(refs x).map (·.1)
def trimS(s:S U):S U:=
 let used:=(s.sl++s.lo.flatten).flatMap (λp=>refsV p.2)++s.ob.flatMap λp=>p.2.kids.flatMap λx=>(refs x).map (·.1)
 ⟨s.sl,s.lo,s.ob.filter λp=>memN p.1 used,[],s.mo⟩
def serC:C U->List Nat
 | .any=>[0]
 | .lf _ _=>[1]
 | .kb b=>[2,b.toNat]
 | .k _=>[3]
 | .own g v=>[4,g,v]
 | .part g v _ _=>[5,g,v]
 | .ptr g v o=>[6,g,v,o]
 | .pti g v e _ o=>[7,g,v,e,o]
 | .rp _ _ o=>[8,o]
 | .fn f c=>9::f::c.flatMap λx=>[x.1,x.2.1,x.2.2]
 | .map g v=>[10,g,v]
 | .yl j=>[11,j]
def serV:V U->List Nat
 | .c x=>0::serC x
 | .ag l=>1::l.flatMap serC
 | .tp l=>2::l.flatMap λp=>p.2.flatMap serC
def serO:Ob U->List Nat
 | .box v cs=>0::v::cs.flatMap serC
 | .lit v _ _ cs _=>1::v::cs.flatMap serC
 | .row v _ _ _ _ x nest z=>2::v::z.toNat::x.flatMap serC++(match nest with|some p=>p.1::serC p.2|none=>[])
 | .mp v ..=>[3,v]
 | .em v ..=>[4,v]
def eqN:List Nat->List Nat->Bool
 | [],[]=>true
 | x::l,y::m=>match Aa x y with|true=>eqN l m|false=>false
 | _,_=>false
def serS(s:S U):List Nat:=(s.sl++s.lo.flatten).flatMap (λp=>p.1::serV p.2)++s.ob.flatMap λp=>p.1::serO p.2
section
variable {ι:Ty->Type}
def erC:C ι->C U
 | .any=>.any
 | .lf t _=>.lf t ()
 | .kb b=>.kb b
 | .k v=>.k v
 | .own g v=>.own g v
 | .part g v _ _=>.part g v () ()
 | .ptr g v o=>.ptr g v o
 | .pti g v e _ o=>.pti g v e () o
 | .rp t _ o=>.rp t () o
 | .fn f c=>.fn f c
 | .map g v=>.map g v
 | .yl j=>.yl j
def erV:V ι->V U
 | .c x=>.c (erC x)
 | .ag l=>.ag (l.map erC)
 | .tp l=>.tp (l.map λp=>(p.1,p.2.map erC))
def erO:Ob ι->Ob U
 | .box v cs=>.box v (cs.map erC)
 | .lit v e el cs z=>.lit v e el (cs.map erC) z
 | .row v e el t _ x nest z=>.row v e el t () (x.map erC) (nest.map λp=>(p.1,erC p.2)) z
 | .mp v kt vt _=>.mp v kt vt ()
 | .em v kt vt el=>.em v kt vt el
def erS(s:S ι):S U:=⟨s.sl.map λp=>(p.1,erV p.2),s.lo.map λl=>l.map λp=>(p.1,erV p.2),s.ob.map λp=>(p.1,erO p.2),[],s.mo.map λm=>⟨m.g,m.kt,m.vt,m.el,()⟩⟩
end
abbrev Inl:=∀ {ι:Ty->Type} {M:Type->Type} {α:Type},D ι M->FuncId->Nat->List (V ι)->S ι->(V ι->S ι->M α)->M α
structure Hd where
 base:Nat
 ps:List Nat
 a:LC
 b:LC
def yB:Nat:=1000000000
structure SCt where
 id:Nat
 g:Nat
 two:Bool
 t:Ty
 fn:List t.T->Option (List t.T)
def SCt.ctr(x:SCt):Ctr:=⟨1000000+x.id * 1000+x.g,[(.one,.ls x.t)],[(false,.ls x.t)],x.fn⟩
structure Bi where
 run:Inl
def lookB(d:Nat):List (Nat×Bi)->Option Bi
 | []=>none
 | (n,v)::r=>match Aa n d with|true=>some v|false=>lookB d r
structure Cx where
 ct:FuncId->Option Ctr
 ty:TypeId->Option Ty
 code:FuncId->Option LF
 keep:Nat->Bool
 hs:List (Nat×Hd)
 rd:Bool
 so:FuncId->FuncId->Option SCt
 jn:Nat->Bool
 bi:FuncId->Option Bi
def stat:D U (λ_=>List (LE×S U)) where
 int _ _:=()
 bool _:=()
 str _:=()
 nl _:=()
 un:=()
 pr _ _:=()
 fs _:=()
 sn _:=()
 ar _ _ _ _:=()
 cm _ _ _ _:=()
 sh _ _ _ _ _:=()
 cv _ _ _:=()
 mm _ _ _ _ _:=()
 ng _ _:=()
 nt _:=()
 an _ _:=()
 be _ _:=()
 ln _:=()
 ls _:=()
 bf _ _:=()
 ub _:=()
 pl _ _:=()
 mi _ _:=()
 ib _ _:=()
 le _ _:=()
 ft _ _:=()
 cs _ _:=()
 ap _ _:=()
 ct _ _ _:=()
 st _ _ _:=()
 rp _ _:=()
 ml _ _:=()
 mg _ _ _:=()
 mf _ _:=()
 ms _ _ _:=()
 md _ _:=()
 br _ x y:=x++y
 gd _ x:=x
 no:=[]
 ge _ _ k:=k ()
 nq _ k:=k ()
 mq _ k:=k ()
 call _ _ k:=k ()
 join ex _ _ k:=ex.flatMap λp=>k p.1 p.2
 loop _ ex _ _ _ k:=ex.flatMap λp=>k p.1 p.2
section
variable {ι:Ty->Type} {M:Type->Type} {α:Type} (d:D ι M)
def Jpi(s:S ι)(o:LOper)(run skip:S ι->M α):M α:=
 match o.guard with
 | none=>run s
 | some (g,want)=>(match s.at g with
  | .c (.kb b)=>if b=want then run s else skip s
  | .c (.lf .bool t)=>if want then d.br t (run (s.put (some g) (.c (.kb true)))) (skip (s.put (some g) (.c (.kb false))))
   else d.br t (skip (s.put (some g) (.c (.kb true)))) (run (s.put (some g) (.c (.kb false))))
  | .tp []=>skip s
  | _=>d.no)
def Jyx(s:S ι)(o:LOp)(run:S ι->M α):M α:=
 match o with
 | .pick (.t n) _ _=>(match s.at n with
  | .c (.lf .bool t)=>d.br t (run (s.put (some n) (.c (.kb true)))) (run (s.put (some n) (.c (.kb false))))
  | _=>run s)
 | _=>run s
def Jzi(cx:Cx)(base:Nat)(s:S ι)(o:LOper)(k:LOp->S ι->M α):M α:=
 Jpi d s o (λs=>Jyx d s o.op λs=>opD d cx.ct cx.ty s (base+o.dst.getD 0) o.op λop v s'=>k op (s'.put o.dst v)) (λs=>k o.op (s.put o.dst (.tp [])))
def inlF(cx:Cx)(s:S ι):LOp->Option (FuncId×List (V ι))
 | .callp f args=>if (cx.ct f).isNone&&!Aw yB f then some (f,args.map (ev d s)) else none
 | .callv x args=>(match ev d s x with
  | .c (.fn f caps)=>if Aw yB f then none else some (f,args.map (ev d s)++caps.map λc=>.c (.ptr c.1 c.2.1 c.2.2))
  | .c (.yl j)=>some (yB+j,args.map (ev d s))
  | .c (.lf (.bf f t) v)=>if Aw yB f then none else some (f,.ag (expl d t (d.ub v))::args.map (ev d s))
  | _=>none)
 | _=>none
def srtF(cx:Cx)(s:S ι):LOp->Option (SCt×V ι)
 | .callp f [x,y]=>(match ev d s y with
  | .c (.fn g [])=>(cx.so f g).bind λc=>if c.two then some (c,ev d s x) else none
  | _=>none)
 | .callp f [x]=>(cx.so f 0).bind λc=>if c.two then none else some (c,ev d s x)
 | _=>none
def sortD(c:SCt)(s:S ι)(v:V ι)(k:S ι->M α):M α:=
 match v with
 | .c (.own g ver)=>(match look g s.ob with
  | some (.row v e el t l [] none false)=>if v=ver/\e=t.sz/\0<e then orNo d (cast? (.ls t) (.ls c.t) l) λl=>d.call c.ctr l λa=>k (s.obj g (.row v e el c.t a [] none false)) else d.no
  | _=>d.no)
 | .c (.k .nils)=>k s
 | _=>d.no
def nilOf(s:S ι):LOp->Option (Bool×ι I)
 | .isnil ne x=>(match ev d s x with
  | .c (.lf (.ls _) v)=>some (ne,d.ln v)
  | _=>none)
 | _=>none
def isCall:LOp->Bool
 | .callp .. | .callv ..=>true
 | _=>false
def S.push(s:S ι)(live:List Nat)(sl:List (Nat×V ι)):S ι:=⟨sl,kept s.sl live::s.lo,s.ob,s.ln,s.mo⟩
def S.pop(s:S ι):S ι:=match s.lo with
 | l::r=>⟨l,r,s.ob,s.ln,s.mo⟩
 | []=>s
def Jgo:Nat->List (V ι)->List (Nat×V ι)
 | _,[]=>[]
 | j,v::r=>(j,v)::Jgo (j+1) r
def Jbl(inl:Inl)(cx:Cx)(base:Nat)(n:List Nat):List (Nat×LOper)->S ι->(S ι->M α)->M α
 | [],s,k=>k s
 | p::r,s,k=>
  if isCall p.2.op then
   Jpi d s p.2 (λs=>match srtF d cx s p.2.op with
    | some (c,v)=>sortD d c s v λs'=>Jbl inl cx base n r (s'.put p.2.dst (.tp [])) k
    | none=>match inlF d cx s p.2.op with
    | some (f,vs)=>inl d f ((base+p.2.dst.getD 0+1) * 4096) vs (s.push (Jaz (Jep r n)) []) λv s'=>Jbl inl cx base n r (s'.put p.2.dst v) k
    | none=>opD d cx.ct cx.ty s (base+p.2.dst.getD 0) p.2.op λ_ v s'=>Jbl inl cx base n r (s'.put p.2.dst v) k) (λs=>Jbl inl cx base n r (s.put p.2.dst (.tp [])) k)
  else match nilOf d s p.2.op,p.2.guard with
   | some (ne,m),none=>d.nq m λb=>Jbl inl cx base n r (s.put p.2.dst (.c (.lf .bool (if ne then d.nt b else b)))) k
   | _,_=>Jzi d cx base s p.2 λ_ s'=>Jbl inl cx base n r s' k
def Jww(base:Nat)(o:LOper)(s:S ι):Bool:=o.op.isNew&&s.has (base+o.dst.getD 0)
def newDs:List (Nat×LOper)->List Nat
 | []=>[]
 | p::r=>match p.2.op,p.2.dst with
  | .alloc _,some x=>x::newDs r
  | .bslice ..,some x=>x::newDs r
  | _,_=>newDs r
def usedD(x:Nat):List (Nat×LOper)->Bool
 | []=>false
 | p::r=>(match p.2.dst with|some y=>Aa y x|none=>false) || (match p.2.op with
  | .store _ (.t _) (.t y)=>Aa y x
  | .store ..=>false
  | op=>memN x op.looks) || usedD x r
def Jxo(base:Nat)(s:S ι)(all:List (Nat×LOper)):List (Nat×LOper)->List Nat
 | []=>[]
 | p::r=>match p.2.op with
  | .store _ (.t x) _=>(match usedD x all,ev d s (.t x) with
   | false,.c (.ptr g _ _)=>if Aw base g then (g - base)::Jxo base s all r else Jxo base s all r
   | _,_=>Jxo base s all r)
  | _=>Jxo base s all r
def offV(base:Nat)(ds:List Nat):V ι->Bool
 | .c (.ptr g _ _)=>!inNm base ds g
 | .c (.own g _)=>!inNm base ds g
 | .c (.lf _ _)=>true
 | .c (.rp _ _ _)=>true
 | .c (.pti g _ _ _ _)=>!inNm base ds g
 | _=>false
def onV(base:Nat)(ds:List Nat):V ι->Bool
 | .c (.ptr g _ _)=>inNm base ds g
 | _=>false
def onA(base:Nat)(ds:List Nat)(dst:Option Nat):V ι->Bool
 | .c (.own g _)=>inNm base ds g
 | .c (.k .nils)=>inNm base ds (base+dst.getD 0)
 | _=>false
def appT(s:S ι)(base:Nat)(dst:Option Nat)(op:LOp)(tg:List Nat):List Nat:=
 match op with
 | .app _ _ _ _ x _=>(match ev d s x with
  | .c (.own g _)=>if Aw base g then (g - base)::tg else tg
  | .c (.k .nils)=>dst.getD 0::tg
  | _=>tg)
 | _=>tg
def Jei(s:S ι)(base:Nat)(dst:Option Nat)(op:LOp)(ds:List Nat):LOp:=
 match op with
 | .load ag n x=>if offV base ds (ev d s x) then .msk ds (.load ag n x) else .load ag n x
 | .faddr o x=>if offV base ds (ev d s x) then .msk ds (.faddr o x) else .faddr o x
 | .iaddr e x i=>if offV base ds (ev d s x) then .msk ds (.iaddr e x i) else .iaddr e x i
 | .len x=>if offV base ds (ev d s x) then .msk ds (.len x) else .len x
 | .store n x y=>if onV base ds (ev d s x) then .ston ds n x y else .store n x y
 | .nilck x=>if offV base ds (ev d s x) then .msk ds (.nilck x) else .nilck x
 | .app e b t z x y=>if onA base ds dst (ev d s x) then .appn ds e b t z x y else .app e b t z x y
 | .slc e x lo a=>if offV base ds (ev d s x) then .msk ds (.slc e x lo a) else .slc e x lo a
 | op=>op
def Jck(cx:Cx)(base:Nat):List (Nat×LOper)->List (Nat×LOper)->List (List Nat->Nat×LOper)->List Nat->S ι->(List (Nat×LOper)->List (Nat×LOper)->S ι->M α)->M α
 | [],acc,acc2,ds,s,k=>k acc.reverse (acc2.reverse.map λf=>f ds) s
 | p::r,acc,acc2,ds,s,k=>
  if Jww base p.2 s then d.no else
  Jzi d cx base s p.2 λop s'=>Jck cx base r ((p.1,{ p.2 with op:=op })::acc) ((λds=>(p.1,{ p.2 with op:=Jei d s base p.2.dst op ds }))::acc2) (appT d s base p.2.dst op ds) s' k
def mustIn(cx:Cx):LOp->Bool
 | .callp f _=>(cx.ct f).isNone
 | .callv ..=>true
 | _=>false
def Jo7(cx:Cx):List (Nat×LOper)->List (Nat×LOper)×List (Nat×LOper)
 | []=>([],[])
 | p::r=>match mustIn cx p.2.op with
  | true=>([],p::r)
  | false=>match Jo7 cx r with|(a,b)=>(p::a,b)
def addE(p:LE×S U):List (LE×S U)->List (LE×S U)
 | []=>[p]
 | q::r=>if p.1=q.1 then (q.1,joinS q.2 p.2)::r else q::addE p r
def exits(l:List (LE×S U)):List (LE×S U):=(l.foldl (λm p=>if p.1=.normal then m else addE p m) []).map λp=>(p.1,trimS p.2)
def heads(sh:S U)(l:List (LE×S U)):S U:=trimS (l.foldl (λm p=>if p.1=.normal then joinS m p.2 else m) sh)
def joinX(l:List (LE×S U)):List (LE×S U):=(l.foldl (λm p=>addE p m) []).map λp=>(p.1,trimS p.2)
def Ja6:LC->Nat
 | .reg _ id _ _=>id
 | .seq a _=>Ja6 a
 | .cond _ a b=>match Aa (Ja6 a) 1000000000 with|true=>Ja6 b|false=>Ja6 a
 | .blk _ b=>Ja6 b
 | .loop b=>Ja6 b
 | .rng _ _ a _=>Ja6 a
 | .keys id _ _=>id
 | _=>1000000000
def fixS(run:S U->List (LE×S U)):Nat->S U->S U×List (LE×S U)
 | 0,sh=>(sh,exits (run sh))
 | n+1,sh=>
  let l:=run sh;let sh':=heads sh l
  if eqN (serS sh') (serS sh)=true then (sh',exits l) else fixS run n sh'
def S.kill{ι:Ty->Type}:List Nat->S ι->S ι
 | [],s=>s
 | x::r,s=>S.kill r (s.put (some x) (.c .any))
def unkC{ι:Ty->Type}(g:Nat):C ι->C ι
 | .k v=>match v.flat with
  | true=>.k v
  | false=>(match v with
   | .map a 0=>(match Aa a g with|true=>.map g 0|false=>.any)
   | _=>.any)
 | c=>c
def unkV{ι:Ty->Type}(g:Nat):V ι->V ι
 | .c x=>.c (unkC g x)
 | .ag l=>.ag (l.map (unkC g))
 | .tp []=>.tp []
 | .tp _=>.c .any
def Jk6{ι:Ty->Type}:C ι->Bool
 | .any=>true
 | .lf _ _=>true
 | .kb _=>true
 | .rp _ _ _=>true
 | .k v=>v.flat
 | _=>false
def unmo{ι:Ty->Type}(s:S ι):Option (S ι):=
 match s.mo with
 | none=>some s
 | some m=>if (s.ob.all λp=>p.2.kids.all Jk6)=true then some ⟨s.sl.map λp=>(p.1,unkV m.g p.2),s.lo.map λl=>l.map λp=>(p.1,unkV m.g p.2),(m.g,.mp 0 m.kt (.ls m.vt) m.es)::s.ob,s.ln,none⟩ else none
def Jnz:List Nat:=[14,15,16,17,18,19,5,20,21,22,23,4]
def keysD(base:Nat)(el:TypeId)(bytes:Nat)(s:S ι)(k:S ι->M α):M α:=
 orNo d (unmo s) λs=>match mpAt s (s.at 3),s.at 4 with
 | some ⟨_,_,.p (.int .i64) (.int .i64),_,es⟩,.c (.k .nils)=>if s.has (base+23)=true then d.no else
  d.gd (d.ft bytes (d.ln es)) (d.mq es λl=>k ((((S.kill Jnz s).obj (base+23) (.row 0 2 el (.p I I) l [] none false)).put (some 4) (.c (.own (base+23) 0)))))
 | _,_=>d.no
def resD(s:S ι):List RV->(List (V ι)->M α)->M α
 | [],k=>k []
 | .tmp t::r,k=>resD s r λl=>k (s.at t::l)
 | .cell t ag n::r,k=>loadD d s ag n (s.at t) λv=>resD s r λl=>k (v::l)
def V.toP:V ι->Bool×List (C ι)
 | .c x=>(false,[x])
 | .ag l=>(true,l)
 | .tp _=>(false,[])
def Jla:List (V ι)->V ι
 | [v]=>v
 | l=>.tp (l.map V.toP)
end
def Jhq(h:List Nat)(ex:List (Nat×List Nat))(rt:List Nat):LE->List Nat
 | .normal=>h
 | .exit id=>Jaz ((look id ex).getD [])
 | .ret=>Jaz rt
def noYc{ι:Ty->Type}(j:Nat):C ι->Bool
 | .yl i=>!Aa i j
 | .k v=>v.flat
 | _=>true
def noYv{ι:Ty->Type}(j:Nat):V ι->Bool
 | .c x=>noYc j x
 | .ag l=>l.all (noYc j)
 | .tp l=>l.all λp=>p.2.all (noYc j)
def noYs{ι:Ty->Type}(j:Nat)(s:S ι):Bool:=(s.sl.all λp=>noYv j p.2)&&(s.lo.all λl=>l.all λp=>noYv j p.2)&&s.ob.all λp=>p.2.kids.all (noYc j)
def denC(mk:Cx->Inl)(cx:Cx)(base:Nat):LC->(n:List Nat)->(ex:List (Nat×List Nat))->(rt:List Nat)->{ι:Ty->Type}->{M:Type->Type}->{α:Type}->D ι M->S ι->(LE->S ι->M α)->M α
 | .skip,_,_,_,_,_,_,_,s,k=>k .normal s
 | .reg draw id ops l,n,_,_,_,_,_,d,s,k=>
  if draw then (match Jo7 cx l with
   | (_,[])=>Jck d cx base l [] [] (newDs l++Jxo d base s l l) s λm o s'=>if Jlx ops m || Jlx ops o then k .normal (Jl3 d cx.ty (cx.keep id) s.ob.length s') else d.no
   | (L,p::R)=>Jck d cx base L [] [] [] s λm _ s'=>if Jm6 ops m ((p::R).map (·.1)) then Jbl d (mk { cx with rd:=false }) cx base n (p::R) s' λs''=>k .normal (Jl3 d cx.ty (cx.keep id) s.ob.length s'') else d.no)
  else Jbl d (mk { cx with rd:=false }) cx base n l s λs'=>k .normal (Jl3 d cx.ty (cx.keep id) s.ob.length s')
 | .seq a b,n,ex,rt,_,_,_,d,s,k=>match cx.jn (base * 1000+Ja6 b) with
  | false=>denC mk cx base a (Y1 b n ex rt) ex rt d s λe s'=>match e with
   | .normal=>denC mk cx base b n ex rt d s' k
   | e=>k e s'
  | true=>d.join (joinX (denC mk cx base a (Y1 b n ex rt) ex rt (α:=Unit) stat (erS s) λe s'=>[(e,Je0 stat (Jhq (Jaz (Y1 b n ex rt)) ex rt e) s')]))
    (λe s'=>Je0 d (Jhq (Jaz (Y1 b n ex rt)) ex rt e) s') (λk'=>denC mk cx base a (Y1 b n ex rt) ex rt d s k') λe s'=>match e with
   | .normal=>denC mk cx base b n ex rt d s' k
   | e=>k e s'
 | .cond c a b,n,ex,rt,_,_,_,d,s,k=>match ev d s c with
  | .c (.kb t)=>if t then denC mk cx base a n ex rt d s k else denC mk cx base b n ex rt d s k
  | .c (.lf .bool t)=>(match c with
   | .t x=>d.br t (denC mk cx base a n ex rt d (s.put (some x) (.c (.kb true))) k) (denC mk cx base b n ex rt d (s.put (some x) (.c (.kb false))) k)
   | _=>d.no)
  | _=>d.no
 | .blk id b,n,ex,rt,_,_,_,d,s,k=>denC mk cx base b n ((id,n)::ex) rt d s λe s'=>if e=.exit id then k .normal s' else k e s'
 | .loop b,_,ex,rt,_,_,_,d,s,k=>
  let h:=Jaz (Y1 b [] ex rt);let s0:=Je0 d h s
  match fixS (λsh=>denC mk cx base b h ex rt (α:=Unit) stat sh λe s'=>[(e,Je0 stat (Jhq h ex rt e) s')]) 4 (erS s0) with
  | (sh,xs)=>d.loop sh xs (λe s'=>Je0 d (Jhq h ex rt e) s') (λs' k'=>denC mk cx base b h ex rt d s' k') s0 k
 | .exit id,_,_,_,_,_,_,_,s,k=>k (.exit id) s
 | .ret,_,_,_,_,_,_,_,s,k=>k .ret s
 | .keys _ el bytes,_,_,_,_,_,_,d,s,k=>keysD d base el bytes s λs'=>k .normal s'
 | .rng g ps a b,n,_,_,_,_,_,d,s,k=>match ev d s g with
  | .c (.fn f caps)=>if cx.rd=false/\Aw yB f=false/\noYs s.lo.length s=true then
    mk { cx with hs:=(s.lo.length,⟨base,ps,a,b⟩)::cx.hs,rd:=false } d f ((base+ps.headD 0+1) * 4096) (.c (.yl s.lo.length)::caps.map λc=>.c (.ptr c.1 c.2.1 c.2.2))
     (s.push (Jaz (adds ((Y1 a (Y1 b [] [] []) [] []).filter λx=>!memN x ps) n)) []) λ_ s'=>if noYs s.lo.length s'=true then k .normal s' else d.no
   else d.no
  | _=>d.no
def Jxf(mk:Cx->Inl)(cx:Cx)(base:Nat)(a b:LC){ι:Ty->Type}{M:Type->Type}{α:Type}(d:D ι M)(s:S ι)(k:LE->S ι->M α):M α:=
 denC mk cx base a (Y1 b [] [] []) [] [] d s λe s'=>match e with
  | .normal=>denC mk cx base b [] [] [] d s' k
  | e=>k e s'
def psSl{ι:Ty->Type}:List Nat->List (V ι)->List (Nat×V ι)
 | p::ps,v::vs=>(p,v)::psSl ps vs
 | _,_=>[]
def Jof{ι:Ty->Type}{M:Type->Type}{α:Type}(mk:Cx->Inl)(cx:Cx)(d:D ι M)(f:FuncId)(base:Nat)(vs:List (V ι))(s:S ι)(k:V ι->S ι->M α):M α:=
 match Aw yB f with
 | true=>(match look (f - yB) cx.hs,s.lo with
  | some h,_::c::r=>if r.length=f - yB/\vs.length=h.ps.length then
    Jxf mk { cx with hs:=cx.hs.filter (λp=>Nat.blt p.1 (f - yB)),rd:=true } h.base h.a h.b d ⟨psSl h.ps vs++c,s.lo,s.ob,s.ln,s.mo⟩ λe s'=>match e with
     | .normal=>k (.c (.kb true)) s'.pop
     | _=>d.no
   else d.no
  | _,_=>d.no)
 | false=>match cx.code f with
  | none=>d.no
  | some lf=>if vs.length=lf.np then
    denC mk cx base lf.body (lf.res.map RV.slot) [] (lf.res.map RV.slot) d ⟨Jgo 0 vs,s.lo,s.ob,s.ln,s.mo⟩ λe s'=>match e with
     | .exit _=>d.no
     | _=>resD d s' lf.res λl=>k (Jla l) s'.pop
   else d.no
def den:Nat->Cx->Inl
 | 0,_=>λd _ _ _ _ _=>d.no
 | n+1,cx=>λd f base vs s k=>match cx.bi f with
  | some B=>B.run d f base vs s k
  | none=>Jof (den n) cx d f base vs s k
class W where
 ar:BinOp->IntKind->Int->Int->Int
 cm:BinOp->Int->Int->Bool
 sh:BinOp->IntKind->Int->Int->Int
 cv:IntKind->Int->Int
 mx:Int->Int->Int
 mn:Int->Int->Int
 ng:IntKind->Int->Int
 nt:Bool->Bool
 an:Bool->Bool->Bool
 be:Bool->Bool->Bool
 ln:{α:Type}->List α->Int
 lS:ByteArray->Int
 pl:Int->Int->Int
 mi:Int->Int->Int
 ib:Int->Int->Bool
 le:Int->Int->Bool
 ft:Nat->Int->Bool
 ap:{α:Type}->List α->List α->List α
 ct:{α:Type}->List α->Int->Int->List α
 st:{α:Type}->List α->Int->α->List α
 rp:{α:Type}->α->Int->List α
 ml:{α:Type}->List α->(α->α)->List α
 mg:{a b:Ty}->List (a.T×b.T)->a.T->b.T->b.T
 mf:{a b:Ty}->List (a.T×b.T)->a.T->Bool
 ms:{a b:Ty}->List (a.T×b.T)->a.T->b.T->List (a.T×b.T)
 md:{a b:Ty}->List (a.T×b.T)->a.T->List (a.T×b.T)
 br:{α:Type}->Bool->Option α->Option α->Option α
 gd:{α:Type}->Bool->Option α->Option α
 ge:{α β:Type}->List β->Int->(β->Option α)->Option α
 nq:{α:Type}->Int->(Bool->Option α)->Option α
 mq:{α:Type}->{a b:Ty}->List (a.T×b.T)->(List a.T->Option α)->Option α
 call:{α:Type}->(c:Ctr)->c.aT.T->(c.rT.T->Option α)->Option α
 loop:{A B α:Type}->(A->Option (Nx A B))->A->(B->Option α)->Option α
 join:{B α:Type}->Option B->(B->Option α)->Option α
def dL(w:W):D Ty.T Option where
 int _ n:=n
 bool b:=b
 str s:=s
 nl t:=([]:List t.T)
 un:=()
 pr a b:=(a,b)
 fs v:=v.1
 sn v:=v.2
 ar o k a b:=w.ar o k a b
 cm o _ a b:=w.cm o a b
 sh o k _ a b:=w.sh o k a b
 cv _ k' a:=w.cv k' a
 mm b _ _ x y:=match b with|true=>w.mx x y|false=>w.mn x y
 ng k a:=w.ng k a
 nt a:=w.nt a
 an a b:=w.an a b
 be a b:=w.be a b
 ln {t} v:=w.ln (α:=t.T) v
 ls s:=w.lS s
 bf _ v:=v
 ub v:=v
 pl a b:=w.pl a b
 mi a b:=w.mi a b
 ib i n:=w.ib i n
 le a b:=w.le a b
 ft b n:=w.ft b n
 cs {t} x l:=List.cons (α:=t.T) x l
 ap {t} l m:=w.ap (α:=t.T) l m
 ct {t} l a n:=w.ct (α:=t.T) l a n
 st {t} l i x:=w.st (α:=t.T) l i x
 rp {t} x n:=w.rp (α:=t.T) x n
 ml {t} l f:=w.ml (α:=t.T) l f
 mg {a b} l k z:=w.mg (a:=a) (b:=b) l k z
 mf {a b} l k:=w.mf (a:=a) (b:=b) l k
 ms {a b} l k v:=w.ms (a:=a) (b:=b) l k v
 md {a b} l k:=w.md (a:=a) (b:=b) l k
 br t x y:=w.br t x y
 gd t x:=w.gd t x
 no:=none
 ge {_ t} l i k:=w.ge (β:=t.T) l i k
 nq n k:=w.nq n k
 mq {_ a b} l k:=w.mq (a:=a) (b:=b) l k
 call c a k:=w.call c a k
 join _ _ _ _:=none
 loop _ _ _ _ _ _:=none
section
variable {ι:Ty->Type} {M:Type->Type} (d:D ι M) (ob:List (Nat×Ob ι))
def fitC{r:List Ty}(h:HL ι r):(c:C U)->C ι->Option (HL ι (ltC r c))
 | .any,_=>some h
 | .lf t _,c=>(Xw d ob 4 t c).map λv=>⟨v,h⟩
 | .kb b,.kb B=>if b=B then some h else none
 | .k .nils,.k .nils=>some h
 | .k .nilp,.k .nilp=>some h
 | .k .nilf,.k .nilf=>some h
 | .k .nilm,.k .nilm=>some h
 | .own g v,.own m l=>if g=m/\v=l then some h else none
 | .own g _,.k .nils=>if (look g ob).isNone then some h else none
 | .part g v _ _,.part m l a b=>if g=m/\v=l then some ⟨a,b,h⟩ else none
 | .ptr g v o,.ptr m l o'=>if g=m/\v=l/\o=o' then some h else none
 | .pti g v e _ o,.pti m l A i o'=>if g=m/\v=l/\e=A/\o=o' then some ⟨i,h⟩ else none
 | .rp t _ o,.rp w v o'=>if o=o' then (cast? w t v).map λv=>⟨v,h⟩ else none
 | .fn f c,.fn f' c'=>if f=f'/\c=c' then some h else none
 | .map g v,.map m l=>if g=m/\v=l then some h else none
 | .yl j,.yl y=>if j=y then some h else none
 | .k (.map g v),.k (.map m l)=>if g=m/\v=l then some h else none
 | _,_=>none
def Jk3{r:List Ty}(h:HL ι r):(l:List (C U))->List (C ι)->Option (HL ι (ltCs r l))
 | [],[]=>some h
 | c::l,x::m=>(Jk3 h l m).bind λh=>fitC d ob h c x
 | _,_=>none
def fitP{r:List Ty}(h:HL ι r):(l:List (Bool×List (C U)))->List (Bool×List (C ι))->Option (HL ι (ltP r l))
 | [],[]=>some h
 | (a,p)::l,(b,x)::m=>if a=b then (fitP h l m).bind λh=>Jk3 d ob h p x else none
 | _,_=>none
def fitV{r:List Ty}(h:HL ι r):(v:V U)->V ι->Option (HL ι (ltV r v))
 | .c x,.c y=>fitC d ob h x y
 | .c .any,_=>some h
 | .ag l,.ag m=>Jk3 d ob h l m
 | .tp l,.tp m=>fitP d ob h l m
 | _,_=>none
def fitN{r:List Ty}(h:HL ι r):(n:Option (Nat×C U))->Option (Nat×C ι)->Option (HL ι (ltN r n))
 | none,none=>some h
 | some (a,p),some (b,q)=>if a=b then fitC d ob h p q else none
 | none,some _=>some h
 | _,_=>none
def fitO{r:List Ty}(h:HL ι r):(o:Ob U)->Ob ι->Option (HL ι (ltO r o))
 | .box v cs,.box a cs'=>if v=a then Jk3 d ob h cs cs' else none
 | .lit v e el cs z,.lit a g el' cs' m=>if v=a/\e=g/\el=el'/\z=m then Jk3 d ob h cs cs' else none
 | .row v e el t _ x nest fz,.row a g el' f l w nest' fz'=>
  if v=a/\e=g/\el=el'/\fz=fz' then
   (fitN d ob h nest nest').bind λh=>(Jk3 d ob h x w).bind λh=>(match nest,nest' with
    | none,some (off,c)=>(mlN d (Xw d ob 4) f l (some (off,c))).bind λl=>(cast? (.ls f) (.ls t) l).map λl=>⟨l,h⟩
    | some _,none=>none
    | _,_=>(cast? (.ls f) (.ls t) l).map λl=>⟨l,h⟩)
  else none
 | .mp v kt vt _,.mp a kt' vt' es=>if v=a then (cast? (.ls (.p kt' vt')) (.ls (.p kt vt)) es).map λl=>⟨l,h⟩ else none
 | _,_=>none
def Jy1{r:List Ty}(h:HL ι r):(o:Ob U)->Option (HL ι (ltO r o))
 | .row _ _ _ _ _ [] none _=>some ⟨d.nl _,h⟩
 | .row _ _ _ _ _ [] (some (_,.own _ _)) _=>some ⟨d.nl _,h⟩
 | _=>none
def Jnb{r:List Ty}(h:HL ι r)(sl:List (Nat×V ι)):(l:List (Nat×V U))->Option (HL ι (ltSl r l))
 | []=>some h
 | (a,p)::l=>(Jnb h sl l).bind λh=>fitV d ob h p ((look a sl).getD (.c .any))
def Jsz{r:List Ty}(h:HL ι r):(l:List (Nat×Ob U))->Option (HL ι (ltOb r l))
 | []=>some h
 | (a,p)::l=>(Jsz h l).bind λh=>match look a ob with|some o=>fitO d ob h p o|none=>Jy1 d h p
end
def Jo8{ι:Ty->Type}{M:Type->Type}{r:List Ty}(d:D ι M)(ob:List (Nat×Ob ι))(h:HL ι r):(l:List (List (Nat×V U)))->List (List (Nat×V ι))->Option (HL ι (ltLo r l))
 | [],[]=>some h
 | p::l,q::m=>(Jo8 d ob h l m).bind λh=>Jnb d ob h q p
 | _,_=>none
def readC{ι:Ty->Type}(ob:List (Nat×Ob ι)):C U->C ι->List Nat
 | .lf _ _,c=>Jx ob 4 c
 | _,_=>[]
def Ji9{ι:Ty->Type}(ob:List (Nat×Ob ι)):List (C U)->List (C ι)->List Nat
 | c::l,x::m=>readC ob c x++Ji9 ob l m
 | _,_=>[]
def readP{ι:Ty->Type}(ob:List (Nat×Ob ι)):List (Bool×List (C U))->List (Bool×List (C ι))->List Nat
 | (_,p)::l,(_,x)::m=>Ji9 ob p x++readP ob l m
 | _,_=>[]
def readV{ι:Ty->Type}(ob:List (Nat×Ob ι)):V U->V ι->List Nat
 | .c x,.c y=>readC ob x y
 | .ag l,.ag m=>Ji9 ob l m
 | .tp l,.tp m=>readP ob l m
 | _,_=>[]
def Jvk{ι:Ty->Type}(ob:List (Nat×Ob ι)):Ob U->Ob ι->List Nat
 | .box _ cs,.box _ cs'=>Ji9 ob cs cs'
 | .lit _ _ _ cs _,.lit _ _ _ cs' _=>Ji9 ob cs cs'
 | .row _ _ _ _ _ x nest _,.row _ _ _ _ _ a nest' _=>Ji9 ob x a++(match nest,nest' with|some p,some q=>readC ob p.2 q.2|none,some q=>Jx ob 4 q.2|_,_=>[])
 | _,_=>[]
def Jpr{ι:Ty->Type}(ob:List (Nat×Ob ι))(l:List (Nat×V U))(sl:List (Nat×V ι)):List Nat:=l.flatMap λp=>readV ob p.2 ((look p.1 sl).getD (.c .any))
def Jx8{ι:Ty->Type}(ob:List (Nat×Ob ι)):List (List (Nat×V U))->List (List (Nat×V ι))->List Nat
 | p::l,q::m=>Jpr ob p q++Jx8 ob l m
 | _,_=>[]
def Jpl{ι:Ty->Type}(sh:S U)(s:S ι):List Nat:=
 Jpr s.ob sh.sl s.sl++Jx8 s.ob sh.lo s.lo++sh.ob.flatMap λp=>match look p.1 s.ob with|some o=>Jvk s.ob p.2 o|none=>[]
def S.shut(sh:S U):Bool:=
 ((sh.sl++sh.lo.flatten).all λp=>match p.2 with|.c x=>ok x|.ag l=>l.all ok|.tp l=>l.all λq=>q.2.all ok)&&sh.ob.all λp=>p.2.kids.all ok
where ok (c:C U):Bool:=((refs c).all λr=>match look r.1 sh.ob with|some o=>o.ver==r.2|none=>false)&&(match c with|.k v=>v.flat || moC sh.mo v|_=>true)
def fitMo{ι:Ty->Type}{M:Type->Type}(d:D ι M):(m:Option (Mo U))->Option (Mo ι)->Option (HL ι (ltMo m))
 | none,none=>some ()
 | some m,some a=>if m.g=a.g/\m.el=a.el then (cast? (.ls (.p a.kt (.ls a.vt))) (.ls (.p m.kt (.ls m.vt))) a.es).map λl=>⟨l,()⟩ else none
 | _,_=>none
def S.fit{ι:Ty->Type}{M:Type->Type}(d:D ι M)(sh:S U)(s:S ι):Option (HL ι sh.lt):=
 if sh.shut/\(Jpl sh s).all (λg=>(look g sh.ob).isNone&&!moN s.mo g)=true/\sh.ob.all (λp=>!moN sh.mo p.1)=true then (fitMo d sh.mo s.mo).bind λh=>(Jsz d s.ob h sh.ob).bind λh=>(Jo8 d s.ob h sh.lo s.lo).bind λh=>Jnb d s.ob h s.sl sh.sl else none
def exIn{ι:Ty->Type}{M:Type->Type}(d:D ι M):(ex:List (LE×S U))->LE->S ι->Option (Ex ι ex)
 | [],_,_=>none
 | [(a,p)],e,s=>if a=e then p.fit d s else none
 | (a,p)::q::r,e,s=>if a=e then (p.fit d s).map Sum.inl else (exIn d (q::r) e s).map Sum.inr
def Jvv{ι:Ty->Type}{β:Type}(k:LE->S ι->β):(ex:List (LE×S U))->Ex ι ex->β
 | [],h=>nomatch h
 | [(a,p)],h=>k a (p.mk' h)
 | (a,p)::q::r,h=>Sum.casesOn (motive:=λ_=>β) (show HL ι p.lt ⊕ Ex ι (q::r) from h) (λx=>k a (p.mk' x)) (λx=>Jvv k (q::r) x)
def loopV(w:W)(d:D Ty.T Option){α:Type}(sh:S U)(ex:List (LE×S U))(cn:LE->S Ty.T->S Ty.T)
  (body:S Ty.T->(LE->S Ty.T->Option (Nx (HL Ty.T sh.lt) (Ex Ty.T ex)))->Option (Nx (HL Ty.T sh.lt) (Ex Ty.T ex))) (ent:S Ty.T) (k:LE->S Ty.T->Option α):Option α:=
 match sh.fit d ent with
 | none=>none
 | some a=>w.loop (λh=>body (sh.mk' h) λe s'=>match e with
  | .normal=>(sh.fit d (cn .normal s')).map Nx.go
  | e=>(exIn d ex e (cn e s')).map Nx.out) a (Jvv k ex)
def dW(w:W):D Ty.T Option:={ dL w with loop:=λsh ex cn body ent k=>loopV w (dL w) sh ex cn body ent k,join:=λex cn body k=>w.join (body λe s'=>exIn (dL w) ex e (cn e s')) (Jvv k ex) }
def Jam{α β:Type}(x:Option α)(k:α->Option β):Option β:=match x with|some v=>k v|none=>none
def iar(o:BinOp)(k:IntKind)(a b:Int):Int:=
 match o with
 | .add=>k.wrap (a+b)
 | .sub=>k.wrap (a - b)
 | .mul=>k.wrap (a * b)
 | .quo=>k.wrap (a.tdiv b)
 | .rem=>a.tmod b
 | .and=>bits .and k a b
 | .or=>bits .or k a b
 | .xor=>bits .xor k a b
 | .andNot=>bits .andNot k a b
 | _=>0
def icm(o:BinOp)(a b:Int):Bool:=
 match o with
 | .eql=>a==b
 | .neq=>a != b
 | .lss=>decide (a<b)
 | .leq=>decide (a<=b)
 | .gtr=>decide (a > b)
 | .geq=>decide (a>=b)
 | _=>false
def ish(o:BinOp)(k:IntKind)(a b:Int):Int:=
 match o with
 | .shl=>k.wrap (a * 2 ^ (min b.toNat k.bits))
 | .shr=>a.fdiv (2 ^ (min b.toNat k.bits))
 | _=>0
def fget{α:Type}(l:List α)(i:Int):Option α:=if 0<=i then l[i.toNat]? else none
def K8{α:Type}:List α->(α->α)->List α
 | [],_=>[]
 | [x],f=>[f x]
 | x::y::r,f=>x::K8 (y::r) f
def Xu{A B:Type}(b:A->Option (Nx A B)):Nat->A->Option B
 | 0,_=>none
 | n+1,s=>match b s with
  | none=>none
  | some (.go s')=>Xu b n s'
  | some (.out e)=>some e
def bigN:Nat:=18446744073709551616
def Ty.eqb:(t:Ty)->t.T->t.T->Bool
 | .int _,x,y=>(show Int from x)==(show Int from y)
 | .bool,x,y=>(show Bool from x)==(show Bool from y)
 | .u,_,_=>true
 | .p a b,x,y=>a.eqb x.1 y.1&&b.eqb x.2 y.2
 | _,_,_=>false
def Jbs{a b:Ty}(k:a.T):List (a.T×b.T)->Option b.T
 | []=>none
 | e::r=>if a.eqb k e.1=true then some e.2 else Jbs k r
def mSet{a b:Ty}(k:a.T)(v:b.T):List (a.T×b.T)->List (a.T×b.T)
 | []=>[(k,v)]
 | e::r=>if a.eqb k e.1=true then (k,v)::r else e::mSet k v r
def mDel{a b:Ty}(k:a.T):List (a.T×b.T)->List (a.T×b.T)
 | []=>[]
 | e::r=>if a.eqb k e.1=true then r else e::mDel k r
open Classical in
noncomputable def nlv{α:Type}(n:Int)(k:Bool->Option α):Option α:=if n=0 then (if k true=k false then k false else none) else k false
open Classical in
noncomputable def mqv{α β:Type}(l:List α)(k:List α->Option β):Option β:=if h:∃v,∀p:List α,p.Perm l->k p=some v then some h.choose else none
@[reducible] noncomputable def wv:W where
 ar:=iar
 cm:=icm
 sh:=ish
 cv:=IntKind.wrap
 mx a b:=if b > a then b else a
 mn a b:=if b<a then b else a
 ng k a:=k.wrap (0 - a)
 nt a:=!a
 an a b:=a&&b
 be a b:=a==b
 ln l:=l.length
 lS s:=s.size
 pl a b:=a+b
 mi a b:=a - b
 ib i n:=decide (0<=i/\i<n)
 le a b:=decide (a<=b)
 ft b n:=decide (n * b<=room/\n<=9223372036854775807)
 ap l m:=l++m
 ct l a n:=(l.drop a.toNat).take n.toNat
 st l i x:=l.set i.toNat x
 rp x n:=Do n.toNat x
 ml:=K8
 mg l k z:=(Jbs k l).getD z
 mf l k:=(Jbs k l).isSome
 ms l k v:=mSet k v l
 md l k:=mDel k l
 br c x y:=if c=true then x else y
 gd c x:=if c=true then x else none
 ge l i k:=Jam (fget l i) k
 nq:=nlv
 mq {_ a _} l k:=mqv (α:=a.T) (l.map (·.1)) k
 call c a k:=Jam (c.fn a) k
 loop b a k:=Jam (Xu b bigN a) k
 join x k:=Jam x k
noncomputable abbrev val:D Ty.T Option:=dW wv
def akOf(P:Program)(t:TypeId):Option (AK×Ty):=
 match P.underlying t with
 | some (.pointer e)=>(tyOf P 8 e).map λt=>(.rp,t)
 | some (.struct _)|some (.array _ _)=>(tyOf P 8 t).map λt=>(.ag,t)
 | some _=>(tyOf P 8 t).map λt=>(.one,t)
 | none=>none
def argV{ι:Ty->Type}{M:Type->Type}(d:D ι M)(a:AK×Ty)(v:ι a.2):V ι:=
 match a.1 with
 | .one|.fr=>(match expl d a.2 v with | [c]=>.c c|_=>.c .any)
 | .ag=>.ag (expl d a.2 v)
 | .rp=>.c (.rp a.2 v 0)
def Jeh{ι:Ty->Type}{M:Type->Type}(d:D ι M):(as:List (AK×Ty))->ι (Xq (as.map (·.2)))->List (V ι)
 | [],_=>[]
 | [a],v=>[argV d a v]
 | a::b::r,v=>argV d a (d.fs v)::Jeh d (b::r) (d.sn v)
def rk(a:Bool×Ty):AK×Ty:=(if a.1 then .ag else .one,a.2)
def resGo{ι:Ty->Type}{M:Type->Type}{α:Type}(d:D ι M)(ob:List (Nat×Ob ι)):(rs:List (Bool×Ty))->List (V ι)->(ι (Xq (rs.map (·.2)))->M α)->M α
 | [],[],k=>k d.un
 | [a],[v],k=>argL d ob (rk a) v k
 | a::b::r,v::w,k=>argL d ob (rk a) v λx=>resGo d ob (b::r) w λy=>k (d.pr x y)
 | _,_,_=>d.no
def Jra{ι:Ty->Type}(rs:List (Bool×Ty))(v:V ι):List (V ι):=match rs,v with
 | [_],v=>[v]
 | _,.tp l=>l.map Jax
 | _,v=>[v]
def resL{ι:Ty->Type}{M:Type->Type}{α:Type}(d:D ι M)(ob:List (Nat×Ob ι))(rs:List (Bool×Ty))(v:V ι)(k:ι (Xq (rs.map (·.2)))->M α):M α:=resGo d ob rs (Jra rs v) k
def fnD(d:D Ty.T Option)(cx:Cx)(n:Nat)(f:FuncId)(as:List (AK×Ty))(rs:List (Bool×Ty))(a:(Xq (as.map (·.2))).T):Option (Xq (rs.map (·.2))).T:=
 den n cx d f 0 (Jeh d as a) ⟨[],[[]],[],[],none⟩ λv s=>resL d s.ob rs v some
structure OCt where
 id:Nat
 as:List (AK×Ty)
 el:TypeId
 t:Ty
 fn:(Xq (as.map (·.2))).T->Option (List t.T)
def OCt.ctr(c:OCt):Ctr:=⟨c.id,c.as,[(false,.ls c.t)],c.fn⟩
def Jbx{ι:Ty->Type}(s:S ι)(vs:List (V ι)):List Nat:=vs.flatMap λv=>v.cells.flatMap (Jx s.ob 4)
def OCt.bi(c:OCt):Bi:=⟨λ{ι M α} d _ base vs s k=>Jvc d s.ob c.as vs λa=>
 if vs.any Jsk || s.has base then d.no else
  d.call c.ctr a λl=>k (.c (.own base 0)) ((Ju s (Jbx s vs)).obj base (.row 0 c.t.sz c.el c.t (show ι (.ls c.t) from l) [] none false)).pop⟩
def resO{ι:Ty->Type}{M:Type->Type}{α:Type}(d:D ι M)(ob:List (Nat×Ob ι))(t:Ty)(el:TypeId)(v:V ι)(k:ι (.ls t)->M α):M α:=
 match v with
 | .c (.k .nils)=>k (d.nl t)
 | .c (.own g ver)=>(match look g ob with
  | some (.row v e el' a l [] none false)=>if v=ver/\e=a.sz/\0<e/\el'=el then orNo d (cast? (.ls a) (.ls t) l) k else d.no
  | _=>d.no)
 | _=>d.no
def fnO(d:D Ty.T Option)(cx:Cx)(n:Nat)(f:FuncId)(as:List (AK×Ty))(t:Ty)(el:TypeId)(a:(Xq (as.map (·.2))).T):Option (List t.T):=
 den n cx d f 0 (Jeh d as a) ⟨[],[[]],[],[],none⟩ λv s=>resO d s.ob t el v some
def Ctr.bi(c:Ctr):Bi:=⟨λ{ι M α} d _ base vs s k=>Jvc d s.ob c.as vs λa=>
 if vs.any Jsk then d.no else d.call c a λr=>k (Jcu d c.rs r) (Ju s (Jbx s vs)).pop⟩
def cptS(o:List Int)(x:Int):List Int:=if o.getLast?=some x then o else o++[x]
def cptF(l:List Int):List Int:=l.foldl cptS []
def cmpC(id:Nat):Ctr:=⟨1000000+id * 1000+999,[(.one,.ls I)],[(false,.ls I)],λl=>some (cptF l)⟩
section
variable {ι:Ty->Type} {M:Type->Type} {α:Type} (d:D ι M)
end
def srtC(id g:FuncId)(fn:List (Int×Int)×Int->Option (List (Int×Int))):Ctr:=⟨1000000+id * 1000+g,[(.one,.ls (.p I I)),(.one,I)],[(false,.ls (.p I I))],fn⟩
def srtB(id g:FuncId)(fn:List (Int×Int)×Int->Option (List (Int×Int))):Bi:=⟨λ{ι M α} d _ _ vs s k=>match vs with
 | [.c (.own g0 ver),.c (.fn h [(gb,vb,0)])]=>(match look g0 s.ob,look gb s.ob with
  | some (.row v e el (.p (.int .i64) (.int .i64)) l [] none false),some (.box a [.lf (.int .i64) n])=>if h=g/\v=ver/\a=vb/\e=2 then
    d.call (srtC id g fn) (show ι (srtC id g fn).aT from d.pr l n) λm=>k (.tp []) (s.obj g0 (.row v e el (.p I I) (show ι (.ls (.p I I)) from m) [] none false)).pop
   else d.no
  | _,_=>d.no)
 | [.c (.k .nils),_]=>k (.tp []) s.pop
 | _=>d.no⟩
def tyM(P:Program)(mo:List Nat)(t:TypeId):Option Ty:=match Aw 1000000000 t with
 | true=>(match memN (t - 1000000000) mo with|true=>some .bool|false=>none)
 | false=>tyOf P 8 t
def okC(s:S Ty.T)(c:C Ty.T):Prop:=∀r∈refs c,∃o,look r.1 s.ob=some o/\r.2<=o.ver
def okCs(s:S Ty.T)(l:List (C Ty.T)):Prop:=∀c∈l,okC s c
def V.all:V Ty.T->List (C Ty.T)
 | .c x=>[x]
 | .ag l=>l
 | .tp l=>l.flatMap (·.2)
def okV(s:S Ty.T)(v:V Ty.T):Prop:=okCs s v.all
structure Inv (s:S Ty.T):Prop where
 sl:∀p∈s.sl,okV s p.2
 lo:∀l∈s.lo,∀p∈l,okV s p.2
 ob:∀g o,look g s.ob=some o->okCs s o.kids
 mo:∀m,s.mo=some m->m.g<mB/\0<m.vt.sz/\∀g o,look g s.ob=some o->moN s.mo g=false
structure Stab (s s':S Ty.T):Prop where
 sl:s'.sl=s.sl
 lo:s'.lo=s.lo
 ok:∀c,okC s c->okC s' c/\encC s' c=encC s c
theorem Stab.refl(s:S Ty.T):Stab s s:=⟨rfl,rfl,λ_ h=>⟨h,rfl⟩⟩
theorem Stab.trans{a b c:S Ty.T}(h:Stab a b)(k:Stab b c):Stab a c:=
 ⟨k.sl.trans h.sl,k.lo.trans h.lo,λx hx=>⟨(k.ok x (h.ok x hx).1).1,((k.ok x (h.ok x hx).1).2).trans (h.ok x hx).2⟩⟩
theorem Qn{α:Type}{d:Nat}:∀ {l:List (Nat×α)} {v:α},look d l=some v->(d,v)∈l
 | [],_,h=>by cases h
 | (n,x)::r,v,h=>by
  simp only [look] at h;cases a:Aa n d with
  | true=>rw [a] at h;injection h with h;subst h;have:=Br a;subst this;exact .head _
  | false=>rw [a] at h;exact .tail _ (Qn h)
theorem J0{α:Type}(n d:Nat)(v:α)(l:List (Nat×α)):look d ((n,v)::l)=if n=d then some v else look d l:=by
 simp only [look];cases a:Aa n d with
 | true=>rw [if_pos (Br a)]
 | false=>rw [if_neg (Nat.ne_of_beq_eq_false a)]
theorem Inv.at{s:S Ty.T}(h:Inv s)(d:Nat):okV s (s.at d):=by
 unfold S.at;cases hl:look d s.sl with
 | none=>intro c a;simp [V.all] at a;subst a;intro r e;simp [refs] at e
 | some v=>exact h.sl _ (Qn hl)
theorem Stab.okV{s s':S Ty.T}(h:Stab s s'){v:V Ty.T}(a:okV s v):Dn.okV s' v:=λc d=>(h.ok c (a c d)).1
theorem Stab.encCs{s s':S Ty.T}(h:Stab s s'){l:List (C Ty.T)}(a:okCs s l):l.map (encC s')=l.map (encC s):=Ak λc d=>(h.ok c (a c d)).2
theorem Stab.encV{s s':S Ty.T}(h:Stab s s'){v:V Ty.T}(a:Dn.okV s v):Dn.encV s' v=Dn.encV s v:=by
 cases v with
 | c x=>exact (h.ok x (a x (by simp [V.all]))).2
 | ag l=>simp only [Dn.encV];rw [h.encCs (show okCs s l from a)]
 | tp l=>
  simp only [Dn.encV]
  congr 1
  refine Ak λp d=>?_;have:okCs s p.2:=λc e=>a c (List.mem_flatMap.2 ⟨p,d,e⟩);rw [h.encCs this]
theorem Inv.stab{s s':S Ty.T}(d:Inv s)(h:Stab s s')(v:∀g o,look g s'.ob=some o->look g s.ob=some o\/okCs s' o.kids/\moN s.mo g=false)(hmo:s'.mo=s.mo):Inv s' where
 sl p f:=h.okV (d.sl p (h.sl▸f))
 lo l hl p f:=h.okV (d.lo l (h.lo▸hl) p f)
 ob g o r:=by
  rcases v g o r with a|a
  ·exact λc w=>(h.ok c (d.ob g o a c w)).1
  ·exact a.1
 mo m e:=by
  rw [hmo] at e ⊢;refine ⟨(d.mo m e).1,(d.mo m e).2.1,λg o r=>?_⟩;rcases v g o r with a|a
  ·exact (d.mo m e).2.2 g o a
  ·exact a.2
theorem Inv.free{s:S Ty.T}(e:Inv s){g:Nat}{o:Ob Ty.T}(d:look g s.ob=some o):moN s.mo g=false:=by
 cases a:s.mo with
 | none=>rfl
 | some m=>rw [<-a];exact (e.mo m a).2.2 g o d
theorem Zd{s:S Ty.T}{g:Nat}(h:s.has g=false):look g s.ob=none:=by
 unfold S.has at h;rw [Bh] at h;cases a:look g s.ob with
 | none=>rfl
 | some o=>rw [a] at h;cases h.1
theorem Jl5{s:S Ty.T}{g:Nat}(h:s.has g=false):moN s.mo g=false:=by unfold S.has at h;rw [Bh] at h;exact h.2
theorem Jxk{m:Option (Mo Ty.T)}{g:Nat}(h:moN m g=false):moAt m g=none:=by
 cases m with
 | none=>rfl
 | some m=>
  unfold moN at h;rw [Bh] at h;have d:g≠m.g:=λe=>by subst e;rw [Nat.beq_refl] at h;cases h.1
  have a:¬mB<=g:=λe=>by rw [Bs e] at h;cases h.2
  show m.at g=none;unfold Mo.at;rw [if_neg d,if_neg a]
theorem Inv.put{s:S Ty.T}(a:Inv s){v:V Ty.T}(f:okV s v)(d:Option Nat):Inv (s.put d v):=by
 cases d with
 | none=>exact a
 | some d=>
  refine ⟨λp e=>?_,a.lo,a.ob,a.mo⟩;rcases Ds.1 e with rfl|e
  ·exact f
  ·exact a.sl p e
theorem Jn3(s:S Ty.T)(d:Option Nat)(v:V Ty.T)(c:C Ty.T):encC (s.put d v) c=encC s c:=by cases d<;>cases c<;>rfl
theorem encV_put(s:S Ty.T)(d:Option Nat)(v x:V Ty.T):encV (s.put d v) x=encV s x:=by have e:encC (s.put d v)=encC s:=funext (Jn3 s d v);cases x<;>simp only [encV,e]
theorem Jb1(s:S Ty.T)(d:Option Nat)(v:V Ty.T):encH (s.put d v)=encH s:=by
 have e:encC (s.put d v)=encC s:=funext (Jn3 s d v);have:encO (s.put d v)=encO s:=funext λo=>by cases o<;>simp only [encO,e]
 cases d with
 | none=>rfl
 | some d=>funext g;simp only [encH];rw [this];rfl
theorem Jmw(s:S Ty.T)(d:Option Nat)(v:V Ty.T):enc (s.put d v)=(enc s).put d (encV s v) (encH s):=by
 unfold enc;rw [Jb1];cases d with
 | none=>rfl
 | some d=>
  simp only [St.put]
  congr 1
  funext n;rw [encV_put];simp only [S.at,S.put,J0,upd];by_cases h:d=n
  ·subst h;simp
  ·rw [if_neg h,if_neg (λe=>h e.symm)]
theorem Jbe{s s':S Ty.T}(a:Inv s)(h:Stab s s'):enc s'=⟨(enc s).f,encH s'⟩:=by
 unfold enc
 congr 1
 funext n;have:s'.at n=s.at n:=by simp only [S.at,h.sl]
 rw [this,h.encV (a.at n)]
def Ty.one:Ty->Bool
 | .u|.p _ _=>false
 | _=>true
theorem Jlh{t:Ty}(h:t.one=true)(v:t.T):t.cs v=[Qx (t.cs v)]:=by cases t<;>simp [Ty.one] at h<;>rfl
theorem Y0:∀(t:Ty) (v:t.T),(t.cs v).length=t.sz
 | .int _,_=>rfl
 | .bool,_=>rfl
 | .str,_=>rfl
 | .ls _,_=>rfl
 | .bf _ _,_=>rfl
 | .u,_=>rfl
 | .p a b,v=>by simp [Ty.cs,Ty.sz,Y0 a,Y0 b]
theorem Qg(s:S Ty.T):∀(t:Ty) (v:t.T),(expl val t v).map (encC s)=t.cs v
 | .int _,_=>rfl
 | .bool,_=>rfl
 | .str,_=>rfl
 | .ls _,_=>rfl
 | .bf _ _,_=>rfl
 | .u,_=>rfl
 | .p a b,v=>by simp only [expl,Bw,Ty.cs];rw [Qg s a,Qg s b];rfl
theorem jx(t:Ty)(v:t.T):(expl val t v).length=t.sz:=by have:=congrArg List.length (Qg ⟨[],[],[],[],none⟩ t v);rwa [Au,Y0] at this
theorem Jay(s:S Ty.T):∀(t:Ty) (v:t.T),okCs s (expl val t v)
 | .int _,_=>λc d=>by simp [expl] at d;subst d;intro r e;simp [refs] at e
 | .bool,_=>λc d=>by simp [expl] at d;subst d;intro r e;simp [refs] at e
 | .str,_=>λc d=>by simp [expl] at d;subst d;intro r e;simp [refs] at e
 | .ls _,_=>λc d=>by simp [expl] at d;subst d;intro r e;simp [refs] at e
 | .bf _ _,_=>λc d=>by simp [expl] at d;subst d;intro r e;simp [refs] at e
 | .u,_=>λc d=>by simp [expl] at d
 | .p a b,v=>λc d=>by simp only [expl,Bm] at d;exact d.elim (Jay s a _ c) (Jay s b _ c)
theorem Qh{ι:Ty->Type}{a b:Ty}{v:ι a}{x:ι b}(h:cast? a b v=some x):∃e:a=b,x=e▸v:=by
 unfold cast? at h;split at h
 ·rename_i e;injection h with h;exact ⟨e,h.symm⟩
 ·cases h
theorem z7{s:S Ty.T}{t:Ty}{c:C Ty.T}{y:t.T}(a:t.one=true)(h:Yc val t c=some y):t.cs y=[encC s c]:=by
 cases c with
 | lf d v=>
  obtain ⟨e,rfl⟩:=Qh (ι:=Ty.T) h;subst e;exact Jlh a v
 | kb b=>
  obtain ⟨e,rfl⟩:=Qh (ι:=Ty.T) h;subst e;rfl
 | _=>simp [Yc] at h
def Exact(s:S Ty.T)(lw:(t:Ty)->C Ty.T->Option t.T):Prop:=∀(t:Ty) (c:C Ty.T) (y:t.T),t.one=true->lw t c=some y->t.cs y=[encC s c]
theorem Zn(s:S Ty.T):Exact s (Yc val):=λ_ _ _ a h=>z7 a h
theorem Jdn{s:S Ty.T}{lw:(t:Ty)->C Ty.T->Option t.T}(e:Exact s lw):∀(t:Ty) {l r:List (C Ty.T)} {x:t.T},impl val lw t l=some (x,r)->l.map (encC s)=t.cs x++r.map (encC s)
 | .u,l,r,x,h=>by simp only [impl] at h;injection h with h;simp only [Bc] at h;obtain ⟨-,rfl⟩:=h;rfl
 | .p a b,l,r,x,h=>by
  simp only [impl] at h;cases m:impl val lw a l with
  | none=>rw [m] at h;cases h
  | some p=>
   obtain ⟨u,o⟩:=p;rw [m] at h;simp only [Bj] at h;cases g:impl val lw b o with
   | none=>rw [g] at h;cases h
   | some q=>
    obtain ⟨v,w⟩:=q;rw [g] at h;simp only [Ad,Aj,Bc] at h;obtain ⟨rfl,rfl⟩:=h;rw [Jdn e a m,Jdn e b g,<-Be];rfl
 | .int k,l,r,x,h=>by
  cases l with
  | nil=>cases h
  | cons c l=>
   simp only [impl] at h;cases d:lw (.int k) c with
   | none=>rw [d] at h;cases h
   | some y=>rw [d] at h;simp only [Ad,Aj,Bc] at h;obtain ⟨rfl,rfl⟩:=h;rw [e _ _ _ rfl d];rfl
 | .bool,l,r,x,h=>by
  cases l with
  | nil=>cases h
  | cons c l=>
   simp only [impl] at h;cases d:lw .bool c with
   | none=>rw [d] at h;cases h
   | some y=>rw [d] at h;simp only [Ad,Aj,Bc] at h;obtain ⟨rfl,rfl⟩:=h;rw [e _ _ _ rfl d];rfl
 | .str,l,r,x,h=>by
  cases l with
  | nil=>cases h
  | cons c l=>
   simp only [impl] at h;cases d:lw .str c with
   | none=>rw [d] at h;cases h
   | some y=>rw [d] at h;simp only [Ad,Aj,Bc] at h;obtain ⟨rfl,rfl⟩:=h;rw [e _ _ _ rfl d];rfl
 | .ls t,l,r,x,h=>by
  cases l with
  | nil=>cases h
  | cons c l=>
   simp only [impl] at h;cases d:lw (.ls t) c with
   | none=>rw [d] at h;cases h
   | some y=>rw [d] at h;simp only [Ad,Aj,Bc] at h;obtain ⟨rfl,rfl⟩:=h;rw [e _ _ _ rfl d];rfl
 | .bf f t,l,r,x,h=>by
  cases l with
  | nil=>cases h
  | cons c l=>
   simp only [impl] at h;cases d:lw (.bf f t) c with
   | none=>rw [d] at h;cases h
   | some y=>rw [d] at h;simp only [Ad,Aj,Bc] at h;obtain ⟨rfl,rfl⟩:=h;rw [e _ _ _ rfl d];rfl
theorem Jpo{s:S Ty.T}{lw:(t:Ty)->C Ty.T->Option t.T}(a:Exact s lw)(t:Ty):∀(n:Nat) {l:List (C Ty.T)} {x:List t.T},Jcc val lw t n l=some x->l.map (encC s)=x.flatMap t.cs
 | 0,l,x,h=>by cases h
 | n+1,l,x,h=>by
  cases l with
  | nil=>simp only [Jcc] at h;injection h with h;subst h;rfl
  | cons c l=>
   simp only [Jcc] at h;cases e:impl val lw t (c::l) with
   | none=>rw [e] at h;cases h
   | some p=>
    obtain ⟨u,r⟩:=p;rw [e] at h;simp only [Bj] at h;cases d:Jcc val lw t n r with
    | none=>rw [d] at h;cases h
    | some y=>
     rw [d] at h;simp only [Ad] at h;obtain rfl:x=(u:t.T)::(y:List t.T):=(Al h).symm;rw [Jdn a t e,Jpo a t n d];rfl
theorem Jj1(s:S Ty.T)(v:AV):encC s (cC val v)=v:=by cases v<;>rfl
theorem Jwv(s:S Ty.T)(v:AV):okC s (cC val v):=by cases v<;>(intro r a;simp [cC,refs] at a)
theorem Jw(s:S Ty.T)(x:LO):(enc s).ev x=encV s (ev val s x):=by
 cases x with
 | t n=>rfl
 | c v=>
  show v=encV s (cV val v);unfold cV;split
  ·simp only [encV,Bz]
   congr 1
   exact (De _).symm.trans (Ak λv _=>(Jj1 s v).symm)
  ·rfl
  ·rfl
  ·exact (Jj1 s _).symm
theorem Qi{s:S Ty.T}{c:C Ty.T}(h:okC s c):okV s (.c c):=λx hx=>by simp [V.all] at hx;subst hx;exact h
theorem Jo(s:S Ty.T){c:C Ty.T}(h:refs c=[]):okC s c:=λr a=>by rw [h] at a;cases a
theorem Jen{s:S Ty.T}(d:Inv s)(x:LO):okV s (ev val s x):=by
 cases x with
 | t n=>exact d.at n
 | c v=>
  show okV s (cV val v);unfold cV;split
  ·intro c a;obtain ⟨v,_,rfl⟩:=Da.1 (show c∈List.map _ _ from a);exact Jwv s v
  ·intro c a;simp [V.all] at a
  ·exact Qi (Jo s rfl)
  ·exact Qi (Jwv s _)
structure Sim (call:Vv.Call) (base g0:Nat) (s:S Ty.T) (op:LOp) (v:V Ty.T) (s':S Ty.T):Prop where
 ev:Ja call base (enc s) g0 op=some (encV s' v,encH s')
 st:Stab s s'
 iv:Inv s'
 ov:okV s' v
section
variable {call:Vv.Call} {base g0:Nat} {s:S Ty.T} {α:Type} {r:α}
theorem Je{β:Type}{x:Option β}{k:β->Option α}(h:orNo val x k=some r):∃v,x=some v/\k v=some r:=by
 cases x with
 | none=>cases h
 | some v=>exact ⟨v,rfl,h⟩
theorem Jz{c:Bool}{x:Option α}(h:val.gd c x=some r):c=true/\x=some r:=by
 cases c with
 | true=>exact ⟨rfl,h⟩
 | false=>cases h
theorem Jc5{c:Bool}{x y:Option α}(h:val.br c x y=some r):(c=true/\x=some r)\/(c=false/\y=some r):=by
 cases c with
 | true=>exact .inl ⟨rfl,h⟩
 | false=>exact .inr ⟨rfl,h⟩
theorem Jrl{t:Ty}{l:List t.T}{i:Int}{k:t.T->Option α}(h:val.ge (t:=t) l i k=some r):∃x,0<=i/\l[i.toNat]?=some x/\k x=some r:=by
 change Jam (fget l i) k=some r at h;unfold fget at h;by_cases a:0<=i
 ·rw [if_pos a] at h;cases hx:l[i.toNat]? with
  | none=>rw [hx] at h;cases h
  | some x=>rw [hx] at h;exact ⟨x,a,rfl,h⟩
 ·rw [if_neg a] at h;cases h
theorem Sim.same(d:Inv s){op:LOp}{v:V Ty.T}(e:Ja call base (enc s) g0 op=some (encV s v,encH s))(a:okV s v):Sim call base g0 s op v s:=⟨e,.refl s,d,a⟩
theorem evI{x:LO}{k:IntKind}{a:Int}(h:Jga k (ev val s x)=some a):(enc s).ev x=.int k a:=by
 rw [Jw];unfold Jga at h;split at h
 ·rename_i t v hx;obtain ⟨e,rfl⟩:=Qh (ι:=Ty.T) h;subst e;rw [hx];rfl
 ·cases h
theorem pk_enc{ag:Bool}{l:List (C Ty.T)}{v:V Ty.T}(h:pk ag l=some v)(s:S Ty.T):encV s v=(if ag=true then .agg (l.map (encC s)) else (l.map (encC s)).headD .any)/\(∀c∈v.all,c∈l)/\(ag=true\/l.length=1):=by
 unfold pk at h;split at h
 ·rename_i a;injection h with h;subst h;rw [if_pos a];exact ⟨rfl,λc d=>d,.inl a⟩
 ·rename_i a;split at h
  ·injection h with h;subst h;rw [if_neg a];exact ⟨rfl,λc d=>d,.inr rfl⟩
  ·cases h
theorem Jd5{ag:Bool}{l:List (C Ty.T)}{off n:Nat}{v:V Ty.T}(g:off+n<=l.length)(h:pk ag (cutC l off n)=some v)(s:S Ty.T):pack ag (l.map (encC s)) off n=some (encV s v)/\∀c∈v.all,c∈l:=by
 obtain ⟨o,m,e⟩:=pk_enc h s;refine ⟨?_,λc f=>Dp (Dq (m c f))⟩;have d:(cutC l off n).length=n:=by simp [cutC];omega
 have f:(cutC l off n).map (encC s)=cut (l.map (encC s)) off n:=by simp [cutC,cut]
 unfold pack;rw [if_pos (by simpa using g),o,f];cases ag with
 | true=>rfl
 | false=>
  rw [d] at e;have e:n=1:=by simpa using e
  subst e;simp only [Az,if_false];unfold cut;have a:off<(l.map (encC s)).length:=by simp;omega
  rw [List.getElem?_eq_getElem a,List.drop_eq_getElem_cons a];rfl
theorem mov_sim(a:Inv s){x:LO}:Sim call base g0 s (.mov x) (ev val s x) s:=.same a (by simp only [Ja,Jw];rfl) (Jen a x)
theorem Jh0{v:V Ty.T}:∀c∈v.cells,c∈v.all:=by cases v<;>simp [V.cells,V.all]
theorem Jyy{c:C Ty.T}(h:c.plain=true)(s:S Ty.T):(encC s c).one=true:=by
 cases c with
 | lf t v=>cases t<;>simp [C.plain] at h<;>rfl
 | any=>cases h
 | k v=>exact h
 | _=>rfl
theorem Jjo{v:V Ty.T}(h:v.good=true)(s:S Ty.T):(encV s v).cells=some (v.cells.map (encC s)):=by
 cases v with
 | tp l=>cases h
 | ag l=>rfl
 | c x=>
  have d:=Jyy h s;simp only [encV,V.cells,Bt,Am];generalize encC s x=a at d;cases a<;>simp_all [AV.cells,AV.one]
end
section
variable {call:Vv.Call} {base g0:Nat} {s:S Ty.T} {α:Type} {r:α}
theorem Stab.encO{s s':S Ty.T}(h:Stab s s'){o:Ob Ty.T}(a:okCs s o.kids):Dn.encO s' o=Dn.encO s o:=by
 cases o with
 | mp v kt vt es=>rfl
 | em v kt vt el=>rfl
 | box v cs=>simp only [Dn.encO];rw [h.encCs (show okCs s cs from a)]
 | lit v e el cs z=>simp only [Dn.encO];rw [h.encCs (show okCs s cs from a)]
 | row v e el t l x nest z=>
  have hx:okCs s x:=λc d=>a c (by simp only [Ob.kids];exact Dl _ d);simp only [Dn.encO];rw [h.encCs hx];cases nest with
  | none=>rfl
  | some p=>
   simp only [Qr];rw [(h.ok p.2 (a p.2 (by simp [Ob.kids]))).2]
theorem Ya(s:S Ty.T)(o:Ob Ty.T):(Dn.encO s o).ver=o.ver:=by cases o<;>rfl
theorem Ke(g a:Nat)(o:Ob Ty.T):look a (s.obj g o).ob=if g=a then some o else look a s.ob:=J0 g a o s.ob
theorem X0{g:Nat}{o:Ob Ty.T}(h:∀a,look g s.ob=some a->a.ver=o.ver/\a.lenO=o.lenO):Stab s (s.obj g o):=by
 refine ⟨rfl,rfl,λc l=>⟨λr w=>?_,?_⟩⟩
 ·obtain ⟨a,e,f⟩:=l r w;rw [Ke];by_cases d:g=r.1
  ·subst d;rw [if_pos rfl];exact ⟨o,rfl,by rw [<-(h a e).1];exact f⟩
  ·rw [if_neg d];exact ⟨a,e,f⟩
 ·cases c<;>try rfl
  rename_i m v;obtain ⟨a,e,f⟩:=l (m,v) (by simp [refs]);simp only [Dn.encC,K9,Ke];by_cases d:g=m
  ·subst d;obtain ⟨A,y⟩:=h a e;rw [if_pos rfl,e];simp only [<-A,<-y];rfl
  ·rw [if_neg d];rfl
theorem stab_app{g:Nat}{m o:Ob Ty.T}{n:Int}(A:look g s.ob=some m)(J:o.ver=m.ver+1)(H:n.toNat=m.lenO):Stab s ((s.old g m.ver n).obj g o):=by
 refine ⟨rfl,rfl,λc E=>⟨λr G=>?_,?_⟩⟩
 ·obtain ⟨B,a,y⟩:=E r G;show ∃o',look r.1 ((g,o)::s.ob)=some o'/\_;rw [J0];by_cases w:g=r.1
  ·subst w;rw [if_pos rfl];rw [A] at a;injection a with a;subst a;exact ⟨o,rfl,by omega⟩
  ·rw [if_neg w];exact ⟨B,a,y⟩
 ·cases c<;>try rfl
  rename_i l v;obtain ⟨B,a,y⟩:=E (l,v) (by simp [refs]);have e:look l ((s.old g m.ver n).obj g o).ob=if g=l then some o else look l s.ob:=J0 g l o s.ob;simp only [Dn.encC,K9,e];by_cases w:g=l
  ·subst w;rw [A] at a;injection a with a;subst a;simp only at y;rw [if_pos rfl,A];simp only;rw [if_neg (by omega:¬o.ver=v)];show AV.arr g v 0 (Jvt g v ((g,m.ver,n)::s.ln))=_;simp only [Jvt,true_and];by_cases f:m.ver=v
   ·rw [if_pos f,if_pos f];exact congrArg _ H
   ·rw [if_neg f,if_neg f]
  ·rw [if_neg w];cases K:look l s.ob with
   | none=>rfl
   | some F=>
    simp only;by_cases d:F.ver=v
    ·rw [if_pos d,if_pos d]
    ·rw [if_neg d,if_neg d];show AV.arr l v 0 (Jvt l v ((g,m.ver,n)::s.ln))=_;simp only [Jvt];rw [if_neg (λh=>w h.1)]
theorem Yw(h:Inv s){s':S Ty.T}{g:Nat}{o:Ob Ty.T}(hs:Stab s s')(hl:∀a,look a s'.ob=if g=a then some o else look a s.ob)(hmo:s'.mo=s.mo:=by rfl):encH s'=upd (encH s) g (some (Dn.encO s' o)):=by
 funext a;simp only [encH,hl,upd,hmo];by_cases d:g=a
 ·subst d;simp
 ·rw [if_neg d,if_neg (λe=>d e.symm)];cases f:look a s.ob with
  | none=>rfl
  | some o'=>simp only;rw [hs.encO (h.ob a o' f)]
theorem ju(l:Inv s){s':S Ty.T}{g:Nat}{o:Ob Ty.T}(hs:Stab s s')(hl:∀a,look a s'.ob=if g=a then some o else look a s.ob)(f:okCs s' o.kids)(e:moN s.mo g=false)(hmo:s'.mo=s.mo:=by rfl):Inv s':=
 l.stab hs (hmo:=hmo) λa o' h=>by
  rw [hl] at h;by_cases d:g=a
  ·rw [if_pos d] at h;injection h with h;subst h;exact .inr ⟨f,d▸e⟩
  ·rw [if_neg d] at h;exact .inl h
theorem Jcv{g:Nat}(h:s.has g=false):encH s g=none:=by simp [encH,Zd h,Jxk (Jl5 h)]
theorem Jau{m:Option (Mo Ty.T)}{g:Nat}{o:AObj}(h:moAt m g=some o):moN m g=true/\∃a,m=some a/\((g=a.g/\o=.map 0 (moEs a.kt a.vt 0 a.es) false)\/(g≠a.g/\mB<=g/\∃e,nthL (α:=a.kt.T×List a.vt.T) a.es (g - mB)=some e/\o=Jz0 a.vt a.el e.2)):=by
 cases m with
 | none=>cases h
 | some m=>
  have d:m.at g=some o:=h;clear h;unfold Mo.at at d;split at d
  ·rename_i e;injection d with d;subst e;exact ⟨by simp [moN],m,rfl,.inl ⟨rfl,d.symm⟩⟩
  ·rename_i l;split at d
   ·rename_i f;obtain ⟨e,v,r⟩:=Option.map_eq_some_iff.1 d;refine ⟨?_,m,rfl,.inr ⟨l,f,e,v,r.symm⟩⟩;show (Aa m.g g || Aw mB g)=true;rw [Bs f,Bool.or_true]
   ·cases d
theorem Jfq{g:Nat}{o:AObj}(h:encH s g=some o):(∃ob,look g s.ob=some ob/\o=Dn.encO s ob)\/(look g s.ob=none/\moAt s.mo g=some o):=by
 simp only [encH] at h;cases hl:look g s.ob with
 | some ob=>rw [hl] at h;injection h with h;exact .inl ⟨ob,rfl,h.symm⟩
 | none=>rw [hl] at h;exact .inr ⟨rfl,h⟩
theorem Juf{g v:Nat}{es:List (AV×AV)}{z:Bool}(h:encH s g=some (.map v es z)):z=false:=by
 rcases Jfq h with ⟨ob,-,e⟩|⟨-,h⟩
 ·cases ob<;>simp only [Dn.encO,AObj.map.injEq,reduceCtorEq] at e
  ·exact e.2.2
  ·exact e.2.2
 ·obtain ⟨-,m,-,⟨-,e⟩|⟨-,-,x,-,e⟩⟩:=Jau h
  ·injection e
  ·cases e
theorem Jf{g:Nat}{o:Ob Ty.T}(h:look g s.ob=some o):encH s g=some (Dn.encO s o):=by simp [encH,h]
theorem Qf{g:Nat}(h:s.has g=false):Jv (encH s) g=s.nv g:=by unfold Jv S.nv;rw [Zd h,Jcv h]
theorem Jgj(e:Inv s){op:LOp}{v:V Ty.T}{o:Ob Ty.T}{av:AV}{ao:AObj}(f:s.has g0=false)(r:Ja call base (enc s) g0 op=some (av,upd (encH s) g0 (some ao)))
  (g:encV (s.obj g0 o) v=av) (l:Dn.encO (s.obj g0 o) o=ao) (m:okCs (s.obj g0 o) o.kids) (a:okV (s.obj g0 o) v):Sim call base g0 s op v (s.obj g0 o):=by
 have hs:Stab s (s.obj g0 o):=X0 λw h=>by rw [Zd f] at h;cases h
 refine ⟨?_,hs,ju e hs (λd=>Ke g0 d o) m (Jl5 f),a⟩;rw [r,g,Yw e hs (λd=>Ke g0 d o),l]
theorem nv0{g:Nat}(h:look g s.ob=none):s.nv g=0:=by simp [S.nv,h]
theorem Jel{g:Nat}{o:Ob Ty.T}{c:C Ty.T}(h:refs c=[(g,o.ver)]):okC (s.obj g o) c:=λr a=>by rw [h] at a;simp at a;subst a;exact ⟨o,by rw [Ke,if_pos rfl],Bu _⟩
theorem J0n(d:Inv s){z:List AV}(a:s.has g0=false):Sim call base g0 s (.alloc z) (.c (.ptr g0 (s.nv g0) 0)) (s.obj g0 (.box (s.nv g0) (z.map (cC val)))):=by
 refine Jgj d a (by simp only [Ja];rfl) ?_ ?_ (λc e=>?_) (Qi (Jel rfl))
 ·simp only [encV,encC];rw [show (enc s).h=encH s from rfl,Qf a]
 ·simp only [Dn.encO,Bz];rw [show (enc s).h=encH s from rfl,Qf a]
  congr 1
  exact (Ak λv _=>Jj1 _ v).trans (De _)
 ·obtain ⟨v,_,rfl⟩:=Da.1 (show c∈List.map _ _ from e);exact Jwv _ v
theorem box_sim(e:Inv s){x:LO}(d:s.has g0=false)(f:(ev val s x).good=true):Sim call base g0 s (.box x) (.c (.ptr g0 (s.nv g0) 0)) (s.obj g0 (.box (s.nv g0) (ev val s x).cells)):=by
 have hs:Stab s (s.obj g0 (.box (s.nv g0) (ev val s x).cells)):=X0 λg h=>by rw [Zd d] at h;cases h
 have a:okCs s (ev val s x).cells:=λc a=>Jen e x c (Jh0 c a);refine Jgj e d (by simp only [Ja];rw [Jw,Jjo f];rfl) ?_ ?_ (λc h=>(hs.ok c (a c h)).1) (Qi (Jel rfl))
 ·simp only [encV,encC];rw [show (enc s).h=encH s from rfl,Qf d]
 ·simp only [Dn.encO];rw [hs.encCs a,show (enc s).h=encH s from rfl,Qf d]
theorem Jdr(l:List (C Ty.T))(off:Nat)(new:List (C Ty.T))(f:C Ty.T->AV):(Jaw l off new).map f=paste (l.map f) off (new.map f):=by simp [Jaw,paste]
theorem Jj7{l new:List (C Ty.T)}{off:Nat}{s:S Ty.T}(d:okCs s l)(e:okCs s new):okCs s (Jaw l off new):=λc a=>by
 simp only [Jaw,Bm] at a;rcases a with (a|a)|a
 ·exact d c (Dq a)
 ·exact e c a
 ·exact d c (Dp a)
theorem Ju3{l new:List (C Ty.T)}{off:Nat}(h:off+new.length<=l.length):(Jaw l off new).length=l.length:=by simp [Jaw];omega
theorem Jj0(e:Inv s):∀ {ps:List (Nat×Nat×LO)} {z l:List (C Ty.T)},okCs s z->Jhf (ev val s) z ps=some l->Jgs (enc s).ev (z.map (encC s)) ps=some (l.map (encC s))/\okCs s l
 | [],z,l,a,h=>by simp only [Jhf] at h;injection h with h;subst h;exact ⟨rfl,a⟩
 | (off,n,x)::ps,z,l,a,h=>by
  simp only [Jhf] at h;split at h
  ·rename_i d;obtain ⟨r,o,m⟩:=d;have hx:okCs s (ev val s x).cells:=λc d=>Jen e x c (Jh0 c d);obtain ⟨g,f⟩:=Jj0 e (Jj7 a hx) h;refine ⟨?_,f⟩;simp only [Jgs,Jw,Jjo m];rw [if_pos (by simp;omega),<-g,Jdr]
  ·cases h
theorem J0i(a:Inv s){z:List AV}{ps:List (Nat×Nat×LO)}{l:List (C Ty.T)}(h:Jhf (ev val s) (z.map (cC val)) ps=some l):Sim call base g0 s (.build z ps) (.ag l) s:=by
 obtain ⟨d,g⟩:=Jj0 a (λc f=>by obtain ⟨v,_,rfl⟩:=Da.1 f;exact Jwv s v) h;have e:(z.map (cC val)).map (encC s)=z:=by rw [Bz];exact (Ak λv _=>Jj1 s v).trans (De _)
 rw [e] at d;exact .same a (by simp only [Ja,d];rfl) g
theorem Jh8(z:List AV)(s:S Ty.T):∀n,(repC (z.map (cC val)) n).map (encC s)=Xt z n
 | 0=>rfl
 | n+1=>by
  simp only [repC,Xt,Bw,Jh8 z s n,Bz]
  congr 1
  exact (Ak λv _=>Jj1 s v).trans (De _)
theorem Jsl(z:List AV)(s:S Ty.T):∀n,okCs s (repC (z.map (cC val)) n)
 | 0=>λc a=>by cases a
 | n+1=>λc a=>by
  simp only [repC,Bm] at a;rcases a with a|a
  ·obtain ⟨v,_,rfl⟩:=Da.1 a;exact Jwv s v
  ·exact Jsl z s n c a
theorem Jd0{g:Nat}{o:Ob Ty.T}:K9 (s.obj g o) g o.ver=o.lenO:=by simp [K9,Ke]
theorem Jv1(d:Inv s){n esz:Nat}{el:TypeId}{z:List AV}{ps:List (Nat×Nat×LO)}{l:List (C Ty.T)}(a:s.has g0=false)(h:Jhf (ev val s) (repC (z.map (cC val)) n) ps=some l)
  (hl:l.length=n * esz) (g:0<esz):Sim call base g0 s (.bslice n esz el z ps) (.c (.own g0 (s.nv g0))) (s.obj g0 (.lit (s.nv g0) esz el l false)):=by
 have hs:Stab s (s.obj g0 (.lit (s.nv g0) esz el l false)):=X0 λr h=>by rw [Zd a] at h;cases h
 obtain ⟨f,e⟩:=Jj0 d (Jsl z s n) h;rw [Jh8] at f;refine Jgj d a (by simp only [Ja,f];rfl) ?_ ?_ (λc m=>(hs.ok c (e c m)).1) (Qi (Jel rfl))
 ·simp only [encV,encC];rw [show K9 (s.obj g0 (.lit (s.nv g0) esz el l false)) g0 (s.nv g0)=l.length / esz from Jd0 (o:=.lit (s.nv g0) esz el l false),show (enc s).h=encH s from rfl,Qf a,hl,Ba _ g]
 ·simp only [Dn.encO];rw [hs.encCs e,show (enc s).h=encH s from rfl,Qf a]
end
theorem Xd{t:Ty}:∀l:List t.T,(l.flatMap t.cs).length=l.length * t.sz
 | []=>by simp
 | x::l=>by simp only [Ac,Aq,Y0,Xd l,List.length_cons,Ah];omega
theorem Jcb{t:Ty}:∀ {l:List t.T} {i:Nat} {e:t.T},l[i]?=some e->cut (l.flatMap t.cs) (i * t.sz) t.sz=t.cs e
 | [],i,e,h=>by cases h
 | x::l,0,e,h=>by simp at h;subst h;simp only [cut,Ac,Bo,List.drop_zero];rw [Bx (by rw [Y0];exact Bu _),Bd (by rw [Y0];exact Bu _)]
 | x::l,i+1,e,h=>by
  have h:l[i]?=some e:=by simpa using h
  have:=Jcb h;simp only [cut,Ac] at this ⊢;rw [show (i+1) * t.sz=(t.cs x).length+i * t.sz by rw [Y0,Ah];omega,Df,Bq (by omega),Dj];rw [show (t.cs x).length+i * t.sz - (t.cs x).length=i * t.sz by omega];exact this
theorem Jzf{L:List AV}{a m off n:Nat}(h:off+n<=m):cut (cut L a m) off n=cut L (a+off) n:=by simp only [cut,List.drop_take,List.drop_drop,List.take_take];rw [Nat.min_eq_left (by omega)]
theorem cut_len{L:List AV}{a m:Nat}(hl:a+m<=L.length):(cut L a m).length=m:=by simp [cut];omega
theorem Jns{ag:Bool}{L:List AV}{a m off n:Nat}(h:off+n<=m)(hl:a+m<=L.length)(d:ag=true\/n=1):pack ag L (a+off) n=pack ag (cut L a m) off n:=by
 unfold pack;rw [if_pos (by omega:a+off+n<=L.length),if_pos (by rw [cut_len hl];exact h:off+n<=(cut L a m).length),Jzf h];cases ag with
 | true=>rfl
 | false=>
  have:n=1:=by simpa using d
  subst this;simp only [Az,if_false,cut,Db,Dc];rw [if_pos (by omega)]
theorem Jja{L:List AV}{k a n:Nat}{c:AV}(h:k<a\/a+n<=k):cut (L.set k c) a n=cut L a n:=by
 refine Bf λj=>?_;simp only [cut,Db,Dc];by_cases d:j<n
 ·rw [if_pos d,if_pos d,Bv (by omega)]
 ·rw [if_neg d,if_neg d]
theorem Jvi{L:List AV}{a n no:Nat}{c:AV}(h:no<n):cut (L.set (a+no) c) a n=(cut L a n).set no c:=by
 refine Bf λj=>?_;simp only [cut,Db,Dc,Bg,List.length_take,Dg];by_cases d:j<n
 ·by_cases e:no=j
  ·subst e;simp only [if_pos d,if_true];by_cases hl:a+no<L.length
   ·rw [if_pos hl,if_pos (by omega)]
   ·rw [if_neg hl,if_neg (by omega)]
  ·rw [if_pos d,if_neg (by omega),if_neg e,if_pos d]
 ·rw [if_neg d,if_neg (by omega),if_neg d]
theorem Jzq{ag:Bool}{L:List AV}{off n:Nat}(h:off+n<=L.length)(a:ag=true\/n=1):pack ag (L.drop off) 0 n=pack ag L off n:=by
 unfold pack;rw [if_pos (by simp;omega),if_pos h];cases ag with
 | true=>simp [cut]
 | false=>
  have:n=1:=by simpa using a
  subst this;simp
section
variable {call:Vv.Call} {base g0:Nat} {s:S Ty.T} {α:Type} {r:α}
theorem Zx(l:List AV)(n sz:Nat)(ec:C Ty.T->AV)(x:Option (Nat×C Ty.T)):(Qr l n sz ec x).length=l.length:=by cases x<;>simp [Qr]
theorem row_ne{t:Ty}{l:List t.T}{i:Nat}{e:t.T}{n:Option (Nat×C Ty.T)}{ec:C Ty.T->AV}(h:l[i]?=some e)(f:0<t.sz):Qr (l.flatMap t.cs) l.length t.sz ec n≠[]:=by intro d;have:=congrArg List.length d;rw [Zx,Xd] at this;have hl:=(Ai.1 h).1;rcases By.1 this with a|a<;>omega
theorem pk_n{ag:Bool}{l:List (C Ty.T)}{v:V Ty.T}(h:pk ag l=some v):ag=true\/l.length=1:=(pk_enc h ⟨[],[],[],[],none⟩).2.2
theorem Jts{l:List (C Ty.T)}{off n:Nat}(h:off+n<=l.length):(cutC l off n).length=n:=by simp [cutC];omega
theorem Jz5{i:Int}{n:Nat}(h:val.cm .eql .i64 (val.pl i (1:Int)) ((n:Nat):Int)=true):i+1=n:=by have:((i+1:Int)==(n:Int))=true:=h;simpa using this
theorem Js1{t:Ty}{l:List t.T}{i:Nat}{e:t.T}(h:l[i]?=some e)(s:S Ty.T)(nest:Option (Nat×C Ty.T))(a:∀p,nest=some p->p.1<t.sz) :
  cut (Qr (l.flatMap t.cs) l.length t.sz (encC s) nest) (i * t.sz) t.sz=(match nest with|some p=>if i+1=l.length then (t.cs e).set p.1 (encC s p.2) else t.cs e|none=>t.cs e):=by
 have hl:=(Ai.1 h).1;cases nest with
 | none=>exact Jcb h
 | some p=>
  have d:=a p rfl;simp only [Qr];split
  ·rename_i f;rw [show l.length - 1=i by omega,Jvi d,Jcb h]
  ·rename_i f;rw [Jja,Jcb h];right;have:(i+1) * t.sz<=(l.length - 1) * t.sz:=Ae _ (by omega);rw [Ah] at this;omega
theorem Jul(J:Inv s){ag:Bool}{n:Nat}{x:V Ty.T}{k:V Ty.T->Option α}(hx:okV s x)(h:loadD val s ag n x k=some r):∃v,Jbg (encH s) ag n (encV s x)=some (encV s v)/\okV s v/\k v=some r:=by
 unfold loadD at h;split at h
 ·rename_i g ver off;split at h
  ·rename_i v cs B;split at h
   ·rename_i d;obtain ⟨rfl,o⟩:=d;obtain ⟨u,w,A⟩:=Je h;obtain ⟨f,m⟩:=Jd5 o w s;refine ⟨u,?_,λc d=>J.ob _ _ B c (m c d),A⟩;simp only [Jbg,zp,encV,encC,Jf B,encO];rw [if_pos trivial];exact f
   ·cases h
  ·rename_i v e el cs z B;split at h
   ·rename_i d;obtain ⟨rfl,o,M⟩:=d;obtain ⟨u,w,A⟩:=Je h;obtain ⟨f,m⟩:=Jd5 o w s;refine ⟨u,?_,λc d=>J.ob _ _ B c (m c d),A⟩;simp only [Jbg,zp,encV,encC,Jf B,encO];rw [if_pos ⟨trivial,by simpa using M⟩];exact f
   ·cases h
  ·cases h
 ·rename_i g ver esz i off;split at h
  ·rename_i v e el t l nest z B;obtain ⟨L,rfl⟩:∃L:List t.T,(show Ty.T (.ls t) from L)=l:=⟨l,rfl⟩;obtain ⟨I0,rfl⟩:∃I0:Int,(show Ty.T I from I0)=i:=⟨i,rfl⟩;split at h
   ·rename_i d;obtain ⟨rfl,rfl,Y,o,Q⟩:=d;subst Y;obtain ⟨y,Z,G,h⟩:=Jrl (l:=L) (i:=I0) h;have hl:=(Ai.1 G).1;have F:I0.toNat * t.sz+t.sz<=(Qr (L.flatMap t.cs) L.length t.sz (encC s) nest).length:=by rw [Zx,Xd];have:(I0.toNat+1) * t.sz<=L.length * t.sz:=Ae _ hl;rw [Ah] at this;omega
    have key:∀ {E:List (C Ty.T)} {u:V Ty.T},E.length=t.sz->(ag=true\/n=1->pack ag (cut (Qr (L.flatMap t.cs) L.length t.sz (encC s) nest) (I0.toNat * t.sz) t.sz) off n=pack ag (E.map (encC s)) off n)->pk ag (cutC E off n)=some u->Jbg (encH s) ag n (encV s (.c (.pti g v t.sz (show Ty.T I from I0) off)))=some (encV s u)/\∀c∈u.all,c∈E:=by intro E u hE H O;obtain ⟨f,m⟩:=Jd5 (by rw [hE];exact o) O s;refine ⟨?_,m⟩;have a:=pk_n O;rw [Jts (by rw [hE];exact o)] at a;simp only [Jbg,zp,encV,encC,Jf B,encO,Am,Af];rw [if_pos ⟨trivial,row_ne G Q⟩];simp only;rw [show (show Int from (show Ty.T I from I0)).toNat=I0.toNat from rfl];exact (Jns o F a).trans ((H a).trans f)
    cases nest with
    | none=>
     obtain ⟨u,w,A⟩:=Je h;obtain ⟨f,m⟩:=key (jx t y) (λ_=>by rw [Js1 G s none (λp K=>by cases K),Qg]) w;exact ⟨u,f,λc d=>Jay s t y c (m c d),A⟩
    | some p=>
     obtain ⟨no,c⟩:=p;simp only at h;split at h
     ·rename_i R;obtain ⟨P,h⟩:=Jz h;have P:=Jz5 (n:=L.length) P;obtain ⟨u,w,A⟩:=Je h;obtain ⟨f,m⟩:=key (by rw [Bn,jx]) (λ_=>by rw [Js1 G s (some (no,c)) (λp K=>by cases K;simp only;omega)];simp only;rw [if_pos (by omega),Dx,Qg]) w
      refine ⟨u,f,λc' d=>?_,A⟩;rcases List.mem_or_eq_of_mem_set (m c' d) with N|N
      ·exact Jay s t y c' N
      ·rw [N];exact J.ob _ _ B c (by simp [Ob.kids])
     ·rename_i R;obtain ⟨u,w,A⟩:=Je h;obtain ⟨f,m⟩:=key (jx t y) (λa=>by
       rw [Qg,<-Jns o F a];have X:I0.toNat * t.sz+t.sz<=(L.flatMap t.cs).length:=by rwa [Zx] at F
       rw [<-Jcb G,<-Jns o X a];simp only [Qr];have B:(L.length - 1) * t.sz+no<I0.toNat * t.sz+off\/I0.toNat * t.sz+off+n<=(L.length - 1) * t.sz+no:=by
        by_cases J:I0.toNat+1=L.length
        ·rw [show L.length - 1=I0.toNat by omega];omega
        ·have:(I0.toNat+1) * t.sz<=(L.length - 1) * t.sz:=Ae _ (by omega);rw [Ah] at this;omega
       unfold pack;rw [Bn,Jja B];cases ag with
       | true=>rfl
       | false=>
        have:n=1:=by simpa using a
        subst this;simp only [Az,if_false];rw [Bv (by omega)]) w
      exact ⟨u,f,λc d=>Jay s t y c (m c d),A⟩
   ·cases h
  ·cases h
 ·rename_i t v off;split at h
  ·rename_i o;obtain ⟨u,w,A⟩:=Je h;obtain ⟨f,m⟩:=Jd5 (by rw [jx];exact o) w s;refine ⟨u,?_,λc d=>Jay s t v c (m c d),A⟩;have a:=pk_n w;rw [Jts (by rw [jx];exact o)] at a;rw [Qg] at f;simp only [Jbg,zp,encV,encC];rw [Jzq (by rw [Y0];exact o) a];exact f
  ·cases h
 ·cases h
end
theorem Jxq{L L' c c':List AV}{a:Nat}(e:a+c.length<=L.length)(hl:L'.length=L.length)(d:c'.length=c.length)(h:∀i,(if a<=i/\i<a+c.length then c'[i - a]? else L'[i]?)=(if a<=i/\i<a+c.length then c[i - a]? else L[i]?)):paste L' a c'=paste L a c:=by refine Bf λi=>?_;rw [zl (by omega),zl e,d];exact h i
theorem Jpx{L c:List AV}{a k:Nat}{v:AV}(h:a+c.length<=L.length)(f:a<=k)(e:k<a+c.length):paste (L.set k v) a c=paste L a c:=by
 refine Jxq h (by simp) rfl λi=>?_;by_cases d:a<=i/\i<a+c.length
 ·rw [if_pos d,if_pos d]
 ·rw [if_neg d,if_neg d,Bv (by omega)]
theorem Joq{L c:List AV}{a k:Nat}{v:AV}(h:a+c.length<=L.length)(e:k<a\/a+c.length<=k):paste (L.set k v) a c=(paste L a c).set k v:=by
 refine Bf λi=>?_;rw [zl (by simpa using h),Bg,Bg,zl h,zm h];by_cases d:a<=i/\i<a+c.length
 ·rw [if_pos d,if_pos d,if_neg (by omega)]
 ·rw [if_neg d,if_neg d]
theorem Jj4{L c:List AV}{a j:Nat}{v:AV}(h:a+c.length<=L.length)(f:j<c.length):paste L a (c.set j v)=(paste L a c).set (a+j) v:=by
 refine Bf λi=>?_;rw [zl (by simpa using h),Bn,Bg (l:=paste L a c),zl h,zm h,Bg (l:=c)];by_cases d:a<=i/\i<a+c.length
 ·rw [if_pos d,if_pos d];by_cases e:a+j=i
  ·rw [if_pos (by omega),if_pos e,if_pos f,if_pos (by omega)]
  ·rw [if_neg (by omega),if_neg e]
 ·rw [if_neg d,if_neg d,if_neg (by omega)]
theorem Jqq(A B c:List AV)(k:Nat):paste (A++B) (A.length+k) c=A++paste B k c:=by simp only [paste,Be];rw [List.take_append,Bd (by omega),Di,Be,Dt,Df,Bq (by omega),Di,Dj]
theorem Jh3{t:Ty}{c:List AV}{off:Nat}{x z:t.T}(d:t.cs z=paste (t.cs x) off c)(a:off+c.length<=t.sz):∀ {l:List t.T} {i:Nat},l[i]?=some x->(l.set i z).flatMap t.cs=paste (l.flatMap t.cs) (i * t.sz+off) c
 | [],i,h=>by cases h
 | y::l,0,h=>by simp at h;subst h;simp only [List.set_cons_zero,Ac,Bo,Bp];rw [d];simp only [paste];have hl:=Y0 t y;rw [Bx (by omega),List.drop_append_of_le_length (by omega)];simp
 | y::l,i+1,h=>by
  have h:l[i]?=some x:=by simpa using h
  have:=Jh3 d a h;simp only [List.set_cons_succ,Ac,this];rw [show (i+1) * t.sz+off=(t.cs y).length+(i * t.sz+off) by rw [Y0,Ah];omega,Jqq]
theorem Juv{β:Type}{l:List β}{i:Nat}{x:β}(h:l[i]?=some x):l.set i x=l:=by obtain ⟨a,rfl⟩:=Ai.1 h;exact List.set_getElem_self a
section
variable {call:Vv.Call} {base g0:Nat} {s:S Ty.T} {α:Type} {r:α}
theorem Jmq{lw:(t:Ty)->C Ty.T->Option t.T}(a:Exact s lw){t:Ty}{l q:List (C Ty.T)}{x:t.T}(h:impl val lw t l=some (x,q))(d:q.isEmpty=true):t.cs x=l.map (encC s):=by have:=Jdn a t h;rw [Ax.1 d] at this;simpa using this.symm
theorem Jz3{h:Heap}{n g ver off:Nat}{y:AV}{c:List AV}(a:y.cells=some c)(hl:c.length=n):Jcz h n (.ptr g ver off) y=(match h g with
  | some (.box ver' cells)=>if ver=ver'/\off+n<=cells.length then some (upd h g (some (.box ver' (paste cells off c)))) else none
  | some (.arr ver' esz el cells false)=>if ver=ver'/\off+n<=cells.length/\cells≠[] then some (upd h g (some (.arr ver' esz el (paste cells off c) false))) else none
  | _=>none):=by unfold Jcz;rw [a];simp only;rw [if_pos hl];rfl
theorem Jyd(F:Inv s){n:Nat}{x y:V Ty.T}{k:S Ty.T->Option α}(hy:okV s y)(h:Jyt val s n x y k=some r):∃s',Stab s s'/\Inv s'/\Jcz (encH s) n (encV s x) (encV s y)=some (encH s')/\k s'=some r:=by
 unfold Jyt at h;split at h
 ·cases h
 rename_i M;have hg:y.good=true:=by
  cases hg:y.good with
  | true=>rfl
  | false=>exact (M (.inr hg)).elim
 have Q:y.cells.length=n:=by
  by_cases h1:y.cells.length=n
  ·exact h1
  ·exact (M (.inl h1)).elim
 have H:okCs s y.cells:=λc d=>hy c (Jh0 c d);have R:(y.cells.map (encC s)).length=n:=by simpa using Q
 have J:∀g ver off,Jcz (encH s) n (.ptr g ver off) (encV s y)=_:=λg ver off=>Jz3 (Jjo hg s) R;have fin:∀ {g:Nat} {o:Ob Ty.T} {ao:AObj},moN s.mo g=false->(∀K,look g s.ob=some K->K.ver=o.ver/\K.lenO=o.lenO)->okCs s o.kids->encO s o=ao->Stab s (s.obj g o)/\Inv (s.obj g o)/\encH (s.obj g o)=upd (encH s) g (some ao):=by intro g o ao hf h1 h2 h3;have hs:=X0 h1;refine ⟨hs,ju F hs (λg'=>Ke g g' o) (λc d=>(hs.ok c (h2 c d)).1) hf,?_⟩;rw [Yw F hs (λg'=>Ke g g' o),hs.encO h2,h3]
 split at h
 ·rename_i g ver off;split at h
  ·rename_i v cs f;split at h
   ·rename_i d;obtain ⟨rfl,P⟩:=d;obtain ⟨f1,Z,Y⟩:=fin (g:=g) (o:=.box v (Jaw cs off y.cells)) (F.free f) (λK B=>by rw [f] at B;cases B;exact ⟨rfl,rfl⟩) (Jj7 (F.ob _ _ f) H) rfl;refine ⟨_,f1,Z,?_,h⟩;rw [Y,encV,encC,J,Jf f];simp only [encO];rw [if_pos ⟨trivial,by simpa using P⟩,Jdr]
   ·cases h
  ·rename_i v e el cs f;split at h
   ·rename_i d;obtain ⟨rfl,P,hne⟩:=d;obtain ⟨f1,Z,Y⟩:=fin (g:=g) (o:=.lit v e el (Jaw cs off y.cells) false) (F.free f) (λK B=>by rw [f] at B;cases B;exact ⟨rfl,by simp only [Ob.lenO];rw [Ju3 (by omega)]⟩) (Jj7 (F.ob _ _ f) H) rfl;refine ⟨_,f1,Z,?_,h⟩;rw [Y,encV,encC,J,Jf f];simp only [encO];rw [if_pos ⟨trivial,by simpa using P,by simpa using hne⟩,Jdr]
   ·cases h
  ·cases h
 ·rename_i g ver esz i off;split at h
  ·rename_i v e el t l nest f;obtain ⟨L,rfl⟩:∃L:List t.T,(show Ty.T (.ls t) from L)=l:=⟨l,rfl⟩;obtain ⟨I0,rfl⟩:∃I0:Int,(show Ty.T I from I0)=i:=⟨i,rfl⟩;split at h
   ·rename_i d;obtain ⟨rfl,rfl,he,P,hz⟩:=d;subst he;obtain ⟨w,B,N,h⟩:=Jrl (l:=L) (i:=I0) h;have hl:=(Ai.1 N).1;have hfl:I0.toNat * t.sz+t.sz<=(L.flatMap t.cs).length:=by rw [Xd];have:(I0.toNat+1) * t.sz<=L.length * t.sz:=Ae _ hl;rw [Ah] at this;omega
    have goal:∀ {z:t.T} {nst:Option (Nat×C Ty.T)},okCs s (Ob.kids (.row v t.sz el t (show Ty.T (.ls t) from L.set I0.toNat z) [] nst false)) ->
      Qr ((L.set I0.toNat z).flatMap t.cs) L.length t.sz (encC s) nst=paste (Qr (L.flatMap t.cs) L.length t.sz (encC s) nest) (I0.toNat * t.sz+off) (y.cells.map (encC s))->k (s.obj g (.row v t.sz el t (show Ty.T (.ls t) from L.set I0.toNat z) [] nst false))=some r ->
      ∃s',Stab s s'/\Inv s'/\Jcz (encH s) n (encV s (.c (.pti g v t.sz (show Ty.T I from I0) off))) (encV s y)=some (encH s')/\k s'=some r:=by
     intro z nst hk he hkr;obtain ⟨f1,Z,Y⟩:=fin (g:=g) (o:=.row v t.sz el t (show Ty.T (.ls t) from L.set I0.toNat z) [] nst false) (F.free f) (λK B=>by rw [f] at B;cases B;exact ⟨rfl,by simp only [Ob.lenO];rw [show List.length (α:=t.T) (show Ty.T (.ls t) from L.set I0.toNat z)=List.length (α:=t.T) L from Bn]⟩) hk rfl;refine ⟨_,f1,Z,?_,hkr⟩;rw [Y,encV,encC,J,Jf f];simp only [encO,Am,Af];rw [if_pos ⟨trivial,by rw [Zx,show (show Int from (show Ty.T I from I0)).toNat=I0.toNat from rfl];omega,row_ne N hz⟩];rw [show (show Int from (show Ty.T I from I0)).toNat=I0.toNat from rfl]
     congr 4
     rw [show List.length (α:=t.T) (show Ty.T (.ls t) from L.set I0.toNat z)=L.length from Bn];exact he.symm
    have G:off+(y.cells.map (encC s)).length<=t.sz:=by rw [R];exact P
    have expP:∀c:List (C Ty.T),(Jaw (expl val t w) off c).map (encC s)=paste (t.cs w) off (c.map (encC s)):=λc=>by rw [Jdr,Qg]
    have A:I0.toNat * t.sz+off+(y.cells.map (encC s)).length<=(L.flatMap t.cs).length:=by omega
    cases nest with
    | none=>
     obtain ⟨q,O,h⟩:=Je h;obtain ⟨z,zr⟩:=q;simp only at h;split at h
     ·rename_i m;have a:=Jmq (Zn s) O m;rw [expP] at a;refine goal (z:=z) (nst:=none) (λc d=>by simp [Ob.kids] at d) ?_ h;simp only [Qr];exact Jh3 a G N
     ·cases h
    | some p=>
     obtain ⟨no,c0⟩:=p;obtain ⟨g1,h⟩:=Jz h;have g1:I0+1=(L.length:Int):=Jz5 (n:=L.length) g1;have E:(L.length - 1) * t.sz+no=I0.toNat * t.sz+no:=by rw [show L.length - 1=I0.toNat by omega]
     split at h
     ·rename_i hr;split at h
      ·rename_i c' z0 X hz0;obtain ⟨q,O,h⟩:=Je h;obtain ⟨z,zr⟩:=q;simp only at h;split at h
       ·rename_i m;have a:=Jmq (Zn s) O m;rw [expP,Dx] at a;have hj:no - off<(y.cells.map (encC s)).length:=by omega
        refine goal (z:=z) (nst:=some (no,c')) (λc d=>by simp [Ob.kids] at d;subst d;exact H _ (Dr X)) ?_ h
        simp only [Qr];rw [E,Jh3 a (by simpa using G) N,Jj4 A hj,show I0.toNat * t.sz+off+(no - off)=I0.toNat * t.sz+no by omega,List.set_set,Jpx A (by omega) (by omega)];rw [show I0.toNat * t.sz+no=I0.toNat * t.sz+off+(no - off) by omega,<-Jj4 A hj,<-Dx,Juv X]
       ·cases h
      ·cases h
     ·rename_i hr;obtain ⟨q,O,h⟩:=Je h;obtain ⟨z,zr⟩:=q;simp only at h;split at h
      ·rename_i m;have a:=Jmq (Zn s) O m;rw [expP] at a;refine goal (z:=z) (nst:=some (no,c0)) (λc d=>by simp [Ob.kids] at d;subst d;exact F.ob _ _ f _ (by simp [Ob.kids])) ?_ h
       simp only [Qr];rw [E,Jh3 a G N,Joq A (by omega)]
      ·cases h
   ·cases h
  ·cases h
 ·cases h
theorem Jgd{t:Ty}:∀(l:List t.T) (a:Nat),(l.take a).flatMap t.cs=(l.flatMap t.cs).take (a * t.sz)
 | [],a=>by simp
 | x::l,0=>by simp
 | x::l,a+1=>by
  have g:=Y0 t x;have f:(a+1) * t.sz=t.sz+a * t.sz:=by rw [Ah];omega
  have e:(t.cs x).take ((a+1) * t.sz)=t.cs x:=Bd (by omega);have d:(a+1) * t.sz - (t.cs x).length=a * t.sz:=by omega
  rw [Du,Ac,Ac,Jgd l a,List.take_append,e,d]
theorem Jgb{t:Ty}:∀(l:List t.T) (a:Nat),(l.drop a).flatMap t.cs=(l.flatMap t.cs).drop (a * t.sz)
 | [],a=>by simp
 | x::l,0=>by simp
 | x::l,a+1=>by
  have g:=Y0 t x;have f:(a+1) * t.sz=t.sz+a * t.sz:=by rw [Ah];omega
  have e:(t.cs x).drop ((a+1) * t.sz)=[]:=Bq (by omega);have d:(a+1) * t.sz - (t.cs x).length=a * t.sz:=by omega
  rw [Dv,Ac,Jgb l a,Df,e,d,Dj]
theorem Jx3{t:Ty}(l:List t.T){a b m n:Nat}(d:m<=n)(r:a+m<=l.length)(e:b+n<=l.length) :
  (l.take a++((l.drop b).take m++(l.drop (a+m)).take (l.length - (a+m)))).flatMap t.cs=paste (l.flatMap t.cs) (a * t.sz) ((cut (l.flatMap t.cs) (b * t.sz) (n * t.sz)).take (m * t.sz)):=by
 have f:m * t.sz<=n * t.sz:=Ae _ d;have v:b * t.sz+n * t.sz<=(l.flatMap t.cs).length:=by rw [Xd,<-Ah];exact Ae _ e
 have o:(cut (l.flatMap t.cs) (b * t.sz) (n * t.sz)).take (m * t.sz)=((l.flatMap t.cs).drop (b * t.sz)).take (m * t.sz):=by unfold cut;rw [List.take_take,Nat.min_eq_left f]
 have h:(((l.flatMap t.cs).drop (b * t.sz)).take (m * t.sz)).length=m * t.sz:=by rw [List.length_take,Dg];omega
 have g:(l.drop (a+m)).take (l.length - (a+m))=l.drop (a+m):=Bd (by rw [Dg];omega);rw [o,g];unfold paste;rw [h,Bk,Bk,Jgd,Jgd,Jgb,Jgb,Ah,Be]
theorem cpy_sim(Q:Inv s){esz:Nat}{x y:V Ty.T}{k:V Ty.T->S Ty.T->Option α}(h:cpyD val s esz x y k=some r) :
  ∃v s',Stab s s'/\Inv s'/\Ju7 (encH s) esz (encV s x) (encV s y)=some (encV s' v,encH s')/\okV s' v/\k v s'=some r:=by
 unfold cpyD at h;split at h
 case h_2=>cases h
 rename_i g ver off n G ver' off' R;split at h
 case h_2=>cases h
 rename_i v e el t l H;split at h
 case isFalse=>cases h
 rename_i E;obtain ⟨rfl,rfl,rfl,rfl,rfl,hz⟩:=E;obtain ⟨L,rfl⟩:∃L:List t.T,(show Ty.T (.ls t) from L)=l:=⟨l,rfl⟩;obtain ⟨A,rfl⟩:∃A:Int,(show Ty.T I from A)=off:=⟨off,rfl⟩;obtain ⟨B,rfl⟩:∃B:Int,(show Ty.T I from B)=off':=⟨off',rfl⟩;obtain ⟨N,rfl⟩:∃N:Int,(show Ty.T I from N)=n:=⟨n,rfl⟩;obtain ⟨M,rfl⟩:∃M:Int,(show Ty.T I from M)=R:=⟨R,rfl⟩;obtain ⟨g1,h⟩:=Jz h;obtain ⟨g2,h⟩:=Jz h;obtain ⟨g3,h⟩:=Jz h;obtain ⟨g4,h⟩:=Jz h;obtain ⟨Z,h⟩:=Jz h;obtain ⟨Y,h⟩:=Jz h;obtain ⟨X,h⟩:=Jz h;have g1:0<(L.length:Int):=by have:decide ((0:Int)<=0/\(0:Int)<(L.length:Int))=true:=g1;exact (of_decide_eq_true this).2
 have g2:0<=A:=of_decide_eq_true (p:=(0:Int)<=A) g2;have g3:0<=N:=of_decide_eq_true (p:=(0:Int)<=N) g3;have g4:A+N<=(L.length:Int):=of_decide_eq_true (p:=A+N<=(L.length:Int)) g4;have Z:0<=B:=of_decide_eq_true (p:=(0:Int)<=B) Z;have Y:0<=M:=of_decide_eq_true (p:=(0:Int)<=M) Y;have X:B+M<=(L.length:Int):=of_decide_eq_true (p:=B+M<=(L.length:Int)) X;obtain ⟨a,rfl⟩:∃a:Nat,A=a:=⟨A.toNat,by omega⟩;obtain ⟨b,rfl⟩:∃b:Nat,B=b:=⟨B.toNat,by omega⟩;obtain ⟨n,rfl⟩:∃n:Nat,N=n:=⟨N.toNat,by omega⟩;obtain ⟨m,rfl⟩:∃m:Nat,M=m:=⟨M.toNat,by omega⟩;have K:val.mm false .i64 .i64 (show Ty.T I from ((m:Nat):Int)) (show Ty.T I from ((n:Nat):Int))=(show Ty.T I from ((Dy m n:Nat):Int)):=by show (if ((n:Nat):Int)<((m:Nat):Int) then ((n:Nat):Int) else ((m:Nat):Int))=((Dy m n:Nat):Int);simp only [Nat.min_def];split<;>split<;>omega
 rw [K] at h;have w:Dy m n<=m:=Nat.min_le_left ..;have P:Dy m n<=n:=Nat.min_le_right ..;generalize hk:Dy m n=q at h w P;have e0:(val.ap (val.ct (show Ty.T (.ls t) from L) (val.int .i64 0) (show Ty.T I from ((a:Nat):Int))) (val.ap (val.ct (show Ty.T (.ls t) from L) (show Ty.T I from ((b:Nat):Int)) (show Ty.T I from ((q:Nat):Int))) (val.ct (show Ty.T (.ls t) from L) (val.pl (show Ty.T I from ((a:Nat):Int)) (show Ty.T I from ((q:Nat):Int))) (val.mi (val.ln (show Ty.T (.ls t) from L)) (val.pl (show Ty.T I from ((a:Nat):Int)) (show Ty.T I from ((q:Nat):Int)))))))=(show Ty.T (.ls t) from L.take a++((L.drop b).take q++(L.drop (a+q)).take (L.length - (a+q)))):=by show (L.drop (0:Int).toNat).take ((a:Nat):Int).toNat++((L.drop ((b:Nat):Int).toNat).take ((q:Nat):Int).toNat++(L.drop (((a:Nat):Int)+((q:Nat):Int)).toNat).take ((L.length:Int) - (((a:Nat):Int)+((q:Nat):Int))).toNat)=_;rw [show (((a:Nat):Int)+((q:Nat):Int)).toNat=a+q by omega,show ((L.length:Int) - (((a:Nat):Int)+((q:Nat):Int))).toNat=L.length - (a+q) by omega];simp
 rw [e0] at h;have f:(L.take a++((L.drop b).take q++(L.drop (a+q)).take (L.length - (a+q)))).length=L.length:=by simp;omega
 have hs:Stab s (s.obj g (.row v t.sz el t (show Ty.T (.ls t) from L.take a++((L.drop b).take q++(L.drop (a+q)).take (L.length - (a+q)))) [] none false)):=X0 λo0 F=>by rw [H] at F;cases F;exact ⟨rfl,by simp only [Ob.lenO];rw [show List.length (α:=t.T) (show Ty.T (.ls t) from L.take a++((L.drop b).take q++(L.drop (a+q)).take (L.length - (a+q))))=List.length (α:=t.T) L from f]⟩
 have d:okCs s (Ob.kids (.row v t.sz el t (show Ty.T (.ls t) from L.take a++((L.drop b).take q++(L.drop (a+q)).take (L.length - (a+q)))) [] none false)):=λc E=>by simp [Ob.kids] at E
 refine ⟨_,_,hs,ju Q hs (λG=>Ke g G _) (λc E=>(hs.ok c (d c E)).1) (Q.free H),?_,Qi (Jo _ rfl),h⟩;rw [Yw Q hs (λG=>Ke g G _),hs.encO d];have hG:encH s g=some (.arr v t.sz el (L.flatMap t.cs) false):=by rw [Jf H];simp only [encO,Qr,Am,Af]
 have O:(b+m) * t.sz<=(L.flatMap t.cs).length:=by rw [Xd];exact Ae _ (by omega)
 have o:(a+n) * t.sz<=(L.flatMap t.cs).length:=by rw [Xd];exact Ae _ (by omega)
 have J:L.flatMap t.cs≠[]:=λe=>by
  have:=Xd (t:=t) L;rw [e] at this;have F:L.length * t.sz=0:=by simpa using this.symm
  rcases By.1 F with q|q<;>omega
 have hl:lenV (encH s) (.arr g v b m)=some (m:Int):=by simp [lenV,X2,hG]
 have he:Zj (encH s) t.sz (.arr g v b m)=some (cut (L.flatMap t.cs) (b * t.sz) (m * t.sz)):=by simp only [Zj,hG];exact if_pos ⟨trivial,trivial,O⟩
 show Ju7 (encH s) t.sz (.arr g v ((a:Nat):Int).toNat ((n:Nat):Int).toNat) (.arr g v ((b:Nat):Int).toNat ((m:Nat):Int).toNat)=_;rw [Ab,Ab,Ab,Ab];unfold Ju7;rw [hl,he];simp only [hG];rw [if_pos ⟨trivial,trivial,o,J⟩,Ab,hk];simp only [encO,Qr,Am,Af];rw [show Dh (α:=t.T) t.cs (show Ty.T (.ls t) from L.take a++((L.drop b).take q++(L.drop (a+q)).take (L.length - (a+q))))=_ from Jx3 L w (by omega) (by omega)];rfl
end
theorem Jir{t:Ty}(l:List t.T)(a n:Nat):((l.drop a).take n).flatMap t.cs=cut (l.flatMap t.cs) (a * t.sz) (n * t.sz):=by
 have hd:∀(l:List t.T) (a:Nat),(l.drop a).flatMap t.cs=(l.flatMap t.cs).drop (a * t.sz):=by
  intro l
  induction l with
  | nil=>intro a;simp
  | cons x l d=>
   intro a;cases a with
   | zero=>simp
   | succ a=>
    rw [Dv,d,Ac,show (a+1) * t.sz=(t.cs x).length+a * t.sz by rw [Y0,Ah];omega];exact (List.drop_length_add_append ..).symm
 have e:∀(l:List t.T) (n:Nat),(l.take n).flatMap t.cs=(l.flatMap t.cs).take (n * t.sz):=by
  intro l
  induction l with
  | nil=>intro n;simp
  | cons x l d=>
   intro n;cases n with
   | zero=>simp
   | succ n=>
    rw [Du,Ac,d,Ac,show (n+1) * t.sz=(t.cs x).length+n * t.sz by rw [Y0,Ah];omega];exact (List.take_length_add_append ..).symm
 rw [e,hd];rfl
theorem Jrz(l:List AV):cut l 0 l.length=l:=by simp [cut]
def El.cells(s:S Ty.T):El Ty.T->List AV
 | .t ty v=>Dh (α:=ty.T) ty.cs v
 | .x l=>l.map (encC s)
def El.n(esz:Nat):El Ty.T->Nat
 | .t ty v=>List.length (α:=ty.T) v
 | .x l=>l.length / esz
def El.ok(s:S Ty.T)(esz:Nat):El Ty.T->Prop
 | .t ty _=>ty.sz=esz/\0<esz
 | .x l=>okCs s l/\l.length % esz=0
section
variable {call:Vv.Call} {base g0:Nat} {s:S Ty.T} {α:Type} {r:α}
theorem Jan{a b:Int}(h:val.le a b=true):a<=b:=by have:decide (a<=b)=true:=h;simpa using this
theorem Jon{g ver len:Nat}{off:Nat}{v e:Nat}{el:TypeId}{cells:List AV}{z:Bool}{h:Heap}(d:h g=some (.arr v e el cells z))(a:v=ver):lenV h (.arr g ver off len)=some (len:Int):=by simp [lenV,X2,d,a]
theorem Jzr(J:Inv s){esz:Nat}{y:V Ty.T}{k:El Ty.T->Option α}(h:elems val s esz y k=some r):∃e:El Ty.T,lenV (encH s) (encV s y)=some (e.n esz:Int)/\Zj (encH s) esz (encV s y)=some (e.cells s)/\e.ok s esz/\k e=some r:=by
 unfold elems at h;split at h
 ·exact ⟨.x [],by simp [encV,encC,lenV,El.n],by simp [encV,encC,Zj,El.cells],⟨λc d=>(by cases d),by simp⟩,h⟩
 ·rename_i t v;split at h
  ·rename_i d;obtain ⟨rfl,m⟩:=d;refine ⟨.t t v,rfl,?_,⟨rfl,m⟩,h⟩;show Zj (encH s) t.sz (.lst (List.length (α:=t.T) v) (Dh (α:=t.T) t.cs v))=_;simp only [Zj];rw [if_pos (Xd (t:=t) v)];rfl
  ·cases h
 ·rename_i g ver;split at h
  ·rename_i v e el t l z f;obtain ⟨L,rfl⟩:∃L:List t.T,(show Ty.T (.ls t) from L)=l:=⟨l,rfl⟩;split at h
   ·rename_i d;obtain ⟨rfl,rfl,o,m⟩:=d;subst o;have a:K9 s g v=L.length:=by simp only [K9,f,Ob.ver,if_true,Ob.lenO,Av,Ar,As]
    have hH:=Jf f;simp only [encO,Am,Af,Qr] at hH;refine ⟨.t t L,?_,?_,⟨rfl,m⟩,h⟩
    ·simp only [encV,encC,a];exact Jon hH rfl
    ·simp only [encV,encC,a,Zj,hH,Bp,Bo,true_and];rw [if_pos (by rw [Xd];exact Bu _)];have:=Jrz (L.flatMap t.cs);rw [Xd] at this;rw [this];rfl
   ·cases h
  ·rename_i v e el l z f;split at h
   ·rename_i d;obtain ⟨rfl,rfl,E,m⟩:=d;have a:K9 s g v=l.length / e:=by simp only [K9,f,Ob.ver,if_true,Ob.lenO]
    have hH:=Jf f;simp only [encO] at hH;have w:l.length / e * e=l.length:=Bb (Ap E);refine ⟨.x l,?_,?_,⟨J.ob _ _ f,E⟩,h⟩
    ·simp only [encV,encC,a];exact Jon hH rfl
    ·simp only [encV,encC,a,Zj,hH,Bp,Bo,true_and,w];rw [if_pos (by simp)];have:=Jrz (l.map (encC s));rw [Au] at this;rw [this];rfl
   ·cases h
  ·cases h
 ·rename_i g ver off len;split at h
  ·rename_i v e el t l z f;obtain ⟨L,rfl⟩:∃L:List t.T,(show Ty.T (.ls t) from L)=l:=⟨l,rfl⟩;obtain ⟨A,rfl⟩:∃A:Int,(show Ty.T I from A)=off:=⟨off,rfl⟩;obtain ⟨B,rfl⟩:∃B:Int,(show Ty.T I from B)=len:=⟨len,rfl⟩;split at h
   ·rename_i d;obtain ⟨rfl,rfl,o,m⟩:=d;subst o;obtain ⟨H,h⟩:=Jz h;obtain ⟨G,h⟩:=Jz h;obtain ⟨F,h⟩:=Jz h;have H:(0:Int)<=A:=Jan H;have G:(0:Int)<=B:=Jan G;have F:A+B<=(L.length:Int):=Jan F;have hH:=Jf f;simp only [encO,Am,Af,Qr] at hH;refine ⟨.t t ((L.drop A.toNat).take B.toNat),?_,?_,⟨rfl,m⟩,h⟩
    ·simp only [encV,encC];rw [Jon hH rfl];show some ((B.toNat:Nat):Int)=some ((((L.drop A.toNat).take B.toNat).length:Nat):Int)
     congr 2
     simp;omega
    ·show Zj (encH s) t.sz (.arr g v A.toNat B.toNat)=some (((L.drop A.toNat).take B.toNat).flatMap t.cs);simp only [Zj,hH,true_and];rw [if_pos (by rw [Xd];exact Ae _ (by omega)),Jir]
   ·cases h
  ·cases h
 ·cases h
theorem Jkh{b:Nat}{n:Int}(h:val.ft b n=true):n * b<=room/\n<=9223372036854775807:=by have:decide (n * b<=room/\n<=9223372036854775807)=true:=h;simpa using this
def AppOK(s:S Ty.T)(g0 esz bytes:Nat)(el:TypeId)(x y:AV)(v:V Ty.T)(s':S Ty.T):Prop:=
 appV (encH s) g0 esz bytes el x y=some (encV s' v,encH s')/\Stab s s'/\Inv s'/\okV s' v
theorem J0m(v:Inv s){g0 esz bytes:Nat}{el:TypeId}{y:AV}{m:Nat}{new:List AV}{o:Ob Ty.T}(l:s.has g0=false)(w:lenV (encH s) y=some (m:Int))(A:Zj (encH s) esz y=some new)
  (g:new≠[]) (E:(m:Int) * bytes<=room/\(m:Int)<=9223372036854775807) (a:o.ver=s.nv g0+1) (e:o.lenO=m) (d:okCs s o.kids) (f:encO s o=.arr (s.nv g0+1) esz el new false) :
  AppOK s g0 esz bytes el .nils y (.c (.own g0 (s.nv g0+1))) (s.obj g0 o):=by
 have hs:Stab s (s.obj g0 o):=X0 λF h=>by rw [Zd l] at h;cases h
 refine ⟨?_,hs,ju v hs (λr=>Ke g0 r o) (λc B=>(hs.ok c (d c B)).1) (Jl5 l),Qi (Jel (by rw [a];rfl))⟩;unfold appV;rw [w,A];simp only;rw [if_neg g,if_pos E,Yw v hs (λr=>Ke g0 r o),hs.encO d,f,Qf l];have hl:K9 (s.obj g0 o) g0 (s.nv g0+1)=m:=by rw [<-a,Jd0,e]
 simp only [encV,encC,hl,Ab]
theorem Jom(E:Inv s){g g0 esz bytes:Nat}{el:TypeId}{y:AV}{m:Nat}{new cells:List AV}{a o:Ob Ty.T}{n:Int}(v:look g s.ob=some a)(K:lenV (encH s) y=some (m:Int))(L:Zj (encH s) esz y=some new)
  (F:encO s a=.arr a.ver esz el cells false) (e:cells.length=a.lenO * esz) (J:n.toNat=a.lenO)
  (H:((a.lenO:Int)+m) * bytes<=room/\(a.lenO:Int)+m<=9223372036854775807) (f:o.ver=a.ver+1) (w:o.lenO=a.lenO+m) (h:okCs s o.kids) (A:encO s o=.arr (a.ver+1) esz el (cells++new) false) :
  AppOK s g0 esz bytes el (encV s (.c (.own g a.ver))) y (.c (.own g (a.ver+1))) ((s.old g a.ver n).obj g o):=by
 have hs:Stab s ((s.old g a.ver n).obj g o):=stab_app v f J;have d:∀l,look l ((s.old g a.ver n).obj g o).ob=if g=l then some o else look l s.ob:=λl=>J0 g l o s.ob;refine ⟨?_,hs,ju E hs d (λc M=>(hs.ok c (h c M)).1) (E.free v),Qi (λr G=>?_)⟩
 ·have hl:K9 s g a.ver=a.lenO:=by simp only [K9,v,if_true]
  have B:K9 ((s.old g a.ver n).obj g o) g (a.ver+1)=a.lenO+m:=by simp only [K9,d,if_true,f,w]
  simp only [encV,encC,hl,B];unfold appV;rw [K,L];simp only [Jf v,F,true_and,Bp];rw [if_pos ⟨by omega,H.1,H.2⟩,if_neg ?_,Yw E hs d,hs.encO h,A]
  ·simp only [Bo,Ab];rw [<-e,Jrz]
  ·rintro ⟨O,N,P⟩;rw [N,Bo] at e;exact O (Ao e)
 ·simp only [refs,Dd] at G;subst G;exact ⟨o,by rw [d,if_pos rfl],by omega⟩
theorem Jm0{a b:Int}:val.cm .eql .i64 a b=decide (a=b):=by show (a==b)=_;by_cases h:a=b<;>simp [h]
theorem Jmj{e:El Ty.T}{k:Option α}(h:Jub val e k=some r):e.cells s=[]/\k=some r:=by
 unfold Jub at h;split at h
 ·exact ⟨rfl,h⟩
 ·cases h
 ·rename_i t v;obtain ⟨L,rfl⟩:∃L:List t.T,(show Ty.T (.ls t) from L)=v:=⟨v,rfl⟩;obtain ⟨a,h⟩:=Jz h;have a:(L.length:Int)=0:=by
   have:decide ((L.length:Int)=0)=true:=by rw [<-Jm0];exact a
   simpa using this
  have d:L=[]:=Ao (by omega);subst d;exact ⟨rfl,h⟩
theorem app_sim(E:Inv s){g0 esz bytes:Nat}{el:TypeId}{x y:V Ty.T}{k:V Ty.T->S Ty.T->Option α}(h:appD val s g0 esz bytes el x y k=some r):∃v s',AppOK s g0 esz bytes el (encV s x) (encV s y) v s'/\k v s'=some r:=by
 unfold appD at h;obtain ⟨e,K,A,F,h⟩:=Jzr E h;split at h
 ·-- nil
  split at h
  ·cases h
  rename_i h0;have h0:s.has g0=false:=by simpa using h0
  have nothing:e.cells s=[]->∃v s',AppOK s g0 esz bytes el (encV s (.c (.k .nils))) (encV s y) v s'/\v=.c (.k .nils)/\s'=s:=λP=>
   ⟨_,_,⟨by unfold appV;rw [K,A];simp only [encV,encC];rw [if_pos P],.refl s,E,Qi (Jo s rfl)⟩,rfl,rfl⟩
  split at h
  ·obtain ⟨v,s',a1,rfl,rfl⟩:=nothing rfl;exact ⟨_,_,a1,h⟩
  ·rename_i l hl;split at h
   ·rename_i Y;obtain ⟨w,h⟩:=Jz h;have w:=Jkh w;refine ⟨_,_,J0m (o:=.lit (s.nv g0+1) esz el l false) E h0 K A ?_ w rfl rfl F.1 rfl,h⟩;simp only [El.cells,ne_eq,List.map_eq_nil_iff];exact λq=>hl q
   ·cases h
  ·rename_i t v;obtain ⟨L,rfl⟩:∃L:List t.T,(show Ty.T (.ls t) from L)=v:=⟨v,rfl⟩;obtain ⟨hsz,Y⟩:=F;rcases Jc5 h with ⟨w,h⟩|⟨w,h⟩
   ·have w:(L.length:Int)=0:=by
     have:decide ((L.length:Int)=0)=true:=by rw [<-Jm0];exact w
     simpa using this
    have P:L=[]:=Ao (by omega);obtain ⟨v,s',a1,rfl,rfl⟩:=nothing (by simp only [El.cells];rw [show (show Ty.T (.ls t) from L)=([]:List t.T) from P];rfl);exact ⟨_,_,a1,h⟩
   ·have w:¬(L.length:Int)=0:=by
     have:decide ((L.length:Int)=0)=false:=by rw [<-Jm0];exact w
     simpa using this
    obtain ⟨g2,h⟩:=Jz h;have g2:=Jkh (n:=(L.length:Int)) g2;refine ⟨_,_,J0m E h0 K A ?_ g2 rfl (by simp only [Ob.lenO,Av,Ar,As];rfl) (λc f=>by simp [Ob.kids] at f) (by simp only [encO,Qr,Am,Af];rfl),h⟩;intro q;have:=congrArg List.length q;rw [show El.cells s (.t t (show Ty.T (.ls t) from L))=L.flatMap t.cs from rfl,Xd] at this;rcases By.1 this with h4|h4<;>omega
 ·-- a row
  rename_i g ver;split at h
  ·rename_i v d el' t l tl nest G;obtain ⟨L,rfl⟩:∃L:List t.T,(show Ty.T (.ls t) from L)=l:=⟨l,rfl⟩;split at h
   ·rename_i f;obtain ⟨rfl,rfl,rfl,he,htl,Y⟩:=f;have hH:encO s (.row v d el' t (show Ty.T (.ls t) from L) tl nest false)=.arr v d el' (Qr (L.flatMap t.cs) L.length t.sz (encC s) nest++tl.map (encC s)) false:=rfl;have B:tl.length / d * d=tl.length:=Bb (Ap htl);have hlO:Ob.lenO (.row v d el' t (show Ty.T (.ls t) from L) tl nest false)=L.length+tl.length / d:=rfl;have J:(Qr (L.flatMap t.cs) L.length t.sz (encC s) nest++tl.map (encC s)).length=Ob.lenO (.row v d el' t (show Ty.T (.ls t) from L) tl nest false) * d:=by rw [Aq,Zx,Xd,hlO,Ah,Au,he,B]
    split at h
    ·rename_i m;obtain ⟨Q,R⟩:=F;have H:m.length / d * d=m.length:=Bb (Ap R);have O:(if tl.isEmpty=true then val.ln (t:=t) (show Ty.T (.ls t) from L) else val.pl (val.ln (t:=t) (show Ty.T (.ls t) from L)) (val.int .i64 ((tl.length / d:Nat):Int)))=(show Ty.T I from ((L.length+tl.length / d:Nat):Int)):=by
      by_cases M:tl.isEmpty=true
      ·rw [if_pos M,Ax.1 M,Av,Ar,As];rfl
      ·rw [if_neg M,Dk];rfl
     simp only [O] at h;obtain ⟨w,h⟩:=Jz h;have w:=Jkh (n:=((L.length+tl.length / d:Nat):Int)+((m.length / d:Nat):Int)) w;refine ⟨_,_,Jom (n:=((L.length+tl.length / d:Nat):Int)) E G K A hH J (by rw [hlO];exact Ab _) w rfl ?_ (λc f=>?_) ?_,h⟩
     ·show L.length+(tl++m).length / d=L.length+tl.length / d+m.length / d;rw [Aq,Dt]
      congr 1
      rw [<-B,<-H,<-Ah,Ba _ Y,B,H]
     ·simp only [Ob.kids,Bm] at f;rcases f with f|f|f
      ·exact E.ob _ _ G c (by simp only [Ob.kids];exact List.mem_append_left _ f)
      ·exact E.ob _ _ G c (by simp only [Ob.kids];exact Dl _ f)
      ·exact Q c f
     ·show AObj.arr _ _ _ (Qr (L.flatMap t.cs) L.length t.sz (encC s) nest++(tl++m).map (encC s)) false=_;rw [Bw,<-Be];rfl
    ·rename_i Z m;split at h
     ·rename_i hne;rw [Ay,Ax,Ag] at hne;obtain ⟨rfl,rfl⟩:=hne;obtain ⟨m',hm',h⟩:=Je h;obtain ⟨eq,rfl⟩:=Qh (ι:=Ty.T) hm';injection eq with eq;subst eq;obtain ⟨N,rfl⟩:∃N:List Z.T,(show Ty.T (.ls Z) from N)=m:=⟨m,rfl⟩;obtain ⟨w,h⟩:=Jz h;have w:=Jkh (n:=(L.length:Int)+(N.length:Int)) w;refine ⟨_,_,Jom (n:=(L.length:Int)) E G K A hH J (by rw [hlO,Av,Ar,As];exact Ab _) ?_ rfl ?_ (λc f=>by simp [Ob.kids] at f) ?_,h⟩
      ·rw [hlO,Av,Ar,As];exact w
      ·show List.length (L++N)+0 / d=L.length+0 / d+N.length;rw [Aq,Ar];omega
      ·show AObj.arr _ _ _ ((L++N).flatMap Z.cs++[]) false=.arr _ _ _ (L.flatMap Z.cs++[]++N.flatMap Z.cs) false;rw [Af,Af,Bk];rfl
     ·cases h
   ·cases h
  ·rename_i v d el' l G;split at h
   ·rename_i f;obtain ⟨rfl,rfl,rfl,hld,Y⟩:=f;have hH:encO s (.lit v d el' l false)=.arr v d el' (l.map (encC s)) false:=rfl;have B:l.length / d * d=l.length:=Bb (Ap hld);have hlO:Ob.lenO (.lit v d el' l false)=l.length / d:=rfl;have J:(l.map (encC s)).length=Ob.lenO (.lit v d el' l false) * d:=by rw [Au,hlO,B]
    split at h
    ·rename_i m;obtain ⟨Q,R⟩:=F;have H:m.length / d * d=m.length:=Bb (Ap R);obtain ⟨w,h⟩:=Jz h;have w:=Jkh (n:=((l.length / d+m.length / d:Nat):Int)) w;refine ⟨_,_,Jom (n:=((l.length / d:Nat):Int)) E G K A hH J (by rw [hlO];exact Ab _) (by rw [Dk] at w;exact w) rfl ?_ (λc f=>?_) ?_,h⟩
     ·show (l++m).length / d=l.length / d+m.length / d;rw [Aq,<-B,<-H,<-Ah,Ba _ Y,B,H]
     ·simp only [Ob.kids,Bm] at f;rcases f with f|f
      ·exact E.ob _ _ G c f
      ·exact Q c f
     ·show AObj.arr _ _ _ ((l++m).map (encC s)) false=_;rw [Bw];rfl
    ·rename_i t m;obtain ⟨N,rfl⟩:∃N:List t.T,(show Ty.T (.ls t) from N)=m:=⟨m,rfl⟩;obtain ⟨hsz,_⟩:=F;obtain ⟨l',hl',h⟩:=Je h;have hlc:=Jpo (Zn s) t _ hl';obtain ⟨L',rfl⟩:∃L':List t.T,(show Ty.T (.ls t) from L')=l':=⟨l',rfl⟩;have X:L'.length * t.sz=l.length:=by have:=congrArg List.length hlc;rw [Au] at this;rw [this];exact (Xd L').symm
     obtain ⟨w,h⟩:=Jz h;have w:=Jkh (n:=((l.length / d:Nat):Int)+(N.length:Int)) w;have hval:(if l.isEmpty=true then (show Ty.T (.ls t) from N) else val.ap (t:=t) (show Ty.T (.ls t) from L') (show Ty.T (.ls t) from N))=(show Ty.T (.ls t) from L'++N):=by
      by_cases M:l.isEmpty=true
      ·rw [if_pos M];have:L'=[]:=by
        rw [Ax.1 M,Av] at X;rcases By.1 X with h4|h4
        ·exact Ao h4
        ·omega
       rw [this];rfl
      ·rw [if_neg M];rfl
     rw [hval] at h;refine ⟨_,_,Jom (n:=((l.length / d:Nat):Int)) E G K A hH J (by rw [hlO];exact Ab _) w rfl ?_ (λc f=>by simp [Ob.kids] at f) ?_,h⟩
     ·show List.length (L'++N)+0 / d=l.length / d+N.length;rw [Aq,Ar,<-X,hsz,Ba _ Y];omega
     ·show AObj.arr _ _ _ ((L'++N).flatMap t.cs++[]) false=.arr _ _ _ (l.map (encC s)++N.flatMap t.cs) false;rw [hlc,Af,Bk];rfl
   ·cases h
  ·rename_i v d el' t l tl nest G;split at h
   ·rename_i f;subst f;obtain ⟨P,h⟩:=Jmj h;refine ⟨_,s,⟨?_,.refl s,E,Qi λr hr=>?_⟩,h⟩
    ·unfold appV;rw [K,A];have hH:=Jf G;simp only [encO] at hH;simp only [encV,encC,hH];rw [if_pos ⟨trivial,by rw [P]⟩]
    ·simp only [refs,Dd] at hr;subst hr;exact ⟨_,G,Bu _⟩
   ·cases h
  ·cases h
 ·rename_i t v;obtain ⟨P,h⟩:=Jmj h;refine ⟨_,s,⟨?_,.refl s,E,Qi (Jo s rfl)⟩,h⟩;unfold appV;rw [K,A];simp only [encV,encC,Ty.cs,Qx];rw [if_pos (by rw [P])]
 ·cases h
end
def Alt(op op':LOp):Prop:=op'=op\/∃f args,op=.callp f args/\(op'=.callq f args\/op'=.callz f args)
section
variable {call:Vv.Call} {base g0:Nat} {s:S Ty.T} {α:Type} {r:α}
theorem Jcq{t:Ty}{x:t.T}:okV s (.c (.lf t x)):=Qi (Jo s rfl)
theorem ibinV_ar{o:BinOp}{k:IntKind}{a b:Int}(h:isAr o=true):Jnq o k a b=some (.int k (iar o k a b)):=by cases o<;>simp [isAr] at h<;>rfl
theorem ibinV_cm{o:BinOp}{k:IntKind}{a b:Int}(h:isCmp o=true):Jnq o k a b=some (.bool (icm o a b)):=by cases o<;>simp [isCmp] at h<;>rfl
theorem Jio{g ver:Nat}(h:s.cur g ver=true):Vv.cur (encH s) g ver=true:=by
 unfold S.cur at h;cases a:look g s.ob with
 | none=>rw [a] at h;cases h
 | some o=>rw [a] at h;simp only [Vv.cur,Jf a,Ya];exact h
theorem Jy7{b:Bool}{x y:C Ty.T}{z:Bool}(h:eqC val b x y=some z):zq b (encC s x) (encC s y)=some z:=by
 unfold eqC at h;split at h
 ·rename_i k a t b;cases f:cast? (ι:=Ty.T) t (.int k) b with
  | none=>rw [f] at h;cases h
  | some m=>
   rw [f] at h;obtain ⟨e,rfl⟩:=Qh f;subst e;simp only [Ad] at h;have:=Al h;subst this;simp only [encC,Ty.cs,Qx,zq,if_true];rfl
 ·cases l:Yc val .bool x with
  | none=>rw [l] at h;cases h
  | some a'=>
   rw [l] at h;simp only [Bj] at h;cases g:Yc val .bool y with
   | none=>rw [g] at h;cases h
   | some m=>
    rw [g] at h;simp only [Ad] at h;have hx:=z7 (s:=s) (t:=.bool) rfl l;have d:=z7 (s:=s) (t:=.bool) rfl g;have hx:encC s x=.bool a':=(List.cons.inj hx).1.symm;have d:encC s y=.bool m:=(List.cons.inj d).1.symm;rw [hx,d];have:=Al h;subst this;rfl
 ·cases h
theorem Jnn:∀ {bs:List Bool} {l m:List (C Ty.T)} {z:Bool},eqCs val bs l m=some z->Jm bs (l.map (encC s)) (m.map (encC s))=some z
 | [],[],[],z,h=>by simp only [eqCs] at h;injection h with h;subst h;rfl
 | [b],[x],[y],z,h=>by simp only [eqCs] at h;have:=Jy7 (s:=s) h;simp only [Bt,Am,Jm,this,Dw]
 | b::f::bs,x::xs,y::ys,z,h=>by
  have h':(eqC val b x y).bind (λu=>(eqCs val (f::bs) xs ys).map (val.an u))=some z:=by cases xs<;>cases ys<;>exact h
  cases a:eqC val b x y with
  | none=>rw [a] at h';cases h'
  | some u=>
   rw [a] at h';simp only [Bj] at h';cases d:eqCs val (f::bs) xs ys with
   | none=>rw [d] at h';cases h'
   | some v=>
    rw [d] at h';have:=Al h';subst this;have g:=Jy7 (s:=s) a;have e:=Jnn d;simp only [Bt] at e ⊢;rw [Jm,g,e];rfl
 | [],[],_::_,_,h=>by cases h
 | [],_::_,_,_,h=>by cases h
 | [_],[],_,_,h=>by cases h
 | [_],[_],[],_,h=>by cases h
 | [_],[_],_::_::_,_,h=>by simp only [eqCs] at h;cases a:eqC val _ _ _<;>rw [a] at h<;>simp [eqCs] at h
 | [_],_::_::_,[],_,h=>by cases h
 | [_],_::_::_,_::_,_,h=>by simp only [eqCs] at h;cases a:eqC val _ _ _<;>rw [a] at h<;>simp [eqCs] at h
 | _::_::_,[],_,_,h=>by cases h
 | _::_::_,_::_,[],_,h=>by cases h
theorem Jgh{i:Int}{k:Nat->Option α}:∀ {n j:Nat},Jzg val i k j n=some r->∃m,j<=m/\m<j+n/\i=(m:Int)/\k m=some r
 | 0,j,h=>by cases h
 | n+1,j,h=>by
  simp only [Jzg] at h;rcases Jc5 h with ⟨a,h⟩|⟨a,h⟩
  ·have a:i=(j:Int):=by
    have:decide (i=(j:Int))=true:=by rw [<-Jm0];exact a
    simpa using this
   exact ⟨j,Bu _,by omega,a,h⟩
  ·obtain ⟨m,g,f,e,d⟩:=Jgh h;exact ⟨m,by omega,by omega,e,d⟩
theorem Jb7{g ver:Nat}{n:Int}(h:Jbj val s g ver=some n):∃esz el cells z,encH s g=some (.arr ver esz el cells z)/\n=(K9 s g ver:Int):=by
 unfold Jbj at h;split at h
 ·rename_i v e el t l x nest z a;split at h
  ·rename_i d;subst d;refine ⟨_,_,_,_,by rw [Jf a];rfl,?_⟩;have:=(Al h).symm;rw [this];simp only [K9,a,Ob.ver,if_true,Ob.lenO];by_cases hx:x.isEmpty=true
   ·rw [if_pos hx,Ax.1 hx,Av,Ar,As];rfl
   ·rw [if_neg hx,Dk];rfl
  ·cases h
 ·rename_i v e el l z a;split at h
  ·rename_i d;subst d;refine ⟨_,_,_,_,by rw [Jf a];rfl,?_⟩;have:=(Al h).symm;rw [this];simp only [K9,a,Ob.ver,if_true,Ob.lenO];rfl
  ·cases h
 ·cases h
end
section
variable {call:Vv.Call} {base g0:Nat} {s:S Ty.T} {α:Type} {r:α}
theorem Jqc{x:Option LO}{z a:Int}(h:Jz1 val s x z=some a):jh z (x.map (enc s).ev)=some a/\(x=none->a=z):=by
 cases x with
 | none=>have:=Al h;subst this;exact ⟨rfl,λ_=>rfl⟩
 | some x=>
  have h:Jga .i64 (ev val s x)=some a:=h;refine ⟨?_,λe=>by cases e⟩;simp only [Ad,evI h,jh]
theorem Jdo{lo f:Option LO}{n:Int}{k:Int->Int->Option α}(H:0<=n)(h:Jhk val s lo f n k=some r) :
  ∃a b:Int,jh 0 (lo.map (enc s).ev)=some a/\jh n (f.map (enc s).ev)=some b/\0<=a/\a<=b/\b<=n/\(lo=none->a=0)/\k a b=some r:=by
 unfold Jhk at h;obtain ⟨a,y,h⟩:=Je h;obtain ⟨b,w,h⟩:=Je h;obtain ⟨A,rfl⟩:∃A:Int,(show Ty.T I from A)=a:=⟨a,rfl⟩;obtain ⟨B,rfl⟩:∃B:Int,(show Ty.T I from B)=b:=⟨b,rfl⟩;obtain ⟨G,F⟩:=Jqc (z:=0) (a:=A) y;obtain ⟨E,o⟩:=Jqc (z:=n) (a:=B) w;refine ⟨A,B,G,E,?_⟩;have v:∀ {x:Option α},(if f.isNone=true then k A B else val.gd (val.le (show Ty.T I from B) (show Ty.T I from n)) (k A B))=some r->B<=n/\k A B=some r:=λ{x} h=>by
  by_cases d:f.isNone=true
  ·rw [if_pos d] at h;rw [o (Ag.1 d)];rw [o (Ag.1 d)] at h;exact ⟨Dm _,h⟩
  ·rw [if_neg d] at h;obtain ⟨g,h⟩:=Jz h;exact ⟨Jan g,h⟩
 by_cases hl:lo.isNone=true
 ·have e:=F (Ag.1 hl);simp only [hl,if_true] at h;by_cases d:f.isNone=true
  ·simp only [d,true_and,and_self,if_true] at h;have eb:=o (Ag.1 d);refine ⟨by omega,by omega,by omega,λ_=>e,h⟩
  ·have l:¬(True/\f.isNone=true):=λq=>d q.2;rw [if_neg l] at h;obtain ⟨g,h⟩:=Jz h;have g:A<=B:=Jan g;obtain ⟨m,h⟩:=v (x:=none) h;exact ⟨by omega,g,m,λ_=>e,h⟩
 ·rw [if_neg hl] at h;obtain ⟨g0,h⟩:=Jz h;have g0:(0:Int)<=A:=Jan g0;have l:¬(lo.isNone=true/\f.isNone=true):=λq=>hl q.1;simp only at h;rw [if_neg l] at h;obtain ⟨g,h⟩:=Jz h;have g:A<=B:=Jan g;obtain ⟨m,h⟩:=v (x:=none) h;exact ⟨g0,g,m,λq=>by rw [q] at hl;exact (hl rfl).elim,h⟩
theorem J0c{lo:Option LO}{a b:Int}(h:lo=none->a=0):(if lo.isNone=true then (show Ty.T I from b) else val.mi (show Ty.T I from b) (show Ty.T I from a))=(show Ty.T I from b - a):=by
 by_cases hl:lo.isNone=true
 ·rw [if_pos hl,h (Ag.1 hl)];show b=b - 0;omega
 ·rw [if_neg hl];rfl
theorem slc_sim(X:Inv s){esz:Nat}{x:V Ty.T}{lo d:Option LO}{k:V Ty.T->Option α}(hx:okV s x)(h:slcD val s esz x lo d k=some r) :
  ∃v,Y3 (encH s) esz (encV s x) (lo.map (enc s).ev) (d.map (enc s).ev)=some (encV s v)/\okV s v/\k v=some r:=by
 unfold slcD at h;split at h
 ·rename_i t v;obtain ⟨L,rfl⟩:∃L:List t.T,(show Ty.T (.ls t) from L)=v:=⟨v,rfl⟩;split at h
  ·rename_i J;subst J;obtain ⟨a,b,w,o,F,E,y,m,h⟩:=Jdo (n:=(L.length:Int)) (by omega) h;refine ⟨.c (.lf (.ls t) (show Ty.T (.ls t) from (L.drop a.toNat).take (b - a).toNat)),?_,Jcq,?_⟩
   ·show Y3 (encH s) t.sz (.lst L.length (L.flatMap t.cs)) _ _=some (.lst ((L.drop a.toNat).take (b - a).toNat).length (((L.drop a.toNat).take (b - a).toNat).flatMap t.cs));simp only [Y3,w,o];rw [if_pos ⟨F,E,y,Xd L⟩,Jir]
    congr 2
    simp;omega
   ·have:=J0c (lo:=lo) (a:=a) (b:=b) m;rw [this] at h;exact h
  ·cases h
 ·rename_i g ver;have main:∀ {v e:Nat} {el:TypeId} {cells:List AV} {z:Bool},encH s g=some (.arr v e el cells z)->v=ver->e=esz->orNo val (Jbj val s g ver) (λn=>Jhk val s lo d n λa b=>k (.c (.part g ver a (if lo.isNone=true then b else val.mi b a))))=some r ->
    ∃v,Y3 (encH s) esz (encV s (.c (.own g ver))) (lo.map (enc s).ev) (d.map (enc s).ev)=some (encV s v)/\okV s v/\k v=some r:=by intro v e el cells z hH O R h;obtain ⟨n,M,h⟩:=Je h;obtain ⟨_,_,_,_,hH2,M⟩:=Jb7 (n:=n) M;rw [M] at h;obtain ⟨a,b,w,o,F,E,y,m,h⟩:=Jdo (n:=(K9 s g ver:Int)) (by omega) h;have:=J0c (lo:=lo) (a:=a) (b:=b) m;rw [this] at h;refine ⟨_,?_,Qi (λq K=>hx _ (by simp [V.all];rfl) q (by simpa [refs] using K)),h⟩;simp only [encV,encC,Y3,w,o];rw [if_pos ⟨F,E,y,by simp [curA,hH,O,R]⟩];simp only [Bp]
  split at h
  ·rename_i v e el t l x nest z G;split at h
   ·rename_i f;exact main (by rw [Jf G];rfl) f.1 f.2 h
   ·cases h
  ·rename_i v e el l z G;split at h
   ·rename_i f;exact main (by rw [Jf G];rfl) f.1 f.2 h
   ·cases h
  ·cases h
 ·rename_i g ver off len;obtain ⟨A,rfl⟩:∃A:Int,(show Ty.T I from A)=off:=⟨off,rfl⟩;obtain ⟨B,rfl⟩:∃B:Int,(show Ty.T I from B)=len:=⟨len,rfl⟩;split at h
  ·rename_i v e el t l x nest z G;split at h
   ·rename_i f;obtain ⟨N,h⟩:=Jz h;obtain ⟨H,h⟩:=Jz h;have N:(0:Int)<=A:=Jan N;have H:(0:Int)<=B:=Jan H;obtain ⟨a,b,w,o,F,E,y,m,h⟩:=Jdo (n:=B) H h;have Q:=J0c (lo:=lo) (a:=a) (b:=b) m;rw [Q] at h;have P:(if lo.isNone=true then (show Ty.T I from A) else val.pl (show Ty.T I from A) (show Ty.T I from a))=(show Ty.T I from A+a):=by
     by_cases hl:lo.isNone=true
     ·rw [if_pos hl,m (Ag.1 hl)];show A=A+0;omega
     ·rw [if_neg hl];rfl
    rw [P] at h;refine ⟨_,?_,Qi (λq K=>hx _ (by simp [V.all];rfl) q (by simpa [refs] using K)),h⟩;show Y3 (encH s) esz (.arr g ver A.toNat B.toNat) _ _=some (.arr g ver (A+a).toNat (b - a).toNat);have hB:((B.toNat:Nat):Int)=B:=Bl H;simp only [Y3,w,hB,o];rw [if_pos ⟨F,E,y,by simp [curA,Jf G,encO,f.1,f.2]⟩]
    congr 2
    omega
   ·cases h
  ·cases h
 ·obtain ⟨a,b,w,o,F,E,y,m,h⟩:=Jdo (n:=0) (Dm _) h;refine ⟨_,?_,Qi (Jo s rfl),h⟩;simp only [encV,encC,Y3,w,o];rw [if_pos ⟨by omega,by omega⟩]
 ·cases h
end
theorem Jfr{t:Ty}:t.isAg=!t.one:=by cases t<;>rfl
theorem Jzl{t:Ty}(h:t.one=true)(x:t.T):avT t x=Qx (t.cs x):=by unfold avT;rw [Jfr,h];rfl
theorem Js4{t:Ty}:t.one1=t.one:=by cases t<;>rfl
theorem Jrq:∀ {a b:List Bool},eqBs a b=true->a=b
 | [],[],_=>rfl
 | true::a,true::b,h=>by rw [Jrq (a:=a) (b:=b) h]
 | false::a,false::b,h=>by rw [Jrq (a:=a) (b:=b) h]
 | [],_::_,h=>by simp [eqBs] at h
 | true::_,[],h=>by simp [eqBs] at h
 | false::_,[],h=>by simp [eqBs] at h
 | true::_,false::_,h=>by simp [eqBs] at h
 | false::_,true::_,h=>by simp [eqBs] at h
theorem Jig:∀ {a b:List Bool} {x y g f:List AV} {p q:Bool},Jm a x y=some p->Jm b g f=some q->Jm (a++b) (x++g) (y++f)=some (p&&q)
 | [],b,[],[],g,f,p,q,e,l=>by injection e with e;subst e;simpa using l
 | s::a,b,u::x,v::y,g,f,p,q,e,l=>by
  simp only [Jm,List.cons_append] at e ⊢;cases m:zq s u v with
  | none=>rw [m] at e;cases e
  | some c=>
   rw [m] at e;cases h:Jm a x y with
   | none=>rw [h] at e;cases e
   | some d=>
    rw [h] at e;injection e with e;subst e;rw [Jig h l];simp [Bool.and_assoc]
 | [],_,[],_::_,_,_,_,_,e,_=>by simp [Jm] at e
 | [],_,_::_,_,_,_,_,_,e,_=>by simp [Jm] at e
 | _::_,_,[],_,_,_,_,_,e,_=>by simp [Jm] at e
 | _::_,_,_::_,[],_,_,_,_,e,_=>by simp [Jm] at e
theorem Jbr:∀ {t:Ty} (h:t.key=true) (x y:t.T),Jm t.ksh (t.cs x) (t.cs y)=some (t.eqb x y)
 | .int k,_,x,y=>by show Jm [false] [AV.int k x] [AV.int k y]=some (Ty.eqb (.int k) x y);simp only [Jm,zq,if_true,Dw];rfl
 | .bool,_,x,y=>by show Jm [true] [AV.bool x] [AV.bool y]=some (Ty.eqb .bool x y);simp only [Jm,zq,Dw];rfl
 | .u,_,x,y=>rfl
 | .p a b,h,x,y=>by simp only [Ty.key,Ay] at h;exact Jig (Jbr h.1 x.1 y.1) (Jbr h.2 x.2 y.2)
theorem Jzu{ag:Bool}{sh:List Bool}{t:Ty}(h:kOK ag sh t=true)(x y:t.T):eqV ag sh (avT t x) (avT t y)=some (t.eqb x y):=by
 unfold kOK at h;simp only [Ay,beq_iff_eq] at h;obtain ⟨⟨⟨g,a⟩,f⟩,l⟩:=h;have a:=Jrq a;subst g;subst a;unfold eqV avT;cases e:t.isAg with
 | true=>simp only [if_true];exact Jbr f x y
 | false=>
  have d:t.one=true:=by rw [Jfr] at e;simpa using e
  simp only [Az,if_false];rw [<-Jlh d,<-Jlh d];exact Jbr f x y
def mPos{a b:Ty}(k:a.T):List (a.T×b.T)->Option Nat
 | []=>none
 | e::r=>if a.eqb k e.1=true then some 0 else (mPos k r).map (·+1)
section
variable {ag:Bool} {sh:List Bool} {kt vt:Ty}
theorem Joy(h:kOK ag sh kt=true)(k:kt.T):∀(i:Nat) (es:List (kt.T×vt.T)),posM ag sh (avT kt k) i (encE kt vt es)=some ((mPos k es).map (i+·))
 | i,[]=>rfl
 | i,e::r=>by
  show (match eqV ag sh (avT kt k) (avT kt e.1) with|some true=>some (some i)|some false=>posM ag sh (avT kt k) (i+1) (encE kt vt r)|none=>none)=_;rw [Jzu h];unfold mPos;cases a:kt.eqb k e.1 with
  | true=>simp
  | false=>
   simp only [Az,if_false];rw [Joy h k (i+1) r];cases mPos k r with
   | none=>rfl
   | some j=>simp only [Ad];congr 2;omega
theorem at_enc(k:kt.T)(z:AV):∀(es:List (kt.T×vt.T)),atM (encE kt vt es) z (mPos k es)=(match Jbs k es with|some v=>avT vt v|none=>z)
 | []=>rfl
 | e::r=>by
  unfold mPos Jbs;by_cases a:kt.eqb k e.1=true
  ·rw [if_pos a,if_pos a];rfl
  ·rw [if_neg a,if_neg a,<-at_enc k z r];cases mPos k r with
   | none=>rfl
   | some j=>rfl
theorem Jx0(k:kt.T)(v:vt.T):∀(es:List (kt.T×vt.T)),putM (encE kt vt es) (avT kt k) (avT vt v) (mPos k es)=encE kt vt (mSet k v es)
 | []=>rfl
 | e::r=>by
  unfold mPos mSet;by_cases a:kt.eqb k e.1=true
  ·rw [if_pos a,if_pos a];rfl
  ·rw [if_neg a,if_neg a];have d:=Jx0 k v r;show _=(avT kt e.1,avT vt e.2)::encE kt vt (mSet k v r);rw [<-d];cases mPos k r with
   | none=>rfl
   | some j=>rfl
theorem Jzz(k:kt.T):∀(es:List (kt.T×vt.T)),outM (encE kt vt es) (mPos k es)=encE kt vt (mDel k es)
 | []=>rfl
 | e::r=>by
  unfold mPos mDel;by_cases a:kt.eqb k e.1=true
  ·rw [if_pos a,if_pos a];rfl
  ·rw [if_neg a,if_neg a];have d:=Jzz k r;show _=(avT kt e.1,avT vt e.2)::encE kt vt (mDel k r);rw [<-d];cases mPos k r with
   | none=>rfl
   | some j=>rfl
theorem Jmb(k:kt.T):∀(es:List (kt.T×vt.T)),(mPos k es).isSome=(Jbs k es).isSome
 | []=>rfl
 | e::r=>by
  unfold mPos Jbs;by_cases a:kt.eqb k e.1=true
  ·rw [if_pos a,if_pos a];rfl
  ·rw [if_neg a,if_neg a,<-Jmb k r];cases mPos k r<;>rfl
theorem Jka(h:kOK ag sh kt=true)(k:kt.T):Jrc ag sh (avT kt k)=true:=by unfold Jrc;rw [Jzu h];rfl
end
section
variable {call:Vv.Call} {base g0:Nat} {s:S Ty.T} {α:Type} {r:α}
theorem Jh1{ag:Bool}{t:Ty}{v:V Ty.T}{x:t.T}(g:ag=t.isAg)(h:keyD val ag t v=some x):encV s v=avT t x:=by
 subst g;unfold keyD at h;split at h
 ·rename_i l a;cases e:impl val (Yc val) t l with
  | none=>rw [e] at h;cases h
  | some p=>
   obtain ⟨y,r⟩:=p;rw [e] at h;have h:(if r.isEmpty=true then some y else none)=some x:=h;split at h
   ·rename_i d;injection h with h;subst h;have d:r=[]:=Ax.1 d;subst d;have:=Jdn (s:=s) (Zn s) t e;simp only [encV,avT,a,if_true];rw [this];simp
   ·cases h
 ·rename_i c a;have f:t.one=true:=by rw [Jfr] at a;simpa using a
  have:=z7 (s:=s) f h;rw [Jzl f,this];rfl
 ·cases h
theorem Jzk{t:Ty}{z:AV}{x:t.T}(a:t.one=true)(h:zeroD val t z=some x):Qx (t.cs x)=z:=by
 unfold zeroD at h;split at h
 ·injection h with h;subst h;rfl
 ·have:=z7 (s:=⟨[],[],[],[],none⟩) a h;rw [this,Jj1];rfl
theorem Jcw{v:V Ty.T}{p}(h:mpAt s v=some p):v=.c (.map p.1 p.2.1)/\look p.1 s.ob=some (.mp p.2.1 p.2.2.1 p.2.2.2.1 p.2.2.2.2):=by
 unfold mpAt at h;split at h
 ·rename_i g ver;split at h
  ·rename_i w kt vt es a;split at h
   ·rename_i e;injection h with h;subst h;subst e;exact ⟨rfl,a⟩
   ·cases h
  ·cases h
 ·cases h
theorem Jdl{g w:Nat}{kt vt:Ty}{es:List (kt.T×vt.T)}(a:look g s.ob=some (.mp w kt vt es)):curM (encH s) g w=some (encE kt vt es):=by unfold curM;rw [Jf a];simp [encO]
theorem mg_enc{ag:Bool}{sh:List Bool}{kt vt:Ty}(a:kOK ag sh kt=true)(e:vt.one=true)(es:List (kt.T×vt.T))(k:kt.T)(z:vt.T){zv:AV}(d:Qx (vt.cs z)=zv)(ok:Bool) :
  Jyk ok ag sh zv (avT kt k) (some (encE kt vt es))=some (if ok=true then .tup [Qx (vt.cs ((Jbs k es).getD z)),.bool (Jbs k es).isSome] else Qx (vt.cs ((Jbs k es).getD z))):=by
 unfold Jyk;simp only;rw [if_pos (Jka a k),Joy a];have g:(mPos k es).map (0+·)=mPos k es:=by cases mPos k es<;>simp
 rw [g];simp only [lookP];rw [at_enc,Jmb];have f:(match Jbs k es with|some v=>avT vt v|none=>zv)=Qx (vt.cs ((Jbs k es).getD z)):=by
  cases Jbs k es with
  | none=>exact d.symm
  | some v=>exact Jzl e v
 rw [f]
theorem set_enc{ag:Bool}{sh:List Bool}{kt vt:Ty}(a:kOK ag sh kt=true){g w:Nat}{es:List (kt.T×vt.T)}(d:look g s.ob=some (.mp w kt vt es))(k:kt.T)(v:vt.T) :
  setV (encH s) ag sh (avT kt k) (avT vt v) (.map g w)=some (upd (encH s) g (some (.map w (encE kt vt (mSet k v es)) false))):=by
 unfold setV;simp only;rw [Jdl d];simp only;rw [if_pos (Jka a k),Joy a];have e:(mPos k es).map (0+·)=mPos k es:=by cases mPos k es<;>simp
 rw [e];simp only [setE,Jx0]
theorem del_enc{ag:Bool}{sh:List Bool}{kt vt:Ty}(a:kOK ag sh kt=true){g w:Nat}{es:List (kt.T×vt.T)}(d:look g s.ob=some (.mp w kt vt es))(k:kt.T) :
  delV (encH s) ag sh (avT kt k) (.map g w)=some (upd (encH s) g (some (.map w (encE kt vt (mDel k es)) false))):=by
 unfold delV;simp only;rw [Jdl d];simp only;rw [if_pos (Jka a k),Joy a];have e:(mPos k es).map (0+·)=mPos k es:=by cases mPos k es<;>simp
 rw [e];simp only [delE,Jzz]
theorem Ji0(f:Inv s){op:LOp}{v:V Ty.T}{g w:Nat}{kt vt:Ty}{es es':List (kt.T×vt.T)}(l:look g s.ob=some (.mp w kt vt es))
  (m:Ja call base (enc s) g0 op=some (encV s v,upd (encH s) g (some (.map w (encE kt vt es') false)))) (d:v.all=[.any]\/v.all=[]) :
  Sim call base g0 s op v (s.obj g (.mp w kt vt es')):=by
 have st:Stab s (s.obj g (.mp w kt vt es')):=X0 λo e=>by rw [l] at e;injection e with e;subst e;exact ⟨rfl,rfl⟩
 have okv:∀s:S Ty.T,okV s v:=λs c a=>by
  rcases d with d|d
  ·rw [d] at a;have:=Dd.1 a;subst this;exact Jo s rfl
  ·rw [d] at a;cases a
 refine ⟨?_,st,ju f st (λh=>Ke g h _) (λc a=>by cases a) (f.free l),okv _⟩;rw [m,Yw f st (λh=>Ke g h _),st.encV (okv s)];rfl
end
section
variable {call:Vv.Call} {base g0:Nat} {s:S Ty.T} {α:Type} {r:α}
def Yg(call:Vv.Call)(Γ:FuncId->Option Ctr):Prop:=∀ {α:Type} {base g0:Nat} {s:S Ty.T} {r:α} {c:Ctr} {f:FuncId} {args:List LO} {k:LOp->V Ty.T->S Ty.T->Option α},Inv s->Γ f=some c->callD val c f args s (args.map (ev val s)) k=some r ->
 ∃op' v s',Alt (.callp f args) op'/\Sim call base g0 s op' v s'/\k op' v s'=some r
theorem Jmp{x:LO}{c:C Ty.T}(a:Inv s)(h:ev val s x=.c c):okC s c:=by have:=Jen a x;rw [h] at this;exact this c (by simp [V.all])
theorem Jo2{c c':C Ty.T}(h:okC s c)(a:refs c'=refs c):okV s (.c c'):=Qi (λq d=>h q (by rw [<-a];exact d))
theorem Jxz{o:BinOp}{k:IntKind}{a b:Int}(e:0<=b)(d:o=.shl\/o=.shr):shfV o k a b=some (.int k (ish o k a b)):=by rcases d with rfl|rfl<;>(unfold shfV;rw [if_neg (by omega)];rfl)
theorem caps_enc{F:LO->Option (Nat×Nat×Nat)}(hF:∀x p,F x=some p->ev val s x=.c (.ptr p.1 p.2.1 p.2.2)){caps:List LO}{l:List (Nat×Nat×Nat)}(o:Inv s)(h:mapL F caps=some l) :
  caps.map (enc s).ev=l.map (λc=>AV.ptr c.1 c.2.1 c.2.2)/\∀c∈l,okC s (.ptr c.1 c.2.1 c.2.2):=by
 induction caps generalizing l with
 | nil=>simp only [mapL] at h;injection h with h;subst h;exact ⟨rfl,λc a=>by cases a⟩
 | cons x caps f=>
  simp only [mapL] at h;cases hx:F x with
  | none=>rw [hx] at h;cases h
  | some p=>
   have hx:=hF x p hx;rename_i d;rw [d] at h;simp only [Bj] at h;cases e:mapL F caps with
   | none=>rw [e] at h;cases h
   | some r=>
    rw [e] at h;have:=Al h;subst this;obtain ⟨m,g⟩:=f e;refine ⟨?_,λc a=>?_⟩
    ·simp only [Bt,m,Jw,hx];rfl
    ·rcases Ds.1 a with rfl|a
     ·exact Jmp o hx
     ·exact g c a
theorem Jvb{g ver:Nat}{n:Int}(a:Jbj val s g ver=some n):X2 (encH s) g ver=true:=by
 unfold Jbj at a;split at a
 ·rename_i e;split at a
  ·rename_i d;simp [X2,Jf e,encO,d]
  ·cases a
 ·rename_i e;split at a
  ·rename_i d;simp [X2,Jf e,encO,d]
  ·cases a
 ·cases a
theorem Juh{t:Ty}(z:t.T):∀n,(Do n z).flatMap t.cs=Xt (t.cs z) n
 | 0=>rfl
 | n+1=>by rw [List.replicate_succ,Ac,Juh z n];rfl
theorem Jab:∀(t:Ty) (x:t.T),(t.cs x).all AV.flat=true
 | .int _,_=>rfl
 | .bool,_=>rfl
 | .str,_=>rfl
 | .ls _,_=>rfl
 | .bf _ _,_=>rfl
 | .u,_=>rfl
 | .p a b,(x,y)=>by show (a.cs x++b.cs y).all AV.flat=true;rw [List.all_append,Jab a x,Jab b y];rfl
theorem Jpm(s:S Ty.T):∀ {l:List (C Ty.T)} {t:Ty} {v:t.T},Jvj val l=some ⟨t,v⟩->l.map (encC s)=t.cs v
 | [],t,v,h=>by simp only [Jvj,Aj,Sigma.mk.injEq] at h;obtain ⟨rfl,h⟩:=h;rfl
 | .lf e x::r,t,v,h=>by
  have key:∀(m:e.one=true) (d:(Jvj val r).map (λp=>(⟨.p e p.1,val.pr x p.2⟩:(t:Ty)×t.T))=some ⟨t,v⟩),(C.lf e x::r).map (encC s)=t.cs v:=λm d=>by
   cases f:Jvj val r with
   | none=>rw [f] at d;cases d
   | some p=>
    obtain ⟨g,v2⟩:=p;rw [f] at d;simp only [Ad,Aj,Sigma.mk.injEq] at d;obtain ⟨rfl,d⟩:=d;have d:=eq_of_heq d;subst d;rw [Bt,Jpm s f];show Qx (e.cs x)::g.cs v2=e.cs x++g.cs v2;rw [Jlh m x];rfl
  cases e with
  | u=>cases h
  | p a b=>cases h
  | _=>exact key rfl h
 | .any::_,_,_,h=>by cases h
 | .kb _::_,_,_,h=>by cases h
 | .k _::_,_,_,h=>by cases h
 | .own ..::_,_,_,h=>by cases h
 | .part ..::_,_,_,h=>by cases h
 | .ptr ..::_,_,_,h=>by cases h
 | .pti ..::_,_,_,h=>by cases h
 | .rp ..::_,_,_,h=>by cases h
 | .fn ..::_,_,_,h=>by cases h
 | .map ..::_,_,_,h=>by cases h
 | .yl _::_,_,_,h=>by cases h
theorem op_sim{Γ:FuncId->Option Ctr}{ty:TypeId->Option Ty}{op:LOp}{k:LOp->V Ty.T->S Ty.T->Option α}(hC:Yg call Γ)(E:Inv s)(h:opD val Γ ty s g0 op k=some r) :
  ∃op' v s',Alt op op'/\Sim call base g0 s op' v s'/\k op' v s'=some r:=by
 have done:∀ {v:V Ty.T} {s':S Ty.T},Sim call base g0 s op v s'->k op v s'=some r->∃op' v s',Alt op op'/\Sim call base g0 s op' v s'/\k op' v s'=some r:=λa b=>⟨op,_,_,.inl rfl,a,b⟩;have same':∀ {v:V Ty.T},Ja call base (enc s) g0 op=some (encV s v,encH s)->okV s v->k op v s=some r->∃op' v s',Alt op op'/\Sim call base g0 s op' v s'/\k op' v s'=some r:=λa b c=>done (.same E a b) c;have same:=@same';have sm:∀ {v:V Ty.T},k op v s=some r->Ja call base (enc s) g0 op=some (encV s v,encH s)->okV s v->∃op' v s',Alt op op'/\Sim call base g0 s op' v s'/\k op' v s'=some r:=λc a b=>same' a b c;clear same';cases op<;>simp only [opD] at h<;>try (cases h;done)
 case mov x=>exact done (mov_sim E) h
 case pick c a b=>
  split at h
  ·rename_i t d;have hcv:(enc s).ev c=.bool t:=by rw [Jw,d];rfl
   refine same ?_ ?_ h
   ·simp only [Ja,hcv,Jw];cases t<;>rfl
   ·cases t<;>exact Jen E _
  ·cases h
 case alloc z=>
  split at h
  ·cases h
  ·rename_i K;exact done (J0n E (by simpa using K)) h
 case box x=>
  split at h
  ·cases h
  ·rename_i K;exact done (box_sim E (by cases hl:s.has g0 with|false=>rfl|true=>exact (K (.inl hl)).elim) (by cases hg:(ev val s x).good with|true=>rfl|false=>exact (K (.inr hg)).elim)) h
 case build z ps=>
  obtain ⟨l,hl,h⟩:=Je h;exact done (J0i E hl) h
 case bslice n esz el z ps=>
  obtain ⟨l,hl,h⟩:=Je h;split at h
  ·rename_i d;exact done (Jv1 E (by simpa using d.2.2) hl d.1 d.2.1) h
  ·cases h
 case load ag n x=>
  obtain ⟨v,O,h2,h3⟩:=Jul E (Jen E x) h;exact same (by simp only [Ja,Jw];rw [show (enc s).h=encH s from rfl,O]) h2 h3
 case store n x y=>
  obtain ⟨s',O,h2,h3,h4⟩:=Jyd E (Jen E y) h;exact done ⟨by simp only [Ja,Jw];rw [show (enc s).h=encH s from rfl,h3];rfl,O,h2,Qi (Jo s' rfl)⟩ h4
 case ibin o x y=>
  obtain ⟨kk,-,h⟩:=Je h;obtain ⟨a,ha,h⟩:=Je h;obtain ⟨b,X,h⟩:=Je h;obtain ⟨A,rfl⟩:∃A:Int,(show Ty.T (.int kk) from A)=a:=⟨a,rfl⟩;obtain ⟨B,rfl⟩:∃B:Int,(show Ty.T (.int kk) from B)=b:=⟨b,rfl⟩;have e1:=evI (a:=A) ha;have e2:=evI (a:=B) X;have eb:∀v:AV,Jnq o kk A B=some v->Ja call base (enc s) g0 (.ibin o x y)=some (v,encH s):=λv q=>by simp only [Ja,e1,e2,if_true,q];rfl
  split at h
  ·rename_i hcm;exact same (v:=.c (.lf .bool (icm o A B))) (eb _ (ibinV_cm hcm)) Jcq h
  ·split at h
   ·rename_i har;exact same (v:=.c (.lf (.int kk) (iar o kk A B))) (eb _ (ibinV_ar har)) Jcq h
   ·have key:∀q,(q=BinOp.quo\/q=BinOp.rem)->B≠0->Jnq q kk A B=some (.int kk (iar q kk A B)):=by
     rintro q (rfl|rfl) hb0
     ·simp only [Jnq];rw [if_neg hb0];rfl
     ·simp only [Jnq];rw [if_neg hb0];rfl
    have nz:val.cm .neq kk B (val.int kk 0)=true->B≠0:=λq=>by have q:(B != 0)=true:=q;simpa using q
    split at h
    ·obtain ⟨F,h⟩:=Jz h;exact same (v:=.c (.lf (.int kk) (iar _ kk A B))) (eb _ (key _ (.inl rfl) (nz F))) Jcq h
    ·obtain ⟨F,h⟩:=Jz h;exact same (v:=.c (.lf (.int kk) (iar _ kk A B))) (eb _ (key _ (.inr rfl) (nz F))) Jcq h
    ·cases h
 case eqv ne ag sh x y=>
  have fin:∀ {b:Bool},eqV ag sh ((enc s).ev x) ((enc s).ev y)=some b->k (.eqv ne ag sh x y) (.c (.lf .bool (if ne=true then val.nt b else b))) s=some r->∃op' v s',Alt (.eqv ne ag sh x y) op'/\Sim call base g0 s op' v s'/\k op' v s'=some r:=λ{b} q h=>same (by simp only [Ja,q];cases ne<;>rfl) Jcq h
  split at h
  ·rename_i l m hx hy;obtain ⟨b,X,h⟩:=Je h;exact fin (by rw [Jw,Jw,hx,hy];exact Jnn X) h
  ·rename_i u v hx hy;obtain ⟨b,X,h⟩:=Je h;exact fin (by rw [Jw,Jw,hx,hy];exact Jnn (l:=[u]) (m:=[v]) X) h
  ·cases h
 case un o x=>
  split at h
  ·rename_i b hx;exact sm h (by simp only [Ja,Jw,hx];rfl) (Qi (Jo s rfl))
  ·rename_i b hx;exact sm h (by simp only [Ja,Jw,hx];rfl) Jcq
  ·rename_i kk v hx;exact sm h (by simp only [Ja,Jw,hx];rfl) Jcq
  ·cases h
 case conv kk x=>
  split at h
  ·rename_i k' v hx;exact sm h (by simp only [Ja,Jw,hx];rfl) Jcq
  ·cases h
 case nilck x=>
  split at h
  ·rename_i g v o hx;split at h
   ·rename_i d;exact sm h (by simp only [Ja,Jw,hx,encV,encC];rw [show (enc s).h=encH s from rfl,if_pos (Jio d)]) (Jo2 (Jmp E hx) rfl)
   ·cases h
  ·rename_i g v e i o hx;split at h
   ·rename_i d;exact sm h (by simp only [Ja,Jw,hx,encV,encC];rw [show (enc s).h=encH s from rfl,if_pos (Jio d)]) (Jo2 (Jmp E hx) rfl)
   ·cases h
  ·rename_i t v o hx;exact sm h (by simp only [Ja,Jw,hx];rfl) (Qi (Jo s rfl))
  ·rename_i f c hx;exact sm h (by simp only [Ja,Jw,hx];rfl) (Jo2 (Jmp E hx) rfl)
  ·rename_i f t v hx;exact sm h (by simp only [Ja,Jw,hx];rfl) (Qi (Jo s rfl))
  ·cases h
 case mkbf f x=>
  split at h
  ·rename_i l hx;obtain ⟨⟨t,v⟩,Z,h⟩:=Je h;have e:=Jpm s Z;refine sm h ?_ (Qi (Jo s rfl));simp only [Ja,Jw,hx,encV,e,Jab t v,if_true];rfl
  ·cases h
 case mkfn f caps=>
  obtain ⟨l,hl,h⟩:=Je h;obtain ⟨c1,c2⟩:=caps_enc (λx p Z=>by split at Z<;>first|(cases Z;done)|(have:=Al Z;subst this;assumption)) E hl;refine same (by simp only [Ja,c1,encV,encC];rfl) (Qi λq hq=>?_) h;simp only [refs,Da] at hq;obtain ⟨c,d,rfl⟩:=hq;exact c2 c d (c.1,c.2.1) (by simp [refs])
 case mkS esz bytes el z l c=>
  split at h
  ·rename_i a b;split at h
   ·rename_i hab;subst hab;obtain ⟨n,G,h⟩:=Je h;obtain ⟨t,-,h⟩:=Je h;obtain ⟨⟨Y,zr⟩,hz,h⟩:=Je h;simp only at h;split at h
    ·rename_i d;obtain ⟨c1,c2,c3,c4,c5⟩:=d;obtain ⟨N,rfl⟩:∃N:Int,(show Ty.T I from N)=n:=⟨n,rfl⟩;have e1:=evI (a:=N) G;obtain ⟨F,h⟩:=Jz h;obtain ⟨g2,h⟩:=Jz h;have F:(0:Int)<=N:=Jan F;have g2:N * bytes<=room/\N<=9223372036854775807:=by have:decide (N * bytes<=room/\N<=9223372036854775807)=true:=g2;simpa using this
     have hzr:zr=[]:=by simpa using c2
     subst hzr;have hz1:=Jdn (Zn s) t hz;rw [Bz,show z.map (encC s ∘ cC val)=z from (Ak λv _=>Jj1 s v).trans (De _),Am,Af] at hz1;have K:s.has g0=false:=by simpa using c5
     refine done (Jgj E K (av:=.arr g0 (Jv (enc s).h g0) 0 N.toNat) (ao:=.arr (Jv (enc s).h g0) esz el (Xt z N.toNat) false) ?_ ?_ ?_ (λc d=>by cases d) (Qi (Jel rfl))) h
     ·simp only [Ja,e1];rw [if_pos ⟨F,Dm _,id,g2.1,g2.2⟩];rfl
     ·simp only [encV,encC];rw [show K9 (s.obj g0 (.row (s.nv g0) esz el t (val.rp Y N) [] none false)) g0 (s.nv g0)=List.length (α:=t.T) (val.rp Y N)+0 / esz from Jd0 (o:=.row (s.nv g0) esz el t (val.rp Y N) [] none false),show (enc s).h=encH s from rfl,Qf K,Ar,As];rw [show List.length (α:=t.T) (val.rp Y N)=N.toNat from List.length_replicate]
     ·simp only [Dn.encO];rw [show (enc s).h=encH s from rfl,Qf K,Am,Af,hz1,<-Juh];rfl
    ·cases h
   ·cases h
  ·rename_i k1 a k2 b;split at h
   ·rename_i d;obtain ⟨c0,c1,c2,c3,c4,c5,c6⟩:=d;subst c0;have K:s.has g0=false:=by simpa using c6
    have hl:(repC (z.map (cC val)) a.toNat).length=a.toNat * esz:=by
     have:=congrArg List.length (Jh8 z s a.toNat);rw [Au] at this;rw [this,<-c4];generalize a.toNat=m
     induction m with
     | zero=>simp [Xt]
     | succ m ih=>simp [Xt,ih,Nat.succ_mul,Nat.add_comm]
    have hs:Stab s (s.obj g0 (.lit (s.nv g0) esz el (repC (z.map (cC val)) a.toNat) false)):=X0 λo0 h=>by rw [Zd K] at h;cases h
    refine done (Jgj E K (av:=.arr g0 (Jv (enc s).h g0) 0 a.toNat) (ao:=.arr (Jv (enc s).h g0) esz el (Xt z a.toNat) false) ?_ ?_ ?_ (Jsl z _ a.toNat) (Qi (Jel rfl))) h
    ·simp only [Ja];show (if 0<=a/\a<=a/\(a=0->a=0)/\a * bytes<=room/\a<=9223372036854775807 then _ else none)=_;rw [if_pos ⟨c1,Dm _,id,c2,c3⟩];rfl
    ·simp only [encV,encC];rw [show K9 (s.obj g0 (.lit (s.nv g0) esz el (repC (z.map (cC val)) a.toNat) false)) g0 (s.nv g0)=(repC (z.map (cC val)) a.toNat).length / esz from Jd0 (o:=.lit (s.nv g0) esz el (repC (z.map (cC val)) a.toNat) false),show (enc s).h=encH s from rfl,Qf K,hl,Ba _ c5]
    ·simp only [Dn.encO];rw [Jh8,show (enc s).h=encH s from rfl,Qf K]
   ·cases h
  ·cases h
 case slc esz x lo hi'=>
  obtain ⟨v,O,h2,h3⟩:=slc_sim E (Jen E x) h;exact same (by simp only [Ja,Jw];rw [show (enc s).h=encH s from rfl,O]) h2 h3
 case faddr off x=>
  split at h
  ·rename_i g v o hx;split at h
   ·rename_i d;exact sm h (by simp only [Ja,Jw,hx,encV,encC,zu];rw [show (enc s).h=encH s from rfl,if_pos (Jio d)]) (Jo2 (Jmp E hx) rfl)
   ·cases h
  ·rename_i g v e i o hx;split at h
   ·rename_i d;exact sm h (by simp only [Ja,Jw,hx,encV,encC,zu];rw [show (enc s).h=encH s from rfl,if_pos (Jio d)];simp only [Dt]) (Jo2 (Jmp E hx) rfl)
   ·cases h
  ·rename_i t v o hx;exact sm h (by simp only [Ja,Jw,hx,encV,encC,zu,List.drop_drop];rfl) (Qi (Jo s rfl))
  ·cases h
 case fld ag off n x=>
  split at h
  ·rename_i l hx;split at h
   ·rename_i G;obtain ⟨v,P,h⟩:=Je h;obtain ⟨p1,p2⟩:=Jd5 G P s;refine sm h (by simp only [Ja,Jw,hx];show (match pack ag (l.map (encC s)) off n with|some v=>some (v,encH s)|none=>none)=_;rw [p1]) (λc d=>?_);have:=Jen E x;rw [hx] at this;exact this c (p2 c d)
   ·cases h
  ·cases h
 case mkM kt vt el=>
  obtain ⟨kt',-,h⟩:=Je h;obtain ⟨vt',-,h⟩:=Je h;split at h
  ·cases h
  ·rename_i K;have K:s.has g0=false:=eq_false_of_ne_true K;split at h
   ·rename_i u0 vt'' heq;split at h
    ·cases h
    ·rename_i d;simp only [not_or] at d;obtain ⟨hc1,hc2,hc3,hc4⟩:=d;have hmo:s.mo=none:=by
      cases hq:s.mo with
      | none=>rfl
      | some m=>rw [hq] at hc1;exact (hc1 rfl).elim
     have hlt:g0<mB:=by
      rcases Nat.lt_or_ge g0 mB with O|O
      ·exact O
      ·exact (hc2 (Bs O)).elim
     obtain ⟨s',M⟩:∃s':S Ty.T,s'=⟨s.sl,s.lo,s.ob,s.ln,some ⟨g0,kt',vt'',el,val.nl (.p kt' (.ls vt''))⟩⟩:=⟨_,rfl⟩;rw [<-M] at h;have hc0:encC s'=encC s:=by subst M;funext c;cases c<;>rfl
     have ho0:Dn.encO s'=Dn.encO s:=by funext o;cases o<;>simp only [Dn.encO,hc0]
     have hok:∀ {c},okC s c->okC s' c:=λhh=>by subst M;exact hh
     have st:Stab s s':=⟨by subst M;rfl,by subst M;rfl,λc hh=>⟨hok hh,by rw [hc0]⟩⟩;have eob:s'.ob=s.ob:=by subst M;rfl
     have iv:Inv s':=by
      refine ⟨λp Z=>st.okV (E.sl p (by subst M;exact Z)),λl hl p Z=>st.okV (E.lo l (by subst M;exact hl) p Z),λg o hg c d=>hok (E.ob g o (by rw [<-eob];exact hg) c d),λm R=>?_⟩;subst M;injection R with R;subst R;refine ⟨hlt,Nat.pos_of_ne_zero hc3,λg o hg=>?_⟩;have hg:look g s.ob=some o:=hg;unfold moN;rw [Bh];refine ⟨?_,?_⟩
      ·cases X:Aa g0 g with
       | false=>rfl
       | true=>
        have:=Br X;subst this;rw [Zd K] at hg;cases hg
      ·cases X:Aw mB g with
       | false=>rfl
       | true=>exact (hc4 (List.any_eq_true.2 ⟨(g,o),Qn hg,X⟩)).elim
     have eh:encH s'=upd (encH s) g0 (some (.map 0 [] false)):=by
      funext x;simp only [encH,eob,ho0,hmo,upd];by_cases hx:x=g0
      ·subst hx;rw [Zd K,if_pos rfl];subst M;show Mo.at _ x=_;unfold Mo.at;rw [if_pos rfl];rfl
      ·rw [if_neg hx];cases look x s.ob with
       | some o=>rfl
       | none=>
        subst M;show Mo.at _ x=none;unfold Mo.at;rw [if_neg hx];split
        ·rfl
        ·rfl
     refine done ⟨?_,st,iv,Qi (Jo s' rfl)⟩ h;simp only [Ja];rw [show (enc s).h=encH s from rfl,Qf K,nv0 (Zd K),eh];rfl
   ·refine done (Jgj E K (by simp only [Ja];rfl) ?_ ?_ (λc d=>by cases d) (Qi (Jel rfl))) h
    ·simp only [encV,encC];rw [show (enc s).h=encH s from rfl,Qf K]
    ·simp only [Dn.encO];rw [show (enc s).h=encH s from rfl,Qf K]
 case look ok ag sh z x y=>
  split at h
  ·rename_i g w kt vt es R;obtain ⟨hx,H⟩:=Jcw R;have hx:ev val s x=.c (.map g w):=hx;have H:look g s.ob=some (.mp w kt vt es):=H;have ex:encV s (ev val s x)=.map g w:=by rw [hx];rfl
   split at h
   ·rename_i d;obtain ⟨Q,O⟩:=d;rw [Js4] at O;obtain ⟨k',hk',h⟩:=Je h;obtain ⟨Y,hz',h⟩:=Je h;have ey:=Jh1 (s:=s) (by unfold kOK at Q;simp only [Ay,beq_iff_eq] at Q;exact Q.1.1.1) hk';have key:=mg_enc Q O es k' Y (Jzk O hz') ok;have he:Ja call base (enc s) g0 (.look ok ag sh z x y)=some ((if ok=true then .tup [Qx (vt.cs ((Jbs k' es).getD Y)),.bool (Jbs k' es).isSome] else Qx (vt.cs ((Jbs k' es).getD Y))),encH s):=by simp only [Ja,Jw];rw [ex,ey,show esOf (enc s).h (.map g w)=some (encE kt vt es) from Jdl H,key];rfl
    split at h
    ·rename_i e;subst e;refine sm h (by rw [he];rfl) (λc d=>?_);have d:c∈[C.lf vt ((Jbs k' es).getD Y),C.lf .bool (Jbs k' es).isSome]:=d;simp only [Ds,List.not_mem_nil,or_false] at d;rcases d with rfl|rfl<;>exact Jo s rfl
    ·rename_i e;have e:ok=false:=by simpa using e
     subst e;exact sm h (by rw [he];rfl) (Qi (Jo s rfl))
   ·cases h
  ·cases h
 case setM ag sh x y z=>
  split at h
  ·rename_i g w kt vt es R;obtain ⟨hx,H⟩:=Jcw R;have hx:ev val s x=.c (.map g w):=hx;have H:look g s.ob=some (.mp w kt vt es):=H;have ex:encV s (ev val s x)=.map g w:=by rw [hx];rfl
   split at h
   ·rename_i d;obtain ⟨Q,O⟩:=d;rw [Js4] at O;obtain ⟨k',hk',h⟩:=Je h;obtain ⟨Y,hz',h⟩:=Je h;have ey:=Jh1 (s:=s) (by unfold kOK at Q;simp only [Ay,beq_iff_eq] at Q;exact Q.1.1.1) hk';have ez:=Jh1 (s:=s) (t:=vt) (by rw [Jfr,O];rfl) hz';refine done (Ji0 E H (es':=mSet k' Y es) ?_ (.inl rfl)) h;simp only [Ja,Jw];rw [ex,ey,ez,show (enc s).h=encH s from rfl,set_enc Q H k' Y];rfl
   ·cases h
  ·cases h
 case delM ag sh x y=>
  split at h
  ·rename_i g w kt vt es R;obtain ⟨hx,H⟩:=Jcw R;have hx:ev val s x=.c (.map g w):=hx;have H:look g s.ob=some (.mp w kt vt es):=H;have ex:encV s (ev val s x)=.map g w:=by rw [hx];rfl
   split at h
   ·rename_i Q;obtain ⟨k',hk',h⟩:=Je h;have ey:=Jh1 (s:=s) (by unfold kOK at Q;simp only [Ay,beq_iff_eq] at Q;exact Q.1.1.1) hk';refine done (Ji0 E H (es':=mDel k' es) ?_ (.inr rfl)) h;simp only [Ja,Jw];rw [ex,ey,show (enc s).h=encH s from rfl,del_enc Q H k'];rfl
   ·cases h
  ·cases h
 case cpy esz x y=>
  obtain ⟨v,s',O,h2,h3,h4,h5⟩:=cpy_sim E h;exact done ⟨by simp only [Ja,Jw];exact h3,O,h2,h4⟩ h5
 case lenM x=>
  split at h
  ·rename_i g w kt vt es R;obtain ⟨hx,H⟩:=Jcw R;have hx:ev val s x=.c (.map g w):=hx;have H:look g s.ob=some (.mp w kt vt es):=H;have ex:encV s (ev val s x)=.map g w:=by rw [hx];rfl
   refine sm h ?_ (Qi (Jo s rfl));simp only [Ja,Jw];rw [ex,show (enc s).h=encH s from rfl];simp only [Vv.lenM,Jdl H];have el:(encE kt vt es).length=List.length (α:=kt.T×vt.T) es:=Au _;simp only [el];rfl
  ·cases h
 case iaddr esz x i=>
  obtain ⟨j,hj,h⟩:=Je h;obtain ⟨J,rfl⟩:∃J:Int,(show Ty.T I from J)=j:=⟨j,rfl⟩;have ei:=evI (a:=J) hj;split at h
  ·rename_i t v hx;obtain ⟨L,rfl⟩:∃L:List t.T,(show Ty.T (.ls t) from L)=v:=⟨v,rfl⟩;split at h
   ·rename_i hsz;subst hsz;obtain ⟨z,K,hz,h⟩:=Jrl (l:=L) (i:=J) h;have hl:=(Ai.1 hz).1;refine sm h ?_ (Qi (Jo s rfl));simp only [Ja,ei,Jw,hx];show (match je (encH s) t.sz (.lst L.length (L.flatMap t.cs)) (.int .i64 J) with|some v=>some (v,encH s)|none=>none)=some (AV.rptr ((t.cs z).drop 0),encH s);simp only [je];rw [if_pos ⟨K,by omega⟩,Jcb hz];rfl
   ·cases h
  ·rename_i g ver hx;split at h
   ·rename_i v e el t l tl nest z H;split at h
    ·rename_i d;obtain ⟨rfl,rfl⟩:=d;obtain ⟨n,G,h⟩:=Je h;obtain ⟨_,_,_,_,_,G⟩:=Jb7 (n:=n) G;obtain ⟨F,h⟩:=Jz h;have F:0<=J/\J<(K9 s g v:Int):=by rw [G] at F;have:decide (0<=J/\J<(K9 s g v:Int))=true:=F;simpa using this
     refine sm h ?_ (Jo2 (Jmp E hx) rfl);simp only [Ja,ei,Jw,hx,encV,encC,je];rw [show (enc s).h=encH s from rfl,if_pos ⟨F.1,F.2,by simp [curA,Jf H,encO]⟩];simp only [Bp,As]
    ·cases h
   ·cases h
  ·rename_i g ver off len hx;obtain ⟨A,rfl⟩:∃A:Int,(show Ty.T I from A)=off:=⟨off,rfl⟩;obtain ⟨B,rfl⟩:∃B:Int,(show Ty.T I from B)=len:=⟨len,rfl⟩;split at h
   ·rename_i v e el t l tl nest z H;split at h
    ·rename_i d;obtain ⟨rfl,rfl⟩:=d;obtain ⟨g0',h⟩:=Jz h;have g0':(0:Int)<=A:=Jan g0';obtain ⟨F,h⟩:=Jz h;have F:0<=J/\J<B:=by have:decide (0<=J/\J<B)=true:=F;simpa using this
     refine sm h ?_ (Jo2 (Jmp E hx) rfl);simp only [Ja,ei,Jw,hx];show (match je (encH s) e (.arr g v A.toNat B.toNat) (.int .i64 J) with|some v=>some (v,encH s)|none=>none)=some (.ptr g v ((A+J).toNat * e+0),encH s);simp only [je];rw [if_pos ⟨F.1,by omega,by simp [curA,Jf H,encO]⟩];simp only [As];rw [show (A+J).toNat=A.toNat+J.toNat by omega]
    ·cases h
   ·cases h
  ·cases h
 case iaddrA len esz x i=>
  split at h
  ·rename_i g v o hx;split at h
   ·rename_i d;have fin:∀m:Nat,m<len->(enc s).ev i=.int .i64 (m:Int)\/(∃kk,(enc s).ev i=.int kk (m:Int))->k (.iaddrA len esz x i) (.c (.ptr g v (o+m * esz))) s=some r->∃op' v s',Alt (.iaddrA len esz x i) op'/\Sim call base g0 s op' v s'/\k op' v s'=some r:=by intro m R he h;obtain ⟨kk,he⟩:∃kk,(enc s).ev i=.int kk (m:Int):=he.elim (λq=>⟨_,q⟩) id;refine sm h ?_ (Jo2 (Jmp E hx) rfl);simp only [Ja,he,Jw,hx,encV,encC,Jbq];rw [show (enc s).h=encH s from rfl,if_pos ⟨by omega,by omega,Jio d⟩];simp only [Ab]
    split at h
    ·rename_i kk n;split at h
     ·rename_i G;exact fin n.toNat (by omega) (.inr ⟨kk,by show AV.int kk n=_;rw [Bl G.1]⟩) h
     ·cases h
    ·obtain ⟨j,hj,h⟩:=Je h;obtain ⟨m,m1,m2,m3,m4⟩:=Jgh h;exact fin m (by omega) (.inl (by rw [evI hj];exact congrArg _ m3)) m4
   ·cases h
  ·cases h
 case idx len esz ag x i=>
  split at h
  ·rename_i l hx;have fin:∀m:Nat,m<len->m * esz+esz<=l.length->(∃kk,(enc s).ev i=.int kk (m:Int))->orNo val (pk ag (cutC l (m * esz) esz)) (λv=>k (.idx len esz ag x i) v s)=some r->∃op' v s',Alt (.idx len esz ag x i) op'/\Sim call base g0 s op' v s'/\k op' v s'=some r:=by
    rintro m R hl ⟨kk,he⟩ h;obtain ⟨v,P,h⟩:=Je h;obtain ⟨p1,p2⟩:=Jd5 hl P s;refine sm h ?_ (λc d=>?_)
    ·simp only [Ja,he,Jw,hx,encV,idxV];rw [if_pos ⟨by omega,by omega⟩,Ab,p1];rfl
    ·have:=Jen E x;rw [hx] at this;exact this c (p2 c d)
   split at h
   ·rename_i kk n;split at h
    ·rename_i G;exact fin n.toNat (by omega) G.2.2 ⟨kk,by show AV.int kk n=_;rw [Bl G.1]⟩ h
    ·cases h
   ·obtain ⟨j,hj,h⟩:=Je h;obtain ⟨m,m1,m2,m3,m4⟩:=Jgh h;split at m4
    ·rename_i hl;exact fin m (by omega) hl ⟨_,by rw [evI hj];exact congrArg _ m3⟩ m4
    ·cases m4
  ·cases h
 case ext x i=>
  split at h
  ·rename_i l hx;obtain ⟨p,Z,h⟩:=Je h;have hmem:=Dr Z;have hall:∀c∈p.2,okC s c:=λc d=>by have:=Jen E x;rw [hx] at this;exact this c (List.mem_flatMap.2 ⟨p,hmem,d⟩)
   have he:Ja call base (enc s) g0 (.ext x i)=some (if p.1 then .agg (p.2.map (encC s)) else Qx (p.2.map (encC s)),encH s):=by simp only [Ja,Jw,hx,encV,List.getElem?_map,Z,Ad];rfl
   split at h
   ·exact sm h he hall
   ·exact sm h he (Qi (hall _ (by simp)))
   ·cases h
  ·cases h
 case len x=>
  split at h
  ·rename_i t v hx;exact sm h (by simp only [Ja,Jw,hx];rfl) Jcq
  ·rename_i g ver hx;obtain ⟨n,G,h⟩:=Je h;obtain ⟨_,_,_,_,hH,hn'⟩:=Jb7 (n:=n) G;have P:X2 (encH s) g ver=true:=by
    unfold Jbj at G;split at G
    ·rename_i H;split at G
     ·rename_i P;simp [X2,Jf H,encO,P]
     ·cases G
    ·rename_i H;split at G
     ·rename_i P;simp [X2,Jf H,encO,P]
     ·cases G
    ·cases G
   refine same ?_ Jcq h;simp only [Ja,Jw,hx,encV,encC,lenV];rw [show (enc s).h=encH s from rfl,if_pos P];simp only [hn',Ty.cs,Qx]
  ·rename_i g ver off n hx;obtain ⟨n',G,h⟩:=Je h;have P:X2 (encH s) g ver=true:=by
    unfold Jbj at G;split at G
    ·rename_i H;split at G
     ·rename_i P;simp [X2,Jf H,encO,P]
     ·cases G
    ·rename_i H;split at G
     ·rename_i P;simp [X2,Jf H,encO,P]
     ·cases G
    ·cases G
   obtain ⟨F,h⟩:=Jz h;obtain ⟨B,rfl⟩:∃B:Int,(show Ty.T I from B)=n:=⟨n,rfl⟩;have F:(0:Int)<=B:=Jan F;refine same ?_ Jcq h;simp only [Ja,Jw,hx,encV,encC,lenV];rw [show (enc s).h=encH s from rfl,if_pos P];simp only [Ty.cs,Qx];rw [show ((show Int from (show Ty.T I from B)).toNat:Int)=B from Bl F]
  ·rename_i hx;exact sm h (by simp only [Ja,Jw,hx];rfl) Jcq
  ·cases h
 case lenS x=>
  split at h
  ·rename_i v hx;exact sm h (by simp only [Ja,Jw,hx];rfl) Jcq
  ·cases h
 case app esz bytes el zz x y=>
  obtain ⟨v,s',⟨a1,a2,a3,a4⟩,h⟩:=app_sim E h;exact done ⟨by simp only [Ja,Jw];exact a1,a2,a3,a4⟩ h
 case callp f args=>
  obtain ⟨c,d,h⟩:=Je h;exact hC E d h
 case shf o x y=>
  obtain ⟨kk,-,h⟩:=Je h;obtain ⟨a,ha,h⟩:=Je h;obtain ⟨k',-,h⟩:=Je h;obtain ⟨b,X,h⟩:=Je h;obtain ⟨A,rfl⟩:∃A:Int,(show Ty.T (.int kk) from A)=a:=⟨a,rfl⟩;obtain ⟨B,rfl⟩:∃B:Int,(show Ty.T (.int k') from B)=b:=⟨b,rfl⟩;have e1:=evI (a:=A) ha;have e2:=evI (a:=B) X;have nn:val.cm .geq k' B (val.int k' 0)=true->(0:Int)<=B:=λq=>by have q:decide (B>=0)=true:=q;simpa using q
  split at h
  ·obtain ⟨F,h⟩:=Jz h;exact sm h (by simp only [Ja,e1,e2];rw [Jxz (a:=A) (nn F) (.inl rfl)];rfl) Jcq
  ·obtain ⟨F,h⟩:=Jz h;exact sm h (by simp only [Ja,e1,e2];rw [Jxz (a:=A) (nn F) (.inr rfl)];rfl) Jcq
  ·cases h
 case mm mx x y=>
  obtain ⟨kk,-,h⟩:=Je h;obtain ⟨a,ha,h⟩:=Je h;obtain ⟨k',-,h⟩:=Je h;obtain ⟨b,X,h⟩:=Je h;exact sm h (by simp only [Ja,evI ha,evI X];cases mx<;>rfl) Jcq
 case isnil ne x=>
  split at h
  ·rename_i hx;exact sm h (by simp only [Ja,Jw,hx];cases ne<;>rfl) (Qi (Jo s rfl))
  ·rename_i t v hx;obtain ⟨L,rfl⟩:∃L:List t.T,(show Ty.T (.ls t) from L)=v:=⟨v,rfl⟩;obtain ⟨F,h⟩:=Jz h;have F:(0:Int)<(L.length:Int):=by have:decide ((L.length:Int) > 0)=true:=F;simpa using this
   refine sm h ?_ (Qi (Jo s rfl));simp only [Ja,Jw,hx];cases L with
   | nil=>simp at F
   | cons q L=>cases ne<;>rfl
  ·rename_i g ver hx;obtain ⟨n,G,h⟩:=Je h;obtain ⟨_,_,_,_,hH,hn'⟩:=Jb7 (n:=n) G;obtain ⟨F,h⟩:=Jz h;have F:(0:Int)<(K9 s g ver:Int):=by rw [hn'] at F;have:decide ((K9 s g ver:Int) > 0)=true:=F;simpa using this
   refine sm h ?_ (Qi (Jo s rfl));simp only [Ja,Jw,hx,encV,encC,Je7];rw [show (enc s).h=encH s from rfl,if_pos ⟨Jvb G,by omega⟩];cases ne<;>rfl
  ·cases h
end
end Go.Dn
