/- Typed values, typed states and how a typed state reads as a state of the evaluator. Definitions alone. -/
import Derived.Test.YtmfagdfkpjgeiaaGreatNB
open Option renaming some -> AC, none -> AD
open Bool renaming true -> AE, false -> AF
open _root_ renaming List -> AG, Option -> AH, Int -> AI, Nat -> AM, Bool -> AN, if_neg -> AR, if_pos -> AS, congrArg -> AT
set_option linter.unusedVariables false
set_option linter.unusedSimpArgs false
namespace Go.Dn
open Go Go.Vv
open Nat renaming beq -> Aa, mul_le_mul_right -> Ae, add_mul -> Ah, dvd_of_mod_eq_zero -> Aq, zero_div -> As, add_zero -> Au, ble -> Ax, mul_div_cancel -> Bb, div_mul_cancel -> Bc, zero_mul -> Bp, zero_add -> Bq, eq_of_beq_eq_true -> Bs, ble_eq_true_of_le -> Bt, le_refl -> Bv, mul_eq_zero -> Da, add_sub_cancel_left -> Dk, add_assoc -> Dv, min -> Ea
open Int renaming toNat_natCast -> Ab, toNat_of_nonneg -> Bm, natCast_add -> Dm, le_refl -> Dp
open List renaming flatMap_cons -> Ac, append_nil -> Af, getElem?_eq_some_iff -> Ai, map_congr_left -> Ak, map_nil -> Ao, eq_nil_of_length_eq_zero -> Ap, length_append -> Ar, length_map -> Av, length_nil -> Aw, isEmpty_iff -> Ay, take_of_length_le -> Be, append_assoc -> Bf, ext_getElem? -> Bg, getElem?_set -> Bh, flatMap_append -> Bl, mem_append -> Bn, length_set -> Bo, drop_eq_nil_of_le -> Br, map_cons -> Bu, getElem?_set_ne -> Bw, map_append -> By, take_append_of_le_length -> Bz, map_map -> Db, mem_map -> Dc, getElem?_take -> Dd, getElem?_drop -> De, mem_singleton -> Df, map_id -> Dg, drop_append -> Dh, length_drop -> Di, flatMap -> Dj, nil_append -> Dl, mem_append_right -> Do, replicate -> Dq, mem_of_mem_drop -> Dr, mem_of_mem_take -> Ds, mem_of_getElem? -> Dt, mem_cons -> Du, take_succ_cons -> Dw, drop_succ_cons -> Dx, map_set -> Dz
open Option renaming map_some -> Ad, isNone_iff_eq_none -> Ag, bind_some -> Bk
open Option.some renaming injEq -> Aj, inj -> Am
open Bool renaming and_eq_true -> Az, false_eq_true -> Ba, or_eq_false_iff -> Bj, and_true -> Dy
open Prod.mk renaming injEq -> Bd
inductive Ty where
 | int (k:IntKind)
 | bool
 | str
 | ls (t:Ty)
 | u
 | p (a b:Ty)
 | bf (f:AM) (t:Ty)
 deriving DecidableEq,Inhabited
def Ty.T:Ty->Type
 | .int _=>AI
 | .bool=>AN
 | .str=>ByteArray
 | .ls t=>AG t.T
 | .u=>Unit
 | .p a b=>a.T×b.T
 | .bf _ t=>t.T
abbrev I:Ty:=.int .i64
def Ty.sz:Ty->AM
 | .u=>0
 | .p a b=>a.sz+b.sz
 | _=>1
def Ty.cs:(t:Ty)->t.T->AG AV
 | .int k,v=>[.int k v]
 | .bool,v=>[.bool v]
 | .str,v=>[.str v]
 | .ls t,v=>[.CF v.length (v.flatMap t.cs)]
 | .u,_=>[]
 | .p a b,v=>a.cs v.1++b.cs v.2
 | .bf f t,v=>[.Ld f (t.cs v)]
abbrev U:Ty->Type:=λ_=>Unit
inductive C (ι:Ty->Type) where
 | any
 | lf (t:Ty) (v:ι t)
 | kb (b:AN)
 | k (v:AV)
 | own (g ver:AM)
 | part (g ver:AM) (off len:ι I)
 | ptr (g ver off:AM)
 | F5 (g ver esz:AM) (i:ι I) (off:AM)
 | rp (t:Ty) (v:ι t) (off:AM)
 | fn (f:FuncId) (caps:AG (AM×AM×AM))
 | map (g ver:AM)
 | yl (j:AM)
instance (ι:Ty->Type):Inhabited (C ι):=⟨.any⟩
inductive V (ι:Ty->Type) where
 | c (x:C ι)
 | ag (l:AG (C ι))
 | tp (l:AG (AN×AG (C ι)))
instance (ι:Ty->Type):Inhabited (V ι):=⟨.c .any⟩
inductive Ob (ι:Ty->Type) where
 | box (ver:AM) (cs:AG (C ι))
 | row (ver esz:AM) (el:TypeId) (t:Ty) (v:ι (.ls t)) (x:AG (C ι)) (nest:AH (AM×C ι)) (fz:AN)
 | lit (ver esz:AM) (el:TypeId) (cs:AG (C ι)) (fz:AN)
 | mp (ver:AM) (kt vt:Ty) (es:ι (.ls (.p kt vt)))
 | em (ver:AM) (kt vt:Ty) (el:TypeId)
structure Mo (ι:Ty->Type) where
 g:AM
 kt:Ty
 vt:Ty
 el:TypeId
 es:ι (.ls (.p kt (.ls vt)))
def mB:AM:=1000000000000000000000000000000000000000000000000000000000000000000000000000000000000000000000000000000000000000000000000000000000000000000000000000000000000000000000000000000000000000000000000000000000000000
structure S (ι:Ty->Type) where
 sl:AG (AM×V ι)
 lo:AG (AG (AM×V ι))
 ob:AG (AM×Ob ι)
 ln:AG (AM×AM×ι I)
 mo:AH (Mo ι)
def look{α:Type}(d:AM):AG (AM×α)->AH α
 | []=>AD
 | (n,v)::r=>match Aa n d with|true=>AC v|false=>look d r
def EY(x:AM):AG AM->AN
 | []=>AF
 | y::r=>match Aa x y with|true=>AE|false=>EY x r
def S.at{ι:Ty->Type}(s:S ι)(d:AM):V ι:=match look d s.sl with|some v=>v|none=>.c .any
def S.put{ι:Ty->Type}(s:S ι)(d:AH AM)(v:V ι):S ι:=
 match d with
 | some d=>⟨(d,v)::s.sl,s.lo,s.ob,s.ln,s.mo⟩
 | none=>s
def S.obj{ι:Ty->Type}(s:S ι)(g:AM)(o:Ob ι):S ι:=⟨s.sl,s.lo,(g,o)::s.ob,s.ln,s.mo⟩
def S.old{ι:Ty->Type}(s:S ι)(g ver:AM)(n:ι I):S ι:=⟨s.sl,s.lo,s.ob,(g,ver,n)::s.ln,s.mo⟩
def Ob.ver{ι:Ty->Type}:Ob ι->AM
 | .box v _=>v
 | .row v ..=>v
 | .lit v ..=>v
 | .mp v ..=>v
 | .em v ..=>v
def S.nv{ι:Ty->Type}(s:S ι)(g:AM):AM:=match look g s.ob with|some o=>o.ver+1|none=>0
def Yb:AG AV->AV
 | [x]=>x
 | _=>.any
def oV(g ver:AM):AG (AM×AM×Ty.T I)->AM
 | []=>0
 | (a,v,n)::r=>if a=g/\v=ver then (show AI from n).toNat else oV g ver r
def Ob.CJ:Ob Ty.T->AM
 | .row _ e _ _ l x _ _=>List.length l+x.length / e
 | .lit _ e _ cs _=>cs.length / e
 | .box ..=>0
 | .mp ..=>0
 | .em ..=>0
def Q4(s:S Ty.T)(g ver:AM):AM:=
 match look g s.ob with
 | some o=>if o.ver=ver then o.CJ else oV g ver s.ln
 | none=>0
def AB(s:S Ty.T):C Ty.T->AV
 | .any=>.any
 | .lf t v=>Yb (t.cs v)
 | .kb b=>.bool b
 | .k v=>v
 | .own g ver=>.arr g ver 0 (Q4 s g ver)
 | .part g ver off len=>.arr g ver (show AI from off).toNat (show AI from len).toNat
 | .ptr g ver off=>.ptr g ver off
 | .F5 g ver esz i off=>.ptr g ver ((show AI from i).toNat * esz+off)
 | .rp t v off=>.CP ((t.cs v).drop off)
 | .fn f caps=>.fn f (caps.map λc=>.ptr c.1 c.2.1 c.2.2)
 | .map g ver=>.map g ver
 | .yl j=>.Fu j
def AL(s:S Ty.T):V Ty.T->AV
 | .c x=>AB s x
 | .ag l=>.agg (l.map (AB s))
 | .tp l=>.Cb (l.map λp=>if p.1 then .agg (p.2.map (AB s)) else Yb (p.2.map (AB s)))
def Xm(l:AG AV)(n sz:AM)(ec:C Ty.T->AV):AH (AM×C Ty.T)->AG AV
 | none=>l
 | some (off,c)=>l.set ((n - 1) * sz+off) (ec c)
def Ty.QM:Ty->AN
 | .p _ _|.u=>AE
 | _=>AF
def EA(t:Ty)(x:t.T):AV:=if t.QM then .agg (t.cs x) else Yb (t.cs x)
def Cm(kt vt:Ty)(l:AG (kt.T×vt.T)):AG (AV×AV):=l.map λe=>(EA kt e.1,EA vt e.2)
def BD(s:S Ty.T):Ob Ty.T->AU
 | .mp ver kt vt es=>.map ver (Cm kt vt es) AF
 | .em ver _ _ _=>.map ver [] AF
 | .box ver cs=>.box ver (cs.map (AB s))
 | .lit ver esz el cs fz=>.arr ver esz el (cs.map (AB s)) fz
 | .row ver esz el t v x nest fz=>.arr ver esz el (Xm (Dj (α:=t.T) t.cs v) (List.length (α:=t.T) v) t.sz (AB s) nest++x.map (AB s)) fz
def GZ(kt vt:Ty):AM->AG (kt.T×AG vt.T)->AG (AV×AV)
 | _,[]=>[]
 | i,e::r=>(EA kt e.1,.arr (mB+i) e.2.length 0 e.2.length)::GZ kt vt (i+1) r
def JI(vt:Ty)(el:TypeId)(l:AG vt.T):AU:=.arr l.length vt.sz el (l.flatMap vt.cs) AF
def I5{α:Type}(l:AG α)(i:AM):AH α:=l[i]?
def Mo.at(m:Mo Ty.T)(g:AM):AH AU:=
 if g=m.g then AC (.map 0 (GZ m.kt m.vt 0 m.es) AF)
 else if mB<=g then (I5 (α:=m.kt.T×AG m.vt.T) m.es (g - mB)).map λe=>JI m.vt m.el e.2
 else AD
def Ef:AH (Mo Ty.T)->AM->AH AU
 | none,_=>AD
 | some m,g=>m.at g
def AA(s:S Ty.T):Heap:=λg=>match look g s.ob with
 | some o=>AC (BD s o)
 | none=>Ef s.mo g
def Ey{ι:Ty->Type}(m:AH (Mo ι))(g:AM):AN:=match m with
 | none=>AF
 | some m=>Aa m.g g || Ax mB g
def S.has{ι:Ty->Type}(s:S ι)(g:AM):AN:=(look g s.ob).isSome || Ey s.mo g
def enc(s:S Ty.T):St:=⟨λd=>AL s (s.at d),AA s⟩
inductive AK where
 | one
 | ag
 | rp
 | fr
 | ow (el:AM)
def Y3:AG Ty->Ty
 | []=>.u
 | [t]=>t
 | t::r=>.p t (Y3 r)
structure BQ where
 id:AM
 as:AG (AK×Ty)
 rs:AG (AN×Ty)
 fn:(Y3 (as.map (·.2))).T->AH (Y3 (rs.map (·.2))).T
def BQ.fresh(c:BQ):AN:=c.as.any λa=>match a.1 with|.fr=>AE|_=>AF
def pV:AG (AK×Ty)->AH AM
 | []=>AD
 | a::r=>match a.1 with
  | .ow el=>AC el
  | _=>pV r
def BQ.own(c:BQ):AH AM:=pV c.as
def Oz:AG (AN×Ty)->AM
 | [(AF,.ls t)]=>t.sz
 | _=>0
def ko(c:BQ):AH (Heap×AM)->AN
 | none=>AE
 | some m=>match m.1 0 with
  | none=>c.fresh
  | some (.arr _ esz el _ _)=>(match c.own with
   | some e=>Aa e el&&Aa esz (Oz c.rs)
   | none=>AF)
  | _=>AF
def BQ.aT(c:BQ):Ty:=Y3 (c.as.map (·.2))
def BQ.rT(c:BQ):Ty:=Y3 (c.rs.map (·.2))
inductive LE where
 | normal
 | exit (id:AM)
 | ret
 deriving DecidableEq,Inhabited
inductive Nx (A B:Type) where
 | go (s:A)
 | out (e:B)
structure HP (A B:Type) where
 e:A
 j:B
def HL(ι:Ty->Type):AG Ty->Type
 | []=>Unit
 | t::r=>HP (ι t) (HL ι r)
section
variable {ι:Ty->Type}
def lD(r:AG Ty):C U->AG Ty
 | .lf t _=>t::r
 | .part ..=>I::I::r
 | .F5 ..=>I::r
 | .rp t _ _=>t::r
 | _=>r
def IE(r:AG Ty):AG (C U)->AG Ty
 | []=>r
 | c::l=>lD (IE r l) c
def qD(r:AG Ty):AG (AN×AG (C U))->AG Ty
 | []=>r
 | (_,q)::l=>IE (qD r l) q
def vo(r:AG Ty):V U->AG Ty
 | .c x=>lD r x
 | .ag l=>IE r l
 | .tp l=>qD r l
def qE(r:AG Ty):AH (AM×C U)->AG Ty
 | none=>r
 | some (_,c)=>lD r c
def kr(r:AG Ty):Ob U->AG Ty
 | .box _ cs=>IE r cs
 | .lit _ _ _ cs _=>IE r cs
 | .row _ _ _ t _ x nest _=>.ls t::IE (qE r nest) x
 | .mp _ kt vt _=>.ls (.p kt vt)::r
 | .em ..=>r
def I8(r:AG Ty):AG (AM×V U)->AG Ty
 | []=>r
 | (_,v)::l=>vo (I8 r l) v
def KF(r:AG Ty):AG (AM×Ob U)->AG Ty
 | []=>r
 | (_,o)::l=>kr (KF r l) o
def KG(r:AG Ty):AG (AG (AM×V U))->AG Ty
 | []=>r
 | p::l=>I8 (KG r l) p
def LZ:AH (Mo U)->AG Ty
 | none=>[]
 | some m=>[.ls (.p m.kt (.ls m.vt))]
def S.lt(s:S U):AG Ty:=I8 (KG (KF (LZ s.mo) s.ob) s.lo) s.sl
def vk{r:AG Ty}:(c:C U)->HL ι (lD r c)->C ι×HL ι r
 | .any,h=>(.any,h)
 | .lf t _,h=>(.lf t h.e,h.j)
 | .kb b,h=>(.kb b,h)
 | .k v,h=>(.k v,h)
 | .own g v,h=>(.own g v,h)
 | .part g v _ _,h=>(.part g v h.e h.j.e,h.j.j)
 | .ptr g v o,h=>(.ptr g v o,h)
 | .F5 g v e _ o,h=>(.F5 g v e h.e o,h.j)
 | .rp t _ o,h=>(.rp t h.e o,h.j)
 | .fn f c,h=>(.fn f c,h)
 | .map g v,h=>(.map g v,h)
 | .yl j,h=>(.yl j,h)
def KE{r:AG Ty}:(l:AG (C U))->HL ι (IE r l)->AG (C ι)×HL ι r
 | [],h=>([],h)
 | c::l,h=>match vk c h with
  | (x,h)=>match KE l h with
   | (xs,h)=>(x::xs,h)
def vZ{r:AG Ty}:(l:AG (AN×AG (C U)))->HL ι (qD r l)->AG (AN×AG (C ι))×HL ι r
 | [],h=>([],h)
 | (b,q)::l,h=>match KE q h with
  | (x,h)=>match vZ l h with
   | (xs,h)=>((b,x)::xs,h)
def mkV{r:AG Ty}:(v:V U)->HL ι (vo r v)->V ι×HL ι r
 | .c x,h=>match vk x h with|(x,h)=>(.c x,h)
 | .ag l,h=>match KE l h with|(x,h)=>(.ag x,h)
 | .tp l,h=>match vZ l h with|(x,h)=>(.tp x,h)
def vg{r:AG Ty}:(n:AH (AM×C U))->HL ι (qE r n)->AH (AM×C ι)×HL ι r
 | none,h=>(AD,h)
 | some (o,c),h=>match vk c h with|(x,h)=>(AC (o,x),h)
def aG{r:AG Ty}:(o:Ob U)->HL ι (kr r o)->Ob ι×HL ι r
 | .box v cs,h=>match KE cs h with|(x,h)=>(.box v x,h)
 | .lit v e el cs z,h=>match KE cs h with|(x,h)=>(.lit v e el x z,h)
 | .row v e el t _ x nest fz,h=>match KE x h.j with
  | (x,d)=>match vg nest d with
   | (n,a)=>(.row v e el t h.e x n fz,a)
 | .mp v kt vt _,h=>(.mp v kt vt h.e,h.j)
 | .em v kt vt el,h=>(.em v kt vt el,h)
def PY{r:AG Ty}:(l:AG (AM×V U))->HL ι (I8 r l)->AG (AM×V ι)×HL ι r
 | [],h=>([],h)
 | (k,v)::l,h=>match mkV v h with
  | (x,h)=>match PY l h with
   | (xs,h)=>((k,x)::xs,h)
def Pb{r:AG Ty}:(l:AG (AM×Ob U))->HL ι (KF r l)->AG (AM×Ob ι)×HL ι r
 | [],h=>([],h)
 | (k,o)::l,h=>match aG o h with
  | (x,h)=>match Pb l h with
   | (xs,h)=>((k,x)::xs,h)
def WE{r:AG Ty}:(l:AG (AG (AM×V U)))->HL ι (KG r l)->AG (AG (AM×V ι))×HL ι r
 | [],h=>([],h)
 | p::l,h=>match PY p h with
  | (x,h)=>match WE l h with
   | (xs,h)=>(x::xs,h)
def qC:(m:AH (Mo U))->HL ι (LZ m)->AH (Mo ι)
 | none,_=>AD
 | some m,h=>AC ⟨m.g,m.kt,m.vt,m.el,h.e⟩
def S.mk'(sh:S U)(h:HL ι sh.lt):S ι:=
 match PY sh.sl h with
 | (sl,h)=>match WE sh.lo h with
  | (lo,h)=>match Pb sh.ob h with
   | (ob,h)=>⟨sl,lo,ob,[],qC sh.mo h⟩
def cast?(a b:Ty)(v:ι a):AH (ι b):=if h:a=b then AC (h▸v) else AD
def Ex(ι:Ty->Type):AG (LE×S U)->Type
 | []=>Empty
 | [(_,s)]=>HL ι s.lt
 | (_,s)::q::r=>HL ι s.lt ⊕ Ex ι (q::r)
end
structure D (ι:Ty->Type) (M:Type->Type) where
 int:(k:IntKind)->AI->ι (.int k)
 bool:AN->ι .bool
 str:ByteArray->ι .str
 nl:(t:Ty)->ι (.ls t)
 un:ι .u
 pr:{a b:Ty}->ι a->ι b->ι (.p a b)
 fs:{a b:Ty}->ι (.p a b)->ι a
 sn:{a b:Ty}->ι (.p a b)->ι b
 ar:BinOp->(k:IntKind)->ι (.int k)->ι (.int k)->ι (.int k)
 cm:BinOp->(k:IntKind)->ι (.int k)->ι (.int k)->ι .bool
 sh:BinOp->(k k':IntKind)->ι (.int k)->ι (.int k')->ι (.int k)
 cv:(k k':IntKind)->ι (.int k)->ι (.int k')
 mm:AN->(k k':IntKind)->ι (.int k)->ι (.int k')->ι (.int k)
 ng:(k:IntKind)->ι (.int k)->ι (.int k)
 nt:ι .bool->ι .bool
 an:ι .bool->ι .bool->ι .bool
 be:ι .bool->ι .bool->ι .bool
 ln:{t:Ty}->ι (.ls t)->ι I
 ls:ι .str->ι I
 bf:{t:Ty}->(f:AM)->ι t->ι (.bf f t)
 ub:{f:AM}->{t:Ty}->ι (.bf f t)->ι t
 pl:ι I->ι I->ι I
 mi:ι I->ι I->ι I
 ib:ι I->ι I->ι .bool
 le:ι I->ι I->ι .bool
 ft:AM->ι I->ι .bool
 cs:{t:Ty}->ι t->ι (.ls t)->ι (.ls t)
 ap:{t:Ty}->ι (.ls t)->ι (.ls t)->ι (.ls t)
 ct:{t:Ty}->ι (.ls t)->ι I->ι I->ι (.ls t)
 st:{t:Ty}->ι (.ls t)->ι I->ι t->ι (.ls t)
 rp:{t:Ty}->ι t->ι I->ι (.ls t)
 ml:{t:Ty}->ι (.ls t)->(ι t->ι t)->ι (.ls t)
 mg:{a b:Ty}->ι (.ls (.p a b))->ι a->ι b->ι b
 mf:{a b:Ty}->ι (.ls (.p a b))->ι a->ι .bool
 ms:{a b:Ty}->ι (.ls (.p a b))->ι a->ι b->ι (.ls (.p a b))
 md:{a b:Ty}->ι (.ls (.p a b))->ι a->ι (.ls (.p a b))
 br:{α:Type}->ι .bool->M α->M α->M α
 gd:{α:Type}->ι .bool->M α->M α
 no:{α:Type}->M α
 ge:{α:Type}->{t:Ty}->ι (.ls t)->ι I->(ι t->M α)->M α
 nq:{α:Type}->ι I->(ι .bool->M α)->M α
 mq:{α:Type}->{a b:Ty}->ι (.ls (.p a b))->(ι (.ls a)->M α)->M α
 call:{α:Type}->(c:BQ)->ι c.aT->(ι c.rT->M α)->M α
 join:{α:Type}->(ex:AG (LE×S U))->(cn:LE->S ι->S ι)->((LE->S ι->M (Ex Ty.T ex))->M (Ex Ty.T ex))->(LE->S ι->M α)->M α
 loop:{α:Type}->(sh:S U)->(ex:AG (LE×S U))->(cn:LE->S ι->S ι)->(S ι->(LE->S ι->M (Nx (HL Ty.T sh.lt) (Ex Ty.T ex)))->M (Nx (HL Ty.T sh.lt) (Ex Ty.T ex)))->S ι->(LE->S ι->M α)->M α
section
variable {ι:Ty->Type} {M:Type->Type} {α:Type} (d:D ι M)
def cC:AV->C ι
 | .int k n=>.lf (.int k) (d.int k n)
 | .bool b=>.kb b
 | .str s=>.lf .str (d.str s)
 | v=>.k v
def cV:AV->V ι
 | .agg l=>.ag (l.map (cC d))
 | .Cb []=>.tp []
 | .fn f []=>.c (.fn f [])
 | v=>.c (cC d v)
def ev(s:S ι):LO->V ι
 | .t n=>s.at n
 | .c v=>cV d v
def expl:(t:Ty)->ι t->AG (C ι)
 | .u,_=>[]
 | .p a b,v=>expl a (d.fs v)++expl b (d.sn v)
 | .int k,v=>[.lf (.int k) v]
 | .bool,v=>[.lf .bool v]
 | .str,v=>[.lf .str v]
 | .ls t,v=>[.lf (.ls t) v]
 | .bf f t,v=>[.lf (.bf f t) v]
def jj(t:Ty):C ι->AH (ι t)
 | .lf a v=>cast? a t v
 | .kb b=>cast? .bool t (d.bool b)
 | _=>AD
def oF:AG (C ι)->AH ((t:Ty)×ι t)
 | []=>AC ⟨.u,d.un⟩
 | .lf t v::r=>(match t with
  | .u|.p _ _=>AD
  | t=>(oF r).map λp=>⟨.p t p.1,d.pr v p.2⟩)
 | _::_=>AD
def impl(lw:(t:Ty)->C ι->AH (ι t)):(t:Ty)->AG (C ι)->AH (ι t×AG (C ι))
 | .u,l=>AC (d.un,l)
 | .p a b,l=>(impl lw a l).bind λ|(x,l)=>(impl lw b l).map λ|(y,l)=>(d.pr x y,l)
 | t,l=>match l with
  | c::l=>(lw t c).map (·,l)
  | []=>AD
def JH(lw:(t:Ty)->C ι->AH (ι t))(t:Ty):AM->AG (C ι)->AH (ι (.ls t))
 | 0,_=>AD
 | n+1,l=>match l with
  | []=>AC (d.nl t)
  | l=>(impl d lw t l).bind λ|(x,l)=>(JH lw t n l).map (d.cs x)
def KA(lw:(t:Ty)->C ι->AH (ι t))(t:Ty)(off:AM)(c:C ι)(e:ι t):ι t:=
 match impl d lw t ((expl d t e).set off c) with
 | some (x,_)=>x
 | none=>e
def H8:Ty->AM->AH Ty
 | .u,_=>AD
 | .p a b,n=>if n<a.sz then H8 a n else H8 b (n - a.sz)
 | t,n=>if n=0 then AC t else AD
def Md(lw:(t:Ty)->C ι->AH (ι t))(t:Ty)(l:ι (.ls t)):AH (AM×C ι)->AH (ι (.ls t))
 | none=>AC l
 | some (off,c)=>(H8 t off).bind λa=>(lw a c).bind λ_=>AC (d.ml l (KA d lw t off c))
def DT(lw:(t:Ty)->C ι->AH (ι t))(t:Ty):Ob ι->AH (ι (.ls t))
 | .row _ e _ a l x AD _=>if e=a.sz/\0<e then (cast? (.ls a) (.ls t) l).bind λl=>(match x with
  | []=>AC l
  | x=>(JH d lw t (x.length+1) x).map (d.ap l)) else AD
 | .lit _ e _ x _=>if e=t.sz/\0<e then JH d lw t (x.length+1) x else AD
 | _=>AD
def Zg(ob:AG (AM×Ob ι)):AM->(t:Ty)->C ι->AH (ι t)
 | 0,t,c=>jj d t c
 | n+1,t,c=>match c with
  | .k .BK=>(match t with|.ls t=>AC (d.nl t)|_=>AD)
  | .own g ver=>(match t with
   | .ls t=>(match look g ob with|some o=>if o.ver=ver then DT d (Zg ob n) t o else AD|none=>AD)
   | _=>AD)
  | c=>jj d t c
def V.cells:V ι->AG (C ι)
 | .c x=>[x]
 | .ag l=>l
 | .tp _=>[]
def C.plain:C ι->AN
 | .any=>AF
 | .lf t _=>(match t with|.u|.p _ _=>AF|_=>AE)
 | .k v=>v.one
 | _=>AE
def V.good:V ι->AN
 | .c x=>x.plain
 | .ag _=>AE
 | .tp _=>AF
def pk(ag:AN)(l:AG (C ι)):AH (V ι):=
 if ag then AC (.ag l) else match l with
 | [c]=>AC (.c c)
 | _=>AD
def Ev(l:AG (C ι))(off n:AM):AG (C ι):=(l.drop off).take n
def Li(l:AG (C ι))(off:AM)(new:AG (C ι)):AG (C ι):=l.take off++new++l.drop (off+new.length)
def BP{β:Type}(x:AH β)(k:β->M α):M α:=match x with|some v=>k v|none=>d.no
def MJ(s:S ι)(ag:AN)(n:AM)(x:V ι)(k:V ι->M α):M α:=
 match x with
 | .c (.ptr g ver off)=>(match look g s.ob with
  | some (.box v cs)=>if v=ver/\off+n<=cs.length then BP d (pk ag (Ev cs off n)) k else d.no
  | some (.lit v _ _ cs _)=>if v=ver/\off+n<=cs.length/\cs.isEmpty=AF then BP d (pk ag (Ev cs off n)) k else d.no
  | _=>d.no)
 | .c (.F5 g ver esz i off)=>(match look g s.ob with
  | some (.row v e _ t l [] nest _)=>if v=ver/\e=esz/\e=t.sz/\off+n<=e/\0<e then d.ge l i λx=>
    (match nest with
    | none=>BP d (pk ag (Ev (expl d t x) off n)) k
    | some (no,c)=>if off<=no/\no<off+n then d.gd (d.cm .eql .i64 (d.pl i (d.int .i64 1)) (d.ln l)) (BP d (pk ag (Ev ((expl d t x).set no c) off n)) k) else BP d (pk ag (Ev (expl d t x) off n)) k)
   else d.no
  | _=>d.no)
 | .c (.rp t v off)=>if off+n<=t.sz then BP d (pk ag (Ev (expl d t v) off n)) k else d.no
 | _=>d.no
def J9a(s:S ι)(n:AM)(x y:V ι)(k:S ι->M α):M α:=
 if y.cells.length≠n\/y.good=AF then d.no else
 match x with
 | .c (.ptr g ver off)=>(match look g s.ob with
  | some (.box v cs)=>if v=ver/\off+n<=cs.length then k (s.obj g (.box v (Li cs off y.cells))) else d.no
  | some (.lit v e el cs AF)=>if v=ver/\off+n<=cs.length/\cs.isEmpty=AF then k (s.obj g (.lit v e el (Li cs off y.cells) AF)) else d.no
  | _=>d.no)
 | .c (.F5 g ver esz i off)=>(match look g s.ob with
  | some (.row v e el t l [] nest AF)=>if v=ver/\e=esz/\e=t.sz/\off+n<=e/\0<e then d.ge l i λx=>
    (match nest with
    | none=>BP d (impl d (jj d) t (Li (expl d t x) off y.cells)) λ|(z,zr)=>if zr.isEmpty then k (s.obj g (.row v e el t (d.st l i z) [] AD AF)) else d.no
    | some (no,c)=>d.gd (d.cm .eql .i64 (d.pl i (d.int .i64 1)) (d.ln l)) (if off<=no/\no<off+n then
      (match y.cells[no - off]?,(expl d t x)[no]? with
      | some c',AC z0=>BP d (impl d (jj d) t (Li (expl d t x) off (y.cells.set (no - off) z0))) λ|(z,zr)=>if zr.isEmpty then k (s.obj g (.row v e el t (d.st l i z) [] (AC (no,c')) AF)) else d.no
      | _,_=>d.no)
     else BP d (impl d (jj d) t (Li (expl d t x) off y.cells)) λ|(z,zr)=>if zr.isEmpty then k (s.obj g (.row v e el t (d.st l i z) [] (AC (no,c)) AF)) else d.no))
   else d.no
  | _=>d.no)
 | _=>d.no
def MQ(k:IntKind):V ι->AH (ι (.int k))
 | .c (.lf t v)=>cast? t (.int k) v
 | _=>AD
def rX:V ι->AH IntKind
 | .c (.lf (.int k) _)=>AC k
 | _=>AD
def aQ:AN->C ι->C ι->AH (ι .bool)
 | false,.lf (.int k) a,.lf t b=>(cast? t (.int k) b).map (d.cm .eql k a)
 | true,a,b=>(jj d .bool a).bind λa=>(jj d .bool b).map (d.be a)
 | _,_,_=>AD
def Hw:AG AN->AG (C ι)->AG (C ι)->AH (ι .bool)
 | [],[],[]=>AC (d.bool AE)
 | [b],[x],[y]=>aQ d b x y
 | b::bs,x::xs,y::ys=>(aQ d b x y).bind λu=>(Hw bs xs ys).map (d.an u)
 | _,_,_=>AD
def QL:BinOp->AN
 | .eql|.neq|.lss|.leq|.gtr|.geq=>AE
 | _=>AF
def gI:BinOp->AN
 | .add|.sub|.mul|.and|.or|.xor|.andNot=>AE
 | _=>AF
def bG(e:LO->V ι):AG (C ι)->AG (AM×AM×LO)->AH (AG (C ι))
 | z,[]=>AC z
 | z,(off,n,x)::r=>
  match e x with
  | v=>if v.cells.length=n/\off+n<=z.length/\v.good=AE then bG e (Li z off v.cells) r else AD
def GN(z:AG (C ι)):AM->AG (C ι)
 | 0=>[]
 | n+1=>z++GN z n
inductive El (ι:Ty->Type) where
 | t (t:Ty) (v:ι (.ls t))
 | x (l:AG (C ι))
def elems(s:S ι)(esz:AM)(y:V ι)(k:El ι->M α):M α:=
 match y with
 | .c (.k .BK)=>k (.x [])
 | .c (.lf (.ls t) v)=>if t.sz=esz/\0<esz then k (.t t v) else d.no
 | .c (.own g ver)=>(match look g s.ob with
  | some (.row v e _ t l [] AD _)=>if v=ver/\e=esz/\t.sz=esz/\0<esz then k (.t t l) else d.no
  | some (.lit v e _ l _)=>if v=ver/\e=esz/\l.length % esz=0/\0<esz then k (.x l) else d.no
  | _=>d.no)
 | .c (.part g ver off len)=>(match look g s.ob with
  | some (.row v e _ t l [] AD _)=>if v=ver/\e=esz/\t.sz=esz/\0<esz then d.gd (d.le (d.int .i64 0) off) (d.gd (d.le (d.int .i64 0) len) (d.gd (d.le (d.pl off len) (d.ln l)) (k (.t t (d.ct l off len))))) else d.no
  | _=>d.no)
 | _=>d.no
def J26(y:El ι)(k:M α):M α:=
 match y with
 | .x []=>k
 | .x _=>d.no
 | .t _ v=>d.gd (d.cm .eql .i64 (d.ln v) (d.int .i64 0)) k
def iL(s:S ι)(g0 esz bytes:AM)(el:TypeId)(x y:V ι)(k:V ι->S ι->M α):M α:=
 elems d s esz y λy=>match x with
  | .c (.k .BK)=>if s.has g0 then d.no else
   (match y with
   | .x []=>k (.c (.k .BK)) s
   | .x l=>if 0<esz then d.gd (d.ft bytes (d.int .i64 (l.length / esz:AM))) (k (.c (.own g0 (s.nv g0+1))) (s.obj g0 (.lit (s.nv g0+1) esz el l AF))) else d.no
   | .t t v=>d.br (d.cm .eql .i64 (d.ln v) (d.int .i64 0)) (k (.c (.k .BK)) s)
     (d.gd (d.ft bytes (d.ln v)) (k (.c (.own g0 (s.nv g0+1))) (s.obj g0 (.row (s.nv g0+1) esz el t v [] AD AF)))))
  | .c (.own g ver)=>(match look g s.ob with
   | some (.row v e el' t l tl nest AF)=>
    if v=ver/\e=esz/\el'=el/\t.sz=esz/\tl.length % esz=0/\0<esz then
     (match y with
     | .x m=>
       let n:=if tl.isEmpty then d.ln l else d.pl (d.ln l) (d.int .i64 (tl.length / esz:AM))
       d.gd (d.ft bytes (d.pl n (d.int .i64 (m.length / esz:AM)))) (k (.c (.own g (v+1))) ((s.old g v n).obj g (.row (v+1) e el t l (tl++m) nest AF)))
     | .t a m=>if tl.isEmpty&&nest.isNone then BP d (cast? (.ls a) (.ls t) m) λm=>
       d.gd (d.ft bytes (d.pl (d.ln l) (d.ln m))) (k (.c (.own g (v+1))) ((s.old g v (d.ln l)).obj g (.row (v+1) e el t (d.ap l m) [] AD AF))) else d.no)
    else d.no
   | some (.lit v e el' l AF)=>
    if v=ver/\e=esz/\el'=el/\l.length % esz=0/\0<esz then
     (match y with
     | .x m=>d.gd (d.ft bytes (d.int .i64 (l.length / esz+m.length / esz:AM))) (k (.c (.own g (v+1))) ((s.old g v (d.int .i64 (l.length / esz:AM))).obj g (.lit (v+1) e el (l++m) AF)))
     | .t t m=>BP d (JH d (jj d) t (l.length+1) l) λf=>
       d.gd (d.ft bytes (d.pl (d.int .i64 (l.length / esz:AM)) (d.ln m))) (k (.c (.own g (v+1))) ((s.old g v (d.int .i64 (l.length / esz:AM))).obj g (.row (v+1) e el t (if l.isEmpty then m else d.ap f m) [] AD AF))))
    else d.no
   | some (.row v _ _ _ _ _ _ AE)=>if v=ver then J26 d y (k (.c (.own g ver)) s) else d.no
   | _=>d.no)
  | .c (.lf (.ls t) v)=>J26 d y (k (.c (.lf (.ls t) v)) s)
  | _=>d.no
end
section
variable {ι:Ty->Type} {M:Type->Type} {α:Type} (d:D ι M)
def S.cur(s:S ι)(g ver:AM):AN:=match look g s.ob with|some o=>o.ver==ver|none=>AF
def M0(s:S ι)(g ver:AM):AH (ι I):=
 match look g s.ob with
 | some (.row v e _ _ l x _ _)=>if v=ver then AC (if x.isEmpty then d.ln l else d.pl (d.ln l) (d.int .i64 (x.length / e))) else AD
 | some (.lit v e _ l _)=>if v=ver then AC (d.int .i64 (l.length / e)) else AD
 | _=>AD
def J8n(s:S ι)(x:AH LO)(z:ι I):AH (ι I):=
 match x with
 | none=>AC z
 | some x=>MQ .i64 (ev d s x)
def bH(s:S ι)(lo hi:AH LO)(n:ι I)(k:ι I->ι I->M α):M α:=
 BP d (J8n d s lo (d.int .i64 0)) λa=>BP d (J8n d s hi n) λb=>
  let t3:=if hi.isNone then k a b else d.gd (d.le b n) (k a b);let f:=if lo.isNone/\hi.isNone then t3 else d.gd (d.le a b) t3
  if lo.isNone then f else d.gd (d.le (d.int .i64 0) a) f
def dX(s:S ι)(esz:AM)(x:V ι)(lo hi:AH LO)(k:V ι->M α):M α:=
 match x with
 | .c (.lf (.ls t) v)=>if t.sz=esz then bH d s lo hi (d.ln v) λa b=>k (.c (.lf (.ls t) (d.ct v a (if lo.isNone then b else d.mi b a)))) else d.no
 | .c (.own g ver)=>(match look g s.ob with
  | some (.row v e _ _ _ _ _ _)=>if v=ver/\e=esz then BP d (M0 d s g ver) λn=>bH d s lo hi n λa b=>k (.c (.part g ver a (if lo.isNone then b else d.mi b a))) else d.no
  | some (.lit v e _ _ _)=>if v=ver/\e=esz then BP d (M0 d s g ver) λn=>bH d s lo hi n λa b=>k (.c (.part g ver a (if lo.isNone then b else d.mi b a))) else d.no
  | _=>d.no)
 | .c (.part g ver off len)=>(match look g s.ob with
  | some (.row v e _ _ _ _ _ _)=>if v=ver/\e=esz then d.gd (d.le (d.int .i64 0) off) (d.gd (d.le (d.int .i64 0) len) (bH d s lo hi len λa b=>k (.c (.part g ver (if lo.isNone then off else d.pl off a) (if lo.isNone then b else d.mi b a))))) else d.no
  | _=>d.no)
 | .c (.k .BK)=>bH d s lo hi (d.int .i64 0) λ_ _=>k (.c (.k .BK))
 | _=>d.no
def vH(i:ι I)(k:AM->M α):AM->AM->M α
 | _,0=>d.no
 | j,n+1=>d.br (d.cm .eql .i64 i (d.int .i64 j)) (k j) (vH i k (j+1) n)
def XY(ob:AG (AM×Ob ι))(t:Ty)(l:AG (C ι)):AH (ι t):=(impl d (Zg d ob 4) t l).bind λ|(x,r)=>if r.isEmpty then AC x else AD
def LU(ob:AG (AM×Ob ι))(t:Ty)(c:C ι)(k:ι t->M α):M α:=
 match c with
 | .part g ver off len=>(match look g ob with
  | some (.row v e _ a l [] AD _)=>if v=ver/\e=a.sz/\0<e then BP d (cast? (.ls a) t (d.ct l off len)) λy=>d.gd (d.le (d.int .i64 0) off) (d.gd (d.le (d.int .i64 0) len) (d.gd (d.le (d.pl off len) (d.ln l)) (k y))) else d.no
  | _=>d.no)
 | c=>BP d (Zg d ob 4 t c) k
def IV(ob:AG (AM×Ob ι))(a:AK×Ty)(v:V ι)(k:ι a.2->M α):M α:=
 match a.1,v with
 | .one,.c c=>LU d ob a.2 c k
 | .fr,.c c=>LU d ob a.2 c k
 | .ow _,.c c=>LU d ob a.2 c k
 | .ag,.ag l=>BP d (XY d ob a.2 l) k
 | .rp,.c (.rp t v 0)=>BP d (cast? t a.2 v) k
 | .rp,.c (.ptr g ver 0)=>(match look g ob with
  | some (.box v cs)=>if v=ver then BP d (XY d ob a.2 cs) k else d.no
  | _=>d.no)
 | _,_=>d.no
def oK(ob:AG (AM×Ob ι)):(as:AG (AK×Ty))->AG (V ι)->(ι (Y3 (as.map (·.2)))->M α)->M α
 | [],[],k=>k d.un
 | [a],[v],k=>IV d ob a v k
 | a::b::r,v::w,k=>IV d ob a v λx=>oK ob (b::r) w λy=>k (d.pr x y)
 | _,_,_=>d.no
def Kq(ob:AG (AM×Ob ι)):AM->C ι->AG AM
 | n,.own g _=>g::(match n with|0=>[]|n+1=>(match look g ob with
  | some (.row _ _ _ _ _ x nest _)=>x.flatMap (Kq ob n)++(match nest with|some p=>Kq ob n p.2|none=>[])
  | some (.lit _ _ _ x _)=>x.flatMap (Kq ob n)
  | _=>[]))
 | n,.part g _ _ _=>g::(match n with|0=>[]|n+1=>(match look g ob with
  | some (.row _ _ _ _ _ x nest _)=>x.flatMap (Kq ob n)++(match nest with|some p=>Kq ob n p.2|none=>[])
  | some (.lit _ _ _ x _)=>x.flatMap (Kq ob n)
  | _=>[]))
 | _,_=>[]
def J8(s:S ι):AG AM->S ι
 | []=>s
 | g::r=>match look g s.ob with
  | some (.row v e el t l x nest _)=>J8 (s.obj g (.row v e el t l x nest AE)) r
  | some (.lit v e el x _)=>J8 (s.obj g (.lit v e el x AE)) r
  | _=>J8 s r
def Ty.flat:Ty->AN
 | .ls _|.bf _ _=>AF
 | .p a b=>a.flat&&b.flat
 | _=>AE
def TG(b:AN)(t:Ty)(v:ι t):AN×AG (C ι):=(b,expl d t v)
def Sq:AN×AG (C ι)->V ι
 | (AE,l)=>.ag l
 | (AF,[c])=>.c c
 | _=>.c .any
def z8:(rs:AG (AN×Ty))->ι (Y3 (rs.map (·.2)))->AG (AN×AG (C ι))
 | [],_=>[]
 | [a],v=>[TG d a.1 a.2 v]
 | a::b::r,v=>TG d a.1 a.2 (d.fs v)::z8 (b::r) (d.sn v)
def MU(rs:AG (AN×Ty))(v:ι (Y3 (rs.map (·.2)))):V ι:=
 match z8 d rs v with
 | [p]=>Sq p
 | l=>.tp l
def YS:V ι->AN
 | .c (.ptr ..)=>AE
 | _=>AF
def aV(c:BQ)(f:FuncId)(args:AG LO)(s:S ι)(g0:AM)(vs:AG (V ι))(k:CO->V ι->S ι->M α):M α:=
 oK d s.ob c.as vs λa=>
  let ns:=vs.flatMap λv=>v.cells.flatMap (Kq s.ob 4);let flat:=c.rs.all λr=>r.2.flat
  match c.own with
  | some el=>if vs.any YS then d.no else if ns.isEmpty/\s.has g0=AF then d.call c a λr=>(match MU d c.rs r with
   | .c (.lf (.ls t) l)=>if 0<t.sz/\t.sz=Oz c.rs then k (.FH f args t.sz el) (.c (.own g0 0)) (s.obj g0 (.row 0 t.sz el t l [] AD AF)) else d.no
   | _=>d.no) else d.no
  | none=>
  if vs.any YS then (if flat then d.call c a λr=>k (.FW f args) (MU d c.rs r) s else d.no)
  else if ns.isEmpty || flat || c.fresh then d.call c a λr=>k (.Co f args) (MU d c.rs r) s
  else d.call c a λr=>k (.Et f args) (MU d c.rs r) (J8 s ns)
def Fa{β γ:Type}(f:β->AH γ):AG β->AH (AG γ)
 | []=>AC []
 | x::r=>(f x).bind λy=>(Fa f r).map (y::·)
def Ty.vw:Ty->AG AN
 | .int _=>[AF]
 | .bool=>[AE]
 | .p a b=>a.vw++b.vw
 | _=>[]
def Ty.key:Ty->AN
 | .int _|.bool|.u=>AE
 | .p a b=>a.key&&b.key
 | _=>AF
def JD:AG AN->AG AN->AN
 | [],[]=>AE
 | true::a,AE::b=>JD a b
 | false::a,AF::b=>JD a b
 | _,_=>AF
def Il(ag:AN)(t:Ty)(v:V ι):AH (ι t):=
 match ag,v with
 | true,.ag l=>(impl d (jj d) t l).bind λ|(x,r)=>if r.isEmpty then AC x else AD
 | false,.c c=>jj d t c
 | _,_=>AD
def NT:(t:Ty)->AV->AH (ι t)
 | .ls t,.CF 0 []=>AC (d.nl t)
 | t,z=>jj d t (cC d z)
def LX(s:S ι)(v:V ι):AH (AM×AM×(kt:Ty)×(vt:Ty)×ι (.ls (.p kt vt))):=
 match v with
 | .c (.map g ver)=>(match look g s.ob with
  | some (.mp w kt vt es)=>if w=ver then AC ⟨g,w,kt,vt,es⟩ else AD
  | _=>AD)
 | _=>AD
def MK(ag:AN)(sh:AG AN)(t:Ty):AN:=(ag==t.QM)&&JD sh t.vw&&t.key&&(ag || Aa t.sz 1)
def Ty.eY:Ty->AN
 | .u|.p _ _=>AF
 | _=>AE
def iD(s:S ι)(esz:AM)(x y:V ι)(k:V ι->S ι->M α):M α:=match x,y with
 | .c (.part g ver off n),.c (.part f ver' off' a)=>(match look g s.ob with
  | some (.row v e el t l [] AD AF)=>if g=f/\v=ver/\v=ver'/\e=esz/\t.sz=esz/\0<esz then
    d.gd (d.ib (d.int .i64 0) (d.ln l)) (d.gd (d.le (d.int .i64 0) off) (d.gd (d.le (d.int .i64 0) n) (d.gd (d.le (d.pl off n) (d.ln l))
     (d.gd (d.le (d.int .i64 0) off') (d.gd (d.le (d.int .i64 0) a) (d.gd (d.le (d.pl off' a) (d.ln l))
      (k (.c (.lf I (d.mm AF .i64 .i64 a n))) (s.obj g (.row v e el t (d.ap (d.ct l (d.int .i64 0) off) (d.ap (d.ct l off' (d.mm AF .i64 .i64 a n)) (d.ct l (d.pl off (d.mm AF .i64 .i64 a n)) (d.mi (d.ln l) (d.pl off (d.mm AF .i64 .i64 a n)))))) [] AD AF)))))))))
   else d.no
  | _=>d.no)
 | _,_=>d.no
def eX(Γ:FuncId->AH BQ)(ty:TypeId->AH Ty)(s:S ι)(g0:AM)(op:CO)(k:CO->V ι->S ι->M α):M α:=
 match op with
 | .fH x=>k op (ev d s x) s
 | .pick c a b=>(match ev d s c with
  | .c (.kb t)=>k op (if t then ev d s a else ev d s b) s
  | _=>d.no)
 | .alloc z=>if s.has g0=AE then d.no else k op (.c (.ptr g0 (s.nv g0) 0)) (s.obj g0 (.box (s.nv g0) (z.map (cC d))))
 | .box x=>(match ev d s x with
  | v=>if s.has g0=AE\/v.good=AF then d.no else k op (.c (.ptr g0 (s.nv g0) 0)) (s.obj g0 (.box (s.nv g0) v.cells)))
 | .build z ps=>BP d (bG (ev d s) (z.map (cC d)) ps) λl=>k op (.ag l) s
 | .Eb n esz el z ps=>BP d (bG (ev d s) (GN (z.map (cC d)) n) ps) λl=>
   if l.length=n * esz/\0<esz/\s.has g0=AF then k op (.c (.own g0 (s.nv g0))) (s.obj g0 (.lit (s.nv g0) esz el l AF)) else d.no
 | .load ag n x=>MJ d s ag n (ev d s x) λv=>k op v s
 | .store n x y=>J9a d s n (ev d s x) (ev d s y) λs'=>k op (.c .any) s'
 | .KI o x y=>BP d (rX (ev d s x)) λkk=>BP d (MQ kk (ev d s x)) λa=>BP d (MQ kk (ev d s y)) λb=>
   if QL o then k op (.c (.lf .bool (d.cm o kk a b))) s
   else if gI o then k op (.c (.lf (.int kk) (d.ar o kk a b))) s
   else (match o with
   | .quo|.rem=>d.gd (d.cm .neq kk b (d.int kk 0)) (k op (.c (.lf (.int kk) (d.ar o kk a b))) s)
   | _=>d.no)
 | .eqv ne ag sh x y=>(match ag,ev d s x,ev d s y with
  | true,.ag l,.ag m=>BP d (Hw d sh l m) λb=>k op (.c (.lf .bool (if ne then d.nt b else b))) s
  | false,.c u,.c v=>BP d (Hw d sh [u] [v]) λb=>k op (.c (.lf .bool (if ne then d.nt b else b))) s
  | _,_,_=>d.no)
 | .un o x=>(match o,ev d s x with
  | .not,.c (.kb b)=>k op (.c (.kb !b)) s
  | .not,.c (.lf .bool b)=>k op (.c (.lf .bool (d.nt b))) s
  | .neg,.c (.lf (.int kk) v)=>k op (.c (.lf (.int kk) (d.ng kk v))) s
  | _,_=>d.no)
 | .conv kk x=>(match ev d s x with
  | .c (.lf (.int k') v)=>k op (.c (.lf (.int kk) (d.cv k' kk v))) s
  | _=>d.no)
 | .Eo x=>(match ev d s x with
  | .c (.ptr g v o)=>if s.cur g v then k op (.c (.ptr g v o)) s else d.no
  | .c (.F5 g v e i o)=>if s.cur g v then k op (.c (.F5 g v e i o)) s else d.no
  | .c (.rp t v o)=>k op (.c (.rp t v o)) s
  | .c (.fn f c)=>k op (.c (.fn f c)) s
  | .c (.lf (.bf f t) v)=>k op (.c (.lf (.bf f t) v)) s
  | _=>d.no)
 | .Me f x=>(match ev d s x with
  | .ag l=>BP d (oF d l) λp=>k op (.c (.lf (.bf f p.1) (d.bf f p.2))) s
  | _=>d.no)
 | .LY f caps=>BP d (Fa (λx=>match ev d s x with|.c (.ptr g v o)=>AC (g,v,o)|_=>AD) caps) λl=>k op (.c (.fn f l)) s
 | .mkS esz bytes el z l c=>(match l,c with
  | .t a,.t b=>if a=b then BP d (MQ .i64 (ev d s l)) λn=>BP d (ty el) λt=>BP d (impl d (jj d) t (z.map (cC d))) λzz=>(match zz with
    | (h,zr)=>if t.sz=esz/\zr.isEmpty/\z.length=esz/\0<esz/\s.has g0=AF then d.gd (d.le (d.int .i64 0) n) (d.gd (d.ft bytes n) (k op (.c (.own g0 (s.nv g0))) (s.obj g0 (.row (s.nv g0) esz el t (d.rp h n) [] AD AF)))) else d.no)
   else d.no
  | .c (.int _ a),.c (.int _ b)=>if a=b/\0<=a/\a * bytes<=room/\a<=9223372036854775807/\z.length=esz/\0<esz/\s.has g0=AF then k op (.c (.own g0 (s.nv g0))) (s.obj g0 (.lit (s.nv g0) esz el (GN (z.map (cC d)) a.toNat) AF)) else d.no
  | _,_=>d.no)
 | .slc esz x lo hi=>dX d s esz (ev d s x) lo hi λv=>k op v s
 | .Es off x=>(match ev d s x with
  | .c (.ptr g v o)=>if s.cur g v then k op (.c (.ptr g v (o+off))) s else d.no
  | .c (.F5 g v e i o)=>if s.cur g v then k op (.c (.F5 g v e i (o+off))) s else d.no
  | .c (.rp t v o)=>k op (.c (.rp t v (o+off))) s
  | _=>d.no)
 | .lF ag off n x=>(match ev d s x with
  | .ag l=>if off+n<=l.length then BP d (pk ag (Ev l off n)) λv=>k op v s else d.no
  | _=>d.no)
 | .Er esz x i=>BP d (MQ .i64 (ev d s i)) λi=>(match ev d s x with
  | .c (.lf (.ls t) v)=>if t.sz=esz then d.ge v i λz=>k op (.c (.rp t z 0)) s else d.no
  | .c (.own g ver)=>(match look g s.ob with
   | some (.row v e _ _ _ _ _ _)=>if v=ver/\e=esz then BP d (M0 d s g ver) λn=>d.gd (d.ib i n) (k op (.c (.F5 g ver esz i 0)) s) else d.no
   | _=>d.no)
  | .c (.part g ver off len)=>(match look g s.ob with
   | some (.row v e _ _ _ _ _ _)=>if v=ver/\e=esz then d.gd (d.le (d.int .i64 0) off) (d.gd (d.ib i len) (k op (.c (.F5 g ver esz (d.pl off i) 0)) s)) else d.no
   | _=>d.no)
  | _=>d.no)
 | .EP len esz x i=>(match ev d s x with
  | .c (.ptr g v o)=>if s.cur g v then (match i with
   | .c (.int _ n)=>if 0<=n/\n<len then k op (.c (.ptr g v (o+n.toNat * esz))) s else d.no
   | i=>BP d (MQ .i64 (ev d s i)) λi=>vH d i (λj=>k op (.c (.ptr g v (o+j * esz))) s) 0 len) else d.no
  | _=>d.no)
 | .idx len esz ag x i=>(match ev d s x with
  | .ag l=>(match i with
   | .c (.int _ n)=>if 0<=n/\n<len/\n.toNat * esz+esz<=l.length then BP d (pk ag (Ev l (n.toNat * esz) esz)) λv=>k op v s else d.no
   | i=>BP d (MQ .i64 (ev d s i)) λi=>vH d i (λj=>if j * esz+esz<=l.length then BP d (pk ag (Ev l (j * esz) esz)) λv=>k op v s else d.no) 0 len)
  | _=>d.no)
 | .ext x i=>(match ev d s x with
  | .tp l=>BP d l[i]? λp=>(match p with
   | (AE,cs)=>k op (.ag cs) s
   | (AF,[c])=>k op (.c c) s
   | _=>d.no)
  | _=>d.no)
 | .len x=>(match ev d s x with
  | .c (.lf (.ls _) v)=>k op (.c (.lf I (d.ln v))) s
  | .c (.own g ver)=>BP d (M0 d s g ver) λn=>k op (.c (.lf I n)) s
  | .c (.part g ver _ n)=>BP d (M0 d s g ver) λ_=>d.gd (d.le (d.int .i64 0) n) (k op (.c (.lf I n)) s)
  | .c (.k .BK)=>k op (.c (.lf I (d.int .i64 0))) s
  | _=>d.no)
 | .Ik x=>(match ev d s x with
  | .c (.lf .str v)=>k op (.c (.lf I (d.ls v))) s
  | _=>d.no)
 | .app esz bytes el _ x y=>iL d s g0 esz bytes el (ev d s x) (ev d s y) (k op)
 | .Co f args=>BP d (Γ f) λc=>aV d c f args s g0 (args.map (ev d s)) k
 | .dY o x y=>BP d (rX (ev d s x)) λkk=>BP d (MQ kk (ev d s x)) λa=>BP d (rX (ev d s y)) λk'=>BP d (MQ k' (ev d s y)) λb=>
   (match o with
   | .shl|.shr=>d.gd (d.cm .geq k' b (d.int k' 0)) (k op (.c (.lf (.int kk) (d.sh o kk k' a b))) s)
   | _=>d.no)
 | .mm mx x y=>BP d (rX (ev d s x)) λkk=>BP d (MQ kk (ev d s x)) λa=>BP d (rX (ev d s y)) λk'=>BP d (MQ k' (ev d s y)) λb=>
   k op (.c (.lf (.int kk) (d.mm mx kk k' a b))) s
 | .fJ kt vt el=>BP d (ty kt) λkt=>BP d (ty vt) λvt=>if s.has g0=AE then d.no else
   (match ty (1000000000+el),vt with
   | some _,.ls vt=>if s.mo.isSome\/Ax mB g0=AE\/vt.sz=0\/(s.ob.any λp=>Ax mB p.1)=AE then d.no else k op (.c (.k (.map g0 0))) ⟨s.sl,s.lo,s.ob,s.ln,AC ⟨g0,kt,vt,el,d.nl _⟩⟩
   | _,vt=>k op (.c (.map g0 (s.nv g0))) (s.obj g0 (.em (s.nv g0) kt vt el)))
 | .look ok ag sh z x y=>(match LX s (ev d s x) with
  | some ⟨_,_,kt,vt,es⟩=>if MK ag sh kt=AE/\vt.eY=AE then BP d (Il d ag kt (ev d s y)) λy=>BP d (NT d vt z) λz=>
    if ok then k op (.tp [(AF,[.lf vt (d.mg es y z)]),(AF,[.lf .bool (d.mf es y)])]) s else k op (.c (.lf vt (d.mg es y z))) s
   else d.no
  | none=>d.no)
 | .LJ ag sh x y z=>(match LX s (ev d s x) with
  | some ⟨g,w,kt,vt,es⟩=>if MK ag sh kt=AE/\vt.eY=AE then BP d (Il d ag kt (ev d s y)) λy=>BP d (Il d AF vt (ev d s z)) λz=>
    k op (.c .any) (s.obj g (.mp w kt vt (d.ms es y z)))
   else d.no
  | none=>d.no)
 | .Mf ag sh x y=>(match LX s (ev d s x) with
  | some ⟨g,w,kt,vt,es⟩=>if MK ag sh kt=AE then BP d (Il d ag kt (ev d s y)) λy=>k op (.tp []) (s.obj g (.mp w kt vt (d.md es y))) else d.no
  | none=>d.no)
 | .lI esz x y=>iD d s esz (ev d s x) (ev d s y) (k op)
 | .F8 x=>(match LX s (ev d s x) with
  | some ⟨_,_,_,_,es⟩=>k op (.c (.lf I (d.ln es))) s
  | none=>d.no)
 | .Ep ne x=>(match ev d s x with
  | .c (.k .BK)=>k op (.c (.kb !ne)) s
  | .c (.lf (.ls _) v)=>d.gd (d.cm .gtr .i64 (d.ln v) (d.int .i64 0)) (k op (.c (.kb ne)) s)
  | .c (.own g ver)=>BP d (M0 d s g ver) λn=>d.gd (d.cm .gtr .i64 n (d.int .i64 0)) (k op (.c (.kb ne)) s)
  | _=>d.no)
 | _=>d.no
end
inductive LC where
 | skip
 | reg (draw:AN) (id:AM) (ops:Array Oper) (l:AG (AM×AP))
 | seq (a b:LC)
 | cond (c:LO) (a b:LC)
 | blk (id:AM) (b:LC)
 | loop (b:LC)
 | exit (id:AM)
 | ret
 | rng (g:LO) (ps:AG AM) (a b:LC)
 | keys (id:AM) (el:TypeId) (bytes:AM)
 deriving Inhabited
def lY:AG AM->AN
 | []=>AE
 | x::r=>!EY x r&&lY r
inductive Fh where
 | mv (x:AM)
 | wC (x:AM)
 | range (t:TypeId) (x:AM)
 | next (x:AM)
 | ext (x i:AM)
 | entry (x:AM)
 | alloc (t:TypeId)
 | store (t:TypeId) (x y:AM)
 | load (t:TypeId) (x:AM)
 | lit (t:TypeId) (x:AM)
 | app (t:TypeId) (x y:AM)
def Fh.op:Fh->Op
 | .mv x=>.move (.tmp x)
 | .wC x=>.assign (.tmp x)
 | .range t x=>.range t (.tmp x)
 | .next x=>.next (.tmp x) AF
 | .ext x i=>.extract (.tmp x) i
 | .entry x=>.entry (.tmp x)
 | .alloc t=>.alloc t
 | .store t x y=>.store t (.tmp x) (.tmp y)
 | .load t x=>.load t (.tmp x)
 | .lit t x=>.buildSlice t 1 #[(0,.tmp x)]
 | .app t x y=>.call ⟨.builtin .append,#[.tmp x,.tmp y],#[t,t]⟩
def Fh.is:Fh->Op->AN
 | .mv x,.move (.tmp y)=>Aa x y
 | .wC x,.assign (.tmp y)=>Aa x y
 | .range t x,.range u (.tmp y)=>Aa t u&&Aa x y
 | .next x,.next (.tmp y) AF=>Aa x y
 | .ext x i,.extract (.tmp y) j=>Aa x y&&Aa i j
 | .entry x,.entry (.tmp y)=>Aa x y
 | .alloc t,.alloc u=>Aa t u
 | .store t x y,.store u (.tmp d) (.tmp a)=>Aa t u&&Aa x d&&Aa y a
 | .load t x,.load u (.tmp y)=>Aa t u&&Aa x y
 | .lit t x,.buildSlice u n ps=>Aa t u&&Aa n 1&&(match ps.toList with | [(0,.tmp y)]=>Aa x y|_=>AF)
 | .app t x y,.call ⟨.builtin .append,as,ts⟩=>(match as.toList,ts.toList with | [.tmp d,.tmp a],[u,f]=>Aa x d&&Aa y a&&Aa t u&&Aa t f|_,_=>AF)
 | _,_=>AF
def Rk:AH AM->AH AM->AN
 | none,AD=>AE
 | some a,AC b=>Aa a b
 | _,_=>AF
def ZB:AG (AH AM×Fh)->AG Oper->AN
 | [],[]=>AE
 | p::l,o::r=>Rk p.1 o.dst&&p.2.is o.op&&(match o.guard with|none=>AE|_=>AF)&&ZB l r
 | _,_=>AF
def Mv(l:AG Oper)(i:AM):TypeId:=match l[i]? with
 | some o=>(match o.op with|.range t _=>t|.alloc t=>t|.buildSlice t _ _=>t|_=>0)
 | none=>0
def P7(P:Program)(mt kT rT:TypeId):AH AM:=
 match P.underlying mt,P.underlying rT,P.info? kT,Cn P kT with
 | some (.map _ _),AC (.slice e),AC i,AC AE=>if Aa e kT&&Aa i.size 2&&i.zero.isSome&&(zc P kT).isSome then AC i.bytes else AD
 | _,_,_,_=>AD
def lg(P:Program)(nt:AM):Code->Code->AH LC
 | .region m f AF,.block n (.loop (.seq (.region _ g AF) (.seq (.cond (.tmp c) .skip (.exit l)) (.block h (.seq (.region _ a AF) (.region _ d AF))))))=>
  match P7 P (Mv f.toList 1) (Mv a.toList 2) (Mv d.toList 2) with
  | some by'=>
   if Aa c 17&&Aa n l&&!Aa h n&&Ax 24 nt &&
    ZB [(AC 14,.mv 3),(AC 15,.range (Mv f.toList 1) 14)] f.toList &&
    ZB [(AC 16,.next 15),(AC 17,.ext 16 0)] g.toList &&
    ZB [(AC 18,.entry 15),(AC 19,.ext 18 0),(AC 5,.alloc (Mv a.toList 2)),(AD,.store (Mv a.toList 2) 5 19)] a.toList &&
    ZB [(AC 20,.mv 4),(AC 21,.load (Mv a.toList 2) 5),(AC 22,.lit (Mv d.toList 2) 21),(AC 23,.app (Mv d.toList 2) 20 22),(AC 4,.wC 23)] d.toList
   then AC (.keys m (Mv a.toList 2) by') else AD
  | none=>AD
 | _,_=>AD
def FY(P:Program)(nt:AM):Code->AH LC
 | .skip=>AC .skip
 | .region id ops draw=>(Iw P [] nt ops (List.range ops.size)).map (.reg draw id ops)
 | .seq a b=>match lg P nt a b with
  | some l=>AC l
  | none=>(FY P nt a).bind λa=>(FY P nt b).map (.seq a)
 | .scope b=>FY P nt b
 | .label _=>AC .skip
 | .cond c a b=>(ED c).bind λc=>(FY P nt a).bind λa=>(FY P nt b).map (.cond c a)
 | .block id b=>(FY P nt b).map (.blk id)
 | .loop b=>(FY P nt b).map .loop
 | .exit id=>AC (.exit id)
 | .ret=>AC .ret
 | .rangeFunc g ps a b=>(ED g).bind λg=>(FY P nt a).bind λa=>(FY P nt b).bind λb=>if (ps.toList.all λt=>Nat.blt t nt)&&lY ps.toList then AC (.rng g ps.toList a b) else AD
 | _=>AD
def lV(P:Program):ResultVar->AH RV
 | .tmp t=>AC (.tmp t)
 | .cell t ty=>(Cn P ty).bind λag=>(FJ P ty).bind λn=>if ag\/n=1 then AC (.cell t ag n) else AD
structure LF where
 np:AM
 nt:AM
 res:AG RV
 body:LC
def vM(P:Program)(f:FuncId):AH LF:=
 (P.funcs[f]?).bind λfn => fn.body.bind λc => if fn.name == "runtime.NumGoroutine" then AD else
  (FY P fn.ntmps c).bind λb=>(Fa (lV P) fn.results.toList).map λrs=>⟨fn.params.size+fn.nfree,fn.ntmps,rs,b⟩
def LB(P:Program):AM->TypeId->AH Ty
 | 0,_=>AD
 | n+1,t=>match P.underlying t with
  | some .bool=>AC .bool
  | some (.int k)=>AC (.int k)
  | some .string=>AC .str
  | some (.slice e)=>(LB P n e).map .ls
  | some (.struct fs)=>(Fa (λf=>LB P n f.type) fs.toList).map Y3
  | some (.array m e)=>(LB P n e).map λt=>Y3 (Dq m t)
  | _=>AD
def adds:AG AM->AG AM->AG AM
 | [],m=>m
 | x::r,m=>match EY x m with|true=>adds r m|false=>adds r (x::m)
def aS(d:AH AM)(l:AG AM):AG AM:=match d with|none=>l|some d=>l.filter λx=>!Aa x d
def jI:AG (AM×AP)->AG AM->AG AM
 | [],n=>n
 | p::r,n=>adds p.2.looks (aS p.2.dst (jI r n))
def FT:LC->AG AM->AG (AM×AG AM)->AG AM->AG AM
 | .skip,n,_,_=>n
 | .reg _ _ _ l,n,_,_=>jI l n
 | .seq a b,n,ex,rt=>FT a (FT b n ex rt) ex rt
 | .cond c a b,n,ex,rt=>adds c.tmp? (adds (FT a n ex rt) (FT b n ex rt))
 | .blk id b,n,ex,rt=>FT b n ((id,n)::ex) rt
 | .loop b,_,ex,rt=>FT b [] ex rt
 | .exit id,_,ex,_=>(look id ex).getD []
 | .ret,_,_,rt=>rt
 | .keys _ _ _,n,_,_=>adds [3,4] (aS (AC 4) n)
 | .rng g ps a b,n,_,_=>adds g.tmp? (adds ((FT a (FT b [] [] []) [] []).filter λx=>!EY x ps) n)
def RV.slot:RV->AM
 | .tmp t=>t
 | .cell t _ _=>t
section
variable {ι:Ty->Type} {M:Type->Type} {α:Type} (d:D ι M)
def nB:AM:=1000000000000000000000000000000000000000000000000000000000000
def nS(key:AM):AM:=nB+key
def nC(g j:AM):AM:=g * 4096+j
def refs:C ι->AG (AM×AM)
 | .own g v|.part g v _ _|.ptr g v _|.F5 g v _ _ _|.map g v=>[(g,v)]
 | .fn _ c=>c.map λx=>(x.1,x.2.1)
 | _=>[]
def dK(s:S ι)(nm:AM):AM->AG (AM×AM)->AG (AM×AM)->AG (AM×AM)
 | _,[],tb=>tb
 | j,(g,v)::r,tb=>dK s nm (j+1) r (if s.cur g v&&(look g tb).isNone then tb++[(g,nm+j)] else tb)
def Ng(s:S ι)(g:AM):AM->AG (C ι)->AG (AM×AM)->AG (AM×AM)
 | _,[],tb=>tb
 | j,c::r,tb=>Ng s g (j+8) r (dK s (nC g j) 0 (refs c) tb)
def Ob.kids:Ob ι->AG (C ι)
 | .box _ cs=>cs
 | .lit _ _ _ cs _=>cs
 | .row _ _ _ _ _ x nest _=>(match nest with|some p=>[p.2]|none=>[])++x
 | .mp ..=>[]
 | .em ..=>[]
def frozen(s:S ι)(g:AM):AN:=match look g s.ob with
 | some (.row _ _ _ _ _ _ _ z)=>z
 | some (.lit _ _ _ _ z)=>z
 | _=>AF
def vQ(s:S ι):AM->AG (AM×AM)->AG (AM×AM)->AG (AM×AM)
 | 0,_,tb=>tb
 | n+1,todo,tb=>match todo with
  | []=>tb
  | (g,nn)::r=>match look g s.ob with
   | some o=>if frozen s g then vQ s n r tb else
    let tb':=Ng s nn 0 o.kids tb
    vQ s n (r++tb'.drop tb.length) tb'
   | none=>vQ s n r tb
def rG(s:S ι)(b:AM):AG (AM×V ι)->AG (AM×AM)->AG (AM×AM)
 | [],tb=>tb
 | (k,.c x)::r,tb=>rG s b r (dK s (nS (b+k)) 0 (refs x) tb)
 | (k,.ag l)::r,tb=>rG s b r (Ng s (nS (b+k)) 0 l tb)
 | _::r,tb=>rG s b r tb
def kX(s:S ι)(g:AM)(c:C ι):C ι:=
 match look g s.ob with
 | some (.row _ _ _ t _ _ _ _)=>(match Zg d s.ob 4 (.ls t) c with
  | some l=>if (Kq s.ob 4 c).all (frozen s)=AE then .lf (.ls t) l else .any
  | none=>.any)
 | _=>.any
def qB(m:AH (Mo ι)):AV->AN
 | .map g v=>match m with|some m=>Aa m.g g&&Aa v 0|none=>AF
 | _=>AF
def DU(s:S ι)(tb:AG (AM×AM))(c:C ι):C ι:=
 match c with
 | .own g v=>if s.cur g v then (if frozen s g then kX d s g c else match look g tb with|some n=>.own n 0|none=>.any) else .any
 | .part g v a b=>if s.cur g v then (if frozen s g then kX d s g c else match look g tb with|some n=>.part n 0 a b|none=>.any) else .any
 | .ptr g v o=>if s.cur g v&&!frozen s g then (match look g tb with|some n=>.ptr n 0 o|none=>.any) else .any
 | .F5 g v e i o=>if s.cur g v&&!frozen s g then (match look g tb with|some n=>.F5 n 0 e i o|none=>.any) else .any
 | .map g v=>if s.cur g v&&!frozen s g then (match look g tb with|some n=>.map n 0|none=>.any) else .any
 | .fn f l=>(match Fa (λx:AM×AM×AM=>if s.cur x.1 x.2.1&&!frozen s x.1 then (look x.1 tb).map λn=>(n,0,x.2.2) else AD) l with
  | some l=>.fn f l
  | none=>.any)
 | .k v=>if v.flat || qB s.mo v then .k v else .any
 | c=>c
def LQ(s:S ι)(tb:AG (AM×AM)):V ι->V ι
 | .c x=>.c (DU d s tb x)
 | .ag l=>.ag (l.map (DU d s tb))
 | .tp l=>.tp (l.map λ|(b,q)=>(b,q.map (DU d s tb)))
def GQ(s:S ι)(tb:AG (AM×AM)):Ob ι->Ob ι
 | .box _ cs=>.box 0 (cs.map (DU d s tb))
 | .lit _ e el cs z=>.lit 0 e el (cs.map (DU d s tb)) z
 | .row _ e el t v x nest z=>.row 0 e el t v (x.map (DU d s tb)) (nest.map λ|(o,c)=>(o,DU d s tb c)) z
 | .mp _ kt vt es=>.mp 0 kt vt es
 | .em _ kt vt el=>.em 0 kt vt el
def ND(s:S ι)(tb:AG (AM×AM)):AG (AM×AM)->AG (AM×Ob ι)
 | []=>[]
 | (g,nn)::r=>match look g s.ob with
  | some o=>if frozen s g then ND s tb r else (nn,GQ d s tb o)::ND s tb r
  | none=>ND s tb r
def kept(sl:AG (AM×V ι)):AG AM->AG (AM×V ι)
 | []=>[]
 | k::r=>match look k sl with|some v=>(k,v)::kept sl r|none=>kept sl r
def ZW(s:S ι):AM->AG (AG (AM×V ι))->AG (AM×AM)->AG (AM×AM)
 | _,[],tb=>tb
 | n,l::r,tb=>ZW s (n+1) r (rG s (n * 4096) l tb)
def YO(s:S ι)(tb:AG (AM×AM)):AG (AM×V ι)->AG (AM×V ι)
 | []=>[]
 | (k,v)::r=>(k,LQ d s tb v)::YO s tb r
def R5(s:S ι)(sl:AG (AM×V ι))(tb0:AG (AM×AM)):S ι:=
 let tb:=vQ s 300 tb0 tb0
 if lY (tb.map (·.1))&&lY (tb.map (·.2))&&tb.all (λp=>!Ey s.mo p.1&&!Ey s.mo p.2) then ⟨YO d s tb sl,s.lo.map (YO d s tb),ND d s tb tb,[],s.mo⟩
 else ⟨[],s.lo.map (λ_=>[]),[],[],AD⟩
def Lf(keep:AG AM)(s:S ι):S ι:=
 let sl:=kept s.sl keep
 R5 d s sl (ZW s 1 s.lo (rG s 0 sl []))
def qN(x:AM):AG AM->AG AM
 | []=>[x]
 | y::r=>match Ax x y with
  | true=>(match Aa x y with|true=>y::r|false=>x::y::r)
  | false=>y::qN x r
def Ib:AG AM->AG AM
 | []=>[]
 | x::r=>qN x (Ib r)
def hasX(ob:AG (AM×Ob ι))(g:AM):AN:=match look g ob with
 | some (.lit ..)=>AE
 | some (.row _ _ _ _ _ x _ _)=>!x.isEmpty
 | some (.em ..)=>AE
 | _=>AF
def hasN(ob:AG (AM×Ob ι))(g:AM):AN:=match look g ob with
 | some (.row _ _ _ _ _ _ (AC _) _)=>AE
 | _=>AF
def TT(e:AM)(x:AG (C ι)):AH (AM×C ι):=
 go 0 (x.drop (x.length - e))
where go:AM->AG (C ι)->AH (AM×C ι)
 | _,[]=>AD
 | j,.own g v::_=>AC (j,.own g v)
 | j,.k .BK::_=>AC (j,.k .BK)
 | j,_::r=>go (j+1) r
def iy(x:AG (C ι))(j:AM):AG (C ι):=x.set j (.k .BK)
def KV(keep:AN)(e:AM)(x:AG (C ι)):AH (AM×C ι):=if keep then TT e x else AD
def FD(keep:AN)(e:AM)(x:AG (C ι)):AG (C ι):=match KV keep e x with|some p=>iy x (x.length - e+p.1)|none=>x
def lN(ob:AG (AM×Ob ι))(nest:AH (AM×C ι)):AG AM:=match nest with|some p=>Kq ob 4 p.2|none=>[]
def ru(ty:TypeId->AH Ty)(keep:AN)(s:S ι)(g:AM):S ι:=
 match look g s.ob with
 | some (.lit v e el x z)=>(match ty el with
  | some t=>if t.sz=e/\0<e then
    (match JH d (Zg d s.ob 4) t (x.length+1) (FD keep e x) with
    | some l=>if EY g ((FD keep e x).flatMap (Kq s.ob 4)) then s else (J8 s ((FD keep e x).flatMap (Kq s.ob 4))).obj g (.row v e el t l [] (KV keep e x) z)
    | none=>s) else s
  | none=>s)
 | some (.row v e el t l x nest z)=>if x.isEmpty then (match keep,nest with
   | false,AC p=>if t.sz=e/\0<e then (match Md d (Zg d s.ob 4) t l (AC p) with
    | some l0=>if EY g (Kq s.ob 4 p.2) then s else (J8 s (Kq s.ob 4 p.2)).obj g (.row v e el t l0 x AD z)
    | none=>s) else s
   | _,_=>s) else if t.sz=e/\0<e then
   (match Md d (Zg d s.ob 4) t l nest,JH d (Zg d s.ob 4) t (x.length+1) (FD keep e x) with
   | some l0,AC a=>if EY g (lN s.ob nest++(FD keep e x).flatMap (Kq s.ob 4)) then s else (J8 s (lN s.ob nest++(FD keep e x).flatMap (Kq s.ob 4))).obj g (.row v e el t (d.ap l0 a) [] (KV keep e x) z)
   | _,_=>s) else s
 | some (.em v kt vt _)=>s.obj g (.mp v kt vt (d.nl (.p kt vt)))
 | _=>s
def news(ob:AG (AM×Ob ι))(n:AM):AG AM:=adds ((ob.take (ob.length - n)).map (·.1)) []
def mD(ty:TypeId->AH Ty)(keep:AN)(n:AM)(s:S ι):S ι:=((news s.ob n).filter (hasX s.ob)++(match keep with|true=>[]|false=>(adds (s.ob.map (·.1)) []).filter (hasN s.ob))).foldl (ru d ty keep) s
end
def QK:C U->C U->C U
 | .lf t _,.lf l _=>if t=l then .lf t () else .any
 | .lf .bool _,.kb _=>.lf .bool ()
 | .kb _,.lf .bool _=>.lf .bool ()
 | .kb a,.kb b=>if a=b then .kb a else .lf .bool ()
 | .k .BK,.k .BK=>.k .BK
 | .k .IB,.k .IB=>.k .IB
 | .k .IC,.k .IC=>.k .IC
 | .k .F6,.k .F6=>.k .F6
 | .k (.map g v),.k (.map h d)=>if g=h/\v=d then .k (.map g v) else .any
 | .k .BK,.own g v=>.own g v
 | .own g v,.k .BK=>.own g v
 | .k .BK,.lf (.ls t) _=>.lf (.ls t) ()
 | .lf (.ls t) _,.k .BK=>.lf (.ls t) ()
 | .own g v,.own h d=>if g=h/\v=d then .own g v else .any
 | .part g v _ _,.part h d _ _=>if g=h/\v=d then .part g v () () else .any
 | .ptr g v o,.ptr h d o'=>if g=h/\v=d/\o=o' then .ptr g v o else .any
 | .rp t _ o,.rp l _ o'=>if t=l/\o=o' then .rp t () o else .any
 | .fn f c,.fn f' c'=>if f=f'/\c=c' then .fn f c else .any
 | .map g v,.map h d=>if g=h/\v=d then .map g v else .any
 | .yl j,.yl m=>if j=m then .yl j else .any
 | _,_=>.any
def Kbb:AG (C U)->AG (C U)->AG (C U)
 | x::l,y::m=>QK x y::Kbb l m
 | _,_=>[]
def qJ:V U->V U->V U
 | .c x,.c y=>.c (QK x y)
 | .ag l,.ag m=>if l.length=m.length then .ag (Kbb l m) else .c .any
 | _,_=>.c .any
def qK:Ob U->Ob U->Ob U
 | .box v cs,.box _ cs'=>.box v (Kbb cs cs')
 | .row v e el t _ _ nest z,.row _ _ _ _ _ _ nest' _=>.row v e el t () [] (match nest,nest' with|some p,AC q=>AC (p.1,QK p.2 q.2)|none,n=>n|n,AD=>n) z
 | o,_=>o
def Kbp(m:AG (AM×V U)):AG (AM×V U)->AG (AM×V U)
 | []=>[]
 | p::r=>(match look p.1 m with|some v=>[(p.1,qJ p.2 v)]|none=>[])++Kbp m r
def gG(a b:AG (AM×Ob U)):AG (AM×Ob U):=
 (a.map λp=>match look p.1 b with|some o=>(p.1,qK p.2 o)|none=>p)++b.filter λp=>(look p.1 a).isNone
def QJ:AG (AG (AM×V U))->AG (AG (AM×V U))->AG (AG (AM×V U))
 | a::l,b::m=>Kbp b a::QJ l m
 | _,_=>[]
def aM(a b:S U):S U:=⟨Kbp b.sl a.sl,QJ a.lo b.lo,gG a.ob b.ob,[],a.mo⟩
def pR:V U->AG AM
 | .c x=>(refs x).map (·.1)
 | .ag l=>l.flatMap λx=>(refs x).map (·.1)
 | .tp l=>l.flatMap λq=>q.2.flatMap λx=>(refs x).map (·.1)
def trimS(s:S U):S U:=
 let used:=(s.sl++s.lo.flatten).flatMap (λp=>pR p.2)++s.ob.flatMap λp=>p.2.kids.flatMap λx=>(refs x).map (·.1)
 ⟨s.sl,s.lo,s.ob.filter λp=>EY p.1 used,[],s.mo⟩
def LM:C U->AG AM
 | .any=>[0]
 | .lf _ _=>[1]
 | .kb b=>[2,b.toNat]
 | .k _=>[3]
 | .own g v=>[4,g,v]
 | .part g v _ _=>[5,g,v]
 | .ptr g v o=>[6,g,v,o]
 | .F5 g v e _ o=>[7,g,v,e,o]
 | .rp _ _ o=>[8,o]
 | .fn f c=>9::f::c.flatMap λx=>[x.1,x.2.1,x.2.2]
 | .map g v=>[10,g,v]
 | .yl j=>[11,j]
def serV:V U->AG AM
 | .c x=>0::LM x
 | .ag l=>1::l.flatMap LM
 | .tp l=>2::l.flatMap λp=>p.2.flatMap LM
def serO:Ob U->AG AM
 | .box v cs=>0::v::cs.flatMap LM
 | .lit v _ _ cs _=>1::v::cs.flatMap LM
 | .row v _ _ _ _ x nest z=>2::v::z.toNat::x.flatMap LM++(match nest with|some p=>p.1::LM p.2|none=>[])
 | .mp v ..=>[3,v]
 | .em v ..=>[4,v]
def eqN:AG AM->AG AM->AN
 | [],[]=>AE
 | x::l,y::m=>match Aa x y with|true=>eqN l m|false=>AF
 | _,_=>AF
def pO(s:S U):AG AM:=(s.sl++s.lo.flatten).flatMap (λp=>p.1::serV p.2)++s.ob.flatMap λp=>p.1::serO p.2
section
variable {ι:Ty->Type}
def gY:C ι->C U
 | .any=>.any
 | .lf t _=>.lf t ()
 | .kb b=>.kb b
 | .k v=>.k v
 | .own g v=>.own g v
 | .part g v _ _=>.part g v () ()
 | .ptr g v o=>.ptr g v o
 | .F5 g v e _ o=>.F5 g v e () o
 | .rp t _ o=>.rp t () o
 | .fn f c=>.fn f c
 | .map g v=>.map g v
 | .yl j=>.yl j
def erV:V ι->V U
 | .c x=>.c (gY x)
 | .ag l=>.ag (l.map gY)
 | .tp l=>.tp (l.map λp=>(p.1,p.2.map gY))
def erO:Ob ι->Ob U
 | .box v cs=>.box v (cs.map gY)
 | .lit v e el cs z=>.lit v e el (cs.map gY) z
 | .row v e el t _ x nest z=>.row v e el t () (x.map gY) (nest.map λp=>(p.1,gY p.2)) z
 | .mp v kt vt _=>.mp v kt vt ()
 | .em v kt vt el=>.em v kt vt el
def wB(s:S ι):S U:=⟨s.sl.map λp=>(p.1,erV p.2),s.lo.map λl=>l.map λp=>(p.1,erV p.2),s.ob.map λp=>(p.1,erO p.2),[],s.mo.map λm=>⟨m.g,m.kt,m.vt,m.el,()⟩⟩
end
abbrev M6:=∀ {ι:Ty->Type} {M:Type->Type} {α:Type},D ι M->FuncId->AM->AG (V ι)->S ι->(V ι->S ι->M α)->M α
structure Hd where
 base:AM
 ps:AG AM
 a:LC
 b:LC
def yB:AM:=1000000000
structure GK where
 id:AM
 g:AM
 two:AN
 t:Ty
 fn:AG t.T->AH (AG t.T)
def GK.ctr(x:GK):BQ:=⟨1000000+x.id * 1000+x.g,[(.one,.ls x.t)],[(AF,.ls x.t)],x.fn⟩
structure Bi where
 run:M6
def MI(d:AM):AG (AM×Bi)->AH Bi
 | []=>AD
 | (n,v)::r=>match Aa n d with|true=>AC v|false=>MI d r
structure Cx where
 ct:FuncId->AH BQ
 ty:TypeId->AH Ty
 code:FuncId->AH LF
 keep:AM->AN
 hs:AG (AM×Hd)
 rd:AN
 so:FuncId->FuncId->AH GK
 jn:AM->AN
 bi:FuncId->AH Bi
def stat:D U (λ_=>AG (LE×S U)) where
 int _ _:=()
 bool _:=()
 str _:=()
 nl _:=()
 un:=()
 pr _ _:=()
 fs _:=()
 sn _:=()
 ar _ _ _ _:=()
 cm _ _ _ _:=()
 sh _ _ _ _ _:=()
 cv _ _ _:=()
 mm _ _ _ _ _:=()
 ng _ _:=()
 nt _:=()
 an _ _:=()
 be _ _:=()
 ln _:=()
 ls _:=()
 bf _ _:=()
 ub _:=()
 pl _ _:=()
 mi _ _:=()
 ib _ _:=()
 le _ _:=()
 ft _ _:=()
 cs _ _:=()
 ap _ _:=()
 ct _ _ _:=()
 st _ _ _:=()
 rp _ _:=()
 ml _ _:=()
 mg _ _ _:=()
 mf _ _:=()
 ms _ _ _:=()
 md _ _:=()
 br _ x y:=x++y
 gd _ x:=x
 no:=[]
 ge _ _ k:=k ()
 nq _ k:=k ()
 mq _ k:=k ()
 call _ _ k:=k ()
 join ex _ _ k:=ex.flatMap λp=>k p.1 p.2
 loop _ ex _ _ _ k:=ex.flatMap λp=>k p.1 p.2
section
variable {ι:Ty->Type} {M:Type->Type} {α:Type} (d:D ι M)
def rW(s:S ι)(o:AP)(run skip:S ι->M α):M α:=
 match o.guard with
 | none=>run s
 | some (g,want)=>(match s.at g with
  | .c (.kb b)=>if b=want then run s else skip s
  | .c (.lf .bool t)=>if want then d.br t (run (s.put (AC g) (.c (.kb AE)))) (skip (s.put (AC g) (.c (.kb AF))))
   else d.br t (skip (s.put (AC g) (.c (.kb AE)))) (run (s.put (AC g) (.c (.kb AF))))
  | .tp []=>skip s
  | _=>d.no)
def vG(s:S ι)(o:CO)(run:S ι->M α):M α:=
 match o with
 | .pick (.t n) _ _=>(match s.at n with
  | .c (.lf .bool t)=>d.br t (run (s.put (AC n) (.c (.kb AE)))) (run (s.put (AC n) (.c (.kb AF))))
  | _=>run s)
 | _=>run s
def vK(cx:Cx)(base:AM)(s:S ι)(o:AP)(k:CO->S ι->M α):M α:=
 rW d s o (λs=>vG d s o.op λs=>eX d cx.ct cx.ty s (base+o.dst.getD 0) o.op λop v s'=>k op (s'.put o.dst v)) (λs=>k o.op (s.put o.dst (.tp [])))
def gK(cx:Cx)(s:S ι):CO->AH (FuncId×AG (V ι))
 | .Co f args=>if (cx.ct f).isNone&&!Ax yB f then AC (f,args.map (ev d s)) else AD
 | .GD x args=>(match ev d s x with
  | .c (.fn f caps)=>if Ax yB f then AD else AC (f,args.map (ev d s)++caps.map λc=>.c (.ptr c.1 c.2.1 c.2.2))
  | .c (.yl j)=>AC (yB+j,args.map (ev d s))
  | .c (.lf (.bf f t) v)=>if Ax yB f then AD else AC (f,.ag (expl d t (d.ub v))::args.map (ev d s))
  | _=>AD)
 | _=>AD
def dQ(cx:Cx)(s:S ι):CO->AH (GK×V ι)
 | .Co f [x,y]=>(match ev d s y with
  | .c (.fn g [])=>(cx.so f g).bind λc=>if c.two then AC (c,ev d s x) else AD
  | _=>AD)
 | .Co f [x]=>(cx.so f 0).bind λc=>if c.two then AD else AC (c,ev d s x)
 | _=>AD
def OA(c:GK)(s:S ι)(v:V ι)(k:S ι->M α):M α:=
 match v with
 | .c (.own g ver)=>(match look g s.ob with
  | some (.row v e el t l [] AD AF)=>if v=ver/\e=t.sz/\0<e then BP d (cast? (.ls t) (.ls c.t) l) λl=>d.call c.ctr l λa=>k (s.obj g (.row v e el c.t a [] AD AF)) else d.no
  | _=>d.no)
 | .c (.k .BK)=>k s
 | _=>d.no
def PK(s:S ι):CO->AH (AN×ι I)
 | .Ep ne x=>(match ev d s x with
  | .c (.lf (.ls _) v)=>AC (ne,d.ln v)
  | _=>AD)
 | _=>AD
def gH:CO->AN
 | .Co .. | .GD ..=>AE
 | _=>AF
def S.push(s:S ι)(live:AG AM)(sl:AG (AM×V ι)):S ι:=⟨sl,kept s.sl live::s.lo,s.ob,s.ln,s.mo⟩
def S.pop(s:S ι):S ι:=match s.lo with
 | l::r=>⟨l,r,s.ob,s.ln,s.mo⟩
 | []=>s
def Ms:AM->AG (V ι)->AG (AM×V ι)
 | _,[]=>[]
 | j,v::r=>(j,v)::Ms (j+1) r
def Mx(inl:M6)(cx:Cx)(base:AM)(n:AG AM):AG (AM×AP)->S ι->(S ι->M α)->M α
 | [],s,k=>k s
 | p::r,s,k=>
  if gH p.2.op then
   rW d s p.2 (λs=>match dQ d cx s p.2.op with
    | some (c,v)=>OA d c s v λs'=>Mx inl cx base n r (s'.put p.2.dst (.tp [])) k
    | none=>match gK d cx s p.2.op with
    | some (f,vs)=>inl d f ((base+p.2.dst.getD 0+1) * 4096) vs (s.push (Ib (jI r n)) []) λv s'=>Mx inl cx base n r (s'.put p.2.dst v) k
    | none=>eX d cx.ct cx.ty s (base+p.2.dst.getD 0) p.2.op λ_ v s'=>Mx inl cx base n r (s'.put p.2.dst v) k) (λs=>Mx inl cx base n r (s.put p.2.dst (.tp [])) k)
  else match PK d s p.2.op,p.2.guard with
   | some (ne,m),AD=>d.nq m λb=>Mx inl cx base n r (s.put p.2.dst (.c (.lf .bool (if ne then d.nt b else b)))) k
   | _,_=>vK d cx base s p.2 λ_ s'=>Mx inl cx base n r s' k
def qM:CO->AN
 | .Co ..=>AE
 | _=>AF
def Kad(base:AM)(o:AP)(s:S ι):AN:=(o.op.BX || qM o.op)&&s.has (base+o.dst.getD 0)
def MF:AG (AM×AP)->AG AM
 | []=>[]
 | p::r=>match p.2.op,p.2.dst with
  | .alloc _,AC x=>x::MF r
  | .Eb ..,AC x=>x::MF r
  | _,_=>MF r
def ZX(x:AM):AG (AM×AP)->AN
 | []=>AF
 | p::r=>(match p.2.dst with|some y=>Aa y x|none=>AF) || (match p.2.op with
  | .store _ (.t _) (.t y)=>Aa y x
  | .store ..=>AF
  | op=>EY x op.looks) || ZX x r
def vR(base:AM)(s:S ι)(all:AG (AM×AP)):AG (AM×AP)->AG AM
 | []=>[]
 | p::r=>match p.2.op with
  | .store _ (.t x) _=>(match ZX x all,ev d s (.t x) with
   | false,.c (.ptr g _ _)=>if Ax base g then (g - base)::vR base s all r else vR base s all r
   | _,_=>vR base s all r)
  | _=>vR base s all r
def I4(base:AM)(ds:AG AM):V ι->AN
 | .c (.ptr g _ _)=>!Cc base ds g
 | .c (.own g _)=>!Cc base ds g
 | .c (.lf _ _)=>AE
 | .c (.rp _ _ _)=>AE
 | .c (.F5 g _ _ _ _)=>!Cc base ds g
 | _=>AF
def onV(base:AM)(ds:AG AM):V ι->AN
 | .c (.ptr g _ _)=>Cc base ds g
 | _=>AF
def onA(base:AM)(ds:AG AM)(dst:AH AM):V ι->AN
 | .c (.own g _)=>Cc base ds g
 | .c (.k .BK)=>Cc base ds (base+dst.getD 0)
 | _=>AF
def appT(s:S ι)(base:AM)(dst:AH AM)(op:CO)(tg:AG AM):AG AM:=
 match op with
 | .app _ _ _ _ x _=>(match ev d s x with
  | .c (.own g _)=>if Ax base g then (g - base)::tg else tg
  | .c (.k .BK)=>dst.getD 0::tg
  | _=>tg)
 | _=>tg
def TU(s:S ι)(base:AM)(dst:AH AM)(op:CO)(ds:AG AM):CO:=
 match op with
 | .load ag n x=>if I4 base ds (ev d s x) then .GY ds (.load ag n x) else .load ag n x
 | .Es o x=>if I4 base ds (ev d s x) then .GY ds (.Es o x) else .Es o x
 | .Er e x i=>if I4 base ds (ev d s x) then .GY ds (.Er e x i) else .Er e x i
 | .len x=>if I4 base ds (ev d s x) then .GY ds (.len x) else .len x
 | .store n x y=>if onV base ds (ev d s x) then .LG ds n x y else .store n x y
 | .Eo x=>if I4 base ds (ev d s x) then .GY ds (.Eo x) else .Eo x
 | .app e b t z x y=>if onA base ds dst (ev d s x) then .KN ds e b t z x y else .app e b t z x y
 | .slc e x lo hi=>if I4 base ds (ev d s x) then .GY ds (.slc e x lo hi) else .slc e x lo hi
 | op=>op
def bX(cx:Cx)(base:AM):AG (AM×AP)->AG (AM×AP)->AG (AG AM->AM×AP)->AG AM->S ι->(AG (AM×AP)->AG (AM×AP)->S ι->M α)->M α
 | [],acc,acc2,ds,s,k=>k acc.reverse (acc2.reverse.map λf=>f ds) s
 | p::r,acc,acc2,ds,s,k=>
  if Kad base p.2 s then d.no else
  vK d cx base s p.2 λop s'=>bX cx base r ((p.1,{ p.2 with op:=op })::acc) ((λds=>(p.1,{ p.2 with op:=TU d s base p.2.dst op ds }))::acc2) (appT d s base p.2.dst op ds) s' k
def fE(cx:Cx):CO->AN
 | .Co f _=>(cx.ct f).isNone
 | .GD ..=>AE
 | _=>AF
def rV(cx:Cx):AG (AM×AP)->AG (AM×AP)×AG (AM×AP)
 | []=>([],[])
 | p::r=>match fE cx p.2.op with
  | true=>([],p::r)
  | false=>match rV cx r with|(a,b)=>(p::a,b)
def iO(p:LE×S U):AG (LE×S U)->AG (LE×S U)
 | []=>[p]
 | q::r=>if p.1=q.1 then (q.1,aM q.2 p.2)::r else q::iO p r
def exits(l:AG (LE×S U)):AG (LE×S U):=(l.foldl (λm p=>if p.1=.normal then m else iO p m) []).map λp=>(p.1,trimS p.2)
def heads(sh:S U)(l:AG (LE×S U)):S U:=trimS (l.foldl (λm p=>if p.1=.normal then aM m p.2 else m) sh)
def aK(l:AG (LE×S U)):AG (LE×S U):=(l.foldl (λm p=>iO p m) []).map λp=>(p.1,trimS p.2)
def bq:LC->AM
 | .reg _ id _ _=>id
 | .seq a _=>bq a
 | .cond _ a b=>match Aa (bq a) 1000000000 with|true=>bq b|false=>bq a
 | .blk _ b=>bq b
 | .loop b=>bq b
 | .rng _ _ a _=>bq a
 | .keys id _ _=>id
 | _=>1000000000
def gP(run:S U->AG (LE×S U)):AM->S U->S U×AG (LE×S U)
 | 0,sh=>(sh,exits (run sh))
 | n+1,sh=>
  let l:=run sh;let sh':=heads sh l
  if eqN (pO sh') (pO sh)=AE then (sh',exits l) else gP run n sh'
def S.kill{ι:Ty->Type}:AG AM->S ι->S ι
 | [],s=>s
 | x::r,s=>S.kill r (s.put (AC x) (.c .any))
def Ig{ι:Ty->Type}(g:AM):C ι->C ι
 | .k v=>match v.flat with
  | true=>.k v
  | false=>(match v with
   | .map a 0=>(match Aa a g with|true=>.map g 0|false=>.any)
   | _=>.any)
 | c=>c
def MZ{ι:Ty->Type}(g:AM):V ι->V ι
 | .c x=>.c (Ig g x)
 | .ag l=>.ag (l.map (Ig g))
 | .tp []=>.tp []
 | .tp _=>.c .any
def TK{ι:Ty->Type}:C ι->AN
 | .any=>AE
 | .lf _ _=>AE
 | .kb _=>AE
 | .rp _ _ _=>AE
 | .k v=>v.flat
 | _=>AF
def dN{ι:Ty->Type}(s:S ι):AH (S ι):=
 match s.mo with
 | none=>AC s
 | some m=>if (s.ob.all λp=>p.2.kids.all TK)=AE then AC ⟨s.sl.map λp=>(p.1,MZ m.g p.2),s.lo.map λl=>l.map λp=>(p.1,MZ m.g p.2),(m.g,.mp 0 m.kt (.ls m.vt) m.es)::s.ob,s.ln,AD⟩ else AD
def YN:AG AM:=[14,15,16,17,18,19,5,20,21,22,23,4]
def P8(base:AM)(el:TypeId)(bytes:AM)(s:S ι)(k:S ι->M α):M α:=
 BP d (dN s) λs=>match LX s (s.at 3),s.at 4 with
 | some ⟨_,_,.p (.int .i64) (.int .i64),_,es⟩,.c (.k .BK)=>if s.has (base+23)=AE then d.no else
  d.gd (d.ft bytes (d.ln es)) (d.mq es λl=>k ((((S.kill YN s).obj (base+23) (.row 0 2 el (.p I I) l [] AD AF)).put (AC 4) (.c (.own (base+23) 0)))))
 | _,_=>d.no
def Ii(s:S ι):AG RV->(AG (V ι)->M α)->M α
 | [],k=>k []
 | .tmp t::r,k=>Ii s r λl=>k (s.at t::l)
 | .cell t ag n::r,k=>MJ d s ag n (s.at t) λv=>Ii s r λl=>k (v::l)
def V.toP:V ι->AN×AG (C ι)
 | .c x=>(AF,[x])
 | .ag l=>(AE,l)
 | .tp _=>(AF,[])
def TR:AG (V ι)->V ι
 | [v]=>v
 | l=>.tp (l.map V.toP)
end
def NG(h:AG AM)(ex:AG (AM×AG AM))(rt:AG AM):LE->AG AM
 | .normal=>h
 | .exit id=>Ib ((look id ex).getD [])
 | .ret=>Ib rt
def LW{ι:Ty->Type}(j:AM):C ι->AN
 | .yl i=>!Aa i j
 | .k v=>v.flat
 | _=>AE
def O9{ι:Ty->Type}(j:AM):V ι->AN
 | .c x=>LW j x
 | .ag l=>l.all (LW j)
 | .tp l=>l.all λp=>p.2.all (LW j)
def Ma{ι:Ty->Type}(j:AM)(s:S ι):AN:=(s.sl.all λp=>O9 j p.2)&&(s.lo.all λl=>l.all λp=>O9 j p.2)&&s.ob.all λp=>p.2.kids.all (LW j)
def C8(mk:Cx->M6)(cx:Cx)(base:AM):LC->(n:AG AM)->(ex:AG (AM×AG AM))->(rt:AG AM)->{ι:Ty->Type}->{M:Type->Type}->{α:Type}->D ι M->S ι->(LE->S ι->M α)->M α
 | .skip,_,_,_,_,_,_,_,s,k=>k .normal s
 | .reg draw id ops l,n,_,_,_,_,_,d,s,k=>
  if draw then (match rV cx l with
   | (_,[])=>bX d cx base l [] [] (MF l++vR d base s l l) s λr m s'=>if mG ops r || mG ops m then k .normal (mD d cx.ty (cx.keep id) s.ob.length s') else d.no
   | (L,p::R)=>bX d cx base L [] [] [] s λr m s'=>if mh ops r ((p::R).map (·.1)) || mh ops m ((p::R).map (·.1)) then Mx d (mk { cx with rd:=AF }) cx base n (p::R) s' λs''=>k .normal (mD d cx.ty (cx.keep id) s.ob.length s'') else d.no)
  else Mx d (mk { cx with rd:=AF }) cx base n l s λs'=>k .normal (mD d cx.ty (cx.keep id) s.ob.length s')
 | .seq a b,n,ex,rt,_,_,_,d,s,k=>match cx.jn (base * 1000+bq b) with
  | false=>C8 mk cx base a (FT b n ex rt) ex rt d s λe s'=>match e with
   | .normal=>C8 mk cx base b n ex rt d s' k
   | e=>k e s'
  | true=>d.join (aK (C8 mk cx base a (FT b n ex rt) ex rt (α:=Unit) stat (wB s) λe s'=>[(e,Lf stat (NG (Ib (FT b n ex rt)) ex rt e) s')]))
    (λe s'=>Lf d (NG (Ib (FT b n ex rt)) ex rt e) s') (λk'=>C8 mk cx base a (FT b n ex rt) ex rt d s k') λe s'=>match e with
   | .normal=>C8 mk cx base b n ex rt d s' k
   | e=>k e s'
 | .cond c a b,n,ex,rt,_,_,_,d,s,k=>match ev d s c with
  | .c (.kb t)=>if t then C8 mk cx base a n ex rt d s k else C8 mk cx base b n ex rt d s k
  | .c (.lf .bool t)=>(match c with
   | .t x=>d.br t (C8 mk cx base a n ex rt d (s.put (AC x) (.c (.kb AE))) k) (C8 mk cx base b n ex rt d (s.put (AC x) (.c (.kb AF))) k)
   | _=>d.no)
  | _=>d.no
 | .blk id b,n,ex,rt,_,_,_,d,s,k=>C8 mk cx base b n ((id,n)::ex) rt d s λe s'=>if e=.exit id then k .normal s' else k e s'
 | .loop b,_,ex,rt,_,_,_,d,s,k=>
  let h:=Ib (FT b [] ex rt);let s0:=Lf d h s
  match gP (λsh=>C8 mk cx base b h ex rt (α:=Unit) stat sh λe s'=>[(e,Lf stat (NG h ex rt e) s')]) 4 (wB s0) with
  | (sh,xs)=>d.loop sh xs (λe s'=>Lf d (NG h ex rt e) s') (λs' k'=>C8 mk cx base b h ex rt d s' k') s0 k
 | .exit id,_,_,_,_,_,_,_,s,k=>k (.exit id) s
 | .ret,_,_,_,_,_,_,_,s,k=>k .ret s
 | .keys _ el bytes,_,_,_,_,_,_,d,s,k=>P8 d base el bytes s λs'=>k .normal s'
 | .rng g ps a b,n,_,_,_,_,_,d,s,k=>match ev d s g with
  | .c (.fn f caps)=>if cx.rd=AF/\Ax yB f=AF/\Ma s.lo.length s=AE then
    mk { cx with hs:=(s.lo.length,⟨base,ps,a,b⟩)::cx.hs,rd:=AF } d f ((base+ps.headD 0+1) * 4096) (.c (.yl s.lo.length)::caps.map λc=>.c (.ptr c.1 c.2.1 c.2.2))
     (s.push (Ib (adds ((FT a (FT b [] [] []) [] []).filter λx=>!EY x ps) n)) []) λ_ s'=>if Ma s.lo.length s'=AE then k .normal s' else d.no
   else d.no
  | _=>d.no
def Kat(mk:Cx->M6)(cx:Cx)(base:AM)(a b:LC){ι:Ty->Type}{M:Type->Type}{α:Type}(d:D ι M)(s:S ι)(k:LE->S ι->M α):M α:=
 C8 mk cx base a (FT b [] [] []) [] [] d s λe s'=>match e with
  | .normal=>C8 mk cx base b [] [] [] d s' k
  | e=>k e s'
def H9{ι:Ty->Type}:AG AM->AG (V ι)->AG (AM×V ι)
 | p::ps,v::vs=>(p,v)::H9 ps vs
 | _,_=>[]
def YZ{ι:Ty->Type}{M:Type->Type}{α:Type}(mk:Cx->M6)(cx:Cx)(d:D ι M)(f:FuncId)(base:AM)(vs:AG (V ι))(s:S ι)(k:V ι->S ι->M α):M α:=
 match Ax yB f with
 | true=>(match look (f - yB) cx.hs,s.lo with
  | some h,_::c::r=>if r.length=f - yB/\vs.length=h.ps.length then
    Kat mk { cx with hs:=cx.hs.filter (λp=>Nat.blt p.1 (f - yB)),rd:=AE } h.base h.a h.b d ⟨H9 h.ps vs++c,s.lo,s.ob,s.ln,s.mo⟩ λe s'=>match e with
     | .normal=>k (.c (.kb AE)) s'.pop
     | _=>d.no
   else d.no
  | _,_=>d.no)
 | false=>match cx.code f with
  | none=>d.no
  | some lf=>if vs.length=lf.np then
    C8 mk cx base lf.body (lf.res.map RV.slot) [] (lf.res.map RV.slot) d ⟨Ms 0 vs,s.lo,s.ob,s.ln,s.mo⟩ λe s'=>match e with
     | .exit _=>d.no
     | _=>Ii d s' lf.res λl=>k (TR l) s'.pop
   else d.no
def den:AM->Cx->M6
 | 0,_=>λd _ _ _ _ _=>d.no
 | n+1,cx=>λd f base vs s k=>match cx.bi f with
  | some B=>B.run d f base vs s k
  | none=>YZ (den n) cx d f base vs s k
class W where
 ar:BinOp->IntKind->AI->AI->AI
 cm:BinOp->AI->AI->AN
 sh:BinOp->IntKind->AI->AI->AI
 cv:IntKind->AI->AI
 mx:AI->AI->AI
 mn:AI->AI->AI
 ng:IntKind->AI->AI
 nt:AN->AN
 an:AN->AN->AN
 be:AN->AN->AN
 ln:{α:Type}->AG α->AI
 lS:ByteArray->AI
 pl:AI->AI->AI
 mi:AI->AI->AI
 ib:AI->AI->AN
 le:AI->AI->AN
 ft:AM->AI->AN
 ap:{α:Type}->AG α->AG α->AG α
 ct:{α:Type}->AG α->AI->AI->AG α
 st:{α:Type}->AG α->AI->α->AG α
 rp:{α:Type}->α->AI->AG α
 ml:{α:Type}->AG α->(α->α)->AG α
 mg:{a b:Ty}->AG (a.T×b.T)->a.T->b.T->b.T
 mf:{a b:Ty}->AG (a.T×b.T)->a.T->AN
 ms:{a b:Ty}->AG (a.T×b.T)->a.T->b.T->AG (a.T×b.T)
 md:{a b:Ty}->AG (a.T×b.T)->a.T->AG (a.T×b.T)
 br:{α:Type}->AN->AH α->AH α->AH α
 gd:{α:Type}->AN->AH α->AH α
 ge:{α β:Type}->AG β->AI->(β->AH α)->AH α
 nq:{α:Type}->AI->(AN->AH α)->AH α
 mq:{α:Type}->{a b:Ty}->AG (a.T×b.T)->(AG a.T->AH α)->AH α
 call:{α:Type}->(c:BQ)->c.aT.T->(c.rT.T->AH α)->AH α
 loop:{A B α:Type}->(A->AH (Nx A B))->A->(B->AH α)->AH α
 join:{B α:Type}->AH B->(B->AH α)->AH α
def dL(w:W):D Ty.T AH where
 int _ n:=n
 bool b:=b
 str s:=s
 nl t:=([]:AG t.T)
 un:=()
 pr a b:=(a,b)
 fs v:=v.1
 sn v:=v.2
 ar o k a b:=w.ar o k a b
 cm o _ a b:=w.cm o a b
 sh o k _ a b:=w.sh o k a b
 cv _ k' a:=w.cv k' a
 mm b _ _ x y:=match b with|true=>w.mx x y|false=>w.mn x y
 ng k a:=w.ng k a
 nt a:=w.nt a
 an a b:=w.an a b
 be a b:=w.be a b
 ln {t} v:=w.ln (α:=t.T) v
 ls s:=w.lS s
 bf _ v:=v
 ub v:=v
 pl a b:=w.pl a b
 mi a b:=w.mi a b
 ib i n:=w.ib i n
 le a b:=w.le a b
 ft b n:=w.ft b n
 cs {t} x l:=List.cons (α:=t.T) x l
 ap {t} l m:=w.ap (α:=t.T) l m
 ct {t} l a n:=w.ct (α:=t.T) l a n
 st {t} l i x:=w.st (α:=t.T) l i x
 rp {t} x n:=w.rp (α:=t.T) x n
 ml {t} l f:=w.ml (α:=t.T) l f
 mg {a b} l k z:=w.mg (a:=a) (b:=b) l k z
 mf {a b} l k:=w.mf (a:=a) (b:=b) l k
 ms {a b} l k v:=w.ms (a:=a) (b:=b) l k v
 md {a b} l k:=w.md (a:=a) (b:=b) l k
 br t x y:=w.br t x y
 gd t x:=w.gd t x
 no:=AD
 ge {_ t} l i k:=w.ge (β:=t.T) l i k
 nq n k:=w.nq n k
 mq {_ a b} l k:=w.mq (a:=a) (b:=b) l k
 call c a k:=w.call c a k
 join _ _ _ _:=AD
 loop _ _ _ _ _ _:=AD
section
variable {ι:Ty->Type} {M:Type->Type} (d:D ι M) (ob:AG (AM×Ob ι))
def RN{r:AG Ty}(h:HL ι r):(c:C U)->C ι->AH (HL ι (lD r c))
 | .any,_=>AC h
 | .lf t _,c=>(Zg d ob 4 t c).map λv=>⟨v,h⟩
 | .kb b,.kb B=>if b=B then AC h else AD
 | .k .BK,.k .BK=>AC h
 | .k .IB,.k .IB=>AC h
 | .k .IC,.k .IC=>AC h
 | .k .F6,.k .F6=>AC h
 | .own g v,.own m l=>if g=m/\v=l then AC h else AD
 | .own g _,.k .BK=>if (look g ob).isNone then AC h else AD
 | .part g v _ _,.part m l a b=>if g=m/\v=l then AC ⟨a,b,h⟩ else AD
 | .ptr g v o,.ptr m l o'=>if g=m/\v=l/\o=o' then AC h else AD
 | .F5 g v e _ o,.F5 m l A i o'=>if g=m/\v=l/\e=A/\o=o' then AC ⟨i,h⟩ else AD
 | .rp t _ o,.rp w v o'=>if o=o' then (cast? w t v).map λv=>⟨v,h⟩ else AD
 | .fn f c,.fn f' c'=>if f=f'/\c=c' then AC h else AD
 | .map g v,.map m l=>if g=m/\v=l then AC h else AD
 | .yl j,.yl y=>if j=y then AC h else AD
 | .k (.map g v),.k (.map m l)=>if g=m/\v=l then AC h else AD
 | _,_=>AD
def TL{r:AG Ty}(h:HL ι r):(l:AG (C U))->AG (C ι)->AH (HL ι (IE r l))
 | [],[]=>AC h
 | c::l,x::m=>(TL h l m).bind λh=>RN d ob h c x
 | _,_=>AD
def RI{r:AG Ty}(h:HL ι r):(l:AG (AN×AG (C U)))->AG (AN×AG (C ι))->AH (HL ι (qD r l))
 | [],[]=>AC h
 | (a,p)::l,(b,x)::m=>if a=b then (RI h l m).bind λh=>TL d ob h p x else AD
 | _,_=>AD
def gQ{r:AG Ty}(h:HL ι r):(v:V U)->V ι->AH (HL ι (vo r v))
 | .c x,.c y=>RN d ob h x y
 | .c .any,_=>AC h
 | .ag l,.ag m=>TL d ob h l m
 | .tp l,.tp m=>RI d ob h l m
 | _,_=>AD
def gU{r:AG Ty}(h:HL ι r):(n:AH (AM×C U))->AH (AM×C ι)->AH (HL ι (qE r n))
 | none,AD=>AC h
 | some (a,p),AC (b,q)=>if a=b then RN d ob h p q else AD
 | none,AC _=>AC h
 | _,_=>AD
def gT{r:AG Ty}(h:HL ι r):(o:Ob U)->Ob ι->AH (HL ι (kr r o))
 | .box v cs,.box a cs'=>if v=a then TL d ob h cs cs' else AD
 | .lit v e el cs z,.lit a g el' cs' m=>if v=a/\e=g/\el=el'/\z=m then TL d ob h cs cs' else AD
 | .row v e el t _ x nest fz,.row a g el' f l w nest' fz'=>
  if v=a/\e=g/\el=el'/\fz=fz' then
   (gU d ob h nest nest').bind λh=>(TL d ob h x w).bind λh=>(match nest,nest' with
    | none,AC (off,c)=>(Md d (Zg d ob 4) f l (AC (off,c))).bind λl=>(cast? (.ls f) (.ls t) l).map λl=>⟨l,h⟩
    | some _,AD=>AD
    | _,_=>(cast? (.ls f) (.ls t) l).map λl=>⟨l,h⟩)
  else AD
 | .mp v kt vt _,.mp a kt' vt' es=>if v=a then (cast? (.ls (.p kt' vt')) (.ls (.p kt vt)) es).map λl=>⟨l,h⟩ else AD
 | _,_=>AD
def J8b{r:AG Ty}(h:HL ι r):(o:Ob U)->AH (HL ι (kr r o))
 | .row _ _ _ _ _ [] AD _=>AC ⟨d.nl _,h⟩
 | .row _ _ _ _ _ [] (AC (_,.own _ _)) _=>AC ⟨d.nl _,h⟩
 | _=>AD
def YT{r:AG Ty}(h:HL ι r)(sl:AG (AM×V ι)):(l:AG (AM×V U))->AH (HL ι (I8 r l))
 | []=>AC h
 | (a,p)::l=>(YT h sl l).bind λh=>gQ d ob h p ((look a sl).getD (.c .any))
def kP{r:AG Ty}(h:HL ι r):(l:AG (AM×Ob U))->AH (HL ι (KF r l))
 | []=>AC h
 | (a,p)::l=>(kP h l).bind λh=>match look a ob with|some o=>gT d ob h p o|none=>J8b d h p
end
def ah{ι:Ty->Type}{M:Type->Type}{r:AG Ty}(d:D ι M)(ob:AG (AM×Ob ι))(h:HL ι r):(l:AG (AG (AM×V U)))->AG (AG (AM×V ι))->AH (HL ι (KG r l))
 | [],[]=>AC h
 | p::l,q::m=>(ah d ob h l m).bind λh=>YT d ob h q p
 | _,_=>AD
def L9{ι:Ty->Type}(ob:AG (AM×Ob ι)):C U->C ι->AG AM
 | .lf _ _,c=>Kq ob 4 c
 | _,_=>[]
def jG{ι:Ty->Type}(ob:AG (AM×Ob ι)):AG (C U)->AG (C ι)->AG AM
 | c::l,x::m=>L9 ob c x++jG ob l m
 | _,_=>[]
def Oc{ι:Ty->Type}(ob:AG (AM×Ob ι)):AG (AN×AG (C U))->AG (AN×AG (C ι))->AG AM
 | (_,p)::l,(_,x)::m=>jG ob p x++Oc ob l m
 | _,_=>[]
def aA{ι:Ty->Type}(ob:AG (AM×Ob ι)):V U->V ι->AG AM
 | .c x,.c y=>L9 ob x y
 | .ag l,.ag m=>jG ob l m
 | .tp l,.tp m=>Oc ob l m
 | _,_=>[]
def oN{ι:Ty->Type}(ob:AG (AM×Ob ι)):Ob U->Ob ι->AG AM
 | .box _ cs,.box _ cs'=>jG ob cs cs'
 | .lit _ _ _ cs _,.lit _ _ _ cs' _=>jG ob cs cs'
 | .row _ _ _ _ _ x nest _,.row _ _ _ _ _ a nest' _=>jG ob x a++(match nest,nest' with|some p,AC q=>L9 ob p.2 q.2|none,AC q=>Kq ob 4 q.2|_,_=>[])
 | _,_=>[]
def rO{ι:Ty->Type}(ob:AG (AM×Ob ι))(l:AG (AM×V U))(sl:AG (AM×V ι)):AG AM:=l.flatMap λp=>aA ob p.2 ((look p.1 sl).getD (.c .any))
def J70{ι:Ty->Type}(ob:AG (AM×Ob ι)):AG (AG (AM×V U))->AG (AG (AM×V ι))->AG AM
 | p::l,q::m=>rO ob p q++J70 ob l m
 | _,_=>[]
def aj{ι:Ty->Type}(sh:S U)(s:S ι):AG AM:=
 rO s.ob sh.sl s.sl++J70 s.ob sh.lo s.lo++sh.ob.flatMap λp=>match look p.1 s.ob with|some o=>oN s.ob p.2 o|none=>[]
def S.shut(sh:S U):AN:=
 ((sh.sl++sh.lo.flatten).all λp=>match p.2 with|.c x=>ok x|.ag l=>l.all ok|.tp l=>l.all λq=>q.2.all ok)&&sh.ob.all λp=>p.2.kids.all ok
where ok (c:C U):AN:=((refs c).all λr=>match look r.1 sh.ob with|some o=>o.ver==r.2|none=>AF)&&(match c with|.k v=>v.flat || qB sh.mo v|_=>AE)
def RL{ι:Ty->Type}{M:Type->Type}(d:D ι M):(m:AH (Mo U))->AH (Mo ι)->AH (HL ι (LZ m))
 | none,AD=>AC ()
 | some m,AC a=>if m.g=a.g/\m.el=a.el then (cast? (.ls (.p a.kt (.ls a.vt))) (.ls (.p m.kt (.ls m.vt))) a.es).map λl=>⟨l,()⟩ else AD
 | _,_=>AD
def S.fit{ι:Ty->Type}{M:Type->Type}(d:D ι M)(sh:S U)(s:S ι):AH (HL ι sh.lt):=
 if sh.shut/\(aj sh s).all (λg=>(look g sh.ob).isNone&&!Ey s.mo g)=AE/\sh.ob.all (λp=>!Ey sh.mo p.1)=AE then (RL d sh.mo s.mo).bind λh=>(kP d s.ob h sh.ob).bind λh=>(ah d s.ob h sh.lo s.lo).bind λh=>YT d s.ob h s.sl sh.sl else AD
def JB{ι:Ty->Type}{M:Type->Type}(d:D ι M):(ex:AG (LE×S U))->LE->S ι->AH (Ex ι ex)
 | [],_,_=>AD
 | [(a,p)],e,s=>if a=e then p.fit d s else AD
 | (a,p)::q::r,e,s=>if a=e then (p.fit d s).map Sum.inl else (JB d (q::r) e s).map Sum.inr
def oP{ι:Ty->Type}{β:Type}(k:LE->S ι->β):(ex:AG (LE×S U))->Ex ι ex->β
 | [],h=>nomatch h
 | [(a,p)],h=>k a (p.mk' h)
 | (a,p)::q::r,h=>Sum.casesOn (motive:=λ_=>β) (show HL ι p.lt ⊕ Ex ι (q::r) from h) (λx=>k a (p.mk' x)) (λx=>oP k (q::r) x)
def Pp(w:W)(d:D Ty.T AH){α:Type}(sh:S U)(ex:AG (LE×S U))(cn:LE->S Ty.T->S Ty.T)
  (body:S Ty.T->(LE->S Ty.T->AH (Nx (HL Ty.T sh.lt) (Ex Ty.T ex)))->AH (Nx (HL Ty.T sh.lt) (Ex Ty.T ex))) (ent:S Ty.T) (k:LE->S Ty.T->AH α):AH α:=
 match sh.fit d ent with
 | none=>AD
 | some a=>w.loop (λh=>body (sh.mk' h) λe s'=>match e with
  | .normal=>(sh.fit d (cn .normal s')).map Nx.go
  | e=>(JB d ex e (cn e s')).map Nx.out) a (oP k ex)
def dW(w:W):D Ty.T AH:={ dL w with loop:=λsh ex cn body ent k=>Pp w (dL w) sh ex cn body ent k,join:=λex cn body k=>w.join (body λe s'=>JB (dL w) ex e (cn e s')) (oP k ex) }
def Hz{α β:Type}(x:AH α)(k:α->AH β):AH β:=match x with|some v=>k v|none=>AD
def Wi(o:BinOp)(k:IntKind)(a b:AI):AI:=
 match o with
 | .add=>k.wrap (a+b)
 | .sub=>k.wrap (a - b)
 | .mul=>k.wrap (a * b)
 | .quo=>k.wrap (a.tdiv b)
 | .rem=>a.tmod b
 | .and=>bits .and k a b
 | .or=>bits .or k a b
 | .xor=>bits .xor k a b
 | .andNot=>bits .andNot k a b
 | _=>0
def JN(o:BinOp)(a b:AI):AN:=
 match o with
 | .eql=>a==b
 | .neq=>a != b
 | .lss=>decide (a<b)
 | .leq=>decide (a<=b)
 | .gtr=>decide (a > b)
 | .geq=>decide (a>=b)
 | _=>AF
def ish(o:BinOp)(k:IntKind)(a b:AI):AI:=
 match o with
 | .shl=>k.wrap (a * 2 ^ (min b.toNat k.bits))
 | .shr=>a.fdiv (2 ^ (min b.toNat k.bits))
 | _=>0
def Fb{α:Type}(l:AG α)(i:AI):AH α:=if 0<=i then l[i.toNat]? else AD
def Qf{α:Type}:AG α->(α->α)->AG α
 | [],_=>[]
 | [x],f=>[f x]
 | x::y::r,f=>x::Qf (y::r) f
def Qm{A B:Type}(b:A->AH (Nx A B)):AM->A->AH B
 | 0,_=>AD
 | n+1,s=>match b s with
  | none=>AD
  | some (.go s')=>Qm b n s'
  | some (.out e)=>AC e
def CK:AM:=18446744073709551616
def Ty.FE:(t:Ty)->t.T->t.T->AN
 | .int _,x,y=>(show AI from x)==(show AI from y)
 | .bool,x,y=>(show AN from x)==(show AN from y)
 | .u,_,_=>AE
 | .p a b,x,y=>a.FE x.1 y.1&&b.FE x.2 y.2
 | _,_,_=>AF
def zu{a b:Ty}(k:a.T):AG (a.T×b.T)->AH b.T
 | []=>AD
 | e::r=>if a.FE k e.1=AE then AC e.2 else zu k r
def F7{a b:Ty}(k:a.T)(v:b.T):AG (a.T×b.T)->AG (a.T×b.T)
 | []=>[(k,v)]
 | e::r=>if a.FE k e.1=AE then (k,v)::r else e::F7 k v r
def I7{a b:Ty}(k:a.T):AG (a.T×b.T)->AG (a.T×b.T)
 | []=>[]
 | e::r=>if a.FE k e.1=AE then r else e::I7 k r
open Classical in
noncomputable def VU{α:Type}(n:AI)(k:AN->AH α):AH α:=if n=0 then (if k AE=k AF then k AF else AD) else k AF
open Classical in
noncomputable def kg{α β:Type}(l:AG α)(k:AG α->AH β):AH β:=if h:∃v,∀p:AG α,p.Perm l->k p=AC v then AC h.choose else AD
@[reducible] noncomputable def wv:W where
 ar:=Wi
 cm:=JN
 sh:=ish
 cv:=IntKind.wrap
 mx a b:=if b > a then b else a
 mn a b:=if b<a then b else a
 ng k a:=k.wrap (0 - a)
 nt a:=!a
 an a b:=a&&b
 be a b:=a==b
 ln l:=l.length
 lS s:=s.size
 pl a b:=a+b
 mi a b:=a - b
 ib i n:=decide (0<=i/\i<n)
 le a b:=decide (a<=b)
 ft b n:=decide (n * b<=room/\n<=9223372036854775807)
 ap l m:=l++m
 ct l a n:=(l.drop a.toNat).take n.toNat
 st l i x:=l.set i.toNat x
 rp x n:=Dq n.toNat x
 ml:=Qf
 mg l k z:=(zu k l).getD z
 mf l k:=(zu k l).isSome
 ms l k v:=F7 k v l
 md l k:=I7 k l
 br c x y:=if c=AE then x else y
 gd c x:=if c=AE then x else AD
 ge l i k:=Hz (Fb l i) k
 nq:=VU
 mq {_ a _} l k:=kg (α:=a.T) (l.map (·.1)) k
 call c a k:=Hz (c.fn a) k
 loop b a k:=Hz (Qm b CK a) k
 join x k:=Hz x k
noncomputable abbrev val:D Ty.T AH:=dW wv
def akOf(P:Program)(t:TypeId):AH (AK×Ty):=
 match P.underlying t with
 | some (.pointer e)=>(LB P 8 e).map λt=>(.rp,t)
 | some (.struct _)|some (.array _ _)=>(LB P 8 t).map λt=>(.ag,t)
 | some _=>(LB P 8 t).map λt=>(.one,t)
 | none=>AD
def Ip{ι:Ty->Type}{M:Type->Type}(d:D ι M)(a:AK×Ty)(v:ι a.2):V ι:=
 match a.1 with
 | .one|.fr|.ow _=>(match expl d a.2 v with | [c]=>.c c|_=>.c .any)
 | .ag=>.ag (expl d a.2 v)
 | .rp=>.c (.rp a.2 v 0)
def KW{ι:Ty->Type}{M:Type->Type}(d:D ι M):(as:AG (AK×Ty))->ι (Y3 (as.map (·.2)))->AG (V ι)
 | [],_=>[]
 | [a],v=>[Ip d a v]
 | a::b::r,v=>Ip d a (d.fs v)::KW d (b::r) (d.sn v)
def rk(a:AN×Ty):AK×Ty:=(if a.1 then .ag else .one,a.2)
def L8{ι:Ty->Type}{M:Type->Type}{α:Type}(d:D ι M)(ob:AG (AM×Ob ι)):(rs:AG (AN×Ty))->AG (V ι)->(ι (Y3 (rs.map (·.2)))->M α)->M α
 | [],[],k=>k d.un
 | [a],[v],k=>IV d ob (rk a) v k
 | a::b::r,v::w,k=>IV d ob (rk a) v λx=>L8 d ob (b::r) w λy=>k (d.pr x y)
 | _,_,_=>d.no
def bE{ι:Ty->Type}(rs:AG (AN×Ty))(v:V ι):AG (V ι):=match rs,v with
 | [_],v=>[v]
 | _,.tp l=>l.map Sq
 | _,v=>[v]
def LP{ι:Ty->Type}{M:Type->Type}{α:Type}(d:D ι M)(ob:AG (AM×Ob ι))(rs:AG (AN×Ty))(v:V ι)(k:ι (Y3 (rs.map (·.2)))->M α):M α:=L8 d ob rs (bE rs v) k
def Cv(d:D Ty.T AH)(cx:Cx)(n:AM)(f:FuncId)(as:AG (AK×Ty))(rs:AG (AN×Ty))(a:(Y3 (as.map (·.2))).T):AH (Y3 (rs.map (·.2))).T:=
 den n cx d f 0 (KW d as a) ⟨[],[[]],[],[],AD⟩ λv s=>LP d s.ob rs v AC
structure KP where
 id:AM
 as:AG (AK×Ty)
 el:TypeId
 t:Ty
 fn:(Y3 (as.map (·.2))).T->AH (AG t.T)
def KP.ctr(c:KP):BQ:=⟨c.id,c.as,[(AF,.ls c.t)],c.fn⟩
def Hl{ι:Ty->Type}(s:S ι)(vs:AG (V ι)):AG AM:=vs.flatMap λv=>v.cells.flatMap (Kq s.ob 4)
def KP.bi(c:KP):Bi:=⟨λ{ι M α} d _ base vs s k=>oK d s.ob c.as vs λa=>
 if vs.any YS || s.has base then d.no else
  d.call c.ctr a λl=>k (.c (.own base 0)) ((J8 s (Hl s vs)).obj base (.row 0 c.t.sz c.el c.t (show ι (.ls c.t) from l) [] AD AF)).pop⟩
def eF{ι:Ty->Type}{M:Type->Type}{α:Type}(d:D ι M)(ob:AG (AM×Ob ι))(t:Ty)(el:TypeId)(v:V ι)(k:ι (.ls t)->M α):M α:=
 match v with
 | .c (.k .BK)=>k (d.nl t)
 | .c (.own g ver)=>(match look g ob with
  | some (.row v e el' a l [] AD AF)=>if v=ver/\e=a.sz/\0<e/\el'=el then BP d (cast? (.ls a) (.ls t) l) k else d.no
  | _=>d.no)
 | _=>d.no
def M9(d:D Ty.T AH)(cx:Cx)(n:AM)(f:FuncId)(as:AG (AK×Ty))(t:Ty)(el:TypeId)(a:(Y3 (as.map (·.2))).T):AH (AG t.T):=
 den n cx d f 0 (KW d as a) ⟨[],[[]],[],[],AD⟩ λv s=>eF d s.ob t el v AC
def BQ.bi(c:BQ):Bi:=⟨λ{ι M α} d _ base vs s k=>oK d s.ob c.as vs λa=>
 if vs.any YS then d.no else d.call c a λr=>k (MU d c.rs r) (J8 s (Hl s vs)).pop⟩
def iP(hT:TypeId)(bytes:AM):Bi:=⟨λ{ι M α} d _ _ vs s k=>match vs,s.mo with
 | [.c (.k (.map g 0)),kv,f],AC ⟨a,.p (.int .i64) (.int .i64),.int .i64,el,es⟩=>
  if g=a/\el=hT then BP d (Il d AE (.p I I) kv) λkk=>BP d (Il d AF I f) λh=>
   d.gd (d.ft bytes (d.pl (d.ln (d.mg es kk (d.nl I))) (d.int .i64 1))) (k (.tp []) (⟨s.sl,s.lo,s.ob,s.ln,AC ⟨a,.p I I,I,el,d.ms es kk (d.ap (d.mg es kk (d.nl I)) (d.cs h (d.nl I)))⟩⟩:Dn.S ι).pop)
  else d.no
 | _,_=>d.no⟩
def XG(o:AG AI)(x:AI):AG AI:=if o.getLast?=AC x then o else o++[x]
def Cu(l:AG AI):AG AI:=l.foldl XG []
def GA(id:AM):BQ:=⟨1000000+id * 1000+999,[(.one,.ls I)],[(AF,.ls I)],λl=>AC (Cu l)⟩
def Rw(id:AM)(el:TypeId):Bi:=⟨λ{ι M α} d _ _ vs s k=>match vs with
 | [.c (.own g ver)]=>(match look g s.ob with
  | some (.row v e el' (.int .i64) l [] AD AF)=>if v=ver/\e=1/\el'=el then
    d.call (GA id) (show ι (GA id).aT from l) λm=>k (.c (.lf (.ls I) (show ι (.ls I) from m))) ((s.old g v (d.ln l)).obj g (.row (v+1) 1 el I (show ι (.ls I) from m) [] AD AE)).pop
   else d.no
  | _=>d.no)
 | [.c (.k .BK)]=>k (.c (.k .BK)) s.pop
 | _=>d.no⟩
abbrev ixC(id:FuncId)(fn:AG AI×AI->AH AI):BQ:=⟨id,[(.one,.ls I),(.one,I)],[(AF,I)],fn⟩
section
variable {ι:Ty->Type} {M:Type->Type} {α:Type} (d:D ι M)
def Nq(s:S ι)(g w:AM)(bytes:AM)(es:ι (.ls (.p (.p I I) (.ls I))))(kk:ι (.p I I))(l:ι (.ls I))(i j:ι I)(k:V ι->S ι->M α):M α:=
 d.br (d.cm .lss .i64 i (d.int .i64 0)) (k (.c (.kb AF)) s.pop)
  (d.br (d.cm .eql .i64 (d.ln l) (d.int .i64 1)) (k (.c (.kb AE)) (s.obj g (.mp w (.p I I) (.ls I) (d.md es kk))).pop)
   (d.gd (d.ft bytes (d.ln l)) (d.gd (d.an (d.ib i (d.ln l)) (d.an (d.le (d.pl i (d.int .i64 1)) j) (d.le j (d.ln l))))
    (k (.c (.kb AE)) (s.obj g (.mp w (.p I I) (.ls I) (d.ms es kk (d.ap (d.ct l (d.int .i64 0) i) (d.ct l j (d.mi (d.ln l) j)))))).pop))))
end
def takeB(bytes:AM)(ix:FuncId)(fn:AG AI×AI->AH AI):Bi:=⟨λ{ι M α} d _ _ vs s k=>match vs with
 | [.c (.map g ver),kv,a]=>(match look g s.ob with
  | some (.mp w (.p (.int .i64) (.int .i64)) (.ls (.int .i64)) es)=>
   if w=ver then BP d (Il d AE (.p I I) kv) λkk=>BP d (Il d AF I a) λf=>
    d.call (ixC ix fn) (show ι (ixC ix fn).aT from d.pr (d.mg es kk (d.nl I)) f) λi=>Nq d s g w bytes es kk (d.mg es kk (d.nl I)) i (d.ar .add .i64 i (d.int .i64 1)) k
   else d.no
  | _=>d.no)
 | _=>d.no⟩
def dU(id g:FuncId)(fn:AG (AI×AI)×AI->AH (AG (AI×AI))):BQ:=⟨1000000+id * 1000+g,[(.one,.ls (.p I I)),(.one,I)],[(AF,.ls (.p I I))],fn⟩
def dV(id g:FuncId)(fn:AG (AI×AI)×AI->AH (AG (AI×AI))):Bi:=⟨λ{ι M α} d _ _ vs s k=>match vs with
 | [.c (.own g0 ver),.c (.fn h [(gb,vb,0)])]=>(match look g0 s.ob,look gb s.ob with
  | some (.row v e el (.p (.int .i64) (.int .i64)) l [] AD AF),AC (.box a [.lf (.int .i64) n])=>if h=g/\v=ver/\a=vb/\e=2 then
    d.call (dU id g fn) (show ι (dU id g fn).aT from d.pr l n) λm=>k (.tp []) (s.obj g0 (.row v e el (.p I I) (show ι (.ls (.p I I)) from m) [] AD AF)).pop
   else d.no
  | _,_=>d.no)
 | [.c (.k .BK),_]=>k (.tp []) s.pop
 | _=>d.no⟩
def tyM(P:Program)(mo:AG AM)(t:TypeId):AH Ty:=match Ax 1000000000 t with
 | true=>(match EY (t - 1000000000) mo with|true=>AC .bool|false=>AD)
 | false=>LB P 8 t
def FV(s:S Ty.T)(c:C Ty.T):Prop:=∀r∈refs c,∃o,look r.1 s.ob=AC o/\r.2<=o.ver
def CZ(s:S Ty.T)(l:AG (C Ty.T)):Prop:=∀c∈l,FV s c
def V.all:V Ty.T->AG (C Ty.T)
 | .c x=>[x]
 | .ag l=>l
 | .tp l=>l.flatMap (·.2)
def okV(s:S Ty.T)(v:V Ty.T):Prop:=CZ s v.all
structure Inv (s:S Ty.T):Prop where
 sl:∀p∈s.sl,okV s p.2
 lo:∀l∈s.lo,∀p∈l,okV s p.2
 ob:∀g o,look g s.ob=AC o->CZ s o.kids
 mo:∀m,s.mo=AC m->m.g<mB/\0<m.vt.sz/\∀g o,look g s.ob=AC o->Ey s.mo g=AF
structure CQ (s s':S Ty.T):Prop where
 sl:s'.sl=s.sl
 lo:s'.lo=s.lo
 ok:∀c,FV s c->FV s' c/\AB s' c=AB s c
theorem CQ.refl(s:S Ty.T):CQ s s:=⟨rfl,rfl,λ_ h=>⟨h,rfl⟩⟩
theorem CQ.trans{a b c:S Ty.T}(h:CQ a b)(k:CQ b c):CQ a c:=
 ⟨k.sl.trans h.sl,k.lo.trans h.lo,λx hx=>⟨(k.ok x (h.ok x hx).1).1,((k.ok x (h.ok x hx).1).2).trans (h.ok x hx).2⟩⟩
theorem Xq{α:Type}{d:AM}:∀ {l:AG (AM×α)} {v:α},look d l=AC v->(d,v)∈l
 | [],_,h=>by cases h
 | (n,x)::r,v,h=>by
  simp only [look] at h;cases a:Aa n d with
  | true=>rw [a] at h;injection h with h;subst h;have:=Bs a;subst this;exact .head _
  | false=>rw [a] at h;exact .tail _ (Xq h)
theorem Kp{α:Type}(n d:AM)(v:α)(l:AG (AM×α)):look d ((n,v)::l)=if n=d then AC v else look d l:=by
 simp only [look];cases a:Aa n d with
 | true=>rw [AS (Bs a)]
 | false=>rw [AR (Nat.ne_of_beq_eq_false a)]
theorem Inv.at{s:S Ty.T}(h:Inv s)(d:AM):okV s (s.at d):=by
 unfold S.at;cases hl:look d s.sl with
 | none=>intro c a;simp [V.all] at a;subst a;intro r hr;simp [refs] at hr
 | some v=>exact h.sl _ (Xq hl)
theorem CQ.okV{s s':S Ty.T}(h:CQ s s'){v:V Ty.T}(a:okV s v):Dn.okV s' v:=λc d=>(h.ok c (a c d)).1
theorem CQ.IJ{s s':S Ty.T}(h:CQ s s'){l:AG (C Ty.T)}(a:CZ s l):l.map (AB s')=l.map (AB s):=Ak λc d=>(h.ok c (a c d)).2
theorem CQ.AL{s s':S Ty.T}(h:CQ s s'){v:V Ty.T}(a:Dn.okV s v):Dn.AL s' v=Dn.AL s v:=by
 cases v with
 | c x=>exact (h.ok x (a x (by simp [V.all]))).2
 | ag l=>simp only [Dn.AL];rw [h.IJ (show CZ s l from a)]
 | tp l=>
  simp only [Dn.AL]
  congr 1
  refine Ak λp d=>?_;have:CZ s p.2:=λc f=>a c (List.mem_flatMap.2 ⟨p,d,f⟩);rw [h.IJ this]
theorem Inv.stab{s s':S Ty.T}(hi:Inv s)(h:CQ s s')(v:∀g o,look g s'.ob=AC o->look g s.ob=AC o\/CZ s' o.kids/\Ey s.mo g=AF)(hmo:s'.mo=s.mo):Inv s' where
 sl p f:=h.okV (hi.sl p (h.sl▸f))
 lo l hl p f:=h.okV (hi.lo l (h.lo▸hl) p f)
 ob g o r:=by
  rcases v g o r with a|a
  .exact λc w=>(h.ok c (hi.ob g o a c w)).1
  .exact a.1
 mo m d:=by
  rw [hmo] at d ⊢;refine ⟨(hi.mo m d).1,(hi.mo m d).2.1,λg o r=>?_⟩;rcases v g o r with a|a
  .exact (hi.mo m d).2.2 g o a
  .exact a.2
theorem Inv.free{s:S Ty.T}(hi:Inv s){g:AM}{o:Ob Ty.T}(d:look g s.ob=AC o):Ey s.mo g=AF:=by
 cases a:s.mo with
 | none=>rfl
 | some m=>rw [<-a];exact (hi.mo m a).2.2 g o d
theorem NP{s:S Ty.T}{g:AM}(h:s.has g=AF):look g s.ob=AD:=by
 unfold S.has at h;rw [Bj] at h;cases a:look g s.ob with
 | none=>rfl
 | some o=>rw [a] at h;cases h.1
theorem lJ{s:S Ty.T}{g:AM}(h:s.has g=AF):Ey s.mo g=AF:=by unfold S.has at h;rw [Bj] at h;exact h.2
theorem Kaa{m:AH (Mo Ty.T)}{g:AM}(h:Ey m g=AF):Ef m g=AD:=by
 cases m with
 | none=>rfl
 | some m=>
  unfold Ey at h;rw [Bj] at h;have d:g≠m.g:=λe=>by subst e;rw [Nat.beq_refl] at h;cases h.1
  have a:¬mB<=g:=λe=>by rw [Bt e] at h;cases h.2
  show m.at g=AD;unfold Mo.at;rw [AR d,AR a]
theorem Inv.put{s:S Ty.T}(hi:Inv s){v:V Ty.T}(f:okV s v)(d:AH AM):Inv (s.put d v):=by
 cases d with
 | none=>exact hi
 | some d=>
  refine ⟨λp a=>?_,hi.lo,hi.ob,hi.mo⟩;rcases Du.1 a with rfl|a
  .exact f
  .exact hi.sl p a
theorem Jux(s:S Ty.T)(d:AH AM)(v:V Ty.T)(c:C Ty.T):AB (s.put d v) c=AB s c:=by cases d<;>cases c<;>rfl
theorem Rf(s:S Ty.T)(d:AH AM)(v x:V Ty.T):AL (s.put d v) x=AL s x:=by have e:AB (s.put d v)=AB s:=funext (Jux s d v);cases x<;>simp only [AL,e]
theorem jO(s:S Ty.T)(d:AH AM)(v:V Ty.T):AA (s.put d v)=AA s:=by
 have e:AB (s.put d v)=AB s:=funext (Jux s d v);have:BD (s.put d v)=BD s:=funext λo=>by cases o<;>simp only [BD,e]
 cases d with
 | none=>rfl
 | some d=>funext g;simp only [AA];rw [this];rfl
theorem wD(s:S Ty.T)(d:AH AM)(v:V Ty.T):enc (s.put d v)=(enc s).put d (AL s v) (AA s):=by
 unfold enc;rw [jO];cases d with
 | none=>rfl
 | some d=>
  simp only [St.put]
  congr 1
  funext n;rw [Rf];simp only [S.at,S.put,Kp,upd];by_cases h:d=n
  .subst h;simp
  .rw [AR h,AR (λe=>h e.symm)]
theorem NM{s s':S Ty.T}(hi:Inv s)(h:CQ s s'):enc s'=⟨(enc s).f,AA s'⟩:=by
 unfold enc
 congr 1
 funext n;have:s'.at n=s.at n:=by simp only [S.at,h.sl]
 rw [this,h.AL (hi.at n)]
def Ty.one:Ty->AN
 | .u|.p _ _=>AF
 | _=>AE
theorem lu{t:Ty}(h:t.one=AE)(v:t.T):t.cs v=[Yb (t.cs v)]:=by cases t<;>simp [Ty.one] at h<;>rfl
theorem zy:∀(t:Ty) (v:t.T),(t.cs v).length=t.sz
 | .int _,_=>rfl
 | .bool,_=>rfl
 | .str,_=>rfl
 | .ls _,_=>rfl
 | .bf _ _,_=>rfl
 | .u,_=>rfl
 | .p a b,v=>by simp [Ty.cs,Ty.sz,zy a,zy b]
theorem Xh(s:S Ty.T):∀(t:Ty) (v:t.T),(expl val t v).map (AB s)=t.cs v
 | .int _,_=>rfl
 | .bool,_=>rfl
 | .str,_=>rfl
 | .ls _,_=>rfl
 | .bf _ _,_=>rfl
 | .u,_=>rfl
 | .p a b,v=>by simp only [expl,By,Ty.cs];rw [Xh s a,Xh s b];rfl
theorem TY(t:Ty)(v:t.T):(expl val t v).length=t.sz:=by have:=AT List.length (Xh ⟨[],[],[],[],AD⟩ t v);rwa [Av,zy] at this
theorem Sr(s:S Ty.T):∀(t:Ty) (v:t.T),CZ s (expl val t v)
 | .int _,_=>λc d=>by simp [expl] at d;subst d;intro r hr;simp [refs] at hr
 | .bool,_=>λc d=>by simp [expl] at d;subst d;intro r hr;simp [refs] at hr
 | .str,_=>λc d=>by simp [expl] at d;subst d;intro r hr;simp [refs] at hr
 | .ls _,_=>λc d=>by simp [expl] at d;subst d;intro r hr;simp [refs] at hr
 | .bf _ _,_=>λc d=>by simp [expl] at d;subst d;intro r hr;simp [refs] at hr
 | .u,_=>λc d=>by simp [expl] at d
 | .p a b,v=>λc d=>by simp only [expl,Bn] at d;exact d.elim (Sr s a _ c) (Sr s b _ c)
theorem Xo{ι:Ty->Type}{a b:Ty}{v:ι a}{x:ι b}(h:cast? a b v=AC x):∃e:a=b,x=e▸v:=by
 unfold cast? at h;split at h
 .rename_i e;injection h with h;exact ⟨e,h.symm⟩
 .cases h
theorem nV{s:S Ty.T}{t:Ty}{c:C Ty.T}{y:t.T}(a:t.one=AE)(h:jj val t c=AC y):t.cs y=[AB s c]:=by
 cases c with
 | lf d v=>
  obtain ⟨e,rfl⟩:=Xo (ι:=Ty.T) h;subst e;exact lu a v
 | kb b=>
  obtain ⟨e,rfl⟩:=Xo (ι:=Ty.T) h;subst e;rfl
 | _=>simp [jj] at h
def Exact(s:S Ty.T)(lw:(t:Ty)->C Ty.T->AH t.T):Prop:=∀(t:Ty) (c:C Ty.T) (y:t.T),t.one=AE->lw t c=AC y->t.cs y=[AB s c]
theorem oD(s:S Ty.T):Exact s (jj val):=λ_ _ _ a h=>nV a h
theorem nM{s:S Ty.T}{lw:(t:Ty)->C Ty.T->AH t.T}(g:Exact s lw):∀(t:Ty) {l r:AG (C Ty.T)} {x:t.T},impl val lw t l=AC (x,r)->l.map (AB s)=t.cs x++r.map (AB s)
 | .u,l,r,x,h=>by simp only [impl] at h;injection h with h;simp only [Bd] at h;obtain ⟨-,rfl⟩:=h;rfl
 | .p a b,l,r,x,h=>by
  simp only [impl] at h;cases w:impl val lw a l with
  | none=>rw [w] at h;cases h
  | some p=>
   obtain ⟨u,A⟩:=p;rw [w] at h;simp only [Bk] at h;cases m:impl val lw b A with
   | none=>rw [m] at h;cases h
   | some q=>
    obtain ⟨v,B⟩:=q;rw [m] at h;simp only [Ad,Aj,Bd] at h;obtain ⟨rfl,rfl⟩:=h;rw [nM g a w,nM g b m,<-Bf];rfl
 | .int k,l,r,x,h=>by
  cases l with
  | nil=>cases h
  | cons c l=>
   simp only [impl] at h;cases d:lw (.int k) c with
   | none=>rw [d] at h;cases h
   | some y=>rw [d] at h;simp only [Ad,Aj,Bd] at h;obtain ⟨rfl,rfl⟩:=h;rw [g _ _ _ rfl d];rfl
 | .bool,l,r,x,h=>by
  cases l with
  | nil=>cases h
  | cons c l=>
   simp only [impl] at h;cases d:lw .bool c with
   | none=>rw [d] at h;cases h
   | some y=>rw [d] at h;simp only [Ad,Aj,Bd] at h;obtain ⟨rfl,rfl⟩:=h;rw [g _ _ _ rfl d];rfl
 | .str,l,r,x,h=>by
  cases l with
  | nil=>cases h
  | cons c l=>
   simp only [impl] at h;cases d:lw .str c with
   | none=>rw [d] at h;cases h
   | some y=>rw [d] at h;simp only [Ad,Aj,Bd] at h;obtain ⟨rfl,rfl⟩:=h;rw [g _ _ _ rfl d];rfl
 | .ls t,l,r,x,h=>by
  cases l with
  | nil=>cases h
  | cons c l=>
   simp only [impl] at h;cases d:lw (.ls t) c with
   | none=>rw [d] at h;cases h
   | some y=>rw [d] at h;simp only [Ad,Aj,Bd] at h;obtain ⟨rfl,rfl⟩:=h;rw [g _ _ _ rfl d];rfl
 | .bf f t,l,r,x,h=>by
  cases l with
  | nil=>cases h
  | cons c l=>
   simp only [impl] at h;cases d:lw (.bf f t) c with
   | none=>rw [d] at h;cases h
   | some y=>rw [d] at h;simp only [Ad,Aj,Bd] at h;obtain ⟨rfl,rfl⟩:=h;rw [g _ _ _ rfl d];rfl
theorem Jx9{s:S Ty.T}{lw:(t:Ty)->C Ty.T->AH t.T}(a:Exact s lw)(t:Ty):∀(n:AM) {l:AG (C Ty.T)} {x:AG t.T},JH val lw t n l=AC x->l.map (AB s)=x.flatMap t.cs
 | 0,l,x,h=>by cases h
 | n+1,l,x,h=>by
  cases l with
  | nil=>simp only [JH] at h;injection h with h;subst h;rfl
  | cons c l=>
   simp only [JH] at h;cases f:impl val lw t (c::l) with
   | none=>rw [f] at h;cases h
   | some p=>
    obtain ⟨u,r⟩:=p;rw [f] at h;simp only [Bk] at h;cases d:JH val lw t n r with
    | none=>rw [d] at h;cases h
    | some y=>
     rw [d] at h;simp only [Ad] at h;obtain rfl:x=(u:t.T)::(y:AG t.T):=(Am h).symm;rw [nM a t f,Jx9 a t n d];rfl
theorem jB(s:S Ty.T)(v:AV):AB s (cC val v)=v:=by cases v<;>rfl
theorem vO(s:S Ty.T)(v:AV):FV s (cC val v):=by cases v<;>(intro r hr;simp [cC,refs] at hr)
theorem Ko(s:S Ty.T)(x:LO):(enc s).ev x=AL s (ev val s x):=by
 cases x with
 | t n=>rfl
 | c v=>
  show v=AL s (cV val v);unfold cV;split
  .simp only [AL,Db]
   congr 1
   exact (Dg _).symm.trans (Ak λv _=>(jB s v).symm)
  .rfl
  .rfl
  .exact (jB s _).symm
theorem Xe{s:S Ty.T}{c:C Ty.T}(h:FV s c):okV s (.c c):=λx hx=>by simp [V.all] at hx;subst hx;exact h
theorem Ka(s:S Ty.T){c:C Ty.T}(h:refs c=[]):FV s c:=λr hr=>by rw [h] at hr;cases hr
theorem Lh{s:S Ty.T}(hi:Inv s)(x:LO):okV s (ev val s x):=by
 cases x with
 | t n=>exact hi.at n
 | c v=>
  show okV s (cV val v);unfold cV;split
  .intro c a;obtain ⟨v,_,rfl⟩:=Dc.1 (show c∈List.map _ _ from a);exact vO s v
  .intro c a;simp [V.all] at a
  .exact Xe (Ka s rfl)
  .exact Xe (vO s _)
structure JQ (call:Vv.Call) (base g0:AM) (s:S Ty.T) (op:CO) (v:V Ty.T) (s':S Ty.T):Prop where
 ev:Ja call base (enc s) g0 op=AC (AL s' v,AA s')
 st:CQ s s'
 iv:Inv s'
 ov:okV s' v
section
variable {call:Vv.Call} {base g0:AM} {s:S Ty.T} {α:Type} {r:α}
theorem Ji{β:Type}{x:AH β}{k:β->AH α}(h:BP val x k=AC r):∃v,x=AC v/\k v=AC r:=by
 cases x with
 | none=>cases h
 | some v=>exact ⟨v,rfl,h⟩
theorem Kl{c:AN}{x:AH α}(h:val.gd c x=AC r):c=AE/\x=AC r:=by
 cases c with
 | true=>exact ⟨rfl,h⟩
 | false=>cases h
theorem Sv{c:AN}{x y:AH α}(h:val.br c x y=AC r):(c=AE/\x=AC r)\/(c=AF/\y=AC r):=by
 cases c with
 | true=>exact .inl ⟨rfl,h⟩
 | false=>exact .inr ⟨rfl,h⟩
theorem J1o{t:Ty}{l:AG t.T}{i:AI}{k:t.T->AH α}(h:val.ge (t:=t) l i k=AC r):∃x,0<=i/\l[i.toNat]?=AC x/\k x=AC r:=by
 change Hz (Fb l i) k=AC r at h;unfold Fb at h;by_cases a:0<=i
 .rw [AS a] at h;cases hx:l[i.toNat]? with
  | none=>rw [hx] at h;cases h
  | some x=>rw [hx] at h;exact ⟨x,a,rfl,h⟩
 .rw [AR a] at h;cases h
theorem JQ.same(hi:Inv s){op:CO}{v:V Ty.T}(d:Ja call base (enc s) g0 op=AC (AL s v,AA s))(a:okV s v):JQ call base g0 s op v s:=⟨d,.refl s,hi,a⟩
theorem RU{x:LO}{k:IntKind}{a:AI}(h:MQ k (ev val s x)=AC a):(enc s).ev x=.int k a:=by
 rw [Ko];unfold MQ at h;split at h
 .rename_i t v hx;obtain ⟨e,rfl⟩:=Xo (ι:=Ty.T) h;subst e;rw [hx];rfl
 .cases h
theorem Ow{ag:AN}{l:AG (C Ty.T)}{v:V Ty.T}(h:pk ag l=AC v)(s:S Ty.T):AL s v=(if ag=AE then .agg (l.map (AB s)) else (l.map (AB s)).headD .any)/\(∀c∈v.all,c∈l)/\(ag=AE\/l.length=1):=by
 unfold pk at h;split at h
 .rename_i a;injection h with h;subst h;rw [AS a];exact ⟨rfl,λc d=>d,.inl a⟩
 .rename_i a;split at h
  .injection h with h;subst h;rw [AR a];exact ⟨rfl,λc d=>d,.inr rfl⟩
  .cases h
theorem nJ{ag:AN}{l:AG (C Ty.T)}{off n:AM}{v:V Ty.T}(m:off+n<=l.length)(h:pk ag (Ev l off n)=AC v)(s:S Ty.T):pack ag (l.map (AB s)) off n=AC (AL s v)/\∀c∈v.all,c∈l:=by
 obtain ⟨w,r,f⟩:=Ow h s;refine ⟨?_,λc g=>Dr (Ds (r c g))⟩;have d:(Ev l off n).length=n:=by simp [Ev];omega
 have g:(Ev l off n).map (AB s)=cut (l.map (AB s)) off n:=by simp [Ev,cut]
 unfold pack;rw [AS (by simpa using m),w,g];cases ag with
 | true=>rfl
 | false=>
  rw [d] at f;have f:n=1:=by simpa using f
  subst f;simp only [Ba,if_false];unfold cut;have a:off<(l.map (AB s)).length:=by simp;omega
  rw [List.getElem?_eq_getElem a,List.drop_eq_getElem_cons a];rfl
theorem WC(hi:Inv s){x:LO}:JQ call base g0 s (.fH x) (ev val s x) s:=.same hi (by simp only [Ja,Ko];rfl) (Lh hi x)
theorem wu{v:V Ty.T}:∀c∈v.cells,c∈v.all:=by cases v<;>simp [V.cells,V.all]
theorem Kay{c:C Ty.T}(h:c.plain=AE)(s:S Ty.T):(AB s c).one=AE:=by
 cases c with
 | lf t v=>cases t<;>simp [C.plain] at h<;>rfl
 | any=>cases h
 | k v=>exact h
 | _=>rfl
theorem Jqi{v:V Ty.T}(h:v.good=AE)(s:S Ty.T):(AL s v).cells=AC (v.cells.map (AB s)):=by
 cases v with
 | tp l=>cases h
 | ag l=>rfl
 | c x=>
  have d:=Kay h s;simp only [AL,V.cells,Bu,Ao];generalize AB s x=a at d;cases a<;>simp_all [AV.cells,AV.one]
end
section
variable {call:Vv.Call} {base g0:AM} {s:S Ty.T} {α:Type} {r:α}
theorem CQ.BD{s s':S Ty.T}(h:CQ s s'){o:Ob Ty.T}(a:CZ s o.kids):Dn.BD s' o=Dn.BD s o:=by
 cases o with
 | mp v kt vt es=>rfl
 | em v kt vt el=>rfl
 | box v cs=>simp only [Dn.BD];rw [h.IJ (show CZ s cs from a)]
 | lit v e el cs z=>simp only [Dn.BD];rw [h.IJ (show CZ s cs from a)]
 | row v e el t l x nest z=>
  have hx:CZ s x:=λc d=>a c (by simp only [Ob.kids];exact Do _ d);simp only [Dn.BD];rw [h.IJ hx];cases nest with
  | none=>rfl
  | some p=>
   simp only [Xm];rw [(h.ok p.2 (a p.2 (by simp [Ob.kids]))).2]
theorem ji(s:S Ty.T)(o:Ob Ty.T):(Dn.BD s o).ver=o.ver:=by cases o<;>rfl
theorem Qb(g a:AM)(o:Ob Ty.T):look a (s.obj g o).ob=if g=a then AC o else look a s.ob:=Kp g a o s.ob
theorem Zh{g:AM}{o:Ob Ty.T}(h:∀a,look g s.ob=AC a->a.ver=o.ver/\a.CJ=o.CJ):CQ s (s.obj g o):=by
 refine ⟨rfl,rfl,λc m=>⟨λr hr=>?_,?_⟩⟩
 .obtain ⟨a,f,l⟩:=m r hr;rw [Qb];by_cases d:g=r.1
  .subst d;rw [AS rfl];exact ⟨o,rfl,by rw [<-(h a f).1];exact l⟩
  .rw [AR d];exact ⟨a,f,l⟩
 .cases c<;>try rfl
  rename_i w v;obtain ⟨a,f,l⟩:=m (w,v) (by simp [refs]);simp only [Dn.AB,Q4,Qb];by_cases d:g=w
  .subst d;obtain ⟨A,y⟩:=h a f;rw [AS rfl,f];simp only [<-A,<-y];rfl
  .rw [AR d];rfl
theorem J18{g:AM}{m o:Ob Ty.T}{n:AI}(A:look g s.ob=AC m)(H:o.ver=m.ver+1)(G:n.toNat=m.CJ):CQ s ((s.old g m.ver n).obj g o):=by
 refine ⟨rfl,rfl,λc E=>⟨λr hr=>?_,?_⟩⟩
 .obtain ⟨B,a,y⟩:=E r hr;show ∃o',look r.1 ((g,o)::s.ob)=AC o'/\_;rw [Kp];by_cases w:g=r.1
  .subst w;rw [AS rfl];rw [A] at a;injection a with a;subst a;exact ⟨o,rfl,by omega⟩
  .rw [AR w];exact ⟨B,a,y⟩
 .cases c<;>try rfl
  rename_i l v;obtain ⟨B,a,y⟩:=E (l,v) (by simp [refs]);have e:look l ((s.old g m.ver n).obj g o).ob=if g=l then AC o else look l s.ob:=Kp g l o s.ob;simp only [Dn.AB,Q4,e];by_cases w:g=l
  .subst w;rw [A] at a;injection a with a;subst a;simp only at y;rw [AS rfl,A];simp only;rw [AR (by omega:¬o.ver=v)];show AV.arr g v 0 (oV g v ((g,m.ver,n)::s.ln))=_;simp only [oV,true_and];by_cases f:m.ver=v
   .rw [AS f,AS f];exact AT _ G
   .rw [AR f,AR f]
  .rw [AR w];cases J:look l s.ob with
   | none=>rfl
   | some F=>
    simp only;by_cases d:F.ver=v
    .rw [AS d,AS d]
    .rw [AR d,AR d];show AV.arr l v 0 (oV l v ((g,m.ver,n)::s.ln))=_;simp only [oV];rw [AR (λh=>w h.1)]
theorem jf(hi:Inv s){s':S Ty.T}{g:AM}{o:Ob Ty.T}(hs:CQ s s')(hl:∀a,look a s'.ob=if g=a then AC o else look a s.ob)(hmo:s'.mo=s.mo:=by rfl):AA s'=upd (AA s) g (AC (Dn.BD s' o)):=by
 funext a;simp only [AA,hl,upd,hmo];by_cases d:g=a
 .subst d;simp
 .rw [AR d,AR (λe=>d e.symm)];cases f:look a s.ob with
  | none=>rfl
  | some o'=>simp only;rw [hs.BD (hi.ob a o' f)]
theorem MV(hi:Inv s){s':S Ty.T}{g:AM}{o:Ob Ty.T}(hs:CQ s s')(hl:∀a,look a s'.ob=if g=a then AC o else look a s.ob)(l:CZ s' o.kids)(f:Ey s.mo g=AF)(hmo:s'.mo=s.mo:=by rfl):Inv s':=
 hi.stab hs (hmo:=hmo) λa o' h=>by
  rw [hl] at h;by_cases d:g=a
  .rw [AS d] at h;injection h with h;subst h;exact .inr ⟨l,d▸f⟩
  .rw [AR d] at h;exact .inl h
theorem nO{g:AM}(h:s.has g=AF):AA s g=AD:=by simp [AA,NP h,Kaa (lJ h)]
theorem jZ{m:AH (Mo Ty.T)}{g:AM}{o:AU}(h:Ef m g=AC o):Ey m g=AE/\∃a,m=AC a/\((g=a.g/\o=.map 0 (GZ a.kt a.vt 0 a.es) AF)\/(g≠a.g/\mB<=g/\∃e,I5 (α:=a.kt.T×AG a.vt.T) a.es (g - mB)=AC e/\o=JI a.vt a.el e.2)):=by
 cases m with
 | none=>cases h
 | some m=>
  have d:m.at g=AC o:=h;clear h;unfold Mo.at at d;split at d
  .rename_i e;injection d with d;subst e;exact ⟨by simp [Ey],m,rfl,.inl ⟨rfl,d.symm⟩⟩
  .rename_i l;split at d
   .rename_i f;obtain ⟨e,v,r⟩:=Option.map_eq_some_iff.1 d;refine ⟨?_,m,rfl,.inr ⟨l,f,e,v,r.symm⟩⟩;show (Aa m.g g || Ax mB g)=AE;rw [Bt f,Bool.or_true]
   .cases d
theorem tT{g:AM}{o:AU}(h:AA s g=AC o):(∃ob,look g s.ob=AC ob/\o=Dn.BD s ob)\/(look g s.ob=AD/\Ef s.mo g=AC o):=by
 simp only [AA] at h;cases hl:look g s.ob with
 | some ob=>rw [hl] at h;injection h with h;exact .inl ⟨ob,rfl,h.symm⟩
 | none=>rw [hl] at h;exact .inr ⟨rfl,h⟩
theorem J4d{g v:AM}{es:AG (AV×AV)}{z:AN}(h:AA s g=AC (.map v es z)):z=AF:=by
 rcases tT h with ⟨ob,-,e⟩|⟨-,h⟩
 .cases ob<;>simp only [Dn.BD,AU.map.injEq,reduceCtorEq] at e
  .exact e.2.2
  .exact e.2.2
 .obtain ⟨-,m,-,⟨-,e⟩|⟨-,-,x,-,e⟩⟩:=jZ h
  .injection e
  .cases e
theorem Jj{g:AM}{o:Ob Ty.T}(h:look g s.ob=AC o):AA s g=AC (Dn.BD s o):=by simp [AA,h]
theorem Xk{g:AM}(h:s.has g=AF):Kh (AA s) g=s.nv g:=by unfold Kh S.nv;rw [NP h,nO h]
theorem jJ(hi:Inv s){op:CO}{v:V Ty.T}{o:Ob Ty.T}{av:AV}{ao:AU}(f:s.has g0=AF)(r:Ja call base (enc s) g0 op=AC (av,upd (AA s) g0 (AC ao)))
  (g:AL (s.obj g0 o) v=av) (l:Dn.BD (s.obj g0 o) o=ao) (m:CZ (s.obj g0 o) o.kids) (a:okV (s.obj g0 o) v):JQ call base g0 s op v (s.obj g0 o):=by
 have hs:CQ s (s.obj g0 o):=Zh λw h=>by rw [NP f] at h;cases h
 refine ⟨?_,hs,MV hi hs (λd=>Qb g0 d o) m (lJ f),a⟩;rw [r,g,jf hi hs (λd=>Qb g0 d o),l]
theorem nv0{g:AM}(h:look g s.ob=AD):s.nv g=0:=by simp [S.nv,h]
theorem bO{g:AM}{o:Ob Ty.T}{c:C Ty.T}(h:refs c=[(g,o.ver)]):FV (s.obj g o) c:=λr hr=>by rw [h] at hr;simp at hr;subst hr;exact ⟨o,by rw [Qb,AS rfl],Bv _⟩
theorem Kam(hi:Inv s){z:AG AV}(a:s.has g0=AF):JQ call base g0 s (.alloc z) (.c (.ptr g0 (s.nv g0) 0)) (s.obj g0 (.box (s.nv g0) (z.map (cC val)))):=by
 refine jJ hi a (by simp only [Ja];rfl) ?_ ?_ (λc d=>?_) (Xe (bO rfl))
 .simp only [AL,AB];rw [show (enc s).h=AA s from rfl,Xk a]
 .simp only [Dn.BD,Db];rw [show (enc s).h=AA s from rfl,Xk a]
  congr 1
  exact (Ak λv _=>jB _ v).trans (Dg _)
 .obtain ⟨v,_,rfl⟩:=Dc.1 (show c∈List.map _ _ from d);exact vO _ v
theorem XO(hi:Inv s){x:LO}(d:s.has g0=AF)(f:(ev val s x).good=AE):JQ call base g0 s (.box x) (.c (.ptr g0 (s.nv g0) 0)) (s.obj g0 (.box (s.nv g0) (ev val s x).cells)):=by
 have hs:CQ s (s.obj g0 (.box (s.nv g0) (ev val s x).cells)):=Zh λg h=>by rw [NP d] at h;cases h
 have a:CZ s (ev val s x).cells:=λc a=>Lh hi x c (wu c a);refine jJ hi d (by simp only [Ja];rw [Ko,Jqi f];rfl) ?_ ?_ (λc h=>(hs.ok c (a c h)).1) (Xe (bO rfl))
 .simp only [AL,AB];rw [show (enc s).h=AA s from rfl,Xk d]
 .simp only [Dn.BD];rw [hs.IJ a,show (enc s).h=AA s from rfl,Xk d]
theorem yO(l:AG (C Ty.T))(off:AM)(new:AG (C Ty.T))(f:C Ty.T->AV):(Li l off new).map f=paste (l.map f) off (new.map f):=by simp [Li,paste]
theorem Jp6{l new:AG (C Ty.T)}{off:AM}{s:S Ty.T}(d:CZ s l)(f:CZ s new):CZ s (Li l off new):=λc a=>by
 simp only [Li,Bn] at a;rcases a with (a|a)|a
 .exact d c (Ds a)
 .exact f c a
 .exact d c (Dr a)
theorem J5p{l new:AG (C Ty.T)}{off:AM}(h:off+new.length<=l.length):(Li l off new).length=l.length:=by simp [Li];omega
theorem Jpl(hi:Inv s):∀ {ps:AG (AM×AM×LO)} {z l:AG (C Ty.T)},CZ s z->bG (ev val s) z ps=AC l->Ml (enc s).ev (z.map (AB s)) ps=AC (l.map (AB s))/\CZ s l
 | [],z,l,a,h=>by simp only [bG] at h;injection h with h;subst h;exact ⟨rfl,a⟩
 | (off,n,x)::ps,z,l,a,h=>by
  simp only [bG] at h;split at h
  .rename_i d;obtain ⟨v,r,m⟩:=d;have hx:CZ s (ev val s x).cells:=λc d=>Lh hi x c (wu c d);obtain ⟨g,f⟩:=Jpl hi (Jp6 a hx) h;refine ⟨?_,f⟩;simp only [Ml,Ko,Jqi m];rw [AS (by simp;omega),<-g,yO]
  .cases h
theorem J96(hi:Inv s){z:AG AV}{ps:AG (AM×AM×LO)}{l:AG (C Ty.T)}(h:bG (ev val s) (z.map (cC val)) ps=AC l):JQ call base g0 s (.build z ps) (.ag l) s:=by
 obtain ⟨a,g⟩:=Jpl hi (λc f=>by obtain ⟨v,_,rfl⟩:=Dc.1 f;exact vO s v) h;have d:(z.map (cC val)).map (AB s)=z:=by rw [Db];exact (Ak λv _=>jB s v).trans (Dg _)
 rw [d] at a;exact .same hi (by simp only [Ja,a];rfl) g
theorem xC(z:AG AV)(s:S Ty.T):∀n,(GN (z.map (cC val)) n).map (AB s)=Zc z n
 | 0=>rfl
 | n+1=>by
  simp only [GN,Zc,By,xC z s n,Db]
  congr 1
  exact (Ak λv _=>jB s v).trans (Dg _)
theorem Jzu(z:AG AV)(s:S Ty.T):∀n,CZ s (GN (z.map (cC val)) n)
 | 0=>λc a=>by cases a
 | n+1=>λc a=>by
  simp only [GN,Bn] at a;rcases a with a|a
  .obtain ⟨v,_,rfl⟩:=Dc.1 a;exact vO s v
  .exact Jzu z s n c a
theorem uK{g:AM}{o:Ob Ty.T}:Q4 (s.obj g o) g o.ver=o.CJ:=by simp [Q4,Qb]
theorem J6h(hi:Inv s){n esz:AM}{el:TypeId}{z:AG AV}{ps:AG (AM×AM×LO)}{l:AG (C Ty.T)}(a:s.has g0=AF)(h:bG (ev val s) (GN (z.map (cC val)) n) ps=AC l)
  (hl:l.length=n * esz) (g:0<esz):JQ call base g0 s (.Eb n esz el z ps) (.c (.own g0 (s.nv g0))) (s.obj g0 (.lit (s.nv g0) esz el l AF)):=by
 have hs:CQ s (s.obj g0 (.lit (s.nv g0) esz el l AF)):=Zh λr h=>by rw [NP a] at h;cases h
 obtain ⟨f,d⟩:=Jpl hi (Jzu z s n) h;rw [xC] at f;refine jJ hi a (by simp only [Ja,f];rfl) ?_ ?_ (λc m=>(hs.ok c (d c m)).1) (Xe (bO rfl))
 .simp only [AL,AB];rw [show Q4 (s.obj g0 (.lit (s.nv g0) esz el l AF)) g0 (s.nv g0)=l.length / esz from uK (o:=.lit (s.nv g0) esz el l AF),show (enc s).h=AA s from rfl,Xk a,hl,Bb _ g]
 .simp only [Dn.BD];rw [hs.IJ d,show (enc s).h=AA s from rfl,Xk a]
end
theorem Yy{t:Ty}:∀l:AG t.T,(l.flatMap t.cs).length=l.length * t.sz
 | []=>by simp
 | x::l=>by simp only [Ac,Ar,zy,Yy l,List.length_cons,Ah];omega
theorem jU{t:Ty}:∀ {l:AG t.T} {i:AM} {e:t.T},l[i]?=AC e->cut (l.flatMap t.cs) (i * t.sz) t.sz=t.cs e
 | [],i,e,h=>by cases h
 | x::l,0,e,h=>by simp at h;subst h;simp only [cut,Ac,Bp,List.drop_zero];rw [Bz (by rw [zy];exact Bv _),Be (by rw [zy];exact Bv _)]
 | x::l,i+1,e,h=>by
  have h:l[i]?=AC e:=by simpa using h
  have:=jU h;simp only [cut,Ac] at this ⊢;rw [show (i+1) * t.sz=(t.cs x).length+i * t.sz by rw [zy,Ah];omega,Dh,Br (by omega),Dl];rw [show (t.cs x).length+i * t.sz - (t.cs x).length=i * t.sz by omega];exact this
theorem Ka8{L:AG AV}{a m off n:AM}(h:off+n<=m):cut (cut L a m) off n=cut L (a+off) n:=by simp only [cut,List.drop_take,List.drop_drop,List.take_take];rw [Nat.min_eq_left (by omega)]
theorem XC{L:AG AV}{a m:AM}(hl:a+m<=L.length):(cut L a m).length=m:=by simp [cut];omega
theorem Jur{ag:AN}{L:AG AV}{a m off n:AM}(h:off+n<=m)(hl:a+m<=L.length)(d:ag=AE\/n=1):pack ag L (a+off) n=pack ag (cut L a m) off n:=by
 unfold pack;rw [AS (by omega:a+off+n<=L.length),AS (by rw [XC hl];exact h:off+n<=(cut L a m).length),Ka8 h];cases ag with
 | true=>rfl
 | false=>
  have:n=1:=by simpa using d
  subst this;simp only [Ba,if_false,cut,Dd,De];rw [AS (by omega)]
theorem Jo6{L:AG AV}{k a n:AM}{c:AV}(h:k<a\/a+n<=k):cut (L.set k c) a n=cut L a n:=by
 refine Bg λj=>?_;simp only [cut,Dd,De];by_cases d:j<n
 .rw [AS d,AS d,Bw (by omega)]
 .rw [AR d,AR d]
theorem J4x{L:AG AV}{a n no:AM}{c:AV}(h:no<n):cut (L.set (a+no) c) a n=(cut L a n).set no c:=by
 refine Bg λj=>?_;simp only [cut,Dd,De,Bh,List.length_take,Di];by_cases d:j<n
 .by_cases f:no=j
  .subst f;simp only [AS d,if_true];by_cases hl:a+no<L.length
   .rw [AS hl,AS (by omega)]
   .rw [AR hl,AR (by omega)]
  .rw [AS d,AR (by omega),AR f,AS d]
 .rw [AR d,AR (by omega),AR d]
theorem J61{ag:AN}{L:AG AV}{off n:AM}(h:off+n<=L.length)(a:ag=AE\/n=1):pack ag (L.drop off) 0 n=pack ag L off n:=by
 unfold pack;rw [AS (by simp;omega),AS h];cases ag with
 | true=>simp [cut]
 | false=>
  have:n=1:=by simpa using a
  subst this;simp
section
variable {call:Vv.Call} {base g0:AM} {s:S Ty.T} {α:Type} {r:α}
theorem ZQ(l:AG AV)(n sz:AM)(ec:C Ty.T->AV)(x:AH (AM×C Ty.T)):(Xm l n sz ec x).length=l.length:=by cases x<;>simp [Xm]
theorem OJ{t:Ty}{l:AG t.T}{i:AM}{e:t.T}{n:AH (AM×C Ty.T)}{ec:C Ty.T->AV}(h:l[i]?=AC e)(f:0<t.sz):Xm (l.flatMap t.cs) l.length t.sz ec n≠[]:=by intro d;have:=AT List.length d;rw [ZQ,Yy] at this;have hl:=(Ai.1 h).1;rcases Da.1 this with a|a<;>omega
theorem pU{ag:AN}{l:AG (C Ty.T)}{v:V Ty.T}(h:pk ag l=AC v):ag=AE\/l.length=1:=(Ow h ⟨[],[],[],[],AD⟩).2.2
theorem J3y{l:AG (C Ty.T)}{off n:AM}(h:off+n<=l.length):(Ev l off n).length=n:=by simp [Ev];omega
theorem J7f{i:AI}{n:AM}(h:val.cm .eql .i64 (val.pl i (1:AI)) ((n:AM):AI)=AE):i+1=n:=by have:((i+1:AI)==(n:AI))=AE:=h;simpa using this
theorem J3k{t:Ty}{l:AG t.T}{i:AM}{e:t.T}(h:l[i]?=AC e)(s:S Ty.T)(nest:AH (AM×C Ty.T))(a:∀p,nest=AC p->p.1<t.sz) :
  cut (Xm (l.flatMap t.cs) l.length t.sz (AB s) nest) (i * t.sz) t.sz=(match nest with|some p=>if i+1=l.length then (t.cs e).set p.1 (AB s p.2) else t.cs e|none=>t.cs e):=by
 have hl:=(Ai.1 h).1;cases nest with
 | none=>exact jU h
 | some p=>
  have d:=a p rfl;simp only [Xm];split
  .rename_i hi;rw [show l.length - 1=i by omega,J4x d,jU h]
  .rename_i hi;rw [Jo6,jU h];right;have:(i+1) * t.sz<=(l.length - 1) * t.sz:=Ae _ (by omega);rw [Ah] at this;omega
theorem J20(hi:Inv s){ag:AN}{n:AM}{x:V Ty.T}{k:V Ty.T->AH α}(hx:okV s x)(h:MJ val s ag n x k=AC r):∃v,IY (AA s) ag n (AL s x)=AC (AL s v)/\okV s v/\k v=AC r:=by
 unfold MJ at h;split at h
 .rename_i g ver off;split at h
  .rename_i v cs F;split at h
   .rename_i d;obtain ⟨rfl,w⟩:=d;obtain ⟨u,A,B⟩:=Ji h;obtain ⟨f,m⟩:=nJ w A s;refine ⟨u,?_,λc d=>hi.ob _ _ F c (m c d),B⟩;simp only [IY,JL,AL,AB,Jj F,BD];rw [AS trivial];exact f
   .cases h
  .rename_i v e el cs z F;split at h
   .rename_i d;obtain ⟨rfl,w,M⟩:=d;obtain ⟨u,A,B⟩:=Ji h;obtain ⟨f,m⟩:=nJ w A s;refine ⟨u,?_,λc d=>hi.ob _ _ F c (m c d),B⟩;simp only [IY,JL,AL,AB,Jj F,BD];rw [AS ⟨trivial,by simpa using M⟩];exact f
   .cases h
  .cases h
 .rename_i g ver esz i off;split at h
  .rename_i v e el t l nest z F;obtain ⟨L,rfl⟩:∃L:AG t.T,(show Ty.T (.ls t) from L)=l:=⟨l,rfl⟩;obtain ⟨I0,rfl⟩:∃I0:AI,(show Ty.T I from I0)=i:=⟨i,rfl⟩;split at h
   .rename_i d;obtain ⟨rfl,rfl,X,w,Q⟩:=d;subst X;obtain ⟨y,Y,H,h⟩:=J1o (l:=L) (i:=I0) h;have hl:=(Ai.1 H).1;have G:I0.toNat * t.sz+t.sz<=(Xm (L.flatMap t.cs) L.length t.sz (AB s) nest).length:=by rw [ZQ,Yy];have:(I0.toNat+1) * t.sz<=L.length * t.sz:=Ae _ hl;rw [Ah] at this;omega
    have key:∀ {E:AG (C Ty.T)} {u:V Ty.T},E.length=t.sz->(ag=AE\/n=1->pack ag (cut (Xm (L.flatMap t.cs) L.length t.sz (AB s) nest) (I0.toNat * t.sz) t.sz) off n=pack ag (E.map (AB s)) off n)->pk ag (Ev E off n)=AC u->IY (AA s) ag n (AL s (.c (.F5 g v t.sz (show Ty.T I from I0) off)))=AC (AL s u)/\∀c∈u.all,c∈E:=by intro E u hE J O;obtain ⟨f,m⟩:=nJ (by rw [hE];exact w) O s;refine ⟨?_,m⟩;have a:=pU O;rw [J3y (by rw [hE];exact w)] at a;simp only [IY,JL,AL,AB,Jj F,BD,Ao,Af];rw [AS ⟨trivial,OJ H Q⟩];simp only;rw [show (show AI from (show Ty.T I from I0)).toNat=I0.toNat from rfl];exact (Jur w G a).trans ((J a).trans f)
    cases nest with
    | none=>
     obtain ⟨u,A,B⟩:=Ji h;obtain ⟨f,m⟩:=key (TY t y) (λ_=>by rw [J3k H s AD (λp K=>by cases K),Xh]) A;exact ⟨u,f,λc d=>Sr s t y c (m c d),B⟩
    | some p=>
     obtain ⟨no,c⟩:=p;simp only at h;split at h
     .rename_i hr;obtain ⟨P,h⟩:=Kl h;have P:=J7f (n:=L.length) P;obtain ⟨u,A,B⟩:=Ji h;obtain ⟨f,m⟩:=key (by rw [Bo,TY]) (λ_=>by rw [J3k H s (AC (no,c)) (λp K=>by cases K;simp only;omega)];simp only;rw [AS (by omega),Dz,Xh]) A
      refine ⟨u,f,λc' d=>?_,B⟩;rcases List.mem_or_eq_of_mem_set (m c' d) with N|N
      .exact Sr s t y c' N
      .rw [N];exact hi.ob _ _ F c (by simp [Ob.kids])
     .rename_i hr;obtain ⟨u,A,B⟩:=Ji h;obtain ⟨f,m⟩:=key (TY t y) (λa=>by
       rw [Xh,<-Jur w G a];have R:I0.toNat * t.sz+t.sz<=(L.flatMap t.cs).length:=by rwa [ZQ] at G
       rw [<-jU H,<-Jur w R a];simp only [Xm];have F:(L.length - 1) * t.sz+no<I0.toNat * t.sz+off\/I0.toNat * t.sz+off+n<=(L.length - 1) * t.sz+no:=by
        by_cases hi:I0.toNat+1=L.length
        .rw [show L.length - 1=I0.toNat by omega];omega
        .have:(I0.toNat+1) * t.sz<=(L.length - 1) * t.sz:=Ae _ (by omega);rw [Ah] at this;omega
       unfold pack;rw [Bo,Jo6 F];cases ag with
       | true=>rfl
       | false=>
        have:n=1:=by simpa using a
        subst this;simp only [Ba,if_false];rw [Bw (by omega)]) A
      exact ⟨u,f,λc d=>Sr s t y c (m c d),B⟩
   .cases h
  .cases h
 .rename_i t v off;split at h
  .rename_i w;obtain ⟨u,A,B⟩:=Ji h;obtain ⟨f,m⟩:=nJ (by rw [TY];exact w) A s;refine ⟨u,?_,λc d=>Sr s t v c (m c d),B⟩;have a:=pU A;rw [J3y (by rw [TY];exact w)] at a;rw [Xh] at f;simp only [IY,JL,AL,AB];rw [J61 (by rw [zy];exact w) a];exact f
  .cases h
 .cases h
end
theorem J62{L L' c c':AG AV}{a:AM}(f:a+c.length<=L.length)(hl:L'.length=L.length)(d:c'.length=c.length)(h:∀i,(if a<=i/\i<a+c.length then c'[i - a]? else L'[i]?)=(if a<=i/\i<a+c.length then c[i - a]? else L[i]?)):paste L' a c'=paste L a c:=by refine Bg λi=>?_;rw [dA (by omega),dA f,d];exact h i
theorem Jyw{L c:AG AV}{a k:AM}{v:AV}(h:a+c.length<=L.length)(f:a<=k)(d:k<a+c.length):paste (L.set k v) a c=paste L a c:=by
 refine J62 h (by simp) rfl λi=>?_;by_cases hi:a<=i/\i<a+c.length
 .rw [AS hi,AS hi]
 .rw [AR hi,AR hi,Bw (by omega)]
theorem Jwh{L c:AG AV}{a k:AM}{v:AV}(h:a+c.length<=L.length)(d:k<a\/a+c.length<=k):paste (L.set k v) a c=(paste L a c).set k v:=by
 refine Bg λi=>?_;rw [dA (by simpa using h),Bh,Bh,dA h,cZ h];by_cases hi:a<=i/\i<a+c.length
 .rw [AS hi,AS hi,AR (by omega)]
 .rw [AR hi,AR hi]
theorem Jqv{L c:AG AV}{a j:AM}{v:AV}(h:a+c.length<=L.length)(f:j<c.length):paste L a (c.set j v)=(paste L a c).set (a+j) v:=by
 refine Bg λi=>?_;rw [dA (by simpa using h),Bo,Bh (l:=paste L a c),dA h,cZ h,Bh (l:=c)];by_cases hi:a<=i/\i<a+c.length
 .rw [AS hi,AS hi];by_cases d:a+j=i
  .rw [AS (by omega),AS d,AS f,AS (by omega)]
  .rw [AR (by omega),AR d]
 .rw [AR hi,AR hi,AR (by omega)]
theorem Jwx(A B c:AG AV)(k:AM):paste (A++B) (A.length+k) c=A++paste B k c:=by simp only [paste,Bf];rw [List.take_append,Be (by omega),Dk,Bf,Dv,Dh,Br (by omega),Dk,Dl]
theorem xL{t:Ty}{c:AG AV}{off:AM}{x z:t.T}(d:t.cs z=paste (t.cs x) off c)(a:off+c.length<=t.sz):∀ {l:AG t.T} {i:AM},l[i]?=AC x->(l.set i z).flatMap t.cs=paste (l.flatMap t.cs) (i * t.sz+off) c
 | [],i,h=>by cases h
 | y::l,0,h=>by simp at h;subst h;simp only [List.set_cons_zero,Ac,Bp,Bq];rw [d];simp only [paste];have hl:=zy t y;rw [Bz (by omega),List.drop_append_of_le_length (by omega)];simp
 | y::l,i+1,h=>by
  have h:l[i]?=AC x:=by simpa using h
  have:=xL d a h;simp only [List.set_cons_succ,Ac,this];rw [show (i+1) * t.sz+off=(t.cs y).length+(i * t.sz+off) by rw [zy,Ah];omega,Jwx]
theorem sV{β:Type}{l:AG β}{i:AM}{x:β}(h:l[i]?=AC x):l.set i x=l:=by obtain ⟨a,rfl⟩:=Ai.1 h;exact List.set_getElem_self a
section
variable {call:Vv.Call} {base g0:AM} {s:S Ty.T} {α:Type} {r:α}
theorem Jvg{lw:(t:Ty)->C Ty.T->AH t.T}(a:Exact s lw){t:Ty}{l q:AG (C Ty.T)}{x:t.T}(h:impl val lw t l=AC (x,q))(d:q.isEmpty=AE):t.cs x=l.map (AB s):=by have:=nM a t h;rw [Ay.1 d] at this;simpa using this.symm
theorem J7t{h:Heap}{n g ver off:AM}{y:AV}{c:AG AV}(a:y.cells=AC c)(hl:c.length=n):Sl h n (.ptr g ver off) y=(match h g with
  | some (.box ver' cells)=>if ver=ver'/\off+n<=cells.length then AC (upd h g (AC (.box ver' (paste cells off c)))) else AD
  | some (.arr ver' esz el cells AF)=>if ver=ver'/\off+n<=cells.length/\cells≠[] then AC (upd h g (AC (.arr ver' esz el (paste cells off c) AF))) else AD
  | _=>AD):=by unfold Sl;rw [a];simp only;rw [AS hl];rfl
theorem J9p(hi:Inv s){n:AM}{x y:V Ty.T}{k:S Ty.T->AH α}(hy:okV s y)(h:J9a val s n x y k=AC r):∃s',CQ s s'/\Inv s'/\Sl (AA s) n (AL s x) (AL s y)=AC (AA s')/\k s'=AC r:=by
 unfold J9a at h;split at h
 .cases h
 rename_i K;have hg:y.good=AE:=by
  cases hg:y.good with
  | true=>rfl
  | false=>exact (K (.inr hg)).elim
 have P:y.cells.length=n:=by
  by_cases h1:y.cells.length=n
  .exact h1
  .exact (K (.inl h1)).elim
 have G:CZ s y.cells:=λc d=>hy c (wu c d);have Q:(y.cells.map (AB s)).length=n:=by simpa using P
 have H:∀g ver off,Sl (AA s) n (.ptr g ver off) (AL s y)=_:=λg ver off=>J7t (Jqi hg s) Q;have fin:∀ {g:AM} {o:Ob Ty.T} {ao:AU},Ey s.mo g=AF->(∀J,look g s.ob=AC J->J.ver=o.ver/\J.CJ=o.CJ)->CZ s o.kids->BD s o=ao->CQ s (s.obj g o)/\Inv (s.obj g o)/\AA (s.obj g o)=upd (AA s) g (AC ao):=by intro g o ao hf h1 h2 h3;have hs:=Zh h1;refine ⟨hs,MV hi hs (λg'=>Qb g g' o) (λc d=>(hs.ok c (h2 c d)).1) hf,?_⟩;rw [jf hi hs (λg'=>Qb g g' o),hs.BD h2,h3]
 split at h
 .rename_i g ver off;split at h
  .rename_i v cs f;split at h
   .rename_i d;obtain ⟨rfl,O⟩:=d;obtain ⟨Z,Y,X⟩:=fin (g:=g) (o:=.box v (Li cs off y.cells)) (hi.free f) (λJ B=>by rw [f] at B;cases B;exact ⟨rfl,rfl⟩) (Jp6 (hi.ob _ _ f) G) rfl;refine ⟨_,Z,Y,?_,h⟩;rw [X,AL,AB,H,Jj f];simp only [BD];rw [AS ⟨trivial,by simpa using O⟩,yO]
   .cases h
  .rename_i v e el cs f;split at h
   .rename_i d;obtain ⟨rfl,O,hne⟩:=d;obtain ⟨Z,Y,X⟩:=fin (g:=g) (o:=.lit v e el (Li cs off y.cells) AF) (hi.free f) (λJ B=>by rw [f] at B;cases B;exact ⟨rfl,by simp only [Ob.CJ];rw [J5p (by omega)]⟩) (Jp6 (hi.ob _ _ f) G) rfl;refine ⟨_,Z,Y,?_,h⟩;rw [X,AL,AB,H,Jj f];simp only [BD];rw [AS ⟨trivial,by simpa using O,by simpa using hne⟩,yO]
   .cases h
  .cases h
 .rename_i g ver esz i off;split at h
  .rename_i v e el t l nest f;obtain ⟨L,rfl⟩:∃L:AG t.T,(show Ty.T (.ls t) from L)=l:=⟨l,rfl⟩;obtain ⟨I0,rfl⟩:∃I0:AI,(show Ty.T I from I0)=i:=⟨i,rfl⟩;split at h
   .rename_i d;obtain ⟨rfl,rfl,he,O,hz⟩:=d;subst he;obtain ⟨w,B,M,h⟩:=J1o (l:=L) (i:=I0) h;have hl:=(Ai.1 M).1;have hfl:I0.toNat * t.sz+t.sz<=(L.flatMap t.cs).length:=by rw [Yy];have:(I0.toNat+1) * t.sz<=L.length * t.sz:=Ae _ hl;rw [Ah] at this;omega
    have goal:∀ {z:t.T} {nst:AH (AM×C Ty.T)},CZ s (Ob.kids (.row v t.sz el t (show Ty.T (.ls t) from L.set I0.toNat z) [] nst AF)) ->
      Xm ((L.set I0.toNat z).flatMap t.cs) L.length t.sz (AB s) nst=paste (Xm (L.flatMap t.cs) L.length t.sz (AB s) nest) (I0.toNat * t.sz+off) (y.cells.map (AB s))->k (s.obj g (.row v t.sz el t (show Ty.T (.ls t) from L.set I0.toNat z) [] nst AF))=AC r ->
      ∃s',CQ s s'/\Inv s'/\Sl (AA s) n (AL s (.c (.F5 g v t.sz (show Ty.T I from I0) off))) (AL s y)=AC (AA s')/\k s'=AC r:=by
     intro z nst hk he hkr;obtain ⟨Z,Y,X⟩:=fin (g:=g) (o:=.row v t.sz el t (show Ty.T (.ls t) from L.set I0.toNat z) [] nst AF) (hi.free f) (λJ B=>by rw [f] at B;cases B;exact ⟨rfl,by simp only [Ob.CJ];rw [show List.length (α:=t.T) (show Ty.T (.ls t) from L.set I0.toNat z)=List.length (α:=t.T) L from Bo]⟩) hk rfl;refine ⟨_,Z,Y,?_,hkr⟩;rw [X,AL,AB,H,Jj f];simp only [BD,Ao,Af];rw [AS ⟨trivial,by rw [ZQ,show (show AI from (show Ty.T I from I0)).toNat=I0.toNat from rfl];omega,OJ M hz⟩];rw [show (show AI from (show Ty.T I from I0)).toNat=I0.toNat from rfl]
     congr 4
     rw [show List.length (α:=t.T) (show Ty.T (.ls t) from L.set I0.toNat z)=L.length from Bo];exact he.symm
    have F:off+(y.cells.map (AB s)).length<=t.sz:=by rw [Q];exact O
    have expP:∀c:AG (C Ty.T),(Li (expl val t w) off c).map (AB s)=paste (t.cs w) off (c.map (AB s)):=λc=>by rw [yO,Xh]
    have A:I0.toNat * t.sz+off+(y.cells.map (AB s)).length<=(L.flatMap t.cs).length:=by omega
    cases nest with
    | none=>
     obtain ⟨q,N,h⟩:=Ji h;obtain ⟨z,zr⟩:=q;simp only at h;split at h
     .rename_i m;have a:=Jvg (oD s) N m;rw [expP] at a;refine goal (z:=z) (nst:=AD) (λc d=>by simp [Ob.kids] at d) ?_ h;simp only [Xm];exact xL a F M
     .cases h
    | some p=>
     obtain ⟨no,c0⟩:=p;obtain ⟨g1,h⟩:=Kl h;have g1:I0+1=(L.length:AI):=J7f (n:=L.length) g1;have E:(L.length - 1) * t.sz+no=I0.toNat * t.sz+no:=by rw [show L.length - 1=I0.toNat by omega]
     split at h
     .rename_i hr;split at h
      .rename_i c' z0 R hz0;obtain ⟨q,N,h⟩:=Ji h;obtain ⟨z,zr⟩:=q;simp only at h;split at h
       .rename_i m;have a:=Jvg (oD s) N m;rw [expP,Dz] at a;have hj:no - off<(y.cells.map (AB s)).length:=by omega
        refine goal (z:=z) (nst:=AC (no,c')) (λc d=>by simp [Ob.kids] at d;subst d;exact G _ (Dt R)) ?_ h
        simp only [Xm];rw [E,xL a (by simpa using F) M,Jqv A hj,show I0.toNat * t.sz+off+(no - off)=I0.toNat * t.sz+no by omega,List.set_set,Jyw A (by omega) (by omega)];rw [show I0.toNat * t.sz+no=I0.toNat * t.sz+off+(no - off) by omega,<-Jqv A hj,<-Dz,sV R]
       .cases h
      .cases h
     .rename_i hr;obtain ⟨q,N,h⟩:=Ji h;obtain ⟨z,zr⟩:=q;simp only at h;split at h
      .rename_i m;have a:=Jvg (oD s) N m;rw [expP] at a;refine goal (z:=z) (nst:=AC (no,c0)) (λc d=>by simp [Ob.kids] at d;subst d;exact hi.ob _ _ f _ (by simp [Ob.kids])) ?_ h
       simp only [Xm];rw [E,xL a F M,Jwh A (by omega)]
      .cases h
   .cases h
  .cases h
 .cases h
theorem Jl6{t:Ty}:∀(l:AG t.T) (a:AM),(l.take a).flatMap t.cs=(l.flatMap t.cs).take (a * t.sz)
 | [],a=>by simp
 | x::l,0=>by simp
 | x::l,a+1=>by
  have h:=zy t x;have g:(a+1) * t.sz=t.sz+a * t.sz:=by rw [Ah];omega
  have f:(t.cs x).take ((a+1) * t.sz)=t.cs x:=Be (by omega);have d:(a+1) * t.sz - (t.cs x).length=a * t.sz:=by omega
  rw [Dw,Ac,Ac,Jl6 l a,List.take_append,f,d]
theorem Jmk{t:Ty}:∀(l:AG t.T) (a:AM),(l.drop a).flatMap t.cs=(l.flatMap t.cs).drop (a * t.sz)
 | [],a=>by simp
 | x::l,0=>by simp
 | x::l,a+1=>by
  have h:=zy t x;have g:(a+1) * t.sz=t.sz+a * t.sz:=by rw [Ah];omega
  have f:(t.cs x).drop ((a+1) * t.sz)=[]:=Br (by omega);have d:(a+1) * t.sz - (t.cs x).length=a * t.sz:=by omega
  rw [Dx,Ac,Jmk l a,Dh,f,d,Dl]
theorem Kaw{t:Ty}(l:AG t.T){a b m n:AM}(d:m<=n)(w:a+m<=l.length)(f:b+n<=l.length) :
  (l.take a++((l.drop b).take m++(l.drop (a+m)).take (l.length - (a+m)))).flatMap t.cs=paste (l.flatMap t.cs) (a * t.sz) ((cut (l.flatMap t.cs) (b * t.sz) (n * t.sz)).take (m * t.sz)):=by
 have g:m * t.sz<=n * t.sz:=Ae _ d;have y:b * t.sz+n * t.sz<=(l.flatMap t.cs).length:=by rw [Yy,<-Ah];exact Ae _ f
 have v:(cut (l.flatMap t.cs) (b * t.sz) (n * t.sz)).take (m * t.sz)=((l.flatMap t.cs).drop (b * t.sz)).take (m * t.sz):=by unfold cut;rw [List.take_take,Nat.min_eq_left g]
 have r:(((l.flatMap t.cs).drop (b * t.sz)).take (m * t.sz)).length=m * t.sz:=by rw [List.length_take,Di];omega
 have h:(l.drop (a+m)).take (l.length - (a+m))=l.drop (a+m):=Be (by rw [Di];omega);rw [v,h];unfold paste;rw [r,Bl,Bl,Jl6,Jl6,Jmk,Jmk,Ah,Bf]
theorem XF(hi:Inv s){esz:AM}{x y:V Ty.T}{k:V Ty.T->S Ty.T->AH α}(h:iD val s esz x y k=AC r) :
  ∃v s',CQ s s'/\Inv s'/\oJ (AA s) esz (AL s x) (AL s y)=AC (AL s' v,AA s')/\okV s' v/\k v s'=AC r:=by
 unfold iD at h;split at h
 case h_2=>cases h
 rename_i g ver off n H ver' off' R;split at h
 case h_2=>cases h
 rename_i v e el t l J;split at h
 case isFalse=>cases h
 rename_i F;obtain ⟨rfl,rfl,rfl,rfl,rfl,hz⟩:=F;obtain ⟨L,rfl⟩:∃L:AG t.T,(show Ty.T (.ls t) from L)=l:=⟨l,rfl⟩;obtain ⟨A,rfl⟩:∃A:AI,(show Ty.T I from A)=off:=⟨off,rfl⟩;obtain ⟨B,rfl⟩:∃B:AI,(show Ty.T I from B)=off':=⟨off',rfl⟩;obtain ⟨N,rfl⟩:∃N:AI,(show Ty.T I from N)=n:=⟨n,rfl⟩;obtain ⟨M,rfl⟩:∃M:AI,(show Ty.T I from M)=R:=⟨R,rfl⟩;obtain ⟨g1,h⟩:=Kl h;obtain ⟨g2,h⟩:=Kl h;obtain ⟨g3,h⟩:=Kl h;obtain ⟨g4,h⟩:=Kl h;obtain ⟨Z,h⟩:=Kl h;obtain ⟨Y,h⟩:=Kl h;obtain ⟨X,h⟩:=Kl h;have g1:0<(L.length:AI):=by have:decide ((0:AI)<=0/\(0:AI)<(L.length:AI))=AE:=g1;exact (of_decide_eq_true this).2
 have g2:0<=A:=of_decide_eq_true (p:=(0:AI)<=A) g2;have g3:0<=N:=of_decide_eq_true (p:=(0:AI)<=N) g3;have g4:A+N<=(L.length:AI):=of_decide_eq_true (p:=A+N<=(L.length:AI)) g4;have Z:0<=B:=of_decide_eq_true (p:=(0:AI)<=B) Z;have Y:0<=M:=of_decide_eq_true (p:=(0:AI)<=M) Y;have X:B+M<=(L.length:AI):=of_decide_eq_true (p:=B+M<=(L.length:AI)) X;obtain ⟨a,rfl⟩:∃a:AM,A=a:=⟨A.toNat,by omega⟩;obtain ⟨b,rfl⟩:∃b:AM,B=b:=⟨B.toNat,by omega⟩;obtain ⟨n,rfl⟩:∃n:AM,N=n:=⟨N.toNat,by omega⟩;obtain ⟨m,rfl⟩:∃m:AM,M=m:=⟨M.toNat,by omega⟩;have O:val.mm AF .i64 .i64 (show Ty.T I from ((m:AM):AI)) (show Ty.T I from ((n:AM):AI))=(show Ty.T I from ((Ea m n:AM):AI)):=by show (if ((n:AM):AI)<((m:AM):AI) then ((n:AM):AI) else ((m:AM):AI))=((Ea m n:AM):AI);simp only [Nat.min_def];split<;>split<;>omega
 rw [O] at h;have E:Ea m n<=m:=Nat.min_le_left ..;have Q:Ea m n<=n:=Nat.min_le_right ..;generalize hk:Ea m n=q at h E Q;have e0:(val.ap (val.ct (show Ty.T (.ls t) from L) (val.int .i64 0) (show Ty.T I from ((a:AM):AI))) (val.ap (val.ct (show Ty.T (.ls t) from L) (show Ty.T I from ((b:AM):AI)) (show Ty.T I from ((q:AM):AI))) (val.ct (show Ty.T (.ls t) from L) (val.pl (show Ty.T I from ((a:AM):AI)) (show Ty.T I from ((q:AM):AI))) (val.mi (val.ln (show Ty.T (.ls t) from L)) (val.pl (show Ty.T I from ((a:AM):AI)) (show Ty.T I from ((q:AM):AI)))))))=(show Ty.T (.ls t) from L.take a++((L.drop b).take q++(L.drop (a+q)).take (L.length - (a+q)))):=by show (L.drop (0:AI).toNat).take ((a:AM):AI).toNat++((L.drop ((b:AM):AI).toNat).take ((q:AM):AI).toNat++(L.drop (((a:AM):AI)+((q:AM):AI)).toNat).take ((L.length:AI) - (((a:AM):AI)+((q:AM):AI))).toNat)=_;rw [show (((a:AM):AI)+((q:AM):AI)).toNat=a+q by omega,show ((L.length:AI) - (((a:AM):AI)+((q:AM):AI))).toNat=L.length - (a+q) by omega];simp
 rw [e0] at h;have f:(L.take a++((L.drop b).take q++(L.drop (a+q)).take (L.length - (a+q)))).length=L.length:=by simp;omega
 have hs:CQ s (s.obj g (.row v t.sz el t (show Ty.T (.ls t) from L.take a++((L.drop b).take q++(L.drop (a+q)).take (L.length - (a+q)))) [] AD AF)):=Zh λo0 G=>by rw [J] at G;cases G;exact ⟨rfl,by simp only [Ob.CJ];rw [show List.length (α:=t.T) (show Ty.T (.ls t) from L.take a++((L.drop b).take q++(L.drop (a+q)).take (L.length - (a+q))))=List.length (α:=t.T) L from f]⟩
 have d:CZ s (Ob.kids (.row v t.sz el t (show Ty.T (.ls t) from L.take a++((L.drop b).take q++(L.drop (a+q)).take (L.length - (a+q)))) [] AD AF)):=λc F=>by simp [Ob.kids] at F
 refine ⟨_,_,hs,MV hi hs (λH=>Qb g H _) (λc F=>(hs.ok c (d c F)).1) (hi.free J),?_,Xe (Ka _ rfl),h⟩;rw [jf hi hs (λH=>Qb g H _),hs.BD d];have hG:AA s g=AC (.arr v t.sz el (L.flatMap t.cs) AF):=by rw [Jj J];simp only [BD,Xm,Ao,Af]
 have P:(b+m) * t.sz<=(L.flatMap t.cs).length:=by rw [Yy];exact Ae _ (by omega)
 have w:(a+n) * t.sz<=(L.flatMap t.cs).length:=by rw [Yy];exact Ae _ (by omega)
 have K:L.flatMap t.cs≠[]:=λe=>by
  have:=Yy (t:=t) L;rw [e] at this;have G:L.length * t.sz=0:=by simpa using this.symm
  rcases Da.1 G with q|q<;>omega
 have hl:Cw (AA s) (.arr g v b m)=AC (m:AI):=by simp [Cw,Zq,hG]
 have he:Iq (AA s) t.sz (.arr g v b m)=AC (cut (L.flatMap t.cs) (b * t.sz) (m * t.sz)):=by simp only [Iq,hG];exact AS ⟨trivial,trivial,P⟩
 show oJ (AA s) t.sz (.arr g v ((a:AM):AI).toNat ((n:AM):AI).toNat) (.arr g v ((b:AM):AI).toNat ((m:AM):AI).toNat)=_;rw [Ab,Ab,Ab,Ab];unfold oJ;rw [hl,he];simp only [hG];rw [AS ⟨trivial,trivial,w,K⟩,Ab,hk];simp only [BD,Xm,Ao,Af];rw [show Dj (α:=t.T) t.cs (show Ty.T (.ls t) from L.take a++((L.drop b).take q++(L.drop (a+q)).take (L.length - (a+q))))=_ from Kaw L E (by omega) (by omega)];rfl
end
theorem Jp0{t:Ty}(l:AG t.T)(a n:AM):((l.drop a).take n).flatMap t.cs=cut (l.flatMap t.cs) (a * t.sz) (n * t.sz):=by
 have hd:∀(l:AG t.T) (a:AM),(l.drop a).flatMap t.cs=(l.flatMap t.cs).drop (a * t.sz):=by
  intro l
  induction l with
  | nil=>intro a;simp
  | cons x l d=>
   intro a;cases a with
   | zero=>simp
   | succ a=>
    rw [Dx,d,Ac,show (a+1) * t.sz=(t.cs x).length+a * t.sz by rw [zy,Ah];omega];exact (List.drop_length_add_append ..).symm
 have f:∀(l:AG t.T) (n:AM),(l.take n).flatMap t.cs=(l.flatMap t.cs).take (n * t.sz):=by
  intro l
  induction l with
  | nil=>intro n;simp
  | cons x l d=>
   intro n;cases n with
   | zero=>simp
   | succ n=>
    rw [Dw,Ac,d,Ac,show (n+1) * t.sz=(t.cs x).length+n * t.sz by rw [zy,Ah];omega];exact (List.take_length_add_append ..).symm
 rw [f,hd];rfl
theorem J0b(l:AG AV):cut l 0 l.length=l:=by simp [cut]
def El.cells(s:S Ty.T):El Ty.T->AG AV
 | .t ty v=>Dj (α:=ty.T) ty.cs v
 | .x l=>l.map (AB s)
def El.n(esz:AM):El Ty.T->AM
 | .t ty v=>List.length (α:=ty.T) v
 | .x l=>l.length / esz
def El.ok(s:S Ty.T)(esz:AM):El Ty.T->Prop
 | .t ty _=>ty.sz=esz/\0<esz
 | .x l=>CZ s l/\l.length % esz=0
section
variable {call:Vv.Call} {base g0:AM} {s:S Ty.T} {α:Type} {r:α}
theorem Lj{a b:AI}(h:val.le a b=AE):a<=b:=by have:decide (a<=b)=AE:=h;simpa using this
theorem Ju0{g ver len:AM}{off:AM}{v e:AM}{el:TypeId}{cells:AG AV}{z:AN}{h:Heap}(d:h g=AC (.arr v e el cells z))(a:v=ver):Cw h (.arr g ver off len)=AC (len:AI):=by simp [Cw,Zq,d,a]
theorem Kbd(hi:Inv s){esz:AM}{y:V Ty.T}{k:El Ty.T->AH α}(h:elems val s esz y k=AC r):∃e:El Ty.T,Cw (AA s) (AL s y)=AC (e.n esz:AI)/\Iq (AA s) esz (AL s y)=AC (e.cells s)/\e.ok s esz/\k e=AC r:=by
 unfold elems at h;split at h
 .exact ⟨.x [],by simp [AL,AB,Cw,El.n],by simp [AL,AB,Iq,El.cells],⟨λc d=>(by cases d),by simp⟩,h⟩
 .rename_i t v;split at h
  .rename_i d;obtain ⟨rfl,m⟩:=d;refine ⟨.t t v,rfl,?_,⟨rfl,m⟩,h⟩;show Iq (AA s) t.sz (.CF (List.length (α:=t.T) v) (Dj (α:=t.T) t.cs v))=_;simp only [Iq];rw [AS (Yy (t:=t) v)];rfl
  .cases h
 .rename_i g ver;split at h
  .rename_i v e el t l z f;obtain ⟨L,rfl⟩:∃L:AG t.T,(show Ty.T (.ls t) from L)=l:=⟨l,rfl⟩;split at h
   .rename_i d;obtain ⟨rfl,rfl,w,m⟩:=d;subst w;have a:Q4 s g v=L.length:=by simp only [Q4,f,Ob.ver,if_true,Ob.CJ,Aw,As,Au]
    have hH:=Jj f;simp only [BD,Ao,Af,Xm] at hH;refine ⟨.t t L,?_,?_,⟨rfl,m⟩,h⟩
    .simp only [AL,AB,a];exact Ju0 hH rfl
    .simp only [AL,AB,a,Iq,hH,Bq,Bp,true_and];rw [AS (by rw [Yy];exact Bv _)];have:=J0b (L.flatMap t.cs);rw [Yy] at this;rw [this];rfl
   .cases h
  .rename_i v e el l z f;split at h
   .rename_i d;obtain ⟨rfl,rfl,F,m⟩:=d;have a:Q4 s g v=l.length / e:=by simp only [Q4,f,Ob.ver,if_true,Ob.CJ]
    have hH:=Jj f;simp only [BD] at hH;have E:l.length / e * e=l.length:=Bc (Aq F);refine ⟨.x l,?_,?_,⟨hi.ob _ _ f,F⟩,h⟩
    .simp only [AL,AB,a];exact Ju0 hH rfl
    .simp only [AL,AB,a,Iq,hH,Bq,Bp,true_and,E];rw [AS (by simp)];have:=J0b (l.map (AB s));rw [Av] at this;rw [this];rfl
   .cases h
  .cases h
 .rename_i g ver off len;split at h
  .rename_i v e el t l z f;obtain ⟨L,rfl⟩:∃L:AG t.T,(show Ty.T (.ls t) from L)=l:=⟨l,rfl⟩;obtain ⟨A,rfl⟩:∃A:AI,(show Ty.T I from A)=off:=⟨off,rfl⟩;obtain ⟨B,rfl⟩:∃B:AI,(show Ty.T I from B)=len:=⟨len,rfl⟩;split at h
   .rename_i d;obtain ⟨rfl,rfl,w,m⟩:=d;subst w;obtain ⟨J,h⟩:=Kl h;obtain ⟨H,h⟩:=Kl h;obtain ⟨G,h⟩:=Kl h;have J:(0:AI)<=A:=Lj J;have H:(0:AI)<=B:=Lj H;have G:A+B<=(L.length:AI):=Lj G;have hH:=Jj f;simp only [BD,Ao,Af,Xm] at hH;refine ⟨.t t ((L.drop A.toNat).take B.toNat),?_,?_,⟨rfl,m⟩,h⟩
    .simp only [AL,AB];rw [Ju0 hH rfl];show AC ((B.toNat:AM):AI)=AC ((((L.drop A.toNat).take B.toNat).length:AM):AI)
     congr 2
     simp;omega
    .show Iq (AA s) t.sz (.arr g v A.toNat B.toNat)=AC (((L.drop A.toNat).take B.toNat).flatMap t.cs);simp only [Iq,hH,true_and];rw [AS (by rw [Yy];exact Ae _ (by omega)),Jp0]
   .cases h
  .cases h
 .cases h
theorem bF{b:AM}{n:AI}(h:val.ft b n=AE):n * b<=room/\n<=9223372036854775807:=by have:decide (n * b<=room/\n<=9223372036854775807)=AE:=h;simpa using this
def MW(s:S Ty.T)(g0 esz bytes:AM)(el:TypeId)(x y:AV)(v:V Ty.T)(s':S Ty.T):Prop:=
 EN (AA s) g0 esz bytes el x y=AC (AL s' v,AA s')/\CQ s s'/\Inv s'/\okV s' v
theorem J8d(hi:Inv s){g0 esz bytes:AM}{el:TypeId}{y:AV}{m:AM}{new:AG AV}{o:Ob Ty.T}(r:s.has g0=AF)(w:Cw (AA s) y=AC (m:AI))(A:Iq (AA s) esz y=AC new)
  (l:new≠[]) (E:(m:AI) * bytes<=room/\(m:AI)<=9223372036854775807) (a:o.ver=s.nv g0+1) (f:o.CJ=m) (d:CZ s o.kids) (g:BD s o=.arr (s.nv g0+1) esz el new AF) :
  MW s g0 esz bytes el .BK y (.c (.own g0 (s.nv g0+1))) (s.obj g0 o):=by
 have hs:CQ s (s.obj g0 o):=Zh λF h=>by rw [NP r] at h;cases h
 refine ⟨?_,hs,MV hi hs (λv=>Qb g0 v o) (λc B=>(hs.ok c (d c B)).1) (lJ r),Xe (bO (by rw [a];rfl))⟩;unfold EN;rw [w,A];simp only;rw [AR l,AS E,jf hi hs (λv=>Qb g0 v o),hs.BD d,g,Xk r];have hl:Q4 (s.obj g0 o) g0 (s.nv g0+1)=m:=by rw [<-a,uK,f]
 simp only [AL,AB,hl,Ab]
theorem wY(hi:Inv s){g g0 esz bytes:AM}{el:TypeId}{y:AV}{m:AM}{new cells:AG AV}{a o:Ob Ty.T}{n:AI}(w:look g s.ob=AC a)(J:Cw (AA s) y=AC (m:AI))(K:Iq (AA s) esz y=AC new)
  (F:BD s a=.arr a.ver esz el cells AF) (f:cells.length=a.CJ * esz) (H:n.toNat=a.CJ)
  (G:((a.CJ:AI)+m) * bytes<=room/\(a.CJ:AI)+m<=9223372036854775807) (h:o.ver=a.ver+1) (A:o.CJ=a.CJ+m) (l:CZ s o.kids) (B:BD s o=.arr (a.ver+1) esz el (cells++new) AF) :
  MW s g0 esz bytes el (AL s (.c (.own g a.ver))) y (.c (.own g (a.ver+1))) ((s.old g a.ver n).obj g o):=by
 have hs:CQ s ((s.old g a.ver n).obj g o):=J18 w h H;have d:∀v,look v ((s.old g a.ver n).obj g o).ob=if g=v then AC o else look v s.ob:=λv=>Kp g v o s.ob;refine ⟨?_,hs,MV hi hs d (λc L=>(hs.ok c (l c L)).1) (hi.free w),Xe (λr hr=>?_)⟩
 .have hl:Q4 s g a.ver=a.CJ:=by simp only [Q4,w,if_true]
  have E:Q4 ((s.old g a.ver n).obj g o) g (a.ver+1)=a.CJ+m:=by simp only [Q4,d,if_true,h,A]
  simp only [AL,AB,hl,E];unfold EN;rw [J,K];simp only [Jj w,F,true_and,Bq];rw [AS ⟨by omega,G.1,G.2⟩,AR ?_,jf hi hs d,hs.BD l,B]
  .simp only [Bp,Ab];rw [<-f,J0b]
  .rintro ⟨N,M,O⟩;rw [M,Bp] at f;exact N (Ap f)
 .simp only [refs,Df] at hr;subst hr;exact ⟨o,by rw [d,AS rfl],by omega⟩
theorem wO{a b:AI}:val.cm .eql .i64 a b=decide (a=b):=by show (a==b)=_;by_cases h:a=b<;>simp [h]
theorem Jtr{e:El Ty.T}{k:AH α}(h:J26 val e k=AC r):e.cells s=[]/\k=AC r:=by
 unfold J26 at h;split at h
 .exact ⟨rfl,h⟩
 .cases h
 .rename_i t v;obtain ⟨L,rfl⟩:∃L:AG t.T,(show Ty.T (.ls t) from L)=v:=⟨v,rfl⟩;obtain ⟨a,h⟩:=Kl h;have a:(L.length:AI)=0:=by
   have:decide ((L.length:AI)=0)=AE:=by rw [<-wO];exact a
   simpa using this
  have d:L=[]:=Ap (by omega);subst d;exact ⟨rfl,h⟩
theorem XW(hi:Inv s){g0 esz bytes:AM}{el:TypeId}{x y:V Ty.T}{k:V Ty.T->S Ty.T->AH α}(h:iL val s g0 esz bytes el x y k=AC r):∃v s',MW s g0 esz bytes el (AL s x) (AL s y) v s'/\k v s'=AC r:=by
 unfold iL at h;obtain ⟨e,J,A,E,h⟩:=Kbd hi h;split at h
 .-- nil
  split at h
  .cases h
  rename_i h0;have h0:s.has g0=AF:=by simpa using h0
  have nothing:e.cells s=[]->∃v s',MW s g0 esz bytes el (AL s (.c (.k .BK))) (AL s y) v s'/\v=.c (.k .BK)/\s'=s:=λO=>
   ⟨_,_,⟨by unfold EN;rw [J,A];simp only [AL,AB];rw [AS O],.refl s,hi,Xe (Ka s rfl)⟩,rfl,rfl⟩
  split at h
  .obtain ⟨v,s',a1,rfl,rfl⟩:=nothing rfl;exact ⟨_,_,a1,h⟩
  .rename_i l hl;split at h
   .rename_i X;obtain ⟨w,h⟩:=Kl h;have w:=bF w;refine ⟨_,_,J8d (o:=.lit (s.nv g0+1) esz el l AF) hi h0 J A ?_ w rfl rfl E.1 rfl,h⟩;simp only [El.cells,ne_eq,List.map_eq_nil_iff];exact λq=>hl q
   .cases h
  .rename_i t v;obtain ⟨L,rfl⟩:∃L:AG t.T,(show Ty.T (.ls t) from L)=v:=⟨v,rfl⟩;obtain ⟨hsz,X⟩:=E;rcases Sv h with ⟨w,h⟩|⟨w,h⟩
   .have w:(L.length:AI)=0:=by
     have:decide ((L.length:AI)=0)=AE:=by rw [<-wO];exact w
     simpa using this
    have O:L=[]:=Ap (by omega);obtain ⟨v,s',a1,rfl,rfl⟩:=nothing (by simp only [El.cells];rw [show (show Ty.T (.ls t) from L)=([]:AG t.T) from O];rfl);exact ⟨_,_,a1,h⟩
   .have w:¬(L.length:AI)=0:=by
     have:decide ((L.length:AI)=0)=AF:=by rw [<-wO];exact w
     simpa using this
    obtain ⟨g2,h⟩:=Kl h;have g2:=bF (n:=(L.length:AI)) g2;refine ⟨_,_,J8d hi h0 J A ?_ g2 rfl (by simp only [Ob.CJ,Aw,As,Au];rfl) (λc f=>by simp [Ob.kids] at f) (by simp only [BD,Xm,Ao,Af];rfl),h⟩;intro q;have:=AT List.length q;rw [show El.cells s (.t t (show Ty.T (.ls t) from L))=L.flatMap t.cs from rfl,Yy] at this;rcases Da.1 this with h4|h4<;>omega
 .-- a row
  rename_i g ver;split at h
  .rename_i v d el' t l tl nest F;obtain ⟨L,rfl⟩:∃L:AG t.T,(show Ty.T (.ls t) from L)=l:=⟨l,rfl⟩;split at h
   .rename_i f;obtain ⟨rfl,rfl,rfl,he,htl,X⟩:=f;have hH:BD s (.row v d el' t (show Ty.T (.ls t) from L) tl nest AF)=.arr v d el' (Xm (L.flatMap t.cs) L.length t.sz (AB s) nest++tl.map (AB s)) AF:=rfl;have B:tl.length / d * d=tl.length:=Bc (Aq htl);have hlO:Ob.CJ (.row v d el' t (show Ty.T (.ls t) from L) tl nest AF)=L.length+tl.length / d:=rfl;have H:(Xm (L.flatMap t.cs) L.length t.sz (AB s) nest++tl.map (AB s)).length=Ob.CJ (.row v d el' t (show Ty.T (.ls t) from L) tl nest AF) * d:=by rw [Ar,ZQ,Yy,hlO,Ah,Av,he,B]
    split at h
    .rename_i m;obtain ⟨P,Q⟩:=E;have G:m.length / d * d=m.length:=Bc (Aq Q);have M:(if tl.isEmpty=AE then val.ln (t:=t) (show Ty.T (.ls t) from L) else val.pl (val.ln (t:=t) (show Ty.T (.ls t) from L)) (val.int .i64 ((tl.length / d:AM):AI)))=(show Ty.T I from ((L.length+tl.length / d:AM):AI)):=by
      by_cases K:tl.isEmpty=AE
      .rw [AS K,Ay.1 K,Aw,As,Au];rfl
      .rw [AR K,Dm];rfl
     simp only [M] at h;obtain ⟨w,h⟩:=Kl h;have w:=bF (n:=((L.length+tl.length / d:AM):AI)+((m.length / d:AM):AI)) w;refine ⟨_,_,wY (n:=((L.length+tl.length / d:AM):AI)) hi F J A hH H (by rw [hlO];exact Ab _) w rfl ?_ (λc f=>?_) ?_,h⟩
     .show L.length+(tl++m).length / d=L.length+tl.length / d+m.length / d;rw [Ar,Dv]
      congr 1
      rw [<-B,<-G,<-Ah,Bb _ X,B,G]
     .simp only [Ob.kids,Bn] at f;rcases f with f|f|f
      .exact hi.ob _ _ F c (by simp only [Ob.kids];exact List.mem_append_left _ f)
      .exact hi.ob _ _ F c (by simp only [Ob.kids];exact Do _ f)
      .exact P c f
     .show AU.arr _ _ _ (Xm (L.flatMap t.cs) L.length t.sz (AB s) nest++(tl++m).map (AB s)) AF=_;rw [By,<-Bf];rfl
    .rename_i Y m;split at h
     .rename_i hne;rw [Az,Ay,Ag] at hne;obtain ⟨rfl,rfl⟩:=hne;obtain ⟨m',hm',h⟩:=Ji h;obtain ⟨eq,rfl⟩:=Xo (ι:=Ty.T) hm';injection eq with eq;subst eq;obtain ⟨N,rfl⟩:∃N:AG Y.T,(show Ty.T (.ls Y) from N)=m:=⟨m,rfl⟩;obtain ⟨w,h⟩:=Kl h;have w:=bF (n:=(L.length:AI)+(N.length:AI)) w;refine ⟨_,_,wY (n:=(L.length:AI)) hi F J A hH H (by rw [hlO,Aw,As,Au];exact Ab _) ?_ rfl ?_ (λc f=>by simp [Ob.kids] at f) ?_,h⟩
      .rw [hlO,Aw,As,Au];exact w
      .show List.length (L++N)+0 / d=L.length+0 / d+N.length;rw [Ar,As];omega
      .show AU.arr _ _ _ ((L++N).flatMap Y.cs++[]) AF=.arr _ _ _ (L.flatMap Y.cs++[]++N.flatMap Y.cs) AF;rw [Af,Af,Bl];rfl
     .cases h
   .cases h
  .rename_i v d el' l F;split at h
   .rename_i f;obtain ⟨rfl,rfl,rfl,hld,X⟩:=f;have hH:BD s (.lit v d el' l AF)=.arr v d el' (l.map (AB s)) AF:=rfl;have B:l.length / d * d=l.length:=Bc (Aq hld);have hlO:Ob.CJ (.lit v d el' l AF)=l.length / d:=rfl;have H:(l.map (AB s)).length=Ob.CJ (.lit v d el' l AF) * d:=by rw [Av,hlO,B]
    split at h
    .rename_i m;obtain ⟨P,Q⟩:=E;have G:m.length / d * d=m.length:=Bc (Aq Q);obtain ⟨w,h⟩:=Kl h;have w:=bF (n:=((l.length / d+m.length / d:AM):AI)) w;refine ⟨_,_,wY (n:=((l.length / d:AM):AI)) hi F J A hH H (by rw [hlO];exact Ab _) (by rw [Dm] at w;exact w) rfl ?_ (λc f=>?_) ?_,h⟩
     .show (l++m).length / d=l.length / d+m.length / d;rw [Ar,<-B,<-G,<-Ah,Bb _ X,B,G]
     .simp only [Ob.kids,Bn] at f;rcases f with f|f
      .exact hi.ob _ _ F c f
      .exact P c f
     .show AU.arr _ _ _ ((l++m).map (AB s)) AF=_;rw [By];rfl
    .rename_i t m;obtain ⟨N,rfl⟩:∃N:AG t.T,(show Ty.T (.ls t) from N)=m:=⟨m,rfl⟩;obtain ⟨hsz,_⟩:=E;obtain ⟨l',hl',h⟩:=Ji h;have hlc:=Jx9 (oD s) t _ hl';obtain ⟨L',rfl⟩:∃L':AG t.T,(show Ty.T (.ls t) from L')=l':=⟨l',rfl⟩;have R:L'.length * t.sz=l.length:=by have:=AT List.length hlc;rw [Av] at this;rw [this];exact (Yy L').symm
     obtain ⟨w,h⟩:=Kl h;have w:=bF (n:=((l.length / d:AM):AI)+(N.length:AI)) w;have Z:(if l.isEmpty=AE then (show Ty.T (.ls t) from N) else val.ap (t:=t) (show Ty.T (.ls t) from L') (show Ty.T (.ls t) from N))=(show Ty.T (.ls t) from L'++N):=by
      by_cases K:l.isEmpty=AE
      .rw [AS K];have:L'=[]:=by
        rw [Ay.1 K,Aw] at R;rcases Da.1 R with h4|h4
        .exact Ap h4
        .omega
       rw [this];rfl
      .rw [AR K];rfl
     rw [Z] at h;refine ⟨_,_,wY (n:=((l.length / d:AM):AI)) hi F J A hH H (by rw [hlO];exact Ab _) w rfl ?_ (λc f=>by simp [Ob.kids] at f) ?_,h⟩
     .show List.length (L'++N)+0 / d=l.length / d+N.length;rw [Ar,As,<-R,hsz,Bb _ X];omega
     .show AU.arr _ _ _ ((L'++N).flatMap t.cs++[]) AF=.arr _ _ _ (l.map (AB s)++N.flatMap t.cs) AF;rw [hlc,Af,Bl];rfl
   .cases h
  .rename_i v d el' t l tl nest F;split at h
   .rename_i f;subst f;obtain ⟨O,h⟩:=Jtr h;refine ⟨_,s,⟨?_,.refl s,hi,Xe λr hr=>?_⟩,h⟩
    .unfold EN;rw [J,A];have hH:=Jj F;simp only [BD] at hH;simp only [AL,AB,hH];rw [AS ⟨trivial,by rw [O]⟩]
    .simp only [refs,Df] at hr;subst hr;exact ⟨_,F,Bv _⟩
   .cases h
  .cases h
 .rename_i t v;obtain ⟨O,h⟩:=Jtr h;refine ⟨_,s,⟨?_,.refl s,hi,Xe (Ka s rfl)⟩,h⟩;unfold EN;rw [J,A];simp only [AL,AB,Ty.cs,Yb];rw [AS (by rw [O])]
 .cases h
end
def Alt(op op':CO):Prop:=op'=op\/∃f args,op=.Co f args/\(op'=.FW f args\/op'=.Et f args\/∃esz el,op'=.FH f args esz el)
section
variable {call:Vv.Call} {base g0:AM} {s:S Ty.T} {α:Type} {r:α}
theorem KR{t:Ty}{x:t.T}:okV s (.c (.lf t x)):=Xe (Ka s rfl)
theorem QU{o:BinOp}{k:IntKind}{a b:AI}(h:gI o=AE):TM o k a b=AC (.int k (Wi o k a b)):=by cases o<;>simp [gI] at h<;>rfl
theorem QT{o:BinOp}{k:IntKind}{a b:AI}(h:QL o=AE):TM o k a b=AC (.bool (JN o a b)):=by cases o<;>simp [QL] at h<;>rfl
theorem sS{g ver:AM}(h:s.cur g ver=AE):Vv.cur (AA s) g ver=AE:=by
 unfold S.cur at h;cases a:look g s.ob with
 | none=>rw [a] at h;cases h
 | some o=>rw [a] at h;simp only [Vv.cur,Jj a,ji];exact h
theorem Kba{b:AN}{x y:C Ty.T}{z:AN}(h:aQ val b x y=AC z):LA b (AB s x) (AB s y)=AC z:=by
 unfold aQ at h;split at h
 .rename_i k a t b;cases f:cast? (ι:=Ty.T) t (.int k) b with
  | none=>rw [f] at h;cases h
  | some m=>
   rw [f] at h;obtain ⟨e,rfl⟩:=Xo f;subst e;simp only [Ad] at h;have:=Am h;subst this;simp only [AB,Ty.cs,Yb,LA,if_true];rfl
 .cases l:jj val .bool x with
  | none=>rw [l] at h;cases h
  | some a'=>
   rw [l] at h;simp only [Bk] at h;cases g:jj val .bool y with
   | none=>rw [g] at h;cases h
   | some m=>
    rw [g] at h;simp only [Ad] at h;have hx:=nV (s:=s) (t:=.bool) rfl l;have d:=nV (s:=s) (t:=.bool) rfl g;have hx:AB s x=.bool a':=(List.cons.inj hx).1.symm;have d:AB s y=.bool m:=(List.cons.inj d).1.symm;rw [hx,d];have:=Am h;subst this;rfl
 .cases h
theorem Jwg:∀ {bs:AG AN} {l m:AG (C Ty.T)} {z:AN},Hw val bs l m=AC z->J9 bs (l.map (AB s)) (m.map (AB s))=AC z
 | [],[],[],z,h=>by simp only [Hw] at h;injection h with h;subst h;rfl
 | [b],[x],[y],z,h=>by simp only [Hw] at h;have:=Kba (s:=s) h;simp only [Bu,Ao,J9,this,Dy]
 | b::g::bs,x::xs,y::ys,z,h=>by
  have h':(aQ val b x y).bind (λu=>(Hw val (g::bs) xs ys).map (val.an u))=AC z:=by cases xs<;>cases ys<;>exact h
  cases a:aQ val b x y with
  | none=>rw [a] at h';cases h'
  | some u=>
   rw [a] at h';simp only [Bk] at h';cases d:Hw val (g::bs) xs ys with
   | none=>rw [d] at h';cases h'
   | some v=>
    rw [d] at h';have:=Am h';subst this;have r:=Kba (s:=s) a;have f:=Jwg d;simp only [Bu] at f ⊢;rw [J9,r,f];rfl
 | [],[],_::_,_,h=>by cases h
 | [],_::_,_,_,h=>by cases h
 | [_],[],_,_,h=>by cases h
 | [_],[_],[],_,h=>by cases h
 | [_],[_],_::_::_,_,h=>by simp only [Hw] at h;cases a:aQ val _ _ _<;>rw [a] at h<;>simp [Hw] at h
 | [_],_::_::_,[],_,h=>by cases h
 | [_],_::_::_,_::_,_,h=>by simp only [Hw] at h;cases a:aQ val _ _ _<;>rw [a] at h<;>simp [Hw] at h
 | _::_::_,[],_,_,h=>by cases h
 | _::_::_,_::_,[],_,h=>by cases h
theorem Jmo{i:AI}{k:AM->AH α}:∀ {n j:AM},vH val i k j n=AC r->∃m,j<=m/\m<j+n/\i=(m:AI)/\k m=AC r
 | 0,j,h=>by cases h
 | n+1,j,h=>by
  simp only [vH] at h;rcases Sv h with ⟨a,h⟩|⟨a,h⟩
  .have a:i=(j:AI):=by
    have:decide (i=(j:AI))=AE:=by rw [<-wO];exact a
    simpa using this
   exact ⟨j,Bv _,by omega,a,h⟩
  .obtain ⟨m,l,g,f,d⟩:=Jmo h;exact ⟨m,by omega,by omega,f,d⟩
theorem yZ{g ver:AM}{n:AI}(h:M0 val s g ver=AC n):∃esz el cells z,AA s g=AC (.arr ver esz el cells z)/\n=(Q4 s g ver:AI):=by
 unfold M0 at h;split at h
 .rename_i v e el t l x nest z a;split at h
  .rename_i d;subst d;refine ⟨_,_,_,_,by rw [Jj a];rfl,?_⟩;have:=(Am h).symm;rw [this];simp only [Q4,a,Ob.ver,if_true,Ob.CJ];by_cases hx:x.isEmpty=AE
   .rw [AS hx,Ay.1 hx,Aw,As,Au];rfl
   .rw [AR hx,Dm];rfl
  .cases h
 .rename_i v e el l z a;split at h
  .rename_i d;subst d;refine ⟨_,_,_,_,by rw [Jj a];rfl,?_⟩;have:=(Am h).symm;rw [this];simp only [Q4,a,Ob.ver,if_true,Ob.CJ];rfl
  .cases h
 .cases h
end
section
variable {call:Vv.Call} {base g0:AM} {s:S Ty.T} {α:Type} {r:α}
theorem Jza{x:AH LO}{z a:AI}(h:J8n val s x z=AC a):JV z (x.map (enc s).ev)=AC a/\(x=AD->a=z):=by
 cases x with
 | none=>have:=Am h;subst this;exact ⟨rfl,λ_=>rfl⟩
 | some x=>
  have h:MQ .i64 (ev val s x)=AC a:=h;refine ⟨?_,λe=>by cases e⟩;simp only [Ad,RU h,JV]
theorem yQ{lo hi:AH LO}{n:AI}{k:AI->AI->AH α}(H:0<=n)(h:bH val s lo hi n k=AC r) :
  ∃a b:AI,JV 0 (lo.map (enc s).ev)=AC a/\JV n (hi.map (enc s).ev)=AC b/\0<=a/\a<=b/\b<=n/\(lo=AD->a=0)/\k a b=AC r:=by
 unfold bH at h;obtain ⟨a,y,h⟩:=Ji h;obtain ⟨b,w,h⟩:=Ji h;obtain ⟨A,rfl⟩:∃A:AI,(show Ty.T I from A)=a:=⟨a,rfl⟩;obtain ⟨B,rfl⟩:∃B:AI,(show Ty.T I from B)=b:=⟨b,rfl⟩;obtain ⟨G,F⟩:=Jza (z:=0) (a:=A) y;obtain ⟨E,m⟩:=Jza (z:=n) (a:=B) w;refine ⟨A,B,G,E,?_⟩;have v:∀ {x:AH α},(if hi.isNone=AE then k A B else val.gd (val.le (show Ty.T I from B) (show Ty.T I from n)) (k A B))=AC r->B<=n/\k A B=AC r:=λ{x} h=>by
  by_cases d:hi.isNone=AE
  .rw [AS d] at h;rw [m (Ag.1 d)];rw [m (Ag.1 d)] at h;exact ⟨Dp _,h⟩
  .rw [AR d] at h;obtain ⟨g,h⟩:=Kl h;exact ⟨Lj g,h⟩
 by_cases hl:lo.isNone=AE
 .have e:=F (Ag.1 hl);simp only [hl,if_true] at h;by_cases d:hi.isNone=AE
  .simp only [d,true_and,and_self,if_true] at h;have eb:=m (Ag.1 d);refine ⟨by omega,by omega,by omega,λ_=>e,h⟩
  .have f:¬(True/\hi.isNone=AE):=λq=>d q.2;rw [AR f] at h;obtain ⟨g,h⟩:=Kl h;have g:A<=B:=Lj g;obtain ⟨l,h⟩:=v (x:=AD) h;exact ⟨by omega,g,l,λ_=>e,h⟩
 .rw [AR hl] at h;obtain ⟨g0,h⟩:=Kl h;have g0:(0:AI)<=A:=Lj g0;have f:¬(lo.isNone=AE/\hi.isNone=AE):=λq=>hl q.1;simp only at h;rw [AR f] at h;obtain ⟨g,h⟩:=Kl h;have g:A<=B:=Lj g;obtain ⟨l,h⟩:=v (x:=AD) h;exact ⟨g0,g,l,λq=>by rw [q] at hl;exact (hl rfl).elim,h⟩
theorem J9i{lo:AH LO}{a b:AI}(h:lo=AD->a=0):(if lo.isNone=AE then (show Ty.T I from b) else val.mi (show Ty.T I from b) (show Ty.T I from a))=(show Ty.T I from b - a):=by
 by_cases hl:lo.isNone=AE
 .rw [AS hl,h (Ag.1 hl)];show b=b - 0;omega
 .rw [AR hl];rfl
theorem UE(hi:Inv s){esz:AM}{x:V Ty.T}{lo d:AH LO}{k:V Ty.T->AH α}(hx:okV s x)(h:dX val s esz x lo d k=AC r) :
  ∃v,Ir (AA s) esz (AL s x) (lo.map (enc s).ev) (d.map (enc s).ev)=AC (AL s v)/\okV s v/\k v=AC r:=by
 unfold dX at h;split at h
 .rename_i t v;obtain ⟨L,rfl⟩:∃L:AG t.T,(show Ty.T (.ls t) from L)=v:=⟨v,rfl⟩;split at h
  .rename_i K;subst K;obtain ⟨a,b,y,w,G,F,E,m,h⟩:=yQ (n:=(L.length:AI)) (by omega) h;refine ⟨.c (.lf (.ls t) (show Ty.T (.ls t) from (L.drop a.toNat).take (b - a).toNat)),?_,KR,?_⟩
   .show Ir (AA s) t.sz (.CF L.length (L.flatMap t.cs)) _ _=AC (.CF ((L.drop a.toNat).take (b - a).toNat).length (((L.drop a.toNat).take (b - a).toNat).flatMap t.cs));simp only [Ir,y,w];rw [AS ⟨G,F,E,Yy L⟩,Jp0]
    congr 2
    simp;omega
   .have:=J9i (lo:=lo) (a:=a) (b:=b) m;rw [this] at h;exact h
  .cases h
 .rename_i g ver;have main:∀ {v e:AM} {el:TypeId} {cells:AG AV} {z:AN},AA s g=AC (.arr v e el cells z)->v=ver->e=esz->BP val (M0 val s g ver) (λn=>bH val s lo d n λa b=>k (.c (.part g ver a (if lo.isNone=AE then b else val.mi b a))))=AC r ->
    ∃v,Ir (AA s) esz (AL s (.c (.own g ver))) (lo.map (enc s).ev) (d.map (enc s).ev)=AC (AL s v)/\okV s v/\k v=AC r:=by intro v e el cells z hH P X h;obtain ⟨n,N,h⟩:=Ji h;obtain ⟨_,_,_,_,hH2,N⟩:=yZ (n:=n) N;rw [N] at h;obtain ⟨a,b,y,w,G,F,E,m,h⟩:=yQ (n:=(Q4 s g ver:AI)) (by omega) h;have:=J9i (lo:=lo) (a:=a) (b:=b) m;rw [this] at h;refine ⟨_,?_,Xe (λq M=>hx _ (by simp [V.all];rfl) q (by simpa [refs] using M)),h⟩;simp only [AL,AB,Ir,y,w];rw [AS ⟨G,F,E,by simp [Ei,hH,P,X]⟩];simp only [Bq]
  split at h
  .rename_i v e el t l x nest z H;split at h
   .rename_i f;exact main (by rw [Jj H];rfl) f.1 f.2 h
   .cases h
  .rename_i v e el l z H;split at h
   .rename_i f;exact main (by rw [Jj H];rfl) f.1 f.2 h
   .cases h
  .cases h
 .rename_i g ver off len;obtain ⟨A,rfl⟩:∃A:AI,(show Ty.T I from A)=off:=⟨off,rfl⟩;obtain ⟨B,rfl⟩:∃B:AI,(show Ty.T I from B)=len:=⟨len,rfl⟩;split at h
  .rename_i v e el t l x nest z H;split at h
   .rename_i f;obtain ⟨O,h⟩:=Kl h;obtain ⟨J,h⟩:=Kl h;have O:(0:AI)<=A:=Lj O;have J:(0:AI)<=B:=Lj J;obtain ⟨a,b,y,w,G,F,E,m,h⟩:=yQ (n:=B) J h;have R:=J9i (lo:=lo) (a:=a) (b:=b) m;rw [R] at h;have Q:(if lo.isNone=AE then (show Ty.T I from A) else val.pl (show Ty.T I from A) (show Ty.T I from a))=(show Ty.T I from A+a):=by
     by_cases hl:lo.isNone=AE
     .rw [AS hl,m (Ag.1 hl)];show A=A+0;omega
     .rw [AR hl];rfl
    rw [Q] at h;refine ⟨_,?_,Xe (λq M=>hx _ (by simp [V.all];rfl) q (by simpa [refs] using M)),h⟩;show Ir (AA s) esz (.arr g ver A.toNat B.toNat) _ _=AC (.arr g ver (A+a).toNat (b - a).toNat);have hB:((B.toNat:AM):AI)=B:=Bm J;simp only [Ir,y,hB,w];rw [AS ⟨G,F,E,by simp [Ei,Jj H,BD,f.1,f.2]⟩]
    congr 2
    omega
   .cases h
  .cases h
 .obtain ⟨a,b,y,w,G,F,E,m,h⟩:=yQ (n:=0) (Dp _) h;refine ⟨_,?_,Xe (Ka s rfl),h⟩;simp only [AL,AB,Ir,y,w];rw [AS ⟨by omega,by omega⟩]
 .cases h
end
theorem tL{t:Ty}:t.QM=!t.one:=by cases t<;>rfl
theorem J93{t:Ty}(h:t.one=AE)(x:t.T):EA t x=Yb (t.cs x):=by unfold EA;rw [tL,h];rfl
theorem J3r{t:Ty}:t.eY=t.one:=by cases t<;>rfl
theorem Jz5:∀ {a b:AG AN},JD a b=AE->a=b
 | [],[],_=>rfl
 | true::a,AE::b,h=>by rw [Jz5 (a:=a) (b:=b) h]
 | false::a,AF::b,h=>by rw [Jz5 (a:=a) (b:=b) h]
 | [],_::_,h=>by simp [JD] at h
 | true::_,[],h=>by simp [JD] at h
 | false::_,[],h=>by simp [JD] at h
 | true::_,AF::_,h=>by simp [JD] at h
 | false::_,AE::_,h=>by simp [JD] at h
theorem Jqt:∀ {a b:AG AN} {x y h g:AG AV} {p q:AN},J9 a x y=AC p->J9 b h g=AC q->J9 (a++b) (x++h) (y++g)=AC (p&&q)
 | [],b,[],[],h,g,p,q,f,l=>by injection f with f;subst f;simpa using l
 | s::a,b,u::x,v::y,h,g,p,q,f,l=>by
  simp only [J9,List.cons_append] at f ⊢;cases m:LA s u v with
  | none=>rw [m] at f;cases f
  | some c=>
   rw [m] at f;cases hr:J9 a x y with
   | none=>rw [hr] at f;cases f
   | some d=>
    rw [hr] at f;injection f with f;subst f;rw [Jqt hr l];simp [Bool.and_assoc]
 | [],_,[],_::_,_,_,_,_,f,_=>by simp [J9] at f
 | [],_,_::_,_,_,_,_,_,f,_=>by simp [J9] at f
 | _::_,_,[],_,_,_,_,_,f,_=>by simp [J9] at f
 | _::_,_,_::_,[],_,_,_,_,f,_=>by simp [J9] at f
theorem yU:∀ {t:Ty} (h:t.key=AE) (x y:t.T),J9 t.vw (t.cs x) (t.cs y)=AC (t.FE x y)
 | .int k,_,x,y=>by show J9 [AF] [AV.int k x] [AV.int k y]=AC (Ty.FE (.int k) x y);simp only [J9,LA,if_true,Dy];rfl
 | .bool,_,x,y=>by show J9 [AE] [AV.bool x] [AV.bool y]=AC (Ty.FE .bool x y);simp only [J9,LA,Dy];rfl
 | .u,_,x,y=>rfl
 | .p a b,h,x,y=>by simp only [Ty.key,Az] at h;exact Jqt (yU h.1 x.1 y.1) (yU h.2 x.2 y.2)
theorem J1f{ag:AN}{sh:AG AN}{t:Ty}(h:MK ag sh t=AE)(x y:t.T):Ez ag sh (EA t x) (EA t y)=AC (t.FE x y):=by
 unfold MK at h;simp only [Az,beq_iff_eq] at h;obtain ⟨⟨⟨l,a⟩,g⟩,m⟩:=h;have a:=Jz5 a;subst l;subst a;unfold Ez EA;cases f:t.QM with
 | true=>simp only [if_true];exact yU g x y
 | false=>
  have d:t.one=AE:=by rw [tL] at f;simpa using f
  simp only [Ba,if_false];rw [<-lu d,<-lu d];exact yU g x y
def EH{a b:Ty}(k:a.T):AG (a.T×b.T)->AH AM
 | []=>AD
 | e::r=>if a.FE k e.1=AE then AC 0 else (EH k r).map (·+1)
section
variable {ag:AN} {sh:AG AN} {kt vt:Ty}
theorem wR(h:MK ag sh kt=AE)(k:kt.T):∀(i:AM) (es:AG (kt.T×vt.T)),posM ag sh (EA kt k) i (Cm kt vt es)=AC ((EH k es).map (i+·))
 | i,[]=>rfl
 | i,e::r=>by
  show (match Ez ag sh (EA kt k) (EA kt e.1) with|some AE=>AC (AC i)|some AF=>posM ag sh (EA kt k) (i+1) (Cm kt vt r)|none=>AD)=_;rw [J1f h];unfold EH;cases a:kt.FE k e.1 with
  | true=>simp
  | false=>
   simp only [Ba,if_false];rw [wR h k (i+1) r];cases EH k r with
   | none=>rfl
   | some j=>simp only [Ad];congr 2;omega
theorem SG(k:kt.T)(z:AV):∀(es:AG (kt.T×vt.T)),TJ (Cm kt vt es) z (EH k es)=(match zu k es with|some v=>EA vt v|none=>z)
 | []=>rfl
 | e::r=>by
  unfold EH zu;by_cases a:kt.FE k e.1=AE
  .rw [AS a,AS a];rfl
  .rw [AR a,AR a,<-SG k z r];cases EH k r with
   | none=>rfl
   | some j=>rfl
theorem J7h(k:kt.T)(v:vt.T):∀(es:AG (kt.T×vt.T)),FP (Cm kt vt es) (EA kt k) (EA vt v) (EH k es)=Cm kt vt (F7 k v es)
 | []=>rfl
 | e::r=>by
  unfold EH F7;by_cases a:kt.FE k e.1=AE
  .rw [AS a,AS a];rfl
  .rw [AR a,AR a];have d:=J7h k v r;show _=(EA kt e.1,EA vt e.2)::Cm kt vt (F7 k v r);rw [<-d];cases EH k r with
   | none=>rfl
   | some j=>rfl
theorem J9k(k:kt.T):∀(es:AG (kt.T×vt.T)),VK (Cm kt vt es) (EH k es)=Cm kt vt (I7 k es)
 | []=>rfl
 | e::r=>by
  unfold EH I7;by_cases a:kt.FE k e.1=AE
  .rw [AS a,AS a];rfl
  .rw [AR a,AR a];have d:=J9k k r;show _=(EA kt e.1,EA vt e.2)::Cm kt vt (I7 k r);rw [<-d];cases EH k r with
   | none=>rfl
   | some j=>rfl
theorem Jss(k:kt.T):∀(es:AG (kt.T×vt.T)),(EH k es).isSome=(zu k es).isSome
 | []=>rfl
 | e::r=>by
  unfold EH zu;by_cases a:kt.FE k e.1=AE
  .rw [AS a,AS a];rfl
  .rw [AR a,AR a,<-Jss k r];cases EH k r<;>rfl
theorem Jq7(h:MK ag sh kt=AE)(k:kt.T):YP ag sh (EA kt k)=AE:=by unfold YP;rw [J1f h];rfl
end
section
variable {call:Vv.Call} {base g0:AM} {s:S Ty.T} {α:Type} {r:α}
theorem cB{ag:AN}{t:Ty}{v:V Ty.T}{x:t.T}(g:ag=t.QM)(h:Il val ag t v=AC x):AL s v=EA t x:=by
 subst g;unfold Il at h;split at h
 .rename_i l a;cases d:impl val (jj val) t l with
  | none=>rw [d] at h;cases h
  | some p=>
   obtain ⟨y,r⟩:=p;rw [d] at h;have h:(if r.isEmpty=AE then AC y else AD)=AC x:=h;split at h
   .rename_i hr;injection h with h;subst h;have hr:r=[]:=Ay.1 hr;subst hr;have:=nM (s:=s) (oD s) t d;simp only [AL,EA,a,if_true];rw [this];simp
   .cases h
 .rename_i c a;have f:t.one=AE:=by rw [tL] at a;simpa using a
  have:=nV (s:=s) f h;rw [J93 f,this];rfl
 .cases h
theorem J79{t:Ty}{z:AV}{x:t.T}(a:t.one=AE)(h:NT val t z=AC x):Yb (t.cs x)=z:=by
 unfold NT at h;split at h
 .injection h with h;subst h;rfl
 .have:=nV (s:=⟨[],[],[],[],AD⟩) a h;rw [this,jB];rfl
theorem tX{v:V Ty.T}{p}(h:LX s v=AC p):v=.c (.map p.1 p.2.1)/\look p.1 s.ob=AC (.mp p.2.1 p.2.2.1 p.2.2.2.1 p.2.2.2.2):=by
 unfold LX at h;split at h
 .rename_i g ver;split at h
  .rename_i w kt vt es a;split at h
   .rename_i e;injection h with h;subst h;subst e;exact ⟨rfl,a⟩
   .cases h
  .cases h
 .cases h
theorem uL{g w:AM}{kt vt:Ty}{es:AG (kt.T×vt.T)}(a:look g s.ob=AC (.mp w kt vt es)):HY (AA s) g w=AC (Cm kt vt es):=by unfold HY;rw [Jj a];simp [BD]
theorem Ph{ag:AN}{sh:AG AN}{kt vt:Ty}(a:MK ag sh kt=AE)(f:vt.one=AE)(es:AG (kt.T×vt.T))(k:kt.T)(z:vt.T){zv:AV}(d:Yb (vt.cs z)=zv)(ok:AN) :
  oG ok ag sh zv (EA kt k) (AC (Cm kt vt es))=AC (if ok=AE then .Cb [Yb (vt.cs ((zu k es).getD z)),.bool (zu k es).isSome] else Yb (vt.cs ((zu k es).getD z))):=by
 unfold oG;simp only;rw [AS (Jq7 a k),wR a];have h:(EH k es).map (0+·)=EH k es:=by cases EH k es<;>simp
 rw [h];simp only [MH];rw [SG,Jss];have g:(match zu k es with|some v=>EA vt v|none=>zv)=Yb (vt.cs ((zu k es).getD z)):=by
  cases zu k es with
  | none=>exact d.symm
  | some v=>exact J93 f v
 rw [g]
theorem J7n{ag:AN}{sh:AG AN}{kt vt:Ty}(a:MK ag sh kt=AE){g w:AM}{es:AG (kt.T×vt.T)}(d:look g s.ob=AC (.mp w kt vt es))(k:kt.T)(v:vt.T) :
  OC (AA s) ag sh (EA kt k) (EA vt v) (.map g w)=AC (upd (AA s) g (AC (.map w (Cm kt vt (F7 k v es)) AF))):=by
 unfold OC;simp only;rw [uL d];simp only;rw [AS (Jq7 a k),wR a];have f:(EH k es).map (0+·)=EH k es:=by cases EH k es<;>simp
 rw [f];simp only [dZ,J7h]
theorem J7k{ag:AN}{sh:AG AN}{kt vt:Ty}(a:MK ag sh kt=AE){g w:AM}{es:AG (kt.T×vt.T)}(d:look g s.ob=AC (.mp w kt vt es))(k:kt.T) :
  Rm (AA s) ag sh (EA kt k) (.map g w)=AC (upd (AA s) g (AC (.map w (Cm kt vt (I7 k es)) AF))):=by
 unfold Rm;simp only;rw [uL d];simp only;rw [AS (Jq7 a k),wR a];have f:(EH k es).map (0+·)=EH k es:=by cases EH k es<;>simp
 rw [f];simp only [gy,J9k]
theorem Jpz(hi:Inv s){op:CO}{v:V Ty.T}{g w:AM}{kt vt:Ty}{es es':AG (kt.T×vt.T)}(l:look g s.ob=AC (.mp w kt vt es))
  (m:Ja call base (enc s) g0 op=AC (AL s v,upd (AA s) g (AC (.map w (Cm kt vt es') AF)))) (d:v.all=[.any]\/v.all=[]) :
  JQ call base g0 s op v (s.obj g (.mp w kt vt es')):=by
 have st:CQ s (s.obj g (.mp w kt vt es')):=Zh λr f=>by rw [l] at f;injection f with f;subst f;exact ⟨rfl,rfl⟩
 have okv:∀s:S Ty.T,okV s v:=λs c a=>by
  rcases d with d|d
  .rw [d] at a;have:=Df.1 a;subst this;exact Ka s rfl
  .rw [d] at a;cases a
 refine ⟨?_,st,MV hi st (λh=>Qb g h _) (λc a=>by cases a) (hi.free l),okv _⟩;rw [m,jf hi st (λh=>Qb g h _),st.AL (okv s)];rfl
end
section
variable {call:Vv.Call} {base g0:AM} {s:S Ty.T} {α:Type} {r:α}
def j6(call:Vv.Call)(Γ:FuncId->AH BQ):Prop:=∀ {α:Type} {base g0:AM} {s:S Ty.T} {r:α} {c:BQ} {f:FuncId} {args:AG LO} {k:CO->V Ty.T->S Ty.T->AH α},Inv s->Γ f=AC c->aV val c f args s g0 (args.map (ev val s)) k=AC r ->
 ∃op' v s',Alt (.Co f args) op'/\JQ call base g0 s op' v s'/\k op' v s'=AC r
theorem YW{x:LO}{c:C Ty.T}(hi:Inv s)(h:ev val s x=.c c):FV s c:=by have:=Lh hi x;rw [h] at this;exact this c (by simp [V.all])
theorem bA{c c':C Ty.T}(h:FV s c)(hr:refs c'=refs c):okV s (.c c'):=Xe (λq a=>h q (by rw [<-hr];exact a))
theorem J7a{o:BinOp}{k:IntKind}{a b:AI}(f:0<=b)(d:o=.shl\/o=.shr):UG o k a b=AC (.int k (ish o k a b)):=by rcases d with rfl|rfl<;>(unfold UG;rw [AR (by omega)];rfl)
theorem R4{F:LO->AH (AM×AM×AM)}(hF:∀x p,F x=AC p->ev val s x=.c (.ptr p.1 p.2.1 p.2.2)){caps:AG LO}{l:AG (AM×AM×AM)}(hi:Inv s)(h:Fa F caps=AC l) :
  caps.map (enc s).ev=l.map (λc=>AV.ptr c.1 c.2.1 c.2.2)/\∀c∈l,FV s (.ptr c.1 c.2.1 c.2.2):=by
 induction caps generalizing l with
 | nil=>simp only [Fa] at h;injection h with h;subst h;exact ⟨rfl,λc a=>by cases a⟩
 | cons x caps g=>
  simp only [Fa] at h;cases hx:F x with
  | none=>rw [hx] at h;cases h
  | some p=>
   have hx:=hF x p hx;rename_i d;rw [d] at h;simp only [Bk] at h;cases f:Fa F caps with
   | none=>rw [f] at h;cases h
   | some v=>
    rw [f] at h;have:=Am h;subst this;obtain ⟨r,m⟩:=g f;refine ⟨?_,λc a=>?_⟩
    .simp only [Bu,r,Ko,hx];rfl
    .rcases Du.1 a with rfl|a
     .exact YW hi hx
     .exact m c a
theorem J41{g ver:AM}{n:AI}(a:M0 val s g ver=AC n):Zq (AA s) g ver=AE:=by
 unfold M0 at a;split at a
 .rename_i f;split at a
  .rename_i d;simp [Zq,Jj f,BD,d]
  .cases a
 .rename_i f;split at a
  .rename_i d;simp [Zq,Jj f,BD,d]
  .cases a
 .cases a
theorem J12{t:Ty}(z:t.T):∀n,(Dq n z).flatMap t.cs=Zc (t.cs z) n
 | 0=>rfl
 | n+1=>by rw [List.replicate_succ,Ac,J12 z n];rfl
theorem Sn:∀(t:Ty) (x:t.T),(t.cs x).all AV.flat=AE
 | .int _,_=>rfl
 | .bool,_=>rfl
 | .str,_=>rfl
 | .ls _,_=>rfl
 | .bf _ _,_=>rfl
 | .u,_=>rfl
 | .p a b,(x,y)=>by show (a.cs x++b.cs y).all AV.flat=AE;rw [List.all_append,Sn a x,Sn b y];rfl
theorem Jyv(s:S Ty.T):∀ {l:AG (C Ty.T)} {t:Ty} {v:t.T},oF val l=AC ⟨t,v⟩->l.map (AB s)=t.cs v
 | [],t,v,h=>by simp only [oF,Aj,Sigma.mk.injEq] at h;obtain ⟨rfl,h⟩:=h;rfl
 | .lf f x::r,t,v,h=>by
  have key:∀(m:f.one=AE) (d:(oF val r).map (λp=>(⟨.p f p.1,val.pr x p.2⟩:(t:Ty)×t.T))=AC ⟨t,v⟩),(C.lf f x::r).map (AB s)=t.cs v:=λm d=>by
   cases hr:oF val r with
   | none=>rw [hr] at d;cases d
   | some p=>
    obtain ⟨g,v2⟩:=p;rw [hr] at d;simp only [Ad,Aj,Sigma.mk.injEq] at d;obtain ⟨rfl,d⟩:=d;have d:=eq_of_heq d;subst d;rw [Bu,Jyv s hr];show Yb (f.cs x)::g.cs v2=f.cs x++g.cs v2;rw [lu m x];rfl
  cases f with
  | u=>cases h
  | p a b=>cases h
  | _=>exact key rfl h
 | .any::_,_,_,h=>by cases h
 | .kb _::_,_,_,h=>by cases h
 | .k _::_,_,_,h=>by cases h
 | .own ..::_,_,_,h=>by cases h
 | .part ..::_,_,_,h=>by cases h
 | .ptr ..::_,_,_,h=>by cases h
 | .F5 ..::_,_,_,h=>by cases h
 | .rp ..::_,_,_,h=>by cases h
 | .fn ..::_,_,_,h=>by cases h
 | .map ..::_,_,_,h=>by cases h
 | .yl _::_,_,_,h=>by cases h
theorem eT{Γ:FuncId->AH BQ}{ty:TypeId->AH Ty}{op:CO}{k:CO->V Ty.T->S Ty.T->AH α}(hC:j6 call Γ)(hi:Inv s)(h:eX val Γ ty s g0 op k=AC r) :
  ∃op' v s',Alt op op'/\JQ call base g0 s op' v s'/\k op' v s'=AC r:=by
 have done:∀ {v:V Ty.T} {s':S Ty.T},JQ call base g0 s op v s'->k op v s'=AC r->∃op' v s',Alt op op'/\JQ call base g0 s op' v s'/\k op' v s'=AC r:=λa b=>⟨op,_,_,.inl rfl,a,b⟩;have same':∀ {v:V Ty.T},Ja call base (enc s) g0 op=AC (AL s v,AA s)->okV s v->k op v s=AC r->∃op' v s',Alt op op'/\JQ call base g0 s op' v s'/\k op' v s'=AC r:=λa b c=>done (.same hi a b) c;have same:=@same';have sm:∀ {v:V Ty.T},k op v s=AC r->Ja call base (enc s) g0 op=AC (AL s v,AA s)->okV s v->∃op' v s',Alt op op'/\JQ call base g0 s op' v s'/\k op' v s'=AC r:=λc a b=>same' a b c;clear same';cases op<;>simp only [eX] at h<;>try (cases h;done)
 case fH x=>exact done (WC hi) h
 case pick c a b=>
  split at h
  .rename_i t d;have hcv:(enc s).ev c=.bool t:=by rw [Ko,d];rfl
   refine same ?_ ?_ h
   .simp only [Ja,hcv,Ko];cases t<;>rfl
   .cases t<;>exact Lh hi _
  .cases h
 case alloc z=>
  split at h
  .cases h
  .rename_i H;exact done (Kam hi (by simpa using H)) h
 case box x=>
  split at h
  .cases h
  .rename_i H;exact done (XO hi (by cases hl:s.has g0 with|false=>rfl|true=>exact (H (.inl hl)).elim) (by cases hg:(ev val s x).good with|true=>rfl|false=>exact (H (.inr hg)).elim)) h
 case build z ps=>
  obtain ⟨l,hl,h⟩:=Ji h;exact done (J96 hi hl) h
 case Eb n esz el z ps=>
  obtain ⟨l,hl,h⟩:=Ji h;split at h
  .rename_i d;exact done (J6h hi (by simpa using d.2.2) hl d.1 d.2.1) h
  .cases h
 case load ag n x=>
  obtain ⟨v,M,h2,h3⟩:=J20 hi (Lh hi x) h;exact same (by simp only [Ja,Ko];rw [show (enc s).h=AA s from rfl,M]) h2 h3
 case store n x y=>
  obtain ⟨s',M,h2,h3,h4⟩:=J9p hi (Lh hi y) h;exact done ⟨by simp only [Ja,Ko];rw [show (enc s).h=AA s from rfl,h3];rfl,M,h2,Xe (Ka s' rfl)⟩ h4
 case KI o x y=>
  obtain ⟨kk,-,h⟩:=Ji h;obtain ⟨a,ha,h⟩:=Ji h;obtain ⟨b,R,h⟩:=Ji h;obtain ⟨A,rfl⟩:∃A:AI,(show Ty.T (.int kk) from A)=a:=⟨a,rfl⟩;obtain ⟨B,rfl⟩:∃B:AI,(show Ty.T (.int kk) from B)=b:=⟨b,rfl⟩;have e1:=RU (a:=A) ha;have e2:=RU (a:=B) R;have eb:∀v:AV,TM o kk A B=AC v->Ja call base (enc s) g0 (.KI o x y)=AC (v,AA s):=λv q=>by simp only [Ja,e1,e2,if_true,q];rfl
  split at h
  .rename_i hcm;exact same (v:=.c (.lf .bool (JN o A B))) (eb _ (QT hcm)) KR h
  .split at h
   .rename_i har;exact same (v:=.c (.lf (.int kk) (Wi o kk A B))) (eb _ (QU har)) KR h
   .have key:∀q,(q=BinOp.quo\/q=BinOp.rem)->B≠0->TM q kk A B=AC (.int kk (Wi q kk A B)):=by
     rintro q (rfl|rfl) hb0
     .simp only [TM];rw [AR hb0];rfl
     .simp only [TM];rw [AR hb0];rfl
    have nz:val.cm .neq kk B (val.int kk 0)=AE->B≠0:=λq=>by have q:(B != 0)=AE:=q;simpa using q
    split at h
    .obtain ⟨E,h⟩:=Kl h;exact same (v:=.c (.lf (.int kk) (Wi _ kk A B))) (eb _ (key _ (.inl rfl) (nz E))) KR h
    .obtain ⟨E,h⟩:=Kl h;exact same (v:=.c (.lf (.int kk) (Wi _ kk A B))) (eb _ (key _ (.inr rfl) (nz E))) KR h
    .cases h
 case eqv ne ag sh x y=>
  have fin:∀ {b:AN},Ez ag sh ((enc s).ev x) ((enc s).ev y)=AC b->k (.eqv ne ag sh x y) (.c (.lf .bool (if ne=AE then val.nt b else b))) s=AC r->∃op' v s',Alt (.eqv ne ag sh x y) op'/\JQ call base g0 s op' v s'/\k op' v s'=AC r:=λ{b} q h=>same (by simp only [Ja,q];cases ne<;>rfl) KR h
  split at h
  .rename_i l m hx hy;obtain ⟨b,R,h⟩:=Ji h;exact fin (by rw [Ko,Ko,hx,hy];exact Jwg R) h
  .rename_i u v hx hy;obtain ⟨b,R,h⟩:=Ji h;exact fin (by rw [Ko,Ko,hx,hy];exact Jwg (l:=[u]) (m:=[v]) R) h
  .cases h
 case un o x=>
  split at h
  .rename_i b hx;exact sm h (by simp only [Ja,Ko,hx];rfl) (Xe (Ka s rfl))
  .rename_i b hx;exact sm h (by simp only [Ja,Ko,hx];rfl) KR
  .rename_i kk v hx;exact sm h (by simp only [Ja,Ko,hx];rfl) KR
  .cases h
 case conv kk x=>
  split at h
  .rename_i k' v hx;exact sm h (by simp only [Ja,Ko,hx];rfl) KR
  .cases h
 case Eo x=>
  split at h
  .rename_i g v o hx;split at h
   .rename_i d;exact sm h (by simp only [Ja,Ko,hx,AL,AB];rw [show (enc s).h=AA s from rfl,AS (sS d)]) (bA (YW hi hx) rfl)
   .cases h
  .rename_i g v e i o hx;split at h
   .rename_i d;exact sm h (by simp only [Ja,Ko,hx,AL,AB];rw [show (enc s).h=AA s from rfl,AS (sS d)]) (bA (YW hi hx) rfl)
   .cases h
  .rename_i t v o hx;exact sm h (by simp only [Ja,Ko,hx];rfl) (Xe (Ka s rfl))
  .rename_i f c hx;exact sm h (by simp only [Ja,Ko,hx];rfl) (bA (YW hi hx) rfl)
  .rename_i f t v hx;exact sm h (by simp only [Ja,Ko,hx];rfl) (Xe (Ka s rfl))
  .cases h
 case Me f x=>
  split at h
  .rename_i l hx;obtain ⟨⟨t,v⟩,Y,h⟩:=Ji h;have e:=Jyv s Y;refine sm h ?_ (Xe (Ka s rfl));simp only [Ja,Ko,hx,AL,e,Sn t v,if_true];rfl
  .cases h
 case LY f caps=>
  obtain ⟨l,hl,h⟩:=Ji h;obtain ⟨c1,c2⟩:=R4 (λx p Y=>by split at Y<;>first|(cases Y;done)|(have:=Am Y;subst this;assumption)) hi hl;refine same (by simp only [Ja,c1,AL,AB];rfl) (Xe λq hq=>?_) h;simp only [refs,Dc] at hq;obtain ⟨c,d,rfl⟩:=hq;exact c2 c d (c.1,c.2.1) (by simp [refs])
 case mkS esz bytes el z l c=>
  split at h
  .rename_i a b;split at h
   .rename_i hab;subst hab;obtain ⟨n,F,h⟩:=Ji h;obtain ⟨t,-,h⟩:=Ji h;obtain ⟨⟨X,zr⟩,hz,h⟩:=Ji h;simp only at h;split at h
    .rename_i d;obtain ⟨c1,c2,c3,c4,c5⟩:=d;obtain ⟨N,rfl⟩:∃N:AI,(show Ty.T I from N)=n:=⟨n,rfl⟩;have e1:=RU (a:=N) F;obtain ⟨E,h⟩:=Kl h;obtain ⟨g2,h⟩:=Kl h;have E:(0:AI)<=N:=Lj E;have g2:N * bytes<=room/\N<=9223372036854775807:=by have:decide (N * bytes<=room/\N<=9223372036854775807)=AE:=g2;simpa using this
     have hzr:zr=[]:=by simpa using c2
     subst hzr;have hz1:=nM (oD s) t hz;rw [Db,show z.map (AB s ∘ cC val)=z from (Ak λv _=>jB s v).trans (Dg _),Ao,Af] at hz1;have H:s.has g0=AF:=by simpa using c5
     refine done (jJ hi H (av:=.arr g0 (Kh (enc s).h g0) 0 N.toNat) (ao:=.arr (Kh (enc s).h g0) esz el (Zc z N.toNat) AF) ?_ ?_ ?_ (λc d=>by cases d) (Xe (bO rfl))) h
     .simp only [Ja,e1];rw [AS ⟨E,Dp _,id,g2.1,g2.2⟩];rfl
     .simp only [AL,AB];rw [show Q4 (s.obj g0 (.row (s.nv g0) esz el t (val.rp X N) [] AD AF)) g0 (s.nv g0)=List.length (α:=t.T) (val.rp X N)+0 / esz from uK (o:=.row (s.nv g0) esz el t (val.rp X N) [] AD AF),show (enc s).h=AA s from rfl,Xk H,As,Au];rw [show List.length (α:=t.T) (val.rp X N)=N.toNat from List.length_replicate]
     .simp only [Dn.BD];rw [show (enc s).h=AA s from rfl,Xk H,Ao,Af,hz1,<-J12];rfl
    .cases h
   .cases h
  .rename_i k1 a k2 b;split at h
   .rename_i d;obtain ⟨c0,c1,c2,c3,c4,c5,c6⟩:=d;subst c0;have H:s.has g0=AF:=by simpa using c6
    have hl:(GN (z.map (cC val)) a.toNat).length=a.toNat * esz:=by
     have:=AT List.length (xC z s a.toNat);rw [Av] at this;rw [this,<-c4];generalize a.toNat=m
     induction m with
     | zero=>simp [Zc]
     | succ m ih=>simp [Zc,ih,Nat.succ_mul,Nat.add_comm]
    have hs:CQ s (s.obj g0 (.lit (s.nv g0) esz el (GN (z.map (cC val)) a.toNat) AF)):=Zh λo0 h=>by rw [NP H] at h;cases h
    refine done (jJ hi H (av:=.arr g0 (Kh (enc s).h g0) 0 a.toNat) (ao:=.arr (Kh (enc s).h g0) esz el (Zc z a.toNat) AF) ?_ ?_ ?_ (Jzu z _ a.toNat) (Xe (bO rfl))) h
    .simp only [Ja];show (if 0<=a/\a<=a/\(a=0->a=0)/\a * bytes<=room/\a<=9223372036854775807 then _ else AD)=_;rw [AS ⟨c1,Dp _,id,c2,c3⟩];rfl
    .simp only [AL,AB];rw [show Q4 (s.obj g0 (.lit (s.nv g0) esz el (GN (z.map (cC val)) a.toNat) AF)) g0 (s.nv g0)=(GN (z.map (cC val)) a.toNat).length / esz from uK (o:=.lit (s.nv g0) esz el (GN (z.map (cC val)) a.toNat) AF),show (enc s).h=AA s from rfl,Xk H,hl,Bb _ c5]
    .simp only [Dn.BD];rw [xC,show (enc s).h=AA s from rfl,Xk H]
   .cases h
  .cases h
 case slc esz x lo hi'=>
  obtain ⟨v,M,h2,h3⟩:=UE hi (Lh hi x) h;exact same (by simp only [Ja,Ko];rw [show (enc s).h=AA s from rfl,M]) h2 h3
 case Es off x=>
  split at h
  .rename_i g v o hx;split at h
   .rename_i d;exact sm h (by simp only [Ja,Ko,hx,AL,AB,KZ];rw [show (enc s).h=AA s from rfl,AS (sS d)]) (bA (YW hi hx) rfl)
   .cases h
  .rename_i g v e i o hx;split at h
   .rename_i d;exact sm h (by simp only [Ja,Ko,hx,AL,AB,KZ];rw [show (enc s).h=AA s from rfl,AS (sS d)];simp only [Dv]) (bA (YW hi hx) rfl)
   .cases h
  .rename_i t v o hx;exact sm h (by simp only [Ja,Ko,hx,AL,AB,KZ,List.drop_drop];rfl) (Xe (Ka s rfl))
  .cases h
 case lF ag off n x=>
  split at h
  .rename_i l hx;split at h
   .rename_i F;obtain ⟨v,O,h⟩:=Ji h;obtain ⟨p1,p2⟩:=nJ F O s;refine sm h (by simp only [Ja,Ko,hx];show (match pack ag (l.map (AB s)) off n with|some v=>AC (v,AA s)|none=>AD)=_;rw [p1]) (λc d=>?_);have:=Lh hi x;rw [hx] at this;exact this c (p2 c d)
   .cases h
  .cases h
 case fJ kt vt el=>
  obtain ⟨kt',-,h⟩:=Ji h;obtain ⟨vt',-,h⟩:=Ji h;split at h
  .cases h
  .rename_i H;have H:s.has g0=AF:=eq_false_of_ne_true H;split at h
   .rename_i u0 vt'' heq;split at h
    .cases h
    .rename_i d;simp only [not_or] at d;obtain ⟨hc1,hc2,hc3,hc4⟩:=d;have hmo:s.mo=AD:=by
      cases hq:s.mo with
      | none=>rfl
      | some m=>rw [hq] at hc1;exact (hc1 rfl).elim
     have hlt:g0<mB:=by
      rcases Nat.lt_or_ge g0 mB with M|M
      .exact M
      .exact (hc2 (Bt M)).elim
     obtain ⟨s',K⟩:∃s':S Ty.T,s'=⟨s.sl,s.lo,s.ob,s.ln,AC ⟨g0,kt',vt'',el,val.nl (.p kt' (.ls vt''))⟩⟩:=⟨_,rfl⟩;rw [<-K] at h;have hc0:AB s'=AB s:=by subst K;funext c;cases c<;>rfl
     have ho0:Dn.BD s'=Dn.BD s:=by funext o;cases o<;>simp only [Dn.BD,hc0]
     have hok:∀ {c},FV s c->FV s' c:=λhh=>by subst K;exact hh
     have st:CQ s s':=⟨by subst K;rfl,by subst K;rfl,λc hh=>⟨hok hh,by rw [hc0]⟩⟩;have eob:s'.ob=s.ob:=by subst K;rfl
     have iv:Inv s':=by
      refine ⟨λp Y=>st.okV (hi.sl p (by subst K;exact Y)),λl hl p Y=>st.okV (hi.lo l (by subst K;exact hl) p Y),λg o hg c d=>hok (hi.ob g o (by rw [<-eob];exact hg) c d),λm Q=>?_⟩;subst K;injection Q with Q;subst Q;refine ⟨hlt,Nat.pos_of_ne_zero hc3,λg o hg=>?_⟩;have hg:look g s.ob=AC o:=hg;unfold Ey;rw [Bj];refine ⟨?_,?_⟩
      .cases R:Aa g0 g with
       | false=>rfl
       | true=>
        have:=Bs R;subst this;rw [NP H] at hg;cases hg
      .cases R:Ax mB g with
       | false=>rfl
       | true=>exact (hc4 (List.any_eq_true.2 ⟨(g,o),Xq hg,R⟩)).elim
     have eh:AA s'=upd (AA s) g0 (AC (.map 0 [] AF)):=by
      funext x;simp only [AA,eob,ho0,hmo,upd];by_cases hx:x=g0
      .subst hx;rw [NP H,AS rfl];subst K;show Mo.at _ x=_;unfold Mo.at;rw [AS rfl];rfl
      .rw [AR hx];cases look x s.ob with
       | some o=>rfl
       | none=>
        subst K;show Mo.at _ x=AD;unfold Mo.at;rw [AR hx];split
        .rfl
        .rfl
     refine done ⟨?_,st,iv,Xe (Ka s' rfl)⟩ h;simp only [Ja];rw [show (enc s).h=AA s from rfl,Xk H,nv0 (NP H),eh];rfl
   .refine done (jJ hi H (by simp only [Ja];rfl) ?_ ?_ (λc d=>by cases d) (Xe (bO rfl))) h
    .simp only [AL,AB];rw [show (enc s).h=AA s from rfl,Xk H]
    .simp only [Dn.BD];rw [show (enc s).h=AA s from rfl,Xk H]
 case look ok ag sh z x y=>
  split at h
  .rename_i g w kt vt es Q;obtain ⟨hx,G⟩:=tX Q;have hx:ev val s x=.c (.map g w):=hx;have G:look g s.ob=AC (.mp w kt vt es):=G;have ex:AL s (ev val s x)=.map g w:=by rw [hx];rfl
   split at h
   .rename_i d;obtain ⟨P,M⟩:=d;rw [J3r] at M;obtain ⟨k',Z,h⟩:=Ji h;obtain ⟨X,hz',h⟩:=Ji h;have ey:=cB (s:=s) (by unfold MK at P;simp only [Az,beq_iff_eq] at P;exact P.1.1.1) Z;have key:=Ph P M es k' X (J79 M hz') ok;have he:Ja call base (enc s) g0 (.look ok ag sh z x y)=AC ((if ok=AE then .Cb [Yb (vt.cs ((zu k' es).getD X)),.bool (zu k' es).isSome] else Yb (vt.cs ((zu k' es).getD X))),AA s):=by simp only [Ja,Ko];rw [ex,ey,show JC (enc s).h (.map g w)=AC (Cm kt vt es) from uL G,key];rfl
    split at h
    .rename_i e;subst e;refine sm h (by rw [he];rfl) (λc d=>?_);have d:c∈[C.lf vt ((zu k' es).getD X),C.lf .bool (zu k' es).isSome]:=d;simp only [Du,List.not_mem_nil,or_false] at d;rcases d with rfl|rfl<;>exact Ka s rfl
    .rename_i e;have e:ok=AF:=by simpa using e
     subst e;exact sm h (by rw [he];rfl) (Xe (Ka s rfl))
   .cases h
  .cases h
 case LJ ag sh x y z=>
  split at h
  .rename_i g w kt vt es Q;obtain ⟨hx,G⟩:=tX Q;have hx:ev val s x=.c (.map g w):=hx;have G:look g s.ob=AC (.mp w kt vt es):=G;have ex:AL s (ev val s x)=.map g w:=by rw [hx];rfl
   split at h
   .rename_i d;obtain ⟨P,M⟩:=d;rw [J3r] at M;obtain ⟨k',Z,h⟩:=Ji h;obtain ⟨X,hz',h⟩:=Ji h;have ey:=cB (s:=s) (by unfold MK at P;simp only [Az,beq_iff_eq] at P;exact P.1.1.1) Z;have ez:=cB (s:=s) (t:=vt) (by rw [tL,M];rfl) hz';refine done (Jpz hi G (es':=F7 k' X es) ?_ (.inl rfl)) h;simp only [Ja,Ko];rw [ex,ey,ez,show (enc s).h=AA s from rfl,J7n P G k' X];rfl
   .cases h
  .cases h
 case Mf ag sh x y=>
  split at h
  .rename_i g w kt vt es Q;obtain ⟨hx,G⟩:=tX Q;have hx:ev val s x=.c (.map g w):=hx;have G:look g s.ob=AC (.mp w kt vt es):=G;have ex:AL s (ev val s x)=.map g w:=by rw [hx];rfl
   split at h
   .rename_i P;obtain ⟨k',Z,h⟩:=Ji h;have ey:=cB (s:=s) (by unfold MK at P;simp only [Az,beq_iff_eq] at P;exact P.1.1.1) Z;refine done (Jpz hi G (es':=I7 k' es) ?_ (.inr rfl)) h;simp only [Ja,Ko];rw [ex,ey,show (enc s).h=AA s from rfl,J7k P G k'];rfl
   .cases h
  .cases h
 case lI esz x y=>
  obtain ⟨v,s',M,h2,h3,h4,h5⟩:=XF hi h;exact done ⟨by simp only [Ja,Ko];exact h3,M,h2,h4⟩ h5
 case F8 x=>
  split at h
  .rename_i g w kt vt es Q;obtain ⟨hx,G⟩:=tX Q;have hx:ev val s x=.c (.map g w):=hx;have G:look g s.ob=AC (.mp w kt vt es):=G;have ex:AL s (ev val s x)=.map g w:=by rw [hx];rfl
   refine sm h ?_ (Xe (Ka s rfl));simp only [Ja,Ko];rw [ex,show (enc s).h=AA s from rfl];simp only [Vv.F8,uL G];have el:(Cm kt vt es).length=List.length (α:=kt.T×vt.T) es:=Av _;simp only [el];rfl
  .cases h
 case Er esz x i=>
  obtain ⟨j,hj,h⟩:=Ji h;obtain ⟨J,rfl⟩:∃J:AI,(show Ty.T I from J)=j:=⟨j,rfl⟩;have ei:=RU (a:=J) hj;split at h
  .rename_i t v hx;obtain ⟨L,rfl⟩:∃L:AG t.T,(show Ty.T (.ls t) from L)=v:=⟨v,rfl⟩;split at h
   .rename_i hsz;subst hsz;obtain ⟨z,H,hz,h⟩:=J1o (l:=L) (i:=J) h;have hl:=(Ai.1 hz).1;refine sm h ?_ (Xe (Ka s rfl));simp only [Ja,ei,Ko,hx];show (match JW (AA s) t.sz (.CF L.length (L.flatMap t.cs)) (.int .i64 J) with|some v=>AC (v,AA s)|none=>AD)=AC (AV.CP ((t.cs z).drop 0),AA s);simp only [JW];rw [AS ⟨H,by omega⟩,jU hz];rfl
   .cases h
  .rename_i g ver hx;split at h
   .rename_i v e el t l tl nest z G;split at h
    .rename_i d;obtain ⟨rfl,rfl⟩:=d;obtain ⟨n,F,h⟩:=Ji h;obtain ⟨_,_,_,_,_,F⟩:=yZ (n:=n) F;obtain ⟨E,h⟩:=Kl h;have E:0<=J/\J<(Q4 s g v:AI):=by rw [F] at E;have:decide (0<=J/\J<(Q4 s g v:AI))=AE:=E;simpa using this
     refine sm h ?_ (bA (YW hi hx) rfl);simp only [Ja,ei,Ko,hx,AL,AB,JW];rw [show (enc s).h=AA s from rfl,AS ⟨E.1,E.2,by simp [Ei,Jj G,BD]⟩];simp only [Bq,Au]
    .cases h
   .cases h
  .rename_i g ver off len hx;obtain ⟨A,rfl⟩:∃A:AI,(show Ty.T I from A)=off:=⟨off,rfl⟩;obtain ⟨B,rfl⟩:∃B:AI,(show Ty.T I from B)=len:=⟨len,rfl⟩;split at h
   .rename_i v e el t l tl nest z G;split at h
    .rename_i d;obtain ⟨rfl,rfl⟩:=d;obtain ⟨g0',h⟩:=Kl h;have g0':(0:AI)<=A:=Lj g0';obtain ⟨E,h⟩:=Kl h;have E:0<=J/\J<B:=by have:decide (0<=J/\J<B)=AE:=E;simpa using this
     refine sm h ?_ (bA (YW hi hx) rfl);simp only [Ja,ei,Ko,hx];show (match JW (AA s) e (.arr g v A.toNat B.toNat) (.int .i64 J) with|some v=>AC (v,AA s)|none=>AD)=AC (.ptr g v ((A+J).toNat * e+0),AA s);simp only [JW];rw [AS ⟨E.1,by omega,by simp [Ei,Jj G,BD]⟩];simp only [Au];rw [show (A+J).toNat=A.toNat+J.toNat by omega]
    .cases h
   .cases h
  .cases h
 case EP len esz x i=>
  split at h
  .rename_i g v o hx;split at h
   .rename_i d;have fin:∀m:AM,m<len->(enc s).ev i=.int .i64 (m:AI)\/(∃kk,(enc s).ev i=.int kk (m:AI))->k (.EP len esz x i) (.c (.ptr g v (o+m * esz))) s=AC r->∃op' v s',Alt (.EP len esz x i) op'/\JQ call base g0 s op' v s'/\k op' v s'=AC r:=by intro m Q he h;obtain ⟨kk,he⟩:∃kk,(enc s).ev i=.int kk (m:AI):=he.elim (λq=>⟨_,q⟩) id;refine sm h ?_ (bA (YW hi hx) rfl);simp only [Ja,he,Ko,hx,AL,AB,ZM];rw [show (enc s).h=AA s from rfl,AS ⟨by omega,by omega,sS d⟩];simp only [Ab]
    split at h
    .rename_i kk n;split at h
     .rename_i F;exact fin n.toNat (by omega) (.inr ⟨kk,by show AV.int kk n=_;rw [Bm F.1]⟩) h
     .cases h
    .obtain ⟨j,hj,h⟩:=Ji h;obtain ⟨m,m1,m2,m3,m4⟩:=Jmo h;exact fin m (by omega) (.inl (by rw [RU hj];exact AT _ m3)) m4
   .cases h
  .cases h
 case idx len esz ag x i=>
  split at h
  .rename_i l hx;have fin:∀m:AM,m<len->m * esz+esz<=l.length->(∃kk,(enc s).ev i=.int kk (m:AI))->BP val (pk ag (Ev l (m * esz) esz)) (λv=>k (.idx len esz ag x i) v s)=AC r->∃op' v s',Alt (.idx len esz ag x i) op'/\JQ call base g0 s op' v s'/\k op' v s'=AC r:=by
    rintro m Q hl ⟨kk,he⟩ h;obtain ⟨v,O,h⟩:=Ji h;obtain ⟨p1,p2⟩:=nJ hl O s;refine sm h ?_ (λc d=>?_)
    .simp only [Ja,he,Ko,hx,AL,Wh];rw [AS ⟨by omega,by omega⟩,Ab,p1];rfl
    .have:=Lh hi x;rw [hx] at this;exact this c (p2 c d)
   split at h
   .rename_i kk n;split at h
    .rename_i F;exact fin n.toNat (by omega) F.2.2 ⟨kk,by show AV.int kk n=_;rw [Bm F.1]⟩ h
    .cases h
   .obtain ⟨j,hj,h⟩:=Ji h;obtain ⟨m,m1,m2,m3,m4⟩:=Jmo h;split at m4
    .rename_i hl;exact fin m (by omega) hl ⟨_,by rw [RU hj];exact AT _ m3⟩ m4
    .cases m4
  .cases h
 case ext x i=>
  split at h
  .rename_i l hx;obtain ⟨p,Y,h⟩:=Ji h;have hmem:=Dt Y;have hall:∀c∈p.2,FV s c:=λc d=>by have:=Lh hi x;rw [hx] at this;exact this c (List.mem_flatMap.2 ⟨p,hmem,d⟩)
   have he:Ja call base (enc s) g0 (.ext x i)=AC (if p.1 then .agg (p.2.map (AB s)) else Yb (p.2.map (AB s)),AA s):=by simp only [Ja,Ko,hx,AL,List.getElem?_map,Y,Ad];rfl
   split at h
   .exact sm h he hall
   .exact sm h he (Xe (hall _ (by simp)))
   .cases h
  .cases h
 case len x=>
  split at h
  .rename_i t v hx;exact sm h (by simp only [Ja,Ko,hx];rfl) KR
  .rename_i g ver hx;obtain ⟨n,F,h⟩:=Ji h;obtain ⟨_,_,_,_,hH,hn'⟩:=yZ (n:=n) F;have O:Zq (AA s) g ver=AE:=by
    unfold M0 at F;split at F
    .rename_i G;split at F
     .rename_i O;simp [Zq,Jj G,BD,O]
     .cases F
    .rename_i G;split at F
     .rename_i O;simp [Zq,Jj G,BD,O]
     .cases F
    .cases F
   refine same ?_ KR h;simp only [Ja,Ko,hx,AL,AB,Cw];rw [show (enc s).h=AA s from rfl,AS O];simp only [hn',Ty.cs,Yb]
  .rename_i g ver off n hx;obtain ⟨n',F,h⟩:=Ji h;have O:Zq (AA s) g ver=AE:=by
    unfold M0 at F;split at F
    .rename_i G;split at F
     .rename_i O;simp [Zq,Jj G,BD,O]
     .cases F
    .rename_i G;split at F
     .rename_i O;simp [Zq,Jj G,BD,O]
     .cases F
    .cases F
   obtain ⟨E,h⟩:=Kl h;obtain ⟨B,rfl⟩:∃B:AI,(show Ty.T I from B)=n:=⟨n,rfl⟩;have E:(0:AI)<=B:=Lj E;refine same ?_ KR h;simp only [Ja,Ko,hx,AL,AB,Cw];rw [show (enc s).h=AA s from rfl,AS O];simp only [Ty.cs,Yb];rw [show ((show AI from (show Ty.T I from B)).toNat:AI)=B from Bm E]
  .rename_i hx;exact sm h (by simp only [Ja,Ko,hx];rfl) KR
  .cases h
 case Ik x=>
  split at h
  .rename_i v hx;exact sm h (by simp only [Ja,Ko,hx];rfl) KR
  .cases h
 case app esz bytes el zz x y=>
  obtain ⟨v,s',⟨a1,a2,a3,a4⟩,h⟩:=XW hi h;exact done ⟨by simp only [Ja,Ko];exact a1,a2,a3,a4⟩ h
 case Co f args=>
  obtain ⟨c,d,h⟩:=Ji h;exact hC hi d h
 case dY o x y=>
  obtain ⟨kk,-,h⟩:=Ji h;obtain ⟨a,ha,h⟩:=Ji h;obtain ⟨k',-,h⟩:=Ji h;obtain ⟨b,R,h⟩:=Ji h;obtain ⟨A,rfl⟩:∃A:AI,(show Ty.T (.int kk) from A)=a:=⟨a,rfl⟩;obtain ⟨B,rfl⟩:∃B:AI,(show Ty.T (.int k') from B)=b:=⟨b,rfl⟩;have e1:=RU (a:=A) ha;have e2:=RU (a:=B) R;have nn:val.cm .geq k' B (val.int k' 0)=AE->(0:AI)<=B:=λq=>by have q:decide (B>=0)=AE:=q;simpa using q
  split at h
  .obtain ⟨E,h⟩:=Kl h;exact sm h (by simp only [Ja,e1,e2];rw [J7a (a:=A) (nn E) (.inl rfl)];rfl) KR
  .obtain ⟨E,h⟩:=Kl h;exact sm h (by simp only [Ja,e1,e2];rw [J7a (a:=A) (nn E) (.inr rfl)];rfl) KR
  .cases h
 case mm mx x y=>
  obtain ⟨kk,-,h⟩:=Ji h;obtain ⟨a,ha,h⟩:=Ji h;obtain ⟨k',-,h⟩:=Ji h;obtain ⟨b,R,h⟩:=Ji h;exact sm h (by simp only [Ja,RU ha,RU R];cases mx<;>rfl) KR
 case Ep ne x=>
  split at h
  .rename_i hx;exact sm h (by simp only [Ja,Ko,hx];cases ne<;>rfl) (Xe (Ka s rfl))
  .rename_i t v hx;obtain ⟨L,rfl⟩:∃L:AG t.T,(show Ty.T (.ls t) from L)=v:=⟨v,rfl⟩;obtain ⟨E,h⟩:=Kl h;have E:(0:AI)<(L.length:AI):=by have:decide ((L.length:AI) > 0)=AE:=E;simpa using this
   refine sm h ?_ (Xe (Ka s rfl));simp only [Ja,Ko,hx];cases L with
   | nil=>simp at E
   | cons q L=>cases ne<;>rfl
  .rename_i g ver hx;obtain ⟨n,F,h⟩:=Ji h;obtain ⟨_,_,_,_,hH,hn'⟩:=yZ (n:=n) F;obtain ⟨E,h⟩:=Kl h;have E:(0:AI)<(Q4 s g ver:AI):=by rw [hn'] at E;have:decide ((Q4 s g ver:AI) > 0)=AE:=E;simpa using this
   refine sm h ?_ (Xe (Ka s rfl));simp only [Ja,Ko,hx,AL,AB,ZF];rw [show (enc s).h=AA s from rfl,AS ⟨J41 F,by omega⟩];cases ne<;>rfl
  .cases h
end
end Go.Dn
