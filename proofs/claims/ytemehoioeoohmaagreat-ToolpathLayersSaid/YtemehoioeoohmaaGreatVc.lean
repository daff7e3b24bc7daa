/- The operations of the model turned into those of the evaluator. Definitions, and what they say of constants. -/
import Derived.Test.YtemehoioeoohmaaGreatVb
namespace Go.Vv
def cOf1 : Value → Option AV
 | .bool b => some (.bool b)
 | .int k n => some (.int k n)
 | .string s => some (.str s)
 | .slice none 0 0 => some .nils
 | .pointer none => some .nilp
 | .nilFunc => some .nilf
 | .map none => some .nilm
 | _ => none
def cOfL : List Value → Option (List AV)
 | [] => some []
 | v :: r =>
  match cOf1 v, cOfL r with
  | some x, some l => some (x :: l)
  | _, _ => none
def cOf : Value → Option AV
 | .agg cs => (cOfL cs.toList).map .agg
 | .tuple cs => if cs.size = 0 then some (.tup []) else none
 | v => cOf1 v
def cLO : Operand → Option LO
 | .tmp t => some (.t t)
 | .const v => (cOf v).map .c
 | .func f => some (.c (.fn f []))
 | .global _ => none
def cLOs : List Operand → Option (List LO)
 | [] => some []
 | x :: r =>
  match cLO x, cLOs r with
  | some a, some l => some (a :: l)
  | _, _ => none
def zc (P : Program) (t : TypeId) : Option (List AV) :=
 match P.info? t with
 | some i => (match i.zero with | some z => (match cOfL z.cells.toList with | some l => if l.length = i.size then some l else none | none => none) | none => none)
 | none => none
def zvC (P : Program) (t : TypeId) : Option AV :=
 match P.info? t with
 | some i => (match i.zero with | some z => cOf z | none => none)
 | none => none
def szT (P : Program) (t : TypeId) : Option Nat := (P.info? t).map (·.size)
def aggT (P : Program) (t : TypeId) : Option Bool :=
 match P.underlying t with
 | some (.struct _) | some (.array _ _) => some true
 | some _ => some false
 | none => none
def Jv6 (P : Program) (g : TypeId → Option (List Bool)) : List Field → Nat → Option (List Bool)
 | [], _ => some []
 | f :: r, k =>
  match g f.type, aggT P f.type, szT P f.type with
  | some a, some ag, some m => if f.offset = k ∧ f.name ≠ "_" ∧ m = a.length ∧ (ag ∨ m = 1) then (match Jv6 P g r (k + m) with | some b => some (a ++ b) | none => none) else none
  | _, _, _ => none
def eqSh (P : Program) : Nat → TypeId → Option (List Bool)
 | 0, _ => none
 | n + 1, t =>
  match P.underlying t with
  | some .bool => some [true]
  | some (.int _) => some [false]
  | some (.struct fs) => if P.stoodInHeld t then none else Jv6 P (eqSh P n) fs.toList 0
  | _ => none
def eqT (P : Program) (t : TypeId) : Option (Bool × List Bool) :=
 match eqSh P 6 t, aggT P t with
 | some sh, some ag => if P.eqGuardType P.depth t then none else some (ag, sh)
 | _, _ => none
def Jld (place : Nat → Option (Nat × Nat)) : List (Nat × Operand) → Option (List (Nat × Nat × LO))
 | [] => some []
 | (i, x) :: r =>
  match place i, cLO x, Jld place r with
  | some (off, n), some x, some l => some ((off, n, x) :: l)
  | _, _, _ => none
inductive CM where
 | p
 | z
 | r
 | q
def Jrx (cm : List (Nat × CM)) (d : Option Nat) : CM :=
 match cm.find? (fun x => x.1 == d.getD 0) with
 | some (_, m) => m
 | none => .p
def J50 (P : Program) (cm : List (Nat × CM)) (dst : Option Nat) : Op → Option LOp
 | .move x | .assign x => (match Jrx cm dst with | .z => (cLO x).map .frz | _ => (cLO x).map .mov)
 | .pick c a b => match cLO c, cLO a, cLO b with | some c, some a, some b => some (.pick c a b) | _, _, _ => none
 | .alloc e => (match Jrx cm dst with
  | .z => (match P.underlying e with
   | some (.array _ el) => (match szT P el, zc P e with | some n, some z => some (.allocA n e z) | _, _ => none)
   | _ => none)
  | _ => (zc P e).map .alloc)
 | .box _ x => (cLO x).map .box
 | .build t ps => match zc P t, P.underlying t with
  | some z, some (.struct fs) => (match fs.toList.mapM (fun f => (P.info? f.type).map fun i => (f.offset, i.size)) with
   | some pl => (Jld (fun i => pl[i]?) ps.toList).map (.build z)
   | none => none)
  | some z, some (.array _ e) => (match P.info? e with | some i => (Jld (fun k => some (k * i.size, i.size)) ps.toList).map (.build z) | none => none)
  | _, _ => none
 | .buildSlice t n ps => match P.underlying t with
  | some (.slice e) => (match P.info? e, zc P e with
   | some i, some z => if n * i.size ≤ 16777216 ∧ 0 < i.size then (match Jrx cm dst with | .z => (Jld (fun k => some (k * i.size, i.size)) ps.toList).map (.bslz n i.size e z) | _ => (Jld (fun k => some (k * i.size, i.size)) ps.toList).map (.bslice n i.size e z)) else none
   | _, _ => none)
  | _ => none
 | .load t x => match aggT P t, szT P t, cLO x with
  | some ag, some n, some x => if ag ∨ n = 1 then some (.load ag n x) else none
  | _, _, _ => none
 | .store t x y => match szT P t, cLO x, cLO y with
  | some n, some x, some y => some (.store n x y)
  | _, _, _ => none
 | .binOp op t x y yt => match P.underlying t, cLO x, cLO y with
  | some (.int _), some x, some y => (match op with | .shl | .shr => (match P.underlying yt with | some (.int _) => some (.shf op x y) | _ => none) | _ => some (.ibin op x y))
  | some (.slice _), some x, some (.c .nils) => (match op with | .eql => some (.isnil false x) | .neq => some (.isnil true x) | _ => none)
  | some _, some x, some y => (match op with
   | .eql => (match eqT P t with | some (ag, sh) => some (.eqv false ag sh x y) | none => none)
   | .neq => (match eqT P t with | some (ag, sh) => some (.eqv true ag sh x y) | none => none)
   | _ => none)
  | _, _, _ => none
 | .unOp op _ x => (cLO x).map (.un op)
 | .convert s d x => match P.underlying s, P.underlying d, cLO x with
  | some (.int _), some (.int k), some x => some (.conv k x)
  | _, _, _ => none
 | .nilCheck x => (cLO x).map .nilck
 | .makeFunc (.func f) first caps => if first.size = 0 then (cLOs caps.toList).map (.mkfn f) else none
 | .makeSlice t l c => match P.underlying t with
  | some (.slice e) => (match P.info? e, zc P e, cLO l, cLO c with
   | some i, some z, some l, some c => if 0 < i.size then some (.mkS i.size i.bytes e z l c) else none
   | _, _, _, _ => none)
  | _ => none
 | .makeMap t none => match P.underlying t with
  | some (.map _ _) => some .mkM
  | _ => none
 | .lookup t x k ok => match P.underlying t with
  | some (.map kt et) => (match eqSh P 6 kt, aggT P kt, zvC P et with
   | some sh, some ag, some z => (match cLO x, cLO k with
    | some x, some k => some (.look ok ag sh z x k)
    | _, _ => none)
   | _, _, _ => none)
  | _ => none
 | .mapUpdate t x k v | .insert t x k v => match P.underlying t with
  | some (.map kt _) => (match eqSh P 6 kt, aggT P kt with
   | some sh, some ag => (match cLO x, cLO k, cLO v with
    | some x, some k, some v => some (.setM ag sh x k v)
    | _, _, _ => none)
   | _, _ => none)
  | _ => none
 | .slice t x lo hi none => match P.underlying t with
  | some (.slice e) => (match szT P e, cLO x with
   | some n, some x =>
    (match lo, hi with
     | none, none => some (.slc n x none none)
     | some a, none => (match cLO a with | some a => some (.slc n x (some a) none) | none => none)
     | none, some b => (match cLO b with | some b => some (.slc n x none (some b)) | none => none)
     | some a, some b => (match cLO a, cLO b with | some a, some b => some (.slc n x (some a) (some b)) | _, _ => none))
   | _, _ => none)
  | some (.array n el) => (match lo, hi with
   | none, none => (match szT P el, cLO x with | some s, some x => some (.slcA n s x) | _, _ => none)
   | _, _ => none)
  | _ => none
 | .fieldAddr s x f => match P.underlying s with
  | some (.struct fs) => (match fs[f]?, cLO x with
   | some fd, some x => (match szT P fd.type with | some n => if n ≠ 0 then some (.faddr fd.offset x) else none | none => none)
   | _, _ => none)
  | _ => none
 | .field s x f => match P.underlying s with
  | some (.struct fs) => (match fs[f]?, cLO x with
   | some fd, some x => (match aggT P fd.type, szT P fd.type with | some ag, some n => if ag ∨ n = 1 then some (.fld ag fd.offset n x) else none | _, _ => none)
   | _, _ => none)
  | _ => none
 | .indexAddr t x i => match P.underlying t, cLO x, cLO i with
  | some (.slice e), some x, some i => (match szT P e with | some n => some (.iaddr n x i) | none => none)
  | some (.array len e), some x, some i => (match szT P e with | some n => some (.iaddrA len n x i) | none => none)
  | _, _, _ => none
 | .index t x i => match P.underlying t, cLO x, cLO i with
  | some (.array len e), some x, some i => (match aggT P e, szT P e with | some ag, some n => if ag ∨ n = 1 then some (.idx len n ag x i) else none | _, _ => none)
  | _, _, _ => none
 | .extract x i => (cLO x).map (.ext · i)
 | .call c => match c.callee with
  | .builtin .len => (match c.args.toList, c.argTypes.toList with
   | [x], [t] => (match P.underlying t, cLO x with
    | some (.slice _), some x => some (.len x)
    | some (.map _ _), some x => some (.lenM x)
    | some .string, some x => some (.lenS x)
    | _, _ => none)
   | _, _ => none)
  | .builtin .append => (match c.args.toList, c.argTypes.toList with
   | [x, y], [t, t'] => if t = t' then (match P.underlying t, cLO x, cLO y with
    | some (.slice e), some x, some y => (match P.info? e, zc P e with
     | some i, some z => if 0 < i.size then (match Jrx cm dst with | .z => some (.appz i.size i.bytes e z x y) | _ => some (.app i.size i.bytes e z x y)) else none
     | _, _ => none)
    | _, _, _ => none) else none
   | _, _ => none)
  | .builtin .delete => (match c.args.toList, c.argTypes.toList with
   | [x, k], t :: _ => (match P.underlying t with
    | some (.map kt _) => (match eqSh P 6 kt, aggT P kt with
     | some sh, some ag => (match cLO x, cLO k with
      | some x, some k => some (.delM ag sh x k)
      | _, _ => none)
     | _, _ => none)
    | _ => none)
   | _, _ => none)
  | .builtin .max => (match c.args.toList with
   | [x, y] => (match cLO x, cLO y with | some x, some y => some (.mm true x y) | _, _ => none)
   | _ => none)
  | .builtin .min => (match c.args.toList with
   | [x, y] => (match cLO x, cLO y with | some x, some y => some (.mm false x y) | _, _ => none)
   | _ => none)
  | .value (.func f) => (match cLOs c.args.toList with
   | some as => some (match Jrx cm dst with | .p => .callp f as | .z => .callz f as | .r => .callr f as | .q => .callq f as)
   | none => none)
  | .value (.tmp x) => (match Jrx cm dst with | .r => (cLOs c.args.toList).map (.callw (.t x)) | .q => (cLOs c.args.toList).map (.callu (.t x)) | _ => (cLOs c.args.toList).map (.callv (.t x)))
  | _ => none
 | _ => none
def comp (P : Program) (cm : List (Nat × CM)) (nt : Nat) (ops : Array Oper) (o : Oper) : Option LOper :=
 match J50 P cm o.dst o.op with
 | none => none
 | some op =>
  if okDst nt o.dst then
   match o.guard with
   | none => some ⟨o.dst, op, none⟩
   | some (j, want) => (match (ops[j]?).bind (·.dst) with | some d => if d < nt then some ⟨o.dst, op, some (d, want)⟩ else none | none => none)
  else none
def Jqe (P : Program) (cm : List (Nat × CM)) (nt : Nat) (ops : Array Oper) : List Oper → Option (List LOper)
 | [] => some []
 | o :: r =>
  match comp P cm nt ops o, Jqe P cm nt ops r with
  | some x, some l => some (x :: l)
  | _, _ => none
section
variable {w : World} {S : Nat → Prop} {h : Heap} {μ : Gh}
theorem Jxg {v : Value} {x : AV} (hx : cOf1 v = some x) : RepP w S x v ∧ v.oneCell' = true := by
 unfold cOf1 at hx
 split at hx <;> first | (injection hx with hx; subst hx; refine ⟨?_, rfl⟩; constructor) | cases hx
theorem Jo7 : ∀ {l : List Value} {m : List AV}, cOfL l = some m → m.length = l.length ∧ ∀ (i : Nat) (x : AV), m[i]? = some x → ∃ v : Value, l[i]? = some v ∧ RepP w S x v ∧ v.oneCell' = true
 | [], m, hm => by simp [cOfL] at hm; subst hm; exact ⟨rfl, fun i x hi => by simp at hi⟩
 | v :: r, m, hm => by
  unfold cOfL at hm
  split at hm
  ·rename_i x l hx hl
   injection hm with hm
   subst hm
   obtain ⟨h1, h2⟩ := Jo7 hl
   refine ⟨by simp [h1], fun i y hi => ?_⟩
   cases i with
   | zero => simp at hi; subst hi; exact ⟨v, rfl, Jxg hx⟩
   | succ i => simpa using h2 i y (by simpa using hi)
  ·cases hm
theorem Jhq {l : List Value} {m : List AV} (hm : cOfL l = some m) : Holds w S h μ m l.toArray := by
 intro i x hi
 obtain ⟨v, hv, hr, h1⟩ := (Jo7 hm).2 i x hi
 have e : l.toArray.getD i undef = v := by simp [hv]
 rw [e]
 exact ⟨.pure hr, h1⟩
theorem J85 {v : Value} {x : AV} (hx : cOf v = some x) : Rep w S h μ x v := by
 unfold cOf at hx
 split at hx
 ·rename_i cs
  cases hl : cOfL cs.toList with
  | none => rw [hl] at hx; cases hx
  | some l =>
   rw [hl] at hx
   simp at hx
   subst hx
   have := Jhq (w := w) (S := S) (h := h) (μ := μ) hl
   refine .agg l cs (by simpa using (Jo7 (w := w) (S := S) hl).1) (fun i x hi => ?_) (fun i x hi => ?_)
   ·simpa using (this i x hi).2
   ·simpa using (this i x hi).1
 ·rename_i cs
  split at hx
  ·rename_i hs
   injection hx with hx
   subst hx
   exact .tup [] cs (by simp [hs]) (fun i x hi => by simp at hi)
  ·cases hx
 ·exact .pure (Jxg hx).1
end
theorem K7 {nt : Nat} {w : World} {S : Nat → Prop} {σ : St} {μ : Gh} {a : Act} (hs : RepS nt w S σ μ a) {x : Operand} {y : LO} (hx : cLO x = some y) : Rep w S σ.h μ (σ.ev y) (a.eval x) := by
 unfold cLO at hx
 split at hx
 ·injection hx with hx; subst hx; exact hs.fr _
 ·rename_i v
  cases hv : cOf v with
  | none => rw [hv] at hx; cases hx
  | some u => rw [hv] at hx; simp at hx; subst hx; exact J85 hv
 ·injection hx with hx; subst hx; exact .fn _ [] #[] rfl (fun i x hi => by simp at hi)
 ·cases hx
theorem Jws {nt : Nat} {w : World} {S : Nat → Prop} {σ : St} {μ : Gh} {a : Act} (hs : RepS nt w S σ μ a) : ∀ {l : List Operand} {m : List LO}, cLOs l = some m →
  m.length = l.length ∧ ∀ (i : Nat) (y : LO), m[i]? = some y → ∃ x, l[i]? = some x ∧ Rep w S σ.h μ (σ.ev y) (a.eval x)
 | [], m, hm => by simp [cLOs] at hm; subst hm; exact ⟨rfl, fun i x hi => by simp at hi⟩
 | x :: r, m, hm => by
  unfold cLOs at hm
  split at hm
  ·rename_i y l hx hl
   injection hm with hm
   subst hm
   obtain ⟨h1, h2⟩ := Jws hs hl
   refine ⟨by simp [h1], fun i z hi => ?_⟩
   cases i with
   | zero => simp at hi; subst hi; exact ⟨x, rfl, K7 hs hx⟩
   | succ i => simpa using h2 i z (by simpa using hi)
  ·cases hm
end Go.Vv
