/- What an abstract value says of a value in a world, and how it is kept. Conditions: none. -/
import Derived.Test.YtemehoioeoohmaaGreatVa
import Derived.Laws.Rows
import Derived.Laws.Append
import Derived.Laws.CopyRow
import Derived.Laws.Tables
import Derived.Laws.MakeOwn
import Derived.Deep.Draws
namespace Go.Vv
inductive RepP (w : World) (S : Nat → Prop) : AV → Value → Prop where
 | bool (b : Bool) : RepP w S (.bool b) (.bool b)
 | int (k : IntKind) (n : Int) : RepP w S (.int k n) (.int k n)
 | str (s : ByteArray) : RepP w S (.str s) (.string s)
 | nils : RepP w S .nils (.slice none 0 0)
 | nilp : RepP w S .nilp (.pointer none)
 | nilf : RepP w S .nilf .nilFunc
 | nilm : RepP w S .nilm (.map none)
 | mpr (ks vs : List AV) (b : Nat) (es : Array MapEntry) (clock : Nat) (hs : S b) (hb : w.heap[b]? = some (.map es clock)) (hk : es.size = ks.length) (hv : es.size = vs.length)
   (hrk : ∀ (i : Nat) (x : AV) (e : MapEntry), ks[i]? = some x → es[i]? = some e → RepP w S x e.key) (hrv : ∀ (i : Nat) (x : AV) (e : MapEntry), vs[i]? = some x → es[i]? = some e → RepP w S x e.val) : RepP w S (.mpr ks vs) (.map (some b))
 | lst0 : RepP w S (.lst 0 []) (.slice none 0 0)
 | lst (n : Nat) (l : List AV) (a : Addr) (cap : Nat) (cv : Nat → Value) (hs : l ≠ [] → S a.block) (hn : n ≤ cap)
   (hc : ∀ i x, l[i]? = some x → w.cell? (a.add i) = some (cv i)) (h1 : ∀ i x, l[i]? = some x → (cv i).oneCell' = true)
   (hr : ∀ i x, l[i]? = some x → RepP w S x (cv i)) : RepP w S (.lst n l) (.slice (some a) n cap)
 | rptr (l : List AV) (a : Addr) (cv : Nat → Value) (hs : l ≠ [] → S a.block)
   (hc : ∀ i x, l[i]? = some x → w.cell? (a.add i) = some (cv i)) (h1 : ∀ i x, l[i]? = some x → (cv i).oneCell' = true)
   (hr : ∀ i x, l[i]? = some x → RepP w S x (cv i)) : RepP w S (.rptr l) (.pointer (some a))
 | fn (f : FuncId) (l : List AV) (cs : Array Value) (hl : l.length = cs.size) (hr : ∀ i x, l[i]? = some x → RepP w S x (cs.getD i undef)) : RepP w S (.fn f l) (.func (.func f) #[] cs)
 | agg (l : List AV) (cs : Array Value) (hl : l.length = cs.size) (h1 : ∀ i x, l[i]? = some x → (cs.getD i undef).oneCell' = true)
   (hr : ∀ i x, l[i]? = some x → RepP w S x (cs.getD i undef)) : RepP w S (.agg l) (.agg cs)
 | tup (l : List AV) (cs : Array Value) (hl : l.length = cs.size) (hr : ∀ i x, l[i]? = some x → RepP w S x (cs.getD i undef)) : RepP w S (.tup l) (.tuple cs)
theorem Jto {w w' : World} {a : Addr} {n : Nat} (h : w'.heap[a.block]? = w.heap[a.block]?) : w'.cell? (a.add n) = w.cell? (a.add n) := by
 have e : (a.add n).block = a.block := by unfold Addr.add; split <;> rfl
 exact World.cell?_of_block (a := a.add n) (by rw [e]; exact h)
theorem RepP.mono {w w' : World} {S S' : Nat → Prop} {x : AV} {v : Value} (h : RepP w S x v) (hS : ∀ b, S b → S' b) (hh : ∀ b, S b → w'.heap[b]? = w.heap[b]?) : RepP w' S' x v := by
 induction h with
 | bool b => exact .bool b
 | int k n => exact .int k n
 | str s => exact .str s
 | nils => exact .nils
 | nilp => exact .nilp
 | nilf => exact .nilf
 | nilm => exact .nilm
 | mpr ks vs b es clock hs hb hk hv hrk hrv ihk ihv => exact .mpr ks vs b es clock (hS _ hs) ((hh b hs).trans hb) hk hv ihk ihv
 | lst0 => exact .lst0
 | lst n l a cap cv hs hn hc h1 hr ih => exact .lst n l a cap cv (fun h0 => hS _ (hs h0)) hn (fun i x hi => (Jto (hh _ (hs (by rintro rfl; simp at hi)))).trans (hc i x hi)) h1 ih
 | rptr l a cv hs hc h1 hr ih => exact .rptr l a cv (fun h0 => hS _ (hs h0)) (fun i x hi => (Jto (hh _ (hs (by rintro rfl; simp at hi)))).trans (hc i x hi)) h1 ih
 | fn f l cs hl hr ih => exact .fn f l cs hl ih
 | agg l cs hl h1 hr ih => exact .agg l cs hl h1 ih
 | tup l cs hl hr ih => exact .tup l cs hl ih
structure Gh where
 b : Nat → Nat
 o : Nat → Nat
def Gh.set (μ : Gh) (g b o : Nat) : Gh := ⟨upd μ.b g b, upd μ.o g o⟩
def ArrOK (w : World) (b o esz off len : Nat) (v : Value) : Prop :=
 ∃ (a : Addr) (cap : Nat) (cs : Array Value) (el : TypeId) (z : Nat × Nat), v = .slice (some a) len cap ∧ len ≤ cap ∧ w.heap[b]? = some (.cells cs el z) ∧ o + (off + cap) * esz ≤ cs.size ∧ (0 < cap → a = ⟨b, o + off * esz, none⟩)
inductive Rep (w : World) (S : Nat → Prop) (h : Heap) (μ : Gh) : AV → Value → Prop where
 | any (v : Value) : Rep w S h μ .any v
 | pure {x : AV} {v : Value} (hp : RepP w S x v) : Rep w S h μ x v
 | fn (f : FuncId) (l : List AV) (cs : Array Value) (hl : l.length = cs.size) (hr : ∀ i x, l[i]? = some x → Rep w S h μ x (cs.getD i undef)) : Rep w S h μ (.fn f l) (.func (.func f) #[] cs)
 | agg (l : List AV) (cs : Array Value) (hl : l.length = cs.size) (h1 : ∀ i x, l[i]? = some x → (cs.getD i undef).oneCell' = true)
   (hr : ∀ i x, l[i]? = some x → Rep w S h μ x (cs.getD i undef)) : Rep w S h μ (.agg l) (.agg cs)
 | tup (l : List AV) (cs : Array Value) (hl : l.length = cs.size) (hr : ∀ i x, l[i]? = some x → Rep w S h μ x (cs.getD i undef)) : Rep w S h μ (.tup l) (.tuple cs)
 | arr (g ver off len : Nat) (v : Value) (o : AObj) (ho : h g = some o) (hv : ver ≤ o.ver) (h1 : v.oneCell' = true)
   (hr : ver = o.ver → ∃ esz el cells fz, o = .arr ver esz el cells fz ∧ ArrOK w (μ.b g) (μ.o g) esz off len v) : Rep w S h μ (.arr g ver off len) v
 | ptr (g ver off : Nat) (v : Value) (o : AObj) (ho : h g = some o) (hv : ver ≤ o.ver) (h1 : v.oneCell' = true)
   (hr : ver = o.ver → v = .pointer (some ⟨μ.b g, μ.o g + off, none⟩)) : Rep w S h μ (.ptr g ver off) v
 | map (g ver : Nat) (v : Value) (o : AObj) (ho : h g = some o) (hv : ver ≤ o.ver) (h1 : v.oneCell' = true)
   (hr : ver = o.ver → v = .map (some (μ.b g))) : Rep w S h μ (.map g ver) v
def Holds (w : World) (S : Nat → Prop) (h : Heap) (μ : Gh) (cells : List AV) (cs : Array Value) : Prop :=
 ∀ i x, cells[i]? = some x → Rep w S h μ x (cs.getD i undef) ∧ (cs.getD i undef).oneCell' = true
def HoldsAt (w : World) (S : Nat → Prop) (h : Heap) (μ : Gh) (o : Nat) (cells : List AV) (cs : Array Value) : Prop :=
 ∀ i x, cells[i]? = some x → Rep w S h μ x (cs.getD (o + i) undef) ∧ (cs.getD (o + i) undef).oneCell' = true
def RepObj (w : World) (S : Nat → Prop) (h : Heap) (μ : Gh) (b o : Nat) : AObj → Prop
 | .box _ cells => ∃ cs el, w.heap[b]? = some (.cells cs el (0, 0)) ∧ o + cells.length ≤ cs.size ∧ HoldsAt w S h μ o cells cs
 | .arr _ _ el cells fz => ∃ cs, w.heap[b]? = some (.cells cs el (0, 0)) ∧ o + cells.length ≤ cs.size ∧ HoldsAt w S h μ o cells cs ∧ (fz = true → S b)
 | .map _ es fz => ∃ (es' : Array MapEntry) (clock : Nat), w.heap[b]? = some (.map es' clock) ∧ es'.size = es.length ∧ (fz = true → S b) ∧ ∀ (i : Nat) (k v : AV), es[i]? = some (k, v) → ∃ e : MapEntry, es'[i]? = some e ∧ RepP w S k e.key ∧ Rep w S h μ v e.val
def Own (h : Heap) (μ : Gh) (b : Nat) : Prop := ∃ g o, h g = some o ∧ o.fz = false ∧ μ.b g = b
structure RepH (w : World) (S : Nat → Prop) (h : Heap) (μ : Gh) : Prop where
 ob : ∀ g o, h g = some o → RepObj w S h μ (μ.b g) (μ.o g) o
 inj : ∀ g g' o o', h g = some o → h g' = some o' → μ.b g = μ.b g' → g = g'
 own : ∀ g o, h g = some o → o.fz = false → ¬ S (μ.b g)
 lt : ∀ b, S b → b < w.heap.size
structure RepS (nt : Nat) (w : World) (S : Nat → Prop) (σ : St) (μ : Gh) (a : Act) : Prop where
 fr : ∀ d, Rep w S σ.h μ (σ.f d) (a.tmps.getD d undef)
 hp : RepH w S σ.h μ
 df : a.defers = []
 sz : nt ≤ a.tmps.size
structure Evo (w : World) (S : Nat → Prop) (h : Heap) (μ : Gh) (w' : World) (S' : Nat → Prop) (h' : Heap) (μ' : Gh) : Prop where
 os : w'.os = w.os
 tape : w'.tape = w.tape
 output : w'.output = w.output
 size : w.heap.size ≤ w'.heap.size
 keep : ∀ b, b < w.heap.size → ¬ Own h μ b → w'.heap[b]? = w.heap[b]?
 shape : ∀ (b : Nat) (cs : Array Value) (el : TypeId) (z : Nat × Nat), w.heap[b]? = some (.cells cs el z) → ∃ cs' : Array Value, w'.heap[b]? = some (.cells cs' el z) ∧ cs'.size = cs.size
 st : ∀ b, S b → S' b
 st2 : ∀ b, S' b → S b ∨ w.heap.size ≤ b ∨ Own h μ b
 ow : ∀ b, Own h' μ' b → Own h μ b ∨ w.heap.size ≤ b
def AObj.kind : AObj → Nat
 | .box .. => 0
 | .arr .. => 1
 | .map .. => 2
def AObj.like : AObj → AObj → Prop
 | .arr _ e t _ _, .arr _ e' t' _ _ => e = e' ∧ t = t'
 | x, y => x.kind = y.kind
def EvoV (h : Heap) (μ : Gh) (h' : Heap) (μ' : Gh) : Prop :=
 ∀ g o, h g = some o → ∃ o', h' g = some o' ∧ o.ver ≤ o'.ver ∧ (o'.ver = o.ver → (μ'.b g = μ.b g ∧ μ'.o g = μ.o g) ∧ o.like o')
theorem AObj.like.refl (o : AObj) : o.like o := by cases o <;> simp [AObj.like]
theorem AObj.like.trans {a b c : AObj} (h : a.like b) (k : b.like c) : a.like c := by
 cases a <;> cases b <;> cases c <;> simp_all [AObj.like, AObj.kind]
theorem EvoV.refl (h : Heap) (μ : Gh) : EvoV h μ h μ := fun _ o ho => ⟨o, ho, Nat.le_refl _, fun _ => ⟨⟨rfl, rfl⟩, .refl o⟩⟩
theorem EvoV.trans {h h' h'' : Heap} {μ μ' μ'' : Gh} (a : EvoV h μ h' μ') (b : EvoV h' μ' h'' μ'') : EvoV h μ h'' μ'' := by
 intro g o ho
 obtain ⟨o', ho', hl, he⟩ := a g o ho
 obtain ⟨o'', ho'', hl', he'⟩ := b g o' ho'
 refine ⟨o'', ho'', Nat.le_trans hl hl', fun e => ?_⟩
 have e1 : o'.ver = o.ver := by omega
 have e2 : o''.ver = o'.ver := by omega
 exact ⟨⟨(he' e2).1.1.trans (he e1).1.1, (he' e2).1.2.trans (he e1).1.2⟩, (he e1).2.trans (he' e2).2⟩
section
variable {w w' w'' : World} {S S' S'' : Nat → Prop} {h h' h'' : Heap} {μ μ' μ'' : Gh}
theorem Evo.refl : Evo w S h μ w S h μ := ⟨rfl, rfl, rfl, Nat.le_refl _, fun _ _ _ => rfl, fun _ cs _ _ hc => ⟨cs, hc, rfl⟩, fun _ h => h, fun _ h => .inl h, fun _ h => .inl h⟩
theorem Evo.trans (a : Evo w S h μ w' S' h' μ') (b : Evo w' S' h' μ' w'' S'' h'' μ'') : Evo w S h μ w'' S'' h'' μ'' where
 os := b.os.trans a.os
 tape := b.tape.trans a.tape
 output := b.output.trans a.output
 size := Nat.le_trans a.size b.size
 keep x hx hn := (b.keep x (Nat.lt_of_lt_of_le hx a.size) fun ho => (a.ow x ho).elim hn (by omega)).trans (a.keep x hx hn)
 shape x cs el z hc := by
  obtain ⟨c1, h1, e1⟩ := a.shape x cs el z hc
  obtain ⟨c2, h2, e2⟩ := b.shape x c1 el z h1
  exact ⟨c2, h2, e2.trans e1⟩
 st x hx := b.st x (a.st x hx)
 st2 x hx := by
  rcases b.st2 x hx with h1 | h1 | h1
  ·exact a.st2 x h1
  ·exact .inr (.inl (Nat.le_trans a.size h1))
  ·rcases a.ow x h1 with h2 | h2
   ·exact .inr (.inr h2)
   ·exact .inr (.inl h2)
 ow x hx := by
  rcases b.ow x hx with h1 | h1
  ·exact a.ow x h1
  ·exact .inr (Nat.le_trans a.size h1)
theorem RepH.not_own (hp : RepH w S h μ) {b : Nat} (hb : S b) : ¬ Own h μ b := fun ⟨g, o, ho, hz, e⟩ => hp.own g o ho hz (e ▸ hb)
theorem RepH.kept (hp : RepH w S h μ) (ev : Evo w S h μ w' S' h' μ') {b : Nat} (hb : S b) : w'.heap[b]? = w.heap[b]? := ev.keep b (hp.lt b hb) (hp.not_own hb)
theorem RepP.evo {x : AV} {v : Value} (hr : RepP w S x v) (hp : RepH w S h μ) (ev : Evo w S h μ w' S' h' μ') : RepP w' S' x v := hr.mono ev.st fun _ hb => hp.kept ev hb
theorem ArrOK.evo {b o esz off len : Nat} {v : Value} (ha : ArrOK w b o esz off len v) (ev : Evo w S h μ w' S' h' μ') : ArrOK w' b o esz off len v := by
 obtain ⟨a, cap, cs, el, z, e, hl, hc, hs, h0⟩ := ha
 obtain ⟨cs', hc', hs'⟩ := ev.shape _ _ _ _ hc
 exact ⟨a, cap, cs', el, z, e, hl, hc', by rw [hs']; exact hs, h0⟩
theorem Rep.evo {x : AV} {v : Value} (hr : Rep w S h μ x v) (hp : RepH w S h μ) (ev : Evo w S h μ w' S' h' μ') (vv : EvoV h μ h' μ') : Rep w' S' h' μ' x v := by
 induction hr with
 | any v => exact .any v
 | pure hp' => exact .pure (hp'.evo hp ev)
 | fn f l cs hl hr ih => exact .fn f l cs hl ih
 | agg l cs hl h1 hr ih => exact .agg l cs hl h1 ih
 | tup l cs hl hr ih => exact .tup l cs hl ih
 | arr g ver off len v o ho hv h1 hr =>
  obtain ⟨o', ho', hle, he⟩ := vv g o ho
  refine .arr g ver off len v o' ho' (Nat.le_trans hv hle) h1 fun e => ?_
  have e1 : ver = o.ver := by omega
  obtain ⟨esz, el, cells, fz, eq, hk⟩ := hr e1
  obtain ⟨⟨em, eo⟩, hlike⟩ := he (by omega)
  subst eq
  cases o' with
  | arr v' e' t' c' z' =>
   simp only [AObj.like] at hlike
   obtain ⟨rfl, rfl⟩ := hlike
   simp only [AObj.ver] at e
   subst e
   exact ⟨esz, el, c', z', rfl, by rw [em, eo]; exact hk.evo ev⟩
  | box v' c' => simp [AObj.like, AObj.kind] at hlike
  | map v' c' => simp [AObj.like, AObj.kind] at hlike
 | ptr g ver off v o ho hv h1 hr =>
  obtain ⟨o', ho', hle, he⟩ := vv g o ho
  exact .ptr g ver off v o' ho' (Nat.le_trans hv hle) h1 fun e => by rw [(he (by omega)).1.1, (he (by omega)).1.2]; exact hr (by omega)
 | map g ver v o ho hv h1 hr =>
  obtain ⟨o', ho', hle, he⟩ := vv g o ho
  exact .map g ver v o' ho' (Nat.le_trans hv hle) h1 fun e => by rw [(he (by omega)).1.1]; exact hr (by omega)
theorem Holds.evo {cells : List AV} {cs : Array Value} (hh : Holds w S h μ cells cs) (hp : RepH w S h μ) (ev : Evo w S h μ w' S' h' μ') (vv : EvoV h μ h' μ') : Holds w' S' h' μ' cells cs :=
 fun i x hi => ⟨(hh i x hi).1.evo hp ev vv, (hh i x hi).2⟩
theorem HoldsAt.evo {o : Nat} {cells : List AV} {cs : Array Value} (hh : HoldsAt w S h μ o cells cs) (hp : RepH w S h μ) (ev : Evo w S h μ w' S' h' μ') (vv : EvoV h μ h' μ') : HoldsAt w' S' h' μ' o cells cs :=
 fun i x hi => ⟨(hh i x hi).1.evo hp ev vv, (hh i x hi).2⟩
theorem Holds.at0 {cells : List AV} {cs : Array Value} (hh : Holds w S h μ cells cs) : HoldsAt w S h μ 0 cells cs := fun i x hi => by rw [Nat.zero_add]; exact hh i x hi
theorem RepObj.evo {b k : Nat} {o : AObj} (ho : RepObj w S h μ b k o) (hp : RepH w S h μ) (ev : Evo w S h μ w' S' h' μ') (vv : EvoV h μ h' μ') (hb : w'.heap[b]? = w.heap[b]?) : RepObj w' S' h' μ' b k o := by
 cases o with
 | box v cells =>
  obtain ⟨cs, el, h1, h2, h3⟩ := ho
  exact ⟨cs, el, hb.trans h1, h2, h3.evo hp ev vv⟩
 | arr v e t cells z =>
  obtain ⟨cs, h1, h2, h3, h4⟩ := ho
  exact ⟨cs, hb.trans h1, h2, h3.evo hp ev vv, fun hz => ev.st _ (h4 hz)⟩
 | map v es z =>
  obtain ⟨es', clock, h1, h2, hz, h3⟩ := ho
  refine ⟨es', clock, hb.trans h1, h2, fun q => ev.st _ (hz q), fun i k v hi => ?_⟩
  obtain ⟨e, he, hk, hv⟩ := h3 i k v hi
  exact ⟨e, he, hk.evo hp ev, hv.evo hp ev vv⟩
theorem RepObj.lt {b k : Nat} {o : AObj} (ho : RepObj w S h μ b k o) : b < w.heap.size := by
 have : ∃ x, w.heap[b]? = some x := by
  cases o with
  | box v cells => obtain ⟨cs, el, h1, _⟩ := ho; exact ⟨_, h1⟩
  | arr v e t cells z => obtain ⟨cs, h1, _⟩ := ho; exact ⟨_, h1⟩
  | map v es z => obtain ⟨es', clock, h1, _⟩ := ho; exact ⟨_, h1⟩
 obtain ⟨x, hx⟩ := this
 exact (Array.getElem?_eq_some_iff.1 hx).1
theorem Jpq (hw : w'.heap = w.heap) (h1 : w'.os = w.os) (h2 : w'.tape = w.tape) (h3 : w'.output = w.output) : Evo w S h μ w' S h μ :=
 ⟨h1, h2, h3, by rw [hw]; exact Nat.le_refl _, fun _ _ _ => by rw [hw], fun _ cs _ _ hc => ⟨cs, by rw [hw]; exact hc, rfl⟩, fun _ h => h, fun _ h => .inl h, fun _ h => .inl h⟩
theorem RepH.of_same (hp : RepH w S h μ) (hw : w'.heap = w.heap) (h1 : w'.os = w.os) (h2 : w'.tape = w.tape) (h3 : w'.output = w.output) : RepH w' S h μ :=
 ⟨fun g o ho => (hp.ob g o ho).evo hp (Jpq hw h1 h2 h3) (.refl h μ) (by rw [hw]), hp.inj, hp.own, fun b hb => by rw [hw]; exact hp.lt b hb⟩
theorem Jls : Evo w S h μ w.drew S h μ := Jpq rfl rfl rfl rfl
theorem Jv4 (g : Nat) (o : AObj) (ob : Obj) (hver : o.ver = Kj h g ∨ Kj h g < o.ver) :
  Evo w S h μ (w.alloc ob) S (upd h g (some o)) (μ.set g w.heap.size 0) ∧ EvoV h μ (upd h g (some o)) (μ.set g w.heap.size 0) := by
 refine ⟨⟨rfl, rfl, rfl, by simp, fun b hb _ => heap_alloc_old w ob b hb, fun b cs el z hc => ⟨cs, ?_, rfl⟩, fun _ h => h, fun _ h => .inl h, ?_⟩, ?_⟩
 ·rw [heap_alloc_old w ob b (Array.getElem?_eq_some_iff.1 hc).1]; exact hc
 ·rintro b ⟨g', o', ho', hz, e⟩
  by_cases hg : g' = g
  ·subst hg; simp only [Gh.set, Yf] at e; exact .inr (by omega)
  ·simp only [Gh.set, Qd _ _ _ _ hg] at ho' e; exact .inl ⟨g', o', ho', hz, e⟩
 ·intro g' o' ho'
  by_cases hg : g' = g
  ·subst hg
   have : Kj h g' = o'.ver + 1 := by simp [Kj, ho']
   exact ⟨o, Yf _ _ _, by omega, fun e => by omega⟩
  ·exact ⟨o', by rw [Qd _ _ _ _ hg]; exact ho', Nat.le_refl _, fun _ => ⟨⟨Qd _ _ _ _ hg, Qd _ _ _ _ hg⟩, .refl o'⟩⟩
theorem Jxs {g : Nat} {o : AObj} {ob : Obj} (hp : RepH w S h μ) (hver : o.ver = Kj h g ∨ Kj h g < o.ver)
  (hob : RepObj (w.alloc ob) S (upd h g (some o)) (μ.set g w.heap.size 0) w.heap.size 0 o) : RepH (w.alloc ob) S (upd h g (some o)) (μ.set g w.heap.size 0) := by
 obtain ⟨ev, vv⟩ := Jv4 (w := w) (S := S) (h := h) (μ := μ) g o ob hver
 refine ⟨fun g' o' ho' => ?_, fun g1 g2 o1 o2 h1 h2 e => ?_, fun g' o' ho' hz' hs => ?_, fun b hb => by have := hp.lt b hb; simp; omega⟩
 ·by_cases hg : g' = g
  ·subst hg
   simp only [Gh.set, Yf] at ho' ⊢
   injection ho' with e
   subst e
   exact hob
  ·rw [Qd _ _ _ _ hg] at ho'
   have := (hp.ob g' o' ho').evo hp ev vv (heap_alloc_old w ob _ (hp.ob g' o' ho').lt)
   simpa only [Gh.set, Qd _ _ _ _ hg] using this
 ·by_cases hg1 : g1 = g <;> by_cases hg2 : g2 = g
  ·rw [hg1, hg2]
  ·subst hg1
   simp only [Gh.set, Qd _ _ _ _ hg2, Yf] at h2 e
   have := (hp.ob g2 o2 h2).lt
   omega
  ·subst hg2
   simp only [Gh.set, Qd _ _ _ _ hg1, Yf] at h1 e
   have := (hp.ob g1 o1 h1).lt
   omega
  ·simp only [Gh.set, Qd _ _ _ _ hg1, Qd _ _ _ _ hg2] at h1 h2 e
   exact hp.inj g1 g2 o1 o2 h1 h2 e
 ·by_cases hg : g' = g
  ·subst hg
   simp only [Gh.set, Yf] at hs
   have := hp.lt _ hs
   omega
  ·simp only [Gh.set, Qd _ _ _ _ hg] at ho' hs
   exact hp.own g' o' ho' hz' hs
theorem Ju3 {g k : Nat} {o o' : AObj} {cs : Array Value} (ho : h g = some o) (hz : o.fz = false) (hv : o.ver < o'.ver ∨ o.ver = o'.ver ∧ k = μ.o g ∧ o.like o')
  (hcs : ∀ old el z, w.heap[μ.b g]? = some (.cells old el z) → cs.size = old.size) :
  Evo w S h μ (w.setRow (μ.b g) cs) S (upd h g (some o')) (μ.set g (μ.b g) k) ∧ EvoV h μ (upd h g (some o')) (μ.set g (μ.b g) k) := by
 have hb : ∀ g', (μ.set g (μ.b g) k).b g' = μ.b g' := fun g' => by
  by_cases hg : g' = g
  ·subst hg; simp [Gh.set, Yf]
  ·simp [Gh.set, Qd _ _ _ _ hg]
 refine ⟨⟨rfl, rfl, rfl, by simp, fun b hb' hn => setRow_other w (μ.b g) b cs fun e => hn ⟨g, o, ho, hz, e.symm⟩, fun b c el z hc => ?_, fun _ h => h, fun _ h => .inl h, ?_⟩, ?_⟩
 ·by_cases hbg : b = μ.b g
  ·subst hbg
   exact ⟨cs, setRow_heap w _ _ cs el z hc, hcs _ _ _ hc⟩
  ·exact ⟨c, by rw [setRow_other w (μ.b g) b cs hbg]; exact hc, rfl⟩
 ·rintro b ⟨g', o1, ho', hz1, e⟩
  rw [hb] at e
  by_cases hg : g' = g
  ·subst hg; exact .inl ⟨g', o, ho, hz, e⟩
  ·rw [Qd _ _ _ _ hg] at ho'; exact .inl ⟨g', o1, ho', hz1, e⟩
 ·intro g' o1 ho'
  by_cases hg : g' = g
  ·subst hg
   rw [ho] at ho'
   injection ho' with e
   subst e
   exact ⟨o', Yf _ _ _, by omega, fun e => ⟨⟨hb _, by
    rcases hv with hv | ⟨_, hk, _⟩
    ·omega
    ·simp only [Gh.set, Yf]; exact hk⟩, by
    rcases hv with hv | ⟨_, _, hl⟩
    ·omega
    ·exact hl⟩⟩
  ·exact ⟨o1, by rw [Qd _ _ _ _ hg]; exact ho', Nat.le_refl _, fun _ => ⟨⟨hb _, by simp [Gh.set, Qd _ _ _ _ hg]⟩, .refl o1⟩⟩
theorem Jxh {g k : Nat} {o o' : AObj} {cs : Array Value} (hp : RepH w S h μ) (ho : h g = some o) (hz : o.fz = false) (hv : o.ver < o'.ver ∨ o.ver = o'.ver ∧ k = μ.o g ∧ o.like o')
  (hcs : ∀ old el z, w.heap[μ.b g]? = some (.cells old el z) → cs.size = old.size)
  (hob : RepObj (w.setRow (μ.b g) cs) S (upd h g (some o')) (μ.set g (μ.b g) k) (μ.b g) k o') : RepH (w.setRow (μ.b g) cs) S (upd h g (some o')) (μ.set g (μ.b g) k) := by
 obtain ⟨ev, vv⟩ := Ju3 (S := S) ho hz hv hcs
 have hb : ∀ g', (μ.set g (μ.b g) k).b g' = μ.b g' := fun g' => by
  by_cases hg : g' = g
  ·subst hg; simp [Gh.set, Yf]
  ·simp [Gh.set, Qd _ _ _ _ hg]
 refine ⟨fun g' o1 ho' => ?_, fun g1 g2 o1 o2 h1 h2 e => ?_, fun g' o1 ho' hz1 hs => ?_, fun b hb => by rw [setRow_size]; exact hp.lt b hb⟩
 ·rw [hb]
  by_cases hg : g' = g
  ·subst hg
   rw [Yf] at ho'
   injection ho' with e
   subst e
   simpa only [Gh.set, Yf] using hob
  ·rw [Qd _ _ _ _ hg] at ho'
   have := (hp.ob g' o1 ho').evo hp ev vv (setRow_other w _ _ cs fun e => hg (hp.inj g' g o1 o ho' ho e))
   simpa only [Gh.set, Qd _ _ _ _ hg] using this
 ·rw [hb, hb] at e
  have key : ∀ g' o1, upd h g (some o') g' = some o1 → ∃ o2, h g' = some o2 := fun g' o1 h' => by
   by_cases hg : g' = g
   ·subst hg; exact ⟨o, ho⟩
   ·rw [Qd _ _ _ _ hg] at h'; exact ⟨o1, h'⟩
  obtain ⟨a, ha⟩ := key g1 o1 h1
  obtain ⟨b, hb⟩ := key g2 o2 h2
  exact hp.inj g1 g2 a b ha hb e
 ·rw [hb] at hs
  by_cases hg : g' = g
  ·subst hg; exact hp.own g' o ho hz hs
  ·rw [Qd _ _ _ _ hg] at ho'; exact hp.own g' o1 ho' hz1 hs
end
section
variable {w : World} {S : Nat → Prop} {h : Heap} {μ : Gh} {v : Value}
theorem Rep.int_inv {k : IntKind} {n : Int} (hr : Rep w S h μ (.int k n) v) : v = .int k n := by cases hr with | pure hp => cases hp; rfl
theorem Rep.bool_inv {b : Bool} (hr : Rep w S h μ (.bool b) v) : v = .bool b := by cases hr with | pure hp => cases hp; rfl
theorem Rep.nils_inv (hr : Rep w S h μ .nils v) : v = .slice none 0 0 := by cases hr with | pure hp => cases hp; rfl
theorem Rep.mpr_inv {ks vs : List AV} (hr : Rep w S h μ (.mpr ks vs) v) : ∃ (b : Nat) (es : Array MapEntry) (clock : Nat), v = .map (some b) ∧ S b ∧ w.heap[b]? = some (.map es clock) ∧ es.size = ks.length ∧ es.size = vs.length ∧ (∀ (i : Nat) (x : AV) (e : MapEntry), ks[i]? = some x → es[i]? = some e → RepP w S x e.key) ∧ ∀ (i : Nat) (x : AV) (e : MapEntry), vs[i]? = some x → es[i]? = some e → RepP w S x e.val := by
 cases hr with
 | pure hp => cases hp with | mpr _ _ b es clock hs hb hk hv hrk hrv => exact ⟨b, es, clock, rfl, hs, hb, hk, hv, hrk, hrv⟩
theorem Rep.nilm_inv (hr : Rep w S h μ .nilm v) : v = .map none := by cases hr with | pure hp => cases hp; rfl
theorem Rep.str_inv {s : ByteArray} (hr : Rep w S h μ (.str s) v) : v = .string s := by cases hr with | pure hp => cases hp; rfl
theorem Rep.tup0_inv (hr : Rep w S h μ (.tup []) v) : v = .tuple #[] := by
 cases hr with
 | pure hp => cases hp with | tup _ cs hl _ => simp at hl; rw [Array.eq_empty_of_size_eq_zero hl.symm]
 | tup _ cs hl _ => simp at hl; rw [Array.eq_empty_of_size_eq_zero hl.symm]
theorem Rep.agg_inv {l : List AV} (hr : Rep w S h μ (.agg l) v) : ∃ cs : Array Value, v = .agg cs ∧ l.length = cs.size ∧ Holds w S h μ l cs := by
 cases hr with
 | pure hp => cases hp with | agg _ cs hl h1 hr => exact ⟨cs, rfl, hl, fun i x hi => ⟨.pure (hr i x hi), h1 i x hi⟩⟩
 | agg _ cs hl h1 hr => exact ⟨cs, rfl, hl, fun i x hi => ⟨hr i x hi, h1 i x hi⟩⟩
theorem Rep.tup_inv {l : List AV} (hr : Rep w S h μ (.tup l) v) : ∃ cs : Array Value, v = .tuple cs ∧ l.length = cs.size ∧ ∀ i x, l[i]? = some x → Rep w S h μ x (cs.getD i undef) := by
 cases hr with
 | pure hp => cases hp with | tup _ cs hl hr => exact ⟨cs, rfl, hl, fun i x hi => .pure (hr i x hi)⟩
 | tup _ cs hl hr => exact ⟨cs, rfl, hl, fun i x hi => hr i x hi⟩
theorem Rep.fn_inv {f : FuncId} {l : List AV} (hr : Rep w S h μ (.fn f l) v) : ∃ cs : Array Value, v = .func (.func f) #[] cs ∧ l.length = cs.size ∧ ∀ i x, l[i]? = some x → Rep w S h μ x (cs.getD i undef) := by
 cases hr with
 | pure hp => cases hp with | fn _ _ cs hl hr => exact ⟨cs, rfl, hl, fun i x hi => .pure (hr i x hi)⟩
 | fn _ _ cs hl hr => exact ⟨cs, rfl, hl, fun i x hi => hr i x hi⟩
theorem Rep.one {x : AV} (hr : Rep w S h μ x v) (h1 : x.one = true) : v.oneCell' = true := by
 cases hr with
 | any => simp [AV.one] at h1
 | pure hp => cases hp <;> simp_all [AV.one, Value.oneCell']
 | fn => rfl
 | agg => simp [AV.one] at h1
 | tup => simp [AV.one] at h1
 | arr _ _ _ _ _ _ _ _ h => exact h
 | ptr _ _ _ _ _ _ _ h => exact h
 | map _ _ _ _ _ _ h => exact h
theorem Jt6 (v : Value) (h1 : v.oneCell' = true) : v.cells = #[v] := by cases v <;> simp_all [Value.oneCell', Value.cells]
theorem Rep.cells {x : AV} {c : List AV} (hr : Rep w S h μ x v) (hc : x.cells = some c) : v.cells.size = c.length ∧ Holds w S h μ c v.cells := by
 by_cases h1 : x.one = true
 ·have : c = [x] := by
   cases x <;> simp_all [AV.cells, AV.one]
  subst this
  rw [Jt6 v (hr.one h1)]
  refine ⟨rfl, fun i y hi => ?_⟩
  match i, hi with
  | 0, hi => simp at hi; subst hi; exact ⟨hr, hr.one h1⟩
 ·cases x <;> simp_all [AV.cells, AV.one]
  obtain ⟨cs, rfl, hl, hh⟩ := hr.agg_inv
  exact ⟨hl.symm, hh⟩
end
end Go.Vv
