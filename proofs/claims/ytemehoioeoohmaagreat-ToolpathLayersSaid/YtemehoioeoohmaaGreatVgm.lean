/- The evaluator's maps are right of the model's. Conditions: none. -/
import Derived.Test.YtemehoioeoohmaaGreatVg
import Derived.MapKept
namespace Go.Vv
open Go
open List renaming getElem?_eq_some_iff → Aa, getElem?_eraseIdx → Ac, getElem?_zip_eq_some → Ae, getElem?_append_left → Af, getElem?_eq_getElem → Ag
open Bool renaming false_eq_true → Ab
open Option renaming bind_some → Ad
open Nat renaming le_refl → Ah
section
variable {P : Program} {w : World} {S : Nat → Prop} {h : Heap} {μ : Gh}
theorem Jpv {s : Bool} {x y : AV} {b : Bool} {v : Value} (he : Jg6 s x y = some b) (hr : Rep w S h μ x v) : RepP w S x v := by
 unfold Jg6 at he
 split at he
 ·rw [hr.int_inv]; exact .int _ _
 ·rw [hr.bool_inv]; exact .bool _
 ·cases he
theorem Jh6 : ∀ {sh : List Bool} {l m : List AV} {b : Bool}, Zl sh l m = some b → ∀ (i : Nat) (x : AV), l[i]? = some x → ∃ s y c, m[i]? = some y ∧ Jg6 s x y = some c ∧ (b = true → c = true)
 | [], [], [], _, _, i, x, hi => by simp at hi
 | s :: ss, x :: xs, y :: ys, b, h, i, z, hi => by
  unfold Zl at h
  split at h
  ·rename_i a c h1 h2
   injection h with h
   cases i with
   | zero =>
    simp at hi
    subst hi
    exact ⟨s, y, a, rfl, h1, fun e => by rw [e] at h; simp at h; exact h.1⟩
   | succ i =>
    obtain ⟨s', y', c', e1, e2, e3⟩ := Jh6 h2 i z (by simpa using hi)
    exact ⟨s', y', c', by simpa using e1, e2, fun e => e3 (by rw [e] at h; simp at h; exact h.2)⟩
  ·cases h
 | [], _ :: _, _, _, h, _, _, _ => by simp [Zl] at h
 | [], [], _ :: _, _, h, _, _, _ => by simp [Zl] at h
 | _ :: _, [], _, _, h, _, _, _ => by simp [Zl] at h
 | _ :: _, _ :: _, [], _, h, _, _, _ => by simp [Zl] at h
theorem Jsd {ag : Bool} {sh : List Bool} {x y : AV} {b : Bool} {v : Value} (he : eqV ag sh x y = some b) (hr : Rep w S h μ x v) : RepP w S x v := by
 unfold eqV at he
 split at he
 ·split at he
  ·rename_i l m
   obtain ⟨cs, rfl, hl, hh⟩ := hr.agg_inv
   refine .agg l cs hl (fun i x hi => (hh i x hi).2) fun i x hi => ?_
   obtain ⟨s, y, c, -, h2, -⟩ := Jh6 he i x hi
   exact Jpv h2 (hh i x hi).1
  ·cases he
 ·obtain ⟨s, y', c, -, h2, -⟩ := Jh6 he 0 x rfl
  exact Jpv h2 hr
theorem Jup {s : Bool} {x y : AV} {v u : Value} (he : Jg6 s x y = some true) (hx : RepP w S x v) (hy : RepP w S y u) (n : Nat) : Instr.sameBits n v u = true ∧ Instr.sameBits n u v = true := by
 unfold Jg6 at he
 split at he
 ·split at he
  ·rename_i hk
   subst hk
   injection he with he
   cases hx; cases hy
   cases n <;> simp_all [Instr.sameBits]
  ·cases he
 ·injection he with he
  cases hx; cases hy
  cases n <;> simp_all [Instr.sameBits]
 ·cases he
theorem eqV_bits {ag : Bool} {sh : List Bool} {x y : AV} {v u : Value} (he : eqV ag sh x y = some true) (hx : RepP w S x v) (hy : RepP w S y u) : Instr.sameBits 10000 u v = true := by
 unfold eqV at he
 split at he
 ·split at he
  ·rename_i l m
   cases hx with
   | agg _ cs hl h1 hr =>
    cases hy with
    | agg _ ds hl' h1' hr' =>
     have hlen := Jko he
     show Instr.sameBits (9999 + 1) (.agg ds) (.agg cs) = true
     simp only [Instr.sameBits, Bool.and_eq_true, beq_iff_eq, List.all_eq_true]
     refine ⟨by omega, fun p hp => ?_⟩
     obtain ⟨i, hi⟩ := List.getElem?_of_mem hp
     obtain ⟨a, b⟩ := p
     rw [Ae] at hi
     obtain ⟨h3, h4⟩ := hi
     have hlt : i < l.length := by have := (Aa.1 h4).1; simp at this; omega
     obtain ⟨s, z, c, e1, e2, e3⟩ := Jh6 he i l[i] (Ag hlt)
     obtain rfl := e3 rfl
     have ra := hr i l[i] (Ag hlt)
     have rb := hr' i z e1
     have ea : cs.getD i undef = b := by
      have : cs[i]? = some b := by simpa using h4
      rw [Array.getD_eq_getD_getElem?, this]; rfl
     have eb : ds.getD i undef = a := by
      have : ds[i]? = some a := by simpa using h3
      rw [Array.getD_eq_getD_getElem?, this]; rfl
     rw [ea] at ra
     rw [eb] at rb
     exact (Jup e2 ra rb 9999).2
  ·cases he
 ·obtain ⟨s, z, c, e1, e2, e3⟩ := Jh6 he 0 x rfl
  obtain rfl := e3 rfl
  simp at e1
  subst e1
  exact (Jup e2 hx hy 10000).2
def Ji3 (em : Bool) (n : Nat) (cs : Array Value) : List Field → Sem Unit
 | [] => pure ()
 | f :: fs =>
  if f.name ≠ "_" then do
   let a ← part f.type cs f.offset
   Instr.checkKey em n f.type a
   Ji3 em n cs fs
  else Ji3 em n cs fs
theorem Jo1 (em : Bool) (n : Nat) (t : TypeId) (cs : Array Value) {fs : Array Field} (ht : P.underlying t = some (.struct fs)) : (Instr.checkKey em (n + 1) t (.agg cs)).run P w = (Ji3 em n cs fs.toList).run P w := by
 simp only [Instr.checkKey, Sem.run_bind, run_underlying ht, Result.andThen_ok]
 rw [← Array.forIn_toList]
 generalize fs.toList = l
 clear ht
 induction l generalizing w with
 | nil => simp [Ji3]
 | cons f l ih =>
  simp only [List.forIn_cons, Ji3, Sem.run_bind, Sem.run_ite]
  split
  ·generalize (part f.type cs f.offset).run P w = r1
   cases r1 with
   | ok a w1 =>
    simp only [Result.andThen_ok]
    generalize (Instr.checkKey em n f.type a).run P w1 = r2
    cases r2 with
    | ok b w2 => simp only [Result.andThen_ok, Sem.run_pure]; exact ih
    | _ => rfl
   | _ => rfl
  ·simp only [Sem.run_pure, Result.andThen_ok]; exact ih
theorem Jt3 {g : TypeId → Option (List Bool)} {em : Bool} {d : Nat} (ih : ∀ {t : TypeId} {sh : List Bool} {ag : Bool} {x : AV} {cx : Value} {b : Bool}, g t = some sh → aggT P t = some ag →
  Rep w S h μ x cx → eqV ag sh x x = some b → (Instr.checkKey em d t cx).run P w = .ok () w) : ∀ {fs : List Field} {k : Nat} {sh : List Bool} {l : List AV} {cs : Array Value} {b : Bool}, Jv6 P g fs k = some sh →
  l.length = cs.size → Holds w S h μ l cs → Zl sh (l.drop k) (l.drop k) = some b → l.length = k + sh.length → (Ji3 em d cs fs).run P w = .ok () w
 | [], k, sh, l, cs, b, hsh, hl, hh, he, h1 => by simp [Ji3]
 | f :: r, k, sh, l, cs, b, hsh, hl, hh, he, h1 => by
  unfold Jv6 at hsh
  split at hsh
  ·rename_i a ag q ha hag hq
   split at hsh
   ·rename_i hc
    obtain ⟨ho, hn, hqa, hone⟩ := hc
    split at hsh
    ·rename_i r' hr
     injection hsh with hsh
     subst hsh hqa
     obtain ⟨b1, b2, e1, e2, e3⟩ := Ji9 he
     have hk1 : k + a.length ≤ l.length := by simp at h1; omega
     have pk : ∃ v, pack ag l f.offset a.length = some v ∧ (ag = true → v = .agg (cut l k a.length)) ∧ (ag = false → cut l k a.length = [v]) := by
      rw [ho]
      cases ag with
      | true => exact ⟨_, by simp [pack, hk1], fun _ => rfl, fun h => by cases h⟩
      | false =>
       have h1 : a.length = 1 := by simpa using hone
       have hlt : k < l.length := by omega
       refine ⟨l[k], by simp [pack, hk1, hlt], (fun h => by cases h), fun _ => ?_⟩
       simp only [cut, h1]
       rw [List.drop_eq_getElem_cons hlt]
       rfl
     obtain ⟨v1, p1, q1, r1⟩ := pk
     obtain ⟨c1, s1, t1⟩ := Jjt (P := P) hag hq hone hl hh p1
     have hev : eqV ag a v1 v1 = some b1 := by
      cases ag with
      | true => rw [q1 rfl]; simpa [eqV, cut] using e1
      | false =>
       simp only [eqV, Ab, if_false]
       rw [← r1 rfl]
       exact e1
     have hrun := ih ha hag t1 hev
     simp only [Ji3, hn, ne_eq, not_false_eq_true, if_true, Sem.run_bind, s1, Result.andThen_ok, hrun]
     exact Jt3 ih hr hl hh (by simpa [List.drop_drop] using e2) (by simp at h1; omega)
    ·cases hsh
   ·cases hsh
  ·cases hsh
theorem Jxn (em : Bool) : ∀ (n d : Nat) {t : TypeId} {sh : List Bool} {ag : Bool} {x : AV} {cx : Value} {b : Bool}, n ≤ d → eqSh P n t = some sh → aggT P t = some ag →
  Rep w S h μ x cx → eqV ag sh x x = some b → (Instr.checkKey em d t cx).run P w = .ok () w
 | 0, _, _, _, _, _, _, _, _, h, _, _, _ => by simp [eqSh] at h
 | n + 1, 0, _, _, _, _, _, _, hd, _, _, _, _ => by omega
 | n + 1, d + 1, t, sh, ag, x, cx, b, hd, hsh, hag, hx, he => by
  unfold eqSh at hsh
  unfold aggT at hag
  split at hsh
  ·rename_i hu
   simp only [Instr.checkKey, Sem.run_bind, run_underlying hu, Result.andThen_ok, Sem.run_pure]
  ·rename_i k hu
   simp only [Instr.checkKey, Sem.run_bind, run_underlying hu, Result.andThen_ok, Sem.run_pure]
  ·rename_i fs hu
   rw [hu] at hag
   simp at hag
   subst hag
   split at hsh
   ·cases hsh
   ·simp only [eqV, if_true] at he
    split at he
    ·rename_i l m
     obtain ⟨cs, rfl, hl, hh⟩ := hx.agg_inv
     rw [Jo1 em d t cs hu]
     have hlen := Jko he
     exact Jt3 (fun hx => Jxn em n d (by omega) hx) hsh hl hh (by simp; exact he) (by simp [hlen])
    ·cases he
  ·cases hsh
def EntsOK (w : World) (S : Nat → Prop) (h : Heap) (μ : Gh) (es : List (AV × AV)) (es' : List MapEntry) : Prop :=
 es'.length = es.length ∧ ∀ (i : Nat) (k v : AV), es[i]? = some (k, v) → ∃ e : MapEntry, es'[i]? = some e ∧ RepP w S k e.key ∧ Rep w S h μ v e.val
theorem EntsOK.tail {p : AV × AV} {es : List (AV × AV)} {e : MapEntry} {es' : List MapEntry} (hh : EntsOK w S h μ (p :: es) (e :: es')) : EntsOK w S h μ es es' :=
 ⟨by have := hh.1; simp at this; exact this, fun i k v hi => by simpa using hh.2 (i + 1) k v (by simpa using hi)⟩
theorem Jw3 {kt : TypeId} {d : TypeDesc} {sh : List Bool} {ag : Bool} (hu : P.underlying kt = some d) (hsh : eqSh P 6 kt = some sh) (hag : aggT P kt = some ag) {k : AV} {ck : Value} (hk : RepP w S k ck) :
  ∀ {es : List (AV × AV)} {es' : List MapEntry} {n : Nat} {r : Option Nat}, EntsOK w S h μ es es' → posM ag sh k n es = some r →
   (Instr.findAsking kt ck es' n).run P w = .ok (r.bind fun j => (es'[j - n]?).map fun e => (j, e.val)) w ∧ (Instr.findNow d ck es' n = none ∨ Instr.findNow d ck es' n = some (r.bind fun j => (es'[j - n]?).map fun e => (j, e.val))) ∧
   ∀ j, r = some j → n ≤ j ∧ ∃ k' v' e, es[j - n]? = some (k', v') ∧ es'[j - n]? = some e ∧ RepP w S k' e.key ∧ Rep w S h μ v' e.val ∧ eqV ag sh k k' = some true
 | [], es', n, r, hh, hp => by
  cases es' with
  | cons e es' => have := hh.1; simp at this
  | nil =>
   simp only [posM] at hp
   injection hp with hp
   subst hp
   exact ⟨rfl, .inr rfl, fun j hj => by cases hj⟩
 | p :: es, es', n, r, hh, hp => by
  obtain ⟨pk, pv⟩ := p
  cases es' with
  | nil => have := hh.1; simp at this
  | cons e es' =>
   obtain ⟨e0, he0, hk0, hv0⟩ := hh.2 0 pk pv rfl
   simp at he0
   subst he0
   simp only [posM] at hp
   have hq : ∀ b, eqV ag sh k pk = some b → (Op.equal kt ck e.key).run P w = .ok b w := fun b hb => Jsx (h := h) (μ := μ) 6 10000 (by omega) hsh hag (.pure hk) (.pure hk0) hb
   have hnow : ∀ b, eqV ag sh k pk = some b → Instr.sameNow d ck e.key = none ∨ Instr.sameNow d ck e.key = some b := by
    intro b hb
    have hsh2 := hsh
    unfold eqSh at hsh2
    unfold aggT at hag
    rw [hu] at hsh2 hag
    cases d with
    | bool =>
     simp at hsh2 hag
     subst hsh2 hag
     simp only [eqV, Ab, if_false, Zl] at hb
     split at hb
     ·rename_i a c h1 h2
      injection hb with hb
      injection h2 with h2
      subst h2
      unfold Jg6 at h1
      split at h1
      ·cases ‹true = false›
      ·injection h1 with h1
       generalize e.key = ek at hk0 ⊢
       cases hk; cases hk0
       right
       simp only [Instr.sameNow]
       rw [h1, ← hb, Bool.and_true]
      ·cases h1
     ·cases hb
    | int q =>
     simp at hsh2 hag
     subst hsh2 hag
     simp only [eqV, Ab, if_false, Zl] at hb
     split at hb
     ·rename_i a c h1 h2
      injection hb with hb
      injection h2 with h2
      subst h2
      unfold Jg6 at h1
      split at h1
      ·split at h1
       ·rename_i hkk
        subst hkk
        injection h1 with h1
        generalize e.key = ek at hk0 ⊢
        cases hk; cases hk0
        right
        simp only [Instr.sameNow, if_true]
        rw [h1, ← hb, Bool.and_true]
       ·cases h1
      ·cases ‹false = true›
      ·cases h1
     ·cases hb
    | _ => first | (left; rfl) | (simp at hsh2)
   split at hp
   ·rename_i hb
    injection hp with hp
    subst hp
    refine ⟨?_, ?_, fun j hj => ?_⟩
    ·simp only [Instr.findAsking, Sem.run_bind, hq true hb, Result.andThen_ok, if_true, Sem.run_pure, Ad, Nat.sub_self]
     rfl
    ·rcases hnow true hb with h1 | h1
     ·left; simp only [Instr.findNow, h1]
     ·right; simp only [Instr.findNow, h1, Ad, Nat.sub_self]; rfl
    ·injection hj with hj
     subst hj
     exact ⟨Ah _, pk, pv, e, by simp, by simp, hk0, hv0, hb⟩
   ·rename_i hb
    obtain ⟨a1, a2, a3⟩ := Jw3 hu hsh hag hk hh.tail hp
    have sub : ∀ j, r = some j → j - n = (j - (n + 1)) + 1 := fun j hj => by have := (a3 j hj).1; omega
    have eqr : (r.bind fun j => ((e :: es')[j - n]?).map fun e => (j, e.val)) = r.bind fun j => (es'[j - (n + 1)]?).map fun e => (j, e.val) := by
     cases r with
     | none => rfl
     | some j => simp only [Ad]; rw [sub j rfl]; simp
    refine ⟨?_, ?_, fun j hj => ?_⟩
    ·rw [eqr]
     simp only [Instr.findAsking, Sem.run_bind, hq false hb, Result.andThen_ok, Ab, if_false]
     exact a1
    ·rw [eqr]
     rcases hnow false hb with h1 | h1
     ·left; simp only [Instr.findNow, h1]
     ·simp only [Instr.findNow, h1]; exact a2
    ·obtain ⟨b1, k', v', e', b2, b3, b4⟩ := a3 j hj
     refine ⟨by omega, k', v', e', ?_, ?_, b4⟩
     ·rw [sub j hj]; simpa using b2
     ·rw [sub j hj]; simpa using b3
   ·cases hp
theorem Jmu {kt : TypeId} {d : TypeDesc} {sh : List Bool} {ag : Bool} (hu : P.underlying kt = some d) (hsh : eqSh P 6 kt = some sh) (hag : aggT P kt = some ag) {k : AV} {ck : Value} (hk : RepP w S k ck)
  {es : List (AV × AV)} {es' : List MapEntry} {r : Option Nat} (hh : EntsOK w S h μ es es') (hp : posM ag sh k 0 es = some r) :
  (Instr.findKey kt ck es').run P w = .ok (r.bind fun j => (es'[j]?).map fun e => (j, e.val)) w ∧
   ∀ j, r = some j → ∃ k' v' e, es[j]? = some (k', v') ∧ es'[j]? = some e ∧ RepP w S k' e.key ∧ Rep w S h μ v' e.val ∧ eqV ag sh k k' = some true := by
 obtain ⟨a1, a2, a3⟩ := Jw3 (h := h) (μ := μ) hu hsh hag hk hh hp
 simp only [Nat.sub_zero] at a1 a2 a3
 refine ⟨?_, fun j hj => (a3 j hj).2⟩
 simp only [Instr.findKey, Sem.run_bind, run_underlying hu, Result.andThen_ok]
 rcases a2 with a2 | a2
 ·simp only [a2]; exact a1
 ·simp only [a2, Sem.run_pure]
theorem Jpx {kt : TypeId} {sh : List Bool} (hsh : eqSh P 6 kt = some sh) : ∃ d, P.underlying kt = some d := by
 unfold eqSh at hsh
 split at hsh
 ·exact ⟨_, by assumption⟩
 ·exact ⟨_, by assumption⟩
 ·exact ⟨_, by assumption⟩
 ·cases hsh
theorem Jpg {ag : Bool} {sh : List Bool} {k : AV} (hk : Juc ag sh k = true) : ∃ b, eqV ag sh k k = some b := by
 unfold Juc at hk
 exact Option.isSome_iff_exists.1 hk
theorem J2a (hp : RepH w S h μ) {g ver : Nat} {es : List (AV × AV)} {cx : Value} (hc : curM h g ver = some es) (hr : Rep w S h μ (.map g ver) cx) :
  h g = some (.map ver es false) ∧ cx = .map (some (μ.b g)) ∧ ∃ (es' : Array MapEntry) (clock : Nat), w.heap[μ.b g]? = some (.map es' clock) ∧ EntsOK w S h μ es es'.toList := by
 unfold curM at hc
 split at hc
 ·rename_i v es1 ho
  split at hc
  ·rename_i hv
   subst hv
   injection hc with hc
   subst hc
   refine ⟨ho, ?_, ?_⟩
   ·cases hr with
    | pure hp => cases hp
    | map _ _ _ o ho2 _ _ hr2 => rw [ho] at ho2; cases ho2; exact hr2 rfl
   ·obtain ⟨es', clock, h1, h2, -, h3⟩ := hp.ob g _ ho
    exact ⟨es', clock, h1, by simpa using h2, fun i k v hi => by
     obtain ⟨e, he, hk, hv⟩ := h3 i k v hi
     exact ⟨e, by simpa using he, hk, hv⟩⟩
  ·cases hc
 ·cases hc
theorem Jzi (hp : RepH w S h μ) {t kt et : TypeId} {ok ag : Bool} {sh : List Bool} {zv : AV} (ht : P.underlying t = some (.map kt et)) (hsh : eqSh P 6 kt = some sh) (hag : aggT P kt = some ag) (hz : zvC P et = some zv)
  {x k v : AV} {cx ck : Value} (hx : Rep w S h μ x cx) (hk : Rep w S h μ k ck) (he : Jsg ok ag sh zv k (esOf h x) = some v) :
  ∃ cv, (Instr.lookup t cx ck ok).run P w = .ok cv w ∧ Rep w S h μ v cv := by
 obtain ⟨d, hd⟩ := Jpx hsh
 obtain ⟨zval, hzr, zrep⟩ : ∃ zval, (zeroValue et).run P w = .ok zval w ∧ Rep w S h μ zv zval := by
  unfold zvC at hz
  split at hz
  ·rename_i i hi
   split at hz
   ·rename_i z hzz
    exact ⟨z, by simp [zeroValue, typeInfo, hi, hzz], J85 hz⟩
   ·cases hz
  ·cases hz
 have core : ∀ (es : List (AV × AV)) (es' : Array MapEntry) (emp : Bool), EntsOK w S h μ es es'.toList → Juc ag sh k = true → J8t ok zv es (posM ag sh k 0 es) = some v →
   (Instr.checkKey emp 10000 kt ck).run P w = .ok () w ∧ (((Instr.findKey kt ck es'.toList).run P w = .ok none w ∧ Rep w S h μ v (if ok = true then .tuple #[zval, .bool false] else zval)) ∨
    ∃ j cv, (Instr.findKey kt ck es'.toList).run P w = .ok (some (j, cv)) w ∧ Rep w S h μ v (if ok = true then .tuple #[cv, .bool true] else cv)) := by
  intro es es' emp hent hko hl2
  obtain ⟨b, hb⟩ := Jpg hko
  have hck := Jxn (P := P) (w := w) emp 6 10000 (by omega) hsh hag hk hb
  unfold J8t at hl2
  split at hl2
  ·rename_i r hr
   obtain ⟨f1, f2⟩ := Jmu (h := h) (μ := μ) hd hsh hag (Jsd hb hk) hent hr
   injection hl2 with hl2
   have fin : ∀ (bv : Bool) (u : AV) (cu : Value), Rep w S h μ u cu → v = (if ok = true then .tup [u, .bool bv] else u) → Rep w S h μ v (if ok = true then .tuple #[cu, .bool bv] else cu) := by
    intro bv u cu hu e
    rw [e]
    cases ok with
    | false => exact hu
    | true =>
     refine .tup _ _ rfl fun i y hi => ?_
     match i, hi with
     | 0, hi => simp at hi; subst hi; simpa using hu
     | 1, hi => simp at hi; subst hi; exact .pure (.bool _)
   cases r with
   | none => exact ⟨hck, .inl ⟨f1, fin false zv zval zrep (by rw [← hl2]; rfl)⟩⟩
   | some j =>
    obtain ⟨k', v', e, g1, g2, -, g4, -⟩ := f2 j rfl
    refine ⟨hck, .inr ⟨j, e.val, by rw [f1]; simp only [Ad, g2, Option.map_some], fin true v' e.val g4 (by rw [← hl2]; simp only [atM, g1]; rfl)⟩⟩
  ·cases hl2
 unfold Jsg at he
 split at he
 ·rename_i es hes
  split at he
  ·rename_i hko
   unfold esOf at hes
   split at hes
   ·injection hes with hes
    subst hes
    obtain rfl : cx = .map none := by cases hx with | pure hp => cases hp; rfl
    obtain ⟨c1, c2⟩ := core [] #[] true ⟨rfl, fun i k v hi => by simp at hi⟩ hko he
    rcases c2 with ⟨c2, c3⟩ | ⟨j, cv, c2, c3⟩
    ·exact ⟨_, by simp [Instr.lookup, run_underlying ht, c1, c2, hzr, Result.andThen], c3⟩
    ·exact ⟨_, by simp [Instr.lookup, run_underlying ht, c1, c2, Result.andThen], c3⟩
   ·rename_i ks vs
    injection hes with hes
    subst hes
    obtain ⟨b, es', clock, rfl, -, m1, n1, n2, r1, r2⟩ := hx.mpr_inv
    have m2 : EntsOK w S h μ (ks.zip vs) es'.toList := by
     refine ⟨by rw [List.length_zip]; simp; omega, fun i k v hi => ?_⟩
     rw [Ae] at hi
     have hlt : i < es'.size := by
      have := (Aa.1 hi.1).1
      omega
     exact ⟨es'[i], by simp [hlt], r1 i k _ hi.1 (by simp [hlt]), .pure (r2 i v _ hi.2 (by simp [hlt]))⟩
    obtain ⟨c1, c2⟩ := core _ es' es'.isEmpty m2 hko he
    rcases c2 with ⟨c2, c3⟩ | ⟨j, cv, c2, c3⟩
    ·exact ⟨_, by simp [Instr.lookup, run_underlying ht, MapKept.run_getObj_map m1, c1, c2, hzr, Result.andThen], c3⟩
    ·exact ⟨_, by simp [Instr.lookup, run_underlying ht, MapKept.run_getObj_map m1, c1, c2, Result.andThen], c3⟩
   ·rename_i g ver
    obtain ⟨-, rfl, es', clock, m1, m2⟩ := J2a hp hes hx
    obtain ⟨c1, c2⟩ := core es es' es'.isEmpty m2 hko he
    rcases c2 with ⟨c2, c3⟩ | ⟨j, cv, c2, c3⟩
    ·exact ⟨_, by simp [Instr.lookup, run_underlying ht, MapKept.run_getObj_map m1, c1, c2, hzr, Result.andThen], c3⟩
    ·exact ⟨_, by simp [Instr.lookup, run_underlying ht, MapKept.run_getObj_map m1, c1, c2, Result.andThen], c3⟩
   ·cases hes
  ·cases he
 ·cases he
def mapW (w : World) (b : Nat) (new : Array MapEntry) (clock : Nat) : World := { w with heap := w.heap.setIfInBounds b (.map new clock) }
theorem map_set (hp : RepH w S h μ) {g ver : Nat} {es es2 : List (AV × AV)} (ho : h g = some (.map ver es false)) {old : Array MapEntry} {clock : Nat} (hb : w.heap[μ.b g]? = some (.map old clock)) {new : Array MapEntry} {clock' : Nat} (hn : EntsOK w S h μ es2 new.toList) :
  Ran w S h μ (.tup []) (upd h g (some (.map ver es2 false))) (.tuple #[]) (mapW w (μ.b g) new clock') := by
 have hlt : μ.b g < w.heap.size := (Array.getElem?_eq_some_iff.1 hb).1
 have oth : ∀ b, b ≠ μ.b g → (mapW w (μ.b g) new clock').heap[b]? = w.heap[b]? := fun b hne => by
  simp only [mapW, Array.getElem?_setIfInBounds]
  rw [if_neg (fun e => hne e.symm)]
 have same : (mapW w (μ.b g) new clock').heap[μ.b g]? = some (.map new clock') := by
  simp [mapW, hlt]
 have ev : Evo w S h μ (mapW w (μ.b g) new clock') S (upd h g (some (.map ver es2 false))) μ := by
  refine ⟨rfl, rfl, rfl, by simp [mapW], fun b _ hno => oth b fun e => hno ⟨g, _, ho, rfl, e.symm⟩, fun b cs el z hc => ⟨cs, ?_, rfl⟩, fun _ h => h, fun _ h => .inl h, fun b ⟨g', o', ho', hz, e⟩ => ?_⟩
  ·rw [oth b fun e => by rw [e, hb] at hc; cases hc]; exact hc
  ·by_cases hg : g' = g
   ·subst hg; exact .inl ⟨g', _, ho, rfl, e⟩
   ·rw [Qd _ _ _ _ hg] at ho'; exact .inl ⟨g', o', ho', hz, e⟩
 have vv : EvoV h μ (upd h g (some (.map ver es2 false))) μ := by
  intro g' o' ho'
  by_cases hg : g' = g
  ·subst hg
   rw [ho] at ho'
   cases ho'
   exact ⟨_, Yf _ _ _, Ah _, fun _ => ⟨⟨rfl, rfl⟩, by simp [AObj.like, AObj.kind]⟩⟩
  ·exact ⟨o', by rw [Qd _ _ _ _ hg]; exact ho', Ah _, fun _ => ⟨⟨rfl, rfl⟩, .refl o'⟩⟩
 refine ⟨S, μ, .pure (.tup [] #[] rfl fun i x hi => by simp at hi), ⟨fun g' o' ho' => ?_, fun g1 g2 o1 o2 h1 h2 e => ?_, fun g' o' ho' hz' hs => ?_, fun b hb' => by have := hp.lt b hb'; simpa [mapW] using this⟩, ev, vv⟩
 ·by_cases hg : g' = g
  ·subst hg
   rw [Yf] at ho'
   cases ho'
   refine ⟨new, clock', same, by simpa using hn.1, fun q => absurd q (by simp), fun i k v hi => ?_⟩
   obtain ⟨e, he, hk, hv⟩ := hn.2 i k v hi
   exact ⟨e, by simpa using he, hk.evo hp ev, hv.evo hp ev vv⟩
  ·rw [Qd _ _ _ _ hg] at ho'
   exact (hp.ob g' o' ho').evo hp ev vv (oth _ fun e => hg (hp.inj g' g o' _ ho' ho e))
 ·have key : ∀ g' o', upd h g (some (.map ver es2 false)) g' = some o' → ∃ o, h g' = some o := fun g' o' ho' => by
   by_cases hg : g' = g
   ·subst hg; exact ⟨_, ho⟩
   ·rw [Qd _ _ _ _ hg] at ho'; exact ⟨_, ho'⟩
  obtain ⟨p1, q1⟩ := key g1 o1 h1
  obtain ⟨p2, q2⟩ := key g2 o2 h2
  exact hp.inj g1 g2 p1 p2 q1 q2 e
 ·by_cases hg : g' = g
  ·subst hg; exact hp.own g' _ ho rfl hs
  ·rw [Qd _ _ _ _ hg] at ho'; exact hp.own g' o' ho' hz' hs
theorem Jrr (hp : RepH w S h μ) {t kt et : TypeId} {ag : Bool} {sh : List Bool} (ht : P.underlying t = some (.map kt et)) (hsh : eqSh P 6 kt = some sh) (hag : aggT P kt = some ag)
  {x k v : AV} {h' : Heap} {cx ck cv : Value} (hx : Rep w S h μ x cx) (hk : Rep w S h μ k ck) (hv : Rep w S h μ v cv) (he : setV h ag sh k v x = some h') :
  ∃ w', (Instr.mapUpdate t cx ck cv).run P w = .ok () w' ∧ Ran w S h μ (.tup []) h' (.tuple #[]) w' := by
 obtain ⟨d, hd⟩ := Jpx hsh
 unfold setV at he
 split at he
 ·rename_i g ver
  split at he
  ·rename_i es hes
   split at he
   ·rename_i hko
    obtain ⟨b, hb⟩ := Jpg hko
    obtain ⟨ho, rfl, es', clock, m1, m2⟩ := J2a hp hes hx
    have hck := Jxn (P := P) (w := w) false 6 10000 (by omega) hsh hag hk hb
    have hkp := Jsd hb hk
    unfold setE at he
    split at he
    ·rename_i r hr
     injection he with he
     subst he
     obtain ⟨f1, f2⟩ := Jmu (h := h) (μ := μ) hd hsh hag hkp m2 hr
     cases r with
     | none =>
      refine ⟨mapW w (μ.b g) (es'.push { key := ck, val := cv, born := clock }) (clock + 1), by simp [mapW, Instr.mapUpdate, run_underlying ht, MapKept.run_getObj_map m1, hck, f1, MapKept.run_setObj_map _ m1, Result.andThen], map_set hp ho m1 ⟨by simp [putM, m2.1], fun i k2 v2 hi => ?_⟩⟩
      simp only [putM] at hi
      by_cases hlt : i < es.length
      ·rw [Af hlt] at hi
       obtain ⟨e, he, h3⟩ := m2.2 i k2 v2 hi
       have := (Aa.1 he).1
       exact ⟨e, by simpa [Af this] using he, h3⟩
      ·rw [List.getElem?_append_right (by omega)] at hi
       have hie : i = es.length := by
        have := (Aa.1 hi).1
        simp at this; omega
       subst hie
       simp at hi
       obtain ⟨rfl, rfl⟩ := hi
       have hl2 : es'.size = es.length := by simpa using m2.1
       exact ⟨{ key := ck, val := cv, born := clock }, by simp [hl2], hkp, hv⟩
     | some j =>
      obtain ⟨k', v', e, g1, g2, g3, g4, g5⟩ := f2 j rfl
      have g2' : es'[j]? = some e := by simpa using g2
      have hbits := eqV_bits g5 hkp g3
      have hstay : (Instr.keyThatStays e.key ck).run P w = .ok ck w := by simp [Instr.keyThatStays, hbits]
      refine ⟨mapW w (μ.b g) (es'.modify j fun e => { e with key := ck, val := cv }) clock, by simp [mapW, Instr.mapUpdate, run_underlying ht, MapKept.run_getObj_map m1, hck, f1, g2', hstay, MapKept.run_setObj_map _ m1, Result.andThen], map_set hp ho m1 ⟨by simp [putM]; simpa using m2.1, fun i k2 v2 hi => ?_⟩⟩
      simp only [putM, List.getElem?_set] at hi
      split at hi
      ·rename_i hij
       subst hij
       split at hi
       ·simp at hi
        obtain ⟨rfl, rfl⟩ := hi
        exact ⟨{ e with key := ck, val := cv }, by simp [g2'], hkp, hv⟩
       ·cases hi
      ·rename_i hij
       obtain ⟨e2, he2, h3⟩ := m2.2 i k2 v2 hi
       have he2' : es'[i]? = some e2 := by simpa using he2
       exact ⟨e2, by simp [he2', hij], h3⟩
    ·cases he
   ·cases he
  ·cases he
 ·cases he
theorem Jy1 (hp : RepH w S h μ) {t kt et ty : TypeId} {ts : Array TypeId} (hts : ts[0]? = some t) {ag : Bool} {sh : List Bool} (ht : P.underlying t = some (.map kt et)) (hsh : eqSh P 6 kt = some sh) (hag : aggT P kt = some ag)
  {x k : AV} {h' : Heap} {cx ck : Value} (hx : Rep w S h μ x cx) (hk : Rep w S h μ k ck) (he : delV h ag sh k x = some h') :
  ∃ w', (Builtin.delete_ ts ty #[cx, ck]).run P w = .ok (.tuple #[]) w' ∧ Ran w S h μ (.tup []) h' (.tuple #[]) w' := by
 obtain ⟨d, hd⟩ := Jpx hsh
 unfold delV at he
 split at he
 ·rename_i g ver
  split at he
  ·rename_i es hes
   split at he
   ·rename_i hko
    obtain ⟨b, hb⟩ := Jpg hko
    obtain ⟨ho, rfl, es', clock, m1, m2⟩ := J2a hp hes hx
    have hck := Jxn (P := P) (w := w) es'.isEmpty 6 10000 (by omega) hsh hag hk hb
    have hkp := Jsd hb hk
    unfold delE at he
    split at he
    ·rename_i r hr
     injection he with he
     subst he
     obtain ⟨f1, f2⟩ := Jmu (h := h) (μ := μ) hd hsh hag hkp m2 hr
     cases r with
     | none =>
      refine ⟨mapW w (μ.b g) es' clock, by simp [mapW, Builtin.delete_, hts, run_underlying ht, MapKept.run_getObj_map m1, hck, f1, MapKept.run_setObj_map _ m1, Result.andThen], map_set hp ho m1 m2⟩
     | some j =>
      obtain ⟨k', v', e, g1, g2, g3, g4, g5⟩ := f2 j rfl
      have g2' : es'[j]? = some e := by simpa using g2
      refine ⟨mapW w (μ.b g) (es'.eraseIdxIfInBounds j) clock, by simp [mapW, Builtin.delete_, hts, run_underlying ht, MapKept.run_getObj_map m1, hck, f1, g2', MapKept.run_setObj_map _ m1, Result.andThen], map_set hp ho m1 ⟨?_, fun i k2 v2 hi => ?_⟩⟩
      ·have hj := (Array.getElem?_eq_some_iff.1 g2').1
       have hl := m2.1
       simp only [Array.length_toList] at hl
       simp only [outM, Array.length_toList, List.length_eraseIdx]
       rw [if_pos (by omega)]
       simp [Array.eraseIdxIfInBounds, hj]
       omega
      ·have hj := (Array.getElem?_eq_some_iff.1 g2').1
       have he3 : (es'.eraseIdxIfInBounds j).toList = es'.toList.eraseIdx j := by
        simp [Array.eraseIdxIfInBounds, hj]
       simp only [outM, Ac] at hi
       rw [he3]
       split at hi
       ·rename_i hij
        obtain ⟨e2, he2, h3⟩ := m2.2 i k2 v2 hi
        exact ⟨e2, by rw [Ac, if_pos hij]; exact he2, h3⟩
       ·rename_i hij
        obtain ⟨e2, he2, h3⟩ := m2.2 (i + 1) k2 v2 hi
        exact ⟨e2, by rw [Ac, if_neg hij]; exact he2, h3⟩
    ·cases he
   ·cases he
  ·cases he
 ·cases he
theorem J9e (hp : RepH w S h μ) {t kt et : TypeId} (_ : P.underlying t = some (.map kt et)) (g : Nat) :
  ∃ cv w', (Instr.makeMap t none).run P w = .ok cv w' ∧ Ran w S h μ (.map g (Kj h g)) (upd h g (some (.map (Kj h g) [] false))) cv w' := by
 obtain ⟨ev, vv⟩ := Jv4 (w := w) (S := S) (h := h) (μ := μ) g (.map (Kj h g) [] false) (.map #[] 0) (.inl rfl)
 refine ⟨.map (some w.heap.size), w.alloc (.map #[] 0), by simp [Instr.makeMap], S, _, ?_, Jxs hp (.inl rfl) ?_, ev, vv⟩
 ·exact .map g _ _ (.map (Kj h g) [] false) (Yf _ _ _) (Ah _) rfl fun _ => by simp [Gh.set, Yf]
 ·exact ⟨#[], 0, heap_alloc_new w (.map #[] 0), rfl, fun q => absurd q (by simp), fun i k v hi => by simp at hi⟩
end
end Go.Vv
