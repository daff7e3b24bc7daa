/- Names handed to a call come back. Conditions: none. -/
import Derived.Test.YtemehoioeoohmaaGreatVha
namespace Go.Vv
open Go
open List renaming mem_singleton → Aa, mem_cons_of_mem → Ab, mem_append → Ac, mem_cons_self → Ad, mem_append_left → Ae, mem_cons → Af
section
variable {w w' : World} {S S' : Nat → Prop} {h h1 : Heap} {μ μ1 : Gh}
def OffOK (y : Win) : AObj → Prop
 | .arr .. => y.off = 0
 | _ => True
def EntOK (pn : List Nat) (h h1 : Heap) (tb : List Win) (x : Win) : Prop :=
 x.off = 0 ∧ ∃ o1, h1 x.g = some o1 ∧
  ((∃ y ∈ tb, ∃ o, h y.g = some o ∧ x.g = y.nn ∧ x.nn = y.g ∧ o1.ver = 0 ∧ y.nn ∈ pn ∧ x.v = o.ver ∧ o.like o1 ∧ OffOK y o) ∨ (o1.fz = false ∧ ∀ o, h x.nn = some o → o.ver < x.v))
theorem Js3 {pn : List Nat} {tb : List Win} {y : Win} (hy : y ∈ tb) {l : List Win} (he : embO pn y (h y.g) (h1 y.nn) = some l) :
  ∃ x, l = [x] ∧ x.g = y.nn ∧ x.nn = y.g ∧ EntOK pn h h1 tb x := by
 cases ho : h y.g with
 | none => rw [ho] at he; simp [embO] at he
 | some o =>
  cases ho1 : h1 y.nn with
  | none => rw [ho, ho1] at he; cases o <;> simp [embO] at he
  | some o1 =>
   rw [ho, ho1] at he
   unfold embO at he
   split at he
   ·rename_i v _ _ e1 e2
    cases e1; cases e2
    split at he
    ·rename_i hc
     cases he
     exact ⟨_, rfl, rfl, rfl, rfl, _, ho1, .inl ⟨y, hy, _, ho, rfl, rfl, rfl, by simpa using hc, rfl, by simp [AObj.like, AObj.kind], trivial⟩⟩
    ·cases he
   ·rename_i v _ _ e1 e2
    cases e1; cases e2
    split at he
    ·rename_i hc
     cases he
     exact ⟨_, rfl, rfl, rfl, rfl, _, ho1, .inl ⟨y, hy, _, ho, rfl, rfl, rfl, by simpa using hc, rfl, by simp [AObj.like, AObj.kind], trivial⟩⟩
    ·cases he
   ·rename_i v e t c z e' t' c' z' e1 e2
    cases e1; cases e2
    split at he
    ·rename_i hc
     split at he
     ·rename_i hc2
      obtain ⟨rfl, rfl, h3, h4⟩ := hc2
      cases he
      exact ⟨_, rfl, rfl, rfl, rfl, _, ho1, .inl ⟨y, hy, _, ho, rfl, rfl, rfl, by simpa using hc, rfl, by simp [AObj.like], h3⟩⟩
     ·cases he
    ·split at he
     ·rename_i hc2
      obtain ⟨rfl, rfl⟩ := hc2
      cases he
      refine ⟨_, rfl, rfl, rfl, rfl, _, ho1, .inr ⟨rfl, fun o2 h2 => ?_⟩⟩
      simp only at h2
      rw [ho] at h2
      cases h2
      exact Nat.lt_succ_self _
     ·cases he
   ·cases he
structure EInv (pn : List Nat) (h h1 : Heap) (tb E : List Win) : Prop where
 ent : ∀ x ∈ E, EntOK pn h h1 tb x
 nd : ∀ x y, x ∈ E → y ∈ E → x.g = y.g → x = y
theorem Jwu {pn : List Nat} : ∀ {L E : List Win}, embT pn h h1 L = some E → (∀ x ∈ E, ∃ y ∈ L, ∃ l, embO pn y (h y.g) (h1 y.nn) = some l ∧ x ∈ l) ∧ ∀ y ∈ L, ∃ l, embO pn y (h y.g) (h1 y.nn) = some l ∧ ∀ x ∈ l, x ∈ E
 | [], E, he => by
  cases he
  exact ⟨fun _ hx => (by cases hx), fun _ hx => (by cases hx)⟩
 | y :: r, E, he => by
  simp only [embT] at he
  split at he
  ·rename_i l m h2 h3
   cases he
   obtain ⟨a, b⟩ := Jwu h3
   refine ⟨fun x hx => ?_, fun z hz => ?_⟩
   ·rcases Ac.1 hx with hx | hx
    ·exact ⟨y, Ad .., l, h2, hx⟩
    ·obtain ⟨z, hz, h4⟩ := a x hx
     exact ⟨z, Ab _ hz, h4⟩
   ·rcases Af.1 hz with hz | hz
    ·exact ⟨l, by rw [hz]; exact h2, fun x hx => Ae _ hx⟩
    ·obtain ⟨l', h4, h5⟩ := b z hz
     exact ⟨l', h4, fun x hx => List.mem_append_right _ (h5 x hx)⟩
  ·cases he
theorem embT_ok {pn : List Nat} {tb E : List Win} (hi : ∀ x y, x ∈ tb → y ∈ tb → x.nn = y.nn → x = y) (he : embT pn h h1 tb = some E) :
  EInv pn h h1 tb E ∧ ∀ y ∈ tb, ∃ x ∈ E, x.nn = y.g ∧ x.g = y.nn := by
 obtain ⟨a, b⟩ := Jwu he
 refine ⟨⟨fun x hx => ?_, fun x x' hx hx' e => ?_⟩, fun y hy => ?_⟩
 ·obtain ⟨y, hy, l, h2, h3⟩ := a x hx
  obtain ⟨x', rfl, -, -, h4⟩ := Js3 hy h2
  rw [Aa] at h3
  rw [h3]; exact h4
 ·obtain ⟨y, hy, l, h2, h3⟩ := a x hx
  obtain ⟨y', hy', l', h2', h3'⟩ := a x' hx'
  obtain ⟨z, rfl, hz, -, -⟩ := Js3 hy h2
  obtain ⟨z', rfl, hz', -, -⟩ := Js3 hy' h2'
  rw [Aa] at h3 h3'
  subst h3 h3'
  have := hi y y' hy hy' (by rw [← hz, ← hz', e])
  subst this
  rw [h2] at h2'
  simpa using h2'
 ·obtain ⟨l, h2, h3⟩ := b y hy
  obtain ⟨z, rfl, hz, hz2, -⟩ := Js3 hy h2
  exact ⟨z, h3 z (Aa.2 rfl), hz2, hz⟩
theorem J3q {pn : List Nat} {tb E E' : List Win} {g j n len : Nat} (hE : EInv pn h h1 tb E) (he : embA h g j E n len (h1 n) = some E') : EInv pn h h1 tb E' ∧ ∀ x ∈ E, x ∈ E' := by
 cases ho : h1 n with
 | none => rw [ho] at he; simp only [embA] at he; cases he; exact ⟨hE, fun _ hx => hx⟩
 | some o1 =>
  rw [ho] at he
  unfold embA at he
  split at he
  ·rename_i e t c heq
   cases heq
   split at he
   ·rename_i hf
    cases he
    refine ⟨⟨fun x hx => ?_, fun x y hx hy e => ?_⟩, fun x hx => Ae _ hx⟩
    ·rcases Ac.1 hx with hx | hx
     ·exact hE.ent x hx
     ·rw [Aa] at hx
      subst hx
      refine ⟨rfl, _, ho, .inr ⟨rfl, fun o h2 => ?_⟩⟩
      simp only at h2 ⊢
      simp only [Kj, h2]
      omega
    ·rcases Ac.1 hx with hx | hx <;> rcases Ac.1 hy with hy | hy
     ·exact hE.nd x y hx hy e
     ·rw [Aa] at hy; exact (Jjq hf x hx (by rw [e, hy])).elim
     ·rw [Aa] at hx; exact (Jjq hf y hy (by rw [← e, hx])).elim
     ·rw [Aa] at hx hy; rw [hx, hy]
   ·cases he
    exact ⟨hE, fun _ hx => hx⟩
  ·cases he
   exact ⟨hE, fun _ hx => hx⟩
theorem Jvj {pn : List Nat} {tb : List Win} {g : Nat} : ∀ (l : List AV) (j : Nat) {E E' : List Win}, EInv pn h h1 tb E → embC h h1 g j l E = some E' → EInv pn h h1 tb E' ∧ ∀ x ∈ E, x ∈ E'
 | [], j, E, E', hE, he => by
  cases he
  exact ⟨hE, fun _ hx => hx⟩
 | y :: r, j, E, E', hE, he => by
  simp only [embC] at he
  split at he
  ·rename_i E1 h2
   have : EInv pn h h1 tb E1 ∧ ∀ x ∈ E, x ∈ E1 := by
    unfold embV at h2
    split at h2
    ·exact J3q hE h2
    ·cases h2; exact ⟨hE, fun _ hx => hx⟩
   obtain ⟨a, b⟩ := this
   obtain ⟨c, d⟩ := Jvj r (j + 1) a he
   exact ⟨c, fun x hx => d x (b x hx)⟩
  ·cases he
theorem J84 {pn : List Nat} {tb : List Win} : ∀ (L : List Win) {E E' : List Win}, EInv pn h h1 tb E → embB h h1 L E = some E' → EInv pn h h1 tb E' ∧ ∀ x ∈ E, x ∈ E'
 | [], E, E', hE, he => by
  cases he
  exact ⟨hE, fun _ hx => hx⟩
 | y :: r, E, E', hE, he => by
  simp only [embB] at he
  split at he
  ·rename_i E1 h2
   have : EInv pn h h1 tb E1 ∧ ∀ x ∈ E, x ∈ E1 := by
    unfold embX at h2
    split at h2
    ·split at h2
     ·cases h2; exact ⟨hE, fun _ hx => hx⟩
     ·exact Jvj _ 0 hE h2
    ·cases h2; exact ⟨hE, fun _ hx => hx⟩
   obtain ⟨a, b⟩ := this
   obtain ⟨c, d⟩ := J84 r a he
   exact ⟨c, fun x hx => d x (b x hx)⟩
  ·cases he
theorem like_ren {E : List Win} {x : Win} {o o1 : AObj} (hl : o.like o1) : o.like (renO h1 E x o1) := by
 cases o <;> cases o1 <;> simp_all [AObj.like, AObj.kind, renO]
theorem J8p {E0 : List Win} {x : Win} {o1 : AObj} (ho : h1 x.g = some o1) : ∀ {E : List Win}, (∀ x y, x ∈ E → y ∈ E → x.nn = y.nn → x = y) → x ∈ E → updR h1 E0 E h x.nn = some (renO h1 E0 x o1)
 | [], _, hx => by cases hx
 | y :: r, hi, hx => by
  simp only [updR]
  by_cases e : x.nn = y.nn
  ·have := hi x y hx (Ad ..) e
   subst this
   rw [Yf, ho]
   rfl
  ·rw [Qd _ _ _ _ e]
   rcases Af.1 hx with hx | hx
   ·exact (e (by rw [hx])).elim
   ·exact J8p ho (fun a b ha hb => hi a b (Ab _ ha) (Ab _ hb)) hx
theorem Jxe {E0 : List Win} {g : Nat} : ∀ {E : List Win}, (∀ x ∈ E, x.nn ≠ g) → updR h1 E0 E h g = h g
 | [], _ => rfl
 | y :: r, hn => by
  simp only [updR]
  rw [Qd _ _ _ _ (fun e => hn y (Ad ..) e.symm), Jxe fun x hx => hn x (Ab _ hx)]
theorem Jlp {n : Nat} : ∀ {L : List Win}, Ji6 L n = none → ∀ x ∈ L, x.nn ≠ n
 | [], _, x, hx => by cases hx
 | y :: r, he, x, hx => by
  simp only [Ji6] at he
  split at he
  ·cases he
  ·rename_i ne
   rcases Af.1 hx with hx | hx
   ·rw [hx]; exact ne
   ·exact Jlp he x hx
def mu2 (μ μ1 : Gh) (h1 : Heap) (E : List Win) : Gh := ⟨fun g => muB μ1 (Ji6 E g) (μ.b g), fun g => muO μ1 h1 (Ji6 E g) (μ.o g)⟩
theorem embV_ok {pn : List Nat} {tb E E' : List Win} {g j : Nat} {y : AV} (hE : EInv pn h h1 tb E) (he : embV h h1 g j E y = some E') : EInv pn h h1 tb E' ∧ ∀ x ∈ E, x ∈ E' := by
 unfold embV at he
 split at he
 ·exact J3q hE he
 ·cases he; exact ⟨hE, fun _ hx => hx⟩
theorem embW_ok {pn : List Nat} {tb E E' : List Win} {f : FuncId} {v : AV} (hE : EInv pn h h1 tb E) (he : embW h h1 f E v = some E') : EInv pn h h1 tb E' ∧ ∀ x ∈ E, x ∈ E' := by
 unfold embW at he
 split at he
 ·exact Jvj _ 0 hE he
 ·exact embV_ok hE he
theorem back_ok {pn : List Nat} {tb E : List Win} {τ : St} {μτ : Gh} (hp : RepH w S h μ) (_htb : TbOK h tb) (hi : ∀ x y, x ∈ tb → y ∈ tb → x.nn = y.nn → x = y) (hmt : Maps h μ τ.h μτ tb)
  (hown : ∀ g o, τ.h g = some o → ∃ x ∈ tb, x.nn = g ∧ ∃ o1, h x.g = some o1 ∧ o.fz = o1.fz) (ev0 : Evo w S h μ w S τ.h μτ) (hp1 : RepH w' S' h1 μ1) (ev1 : Evo w S τ.h μτ w' S' h1 μ1) (hpin : PinOK pn h1 μ1 μτ)
  {fu : FuncId} {v0 : AV} (hE0 : embR h h1 fu v0 (embH pn h h1 tb) = some E) (hnn : nnB E [] = true) {v : AV} {cv : Value} (hv : Rep w' S' h1 μ1 v cv) : Ran w S h μ (ren h1 E v) (updR h1 E E h) cv w' := by
 cases hE : embH pn h h1 tb with
 | none => rw [hE] at hE0; cases hE0
 | some E2 =>
 rw [hE] at hE0
 have hE0 : embW h h1 fu E2 v0 = some E := hE0
 unfold embH at hE
 split at hE
 ·rename_i E1 hE1
  obtain ⟨i1, c1⟩ := embT_ok hi hE1
  obtain ⟨i2', c2'⟩ := J84 tb i1 hE
  obtain ⟨i2, c3⟩ := embW_ok i2' hE0
  have c2 : ∀ x ∈ E1, x ∈ E := fun x hx => c3 x (c2' x hx)
  obtain ⟨-, ninj⟩ := Jw4 hnn
  have cov : ∀ y ∈ tb, ∃ x ∈ E, x.nn = y.g ∧ x.g = y.nn := fun y hy => by
   obtain ⟨x, hx, h2⟩ := c1 y hy
   exact ⟨x, c2 x hx, h2⟩
  have inn : ∀ x ∈ E, ∀ o1, h1 x.g = some o1 → updR h1 E E h x.nn = some (renO h1 E x o1) := fun x hx o1 ho => J8p ho ninj hx
  have mb : ∀ x ∈ E, (mu2 μ μ1 h1 E).b x.nn = μ1.b x.g := fun x hx => by simp only [mu2, Jln ninj hx, muB]
  have mo : ∀ x ∈ E, (mu2 μ μ1 h1 E).o x.nn = μ1.o x.g := fun x hx => by
   simp only [mu2, Jln ninj hx, muO, (i2.ent x hx).1]
   split <;> simp
  have nb : ∀ g, Ji6 E g = none → updR h1 E E h g = h g ∧ (mu2 μ μ1 h1 E).b g = μ.b g ∧ (mu2 μ μ1 h1 E).o g = μ.o g := fun g hg => by
   refine ⟨Jxe (Jlp hg), ?_, ?_⟩
   ·simp only [mu2, hg, muB]
   ·simp only [mu2, hg, muO]
  have hm : Maps h1 μ1 (updR h1 E E h) (mu2 μ μ1 h1 E) E := fun x hx o ho => by
   refine ⟨inn x hx o ho, mb x hx, ?_, ?_⟩
   ·rw [mo x hx, (i2.ent x hx).1]
    cases o <;> simp
   ·cases o <;> simp [J40, (i2.ent x hx).1]
  have tauOwn : ∀ b, Own τ.h μτ b → ∃ y ∈ tb, ∃ o1, h y.g = some o1 ∧ o1.fz = false ∧ μ.b y.g = b := fun b ⟨g, o, ho, hz, e⟩ => by
   obtain ⟨y, hy, rfl, o1, ho1, hzz⟩ := hown g o ho
   exact ⟨y, hy, o1, ho1, by rw [← hzz]; exact hz, by rw [← (hmt y hy o1 ho1).2.1]; exact e⟩
  have same : ∀ x ∈ E, ∀ o1, h1 x.g = some o1 → (∃ o, h x.nn = some o ∧ x.v = o.ver ∧ o.like o1 ∧ μ1.b x.g = μ.b x.nn ∧ μ1.o x.g = μ.o x.nn) ∨ (o1.fz = false ∧ ∀ o, h x.nn = some o → o.ver < x.v) := fun x hx o1 ho1 => by
   obtain ⟨-, o2, ho2, hc⟩ := i2.ent x hx
   rw [ho1] at ho2
   cases ho2
   rcases hc with ⟨y, hy, o, ho, e1, e2, e3, e4, e5, e6, e7⟩ | hc
   ·left
    obtain ⟨o2, ho2, hpp⟩ := hpin y.nn e4
    rw [← e1, ho1] at ho2
    cases ho2
    obtain ⟨p1, p2⟩ := hpp e3
    obtain ⟨-, q1, q2, -⟩ := hmt y hy o ho
    refine ⟨o, by rw [e2]; exact ho, e5, e6, by rw [e1, e2, p1, q1], ?_⟩
    rw [e1, e2, p2, q2]
    cases o <;> simp_all [OffOK]
   ·exact .inr hc
  have evT : Evo w S h μ w' S' h1 μ1 := ev0.trans ev1
  have ev2 : Evo w S h μ w' S' (updR h1 E E h) (mu2 μ μ1 h1 E) := by
   refine ⟨evT.os, evT.tape, evT.output, evT.size, evT.keep, evT.shape, evT.st, evT.st2, fun b ⟨g, o, ho, hz, e⟩ => ?_⟩
   cases hg : Ji6 E g with
   | none =>
    obtain ⟨n1, n2, -⟩ := nb g hg
    rw [n1] at ho
    rw [n2] at e
    exact .inl ⟨g, o, ho, hz, e⟩
   | some x =>
    obtain ⟨hx, rfl⟩ := Jfn hg
    obtain ⟨-, o1, ho1, -⟩ := i2.ent x hx
    rw [inn x hx o1 ho1] at ho
    cases ho
    rw [Jqa] at hz
    rw [mb x hx] at e
    exact evT.ow b ⟨x.g, o1, ho1, hz, e⟩
  have vv2 : EvoV h μ (updR h1 E E h) (mu2 μ μ1 h1 E) := by
   intro g o ho
   cases hg : Ji6 E g with
   | none =>
    obtain ⟨n1, n2, n3⟩ := nb g hg
    exact ⟨o, by rw [n1]; exact ho, Nat.le_refl _, fun _ => ⟨⟨n2, n3⟩, .refl o⟩⟩
   | some x =>
    obtain ⟨hx, rfl⟩ := Jfn hg
    obtain ⟨-, o1, ho1, -⟩ := i2.ent x hx
    refine ⟨_, inn x hx o1 ho1, ?_, ?_⟩
    ·rw [Jnf]
     rcases same x hx o1 ho1 with ⟨o2, h2, h3, -⟩ | ⟨-, h3⟩
     ·rw [ho] at h2; cases h2; omega
     ·have := h3 o ho; omega
    ·rw [Jnf]
     intro e
     rcases same x hx o1 ho1 with ⟨o2, h2, h3, h4, h5, h6⟩ | ⟨-, h3⟩
     ·rw [ho] at h2
      cases h2
      exact ⟨⟨by rw [mb x hx]; exact h5, by rw [mo x hx]; exact h6⟩, like_ren h4⟩
     ·have := h3 o ho; omega
  have noTau : ∀ g o, h g = some o → Ji6 E g = none → ¬ Own τ.h μτ (μ.b g) := fun g o ho hg hown' => by
   obtain ⟨y, hy, o1, ho1, -, e⟩ := tauOwn _ hown'
   have := hp.inj y.g g o1 o ho1 ho e
   obtain ⟨x, hx, hx2, -⟩ := cov y hy
   exact Jlp hg x hx (by rw [hx2, this])
  have cross : ∀ x ∈ E, ∀ g o, h g = some o → Ji6 E g = none → μ1.b x.g ≠ μ.b g := fun x hx g o ho hg e => by
   obtain ⟨-, o1, ho1, -⟩ := i2.ent x hx
   rcases same x hx o1 ho1 with ⟨o2, h2, -, -, h5, -⟩ | ⟨hz, -⟩
   ·rw [h5] at e
    have := hp.inj x.nn g o2 o h2 ho e
    exact Jlp hg x hx this
   ·rcases ev1.ow _ ⟨x.g, o1, ho1, hz, rfl⟩ with h3 | h3
    ·rw [e] at h3; exact noTau g o ho hg h3
    ·have := (hp.ob g o ho).lt; omega
  refine ⟨S', mu2 μ μ1 h1 E, Jn4 hm hv, ⟨fun g o ho => ?_, fun g g' o o' ho ho' e => ?_, fun g o ho hz hb => ?_, hp1.lt⟩, ev2, vv2⟩
  ·cases hg : Ji6 E g with
   | none =>
    obtain ⟨n1, n2, n3⟩ := nb g hg
    rw [n1] at ho
    rw [n2, n3]
    exact (hp.ob g o ho).evo hp ev2 vv2 (ev1.keep _ (hp.ob g o ho).lt (noTau g o ho hg))
   | some x =>
    obtain ⟨hx, rfl⟩ := Jfn hg
    obtain ⟨-, o1, ho1, -⟩ := i2.ent x hx
    rw [inn x hx o1 ho1] at ho
    cases ho
    exact Jw5 hm hx ho1 (hp1.ob x.g o1 ho1)
  ·cases hg : Ji6 E g with
   | none =>
    obtain ⟨n1, n2, -⟩ := nb g hg
    cases hg' : Ji6 E g' with
    | none =>
     obtain ⟨n1', n2', -⟩ := nb g' hg'
     rw [n1] at ho; rw [n1'] at ho'; rw [n2, n2'] at e
     exact hp.inj g g' o o' ho ho' e
    | some x =>
     obtain ⟨hx, rfl⟩ := Jfn hg'
     rw [n1] at ho
     rw [n2, mb x hx] at e
     exact (cross x hx g o ho hg e.symm).elim
   | some x =>
    obtain ⟨hx, rfl⟩ := Jfn hg
    obtain ⟨-, o1, ho1, -⟩ := i2.ent x hx
    cases hg' : Ji6 E g' with
    | none =>
     obtain ⟨n1', n2', -⟩ := nb g' hg'
     rw [n1'] at ho'
     rw [n2', mb x hx] at e
     exact (cross x hx g' o' ho' hg' e).elim
    | some y =>
     obtain ⟨hy, rfl⟩ := Jfn hg'
     obtain ⟨-, o2, ho2, -⟩ := i2.ent y hy
     rw [mb x hx, mb y hy] at e
     rw [i2.nd x y hx hy (hp1.inj x.g y.g o1 o2 ho1 ho2 e)]
  ·cases hg : Ji6 E g with
   | none =>
    obtain ⟨n1, n2, -⟩ := nb g hg
    rw [n1] at ho
    rw [n2] at hb
    rcases ev1.st2 _ hb with h3 | h3 | h3
    ·exact hp.own g o ho hz h3
    ·have := (hp.ob g o ho).lt; omega
    ·exact noTau g o ho hg h3
   | some x =>
    obtain ⟨hx, rfl⟩ := Jfn hg
    obtain ⟨-, o1, ho1, -⟩ := i2.ent x hx
    rw [inn x hx o1 ho1] at ho
    cases ho
    rw [Jqa] at hz
    rw [mb x hx] at hb
    exact hp1.own x.g o1 ho1 hz hb
 ·cases hE
end
end Go.Vv
