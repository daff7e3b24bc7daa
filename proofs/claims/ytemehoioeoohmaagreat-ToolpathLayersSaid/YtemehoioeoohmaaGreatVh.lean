/- What the heap holds, read as a value; slots and names that are dropped; a slot that is written. Conditions: none. -/
import Derived.Test.YtemehoioeoohmaaGreatVgm
namespace Go.Vv
open Go
open Prod.mk renaming injEq → Aa
open Option renaming map_eq_some_iff → Ab
open List renaming getElem?_eq_getElem → Ac, mem_of_getElem? → Ad, getElem?_eq_some_iff → Ae, getElem?_map → Af, all_eq_true → Ag, mem_flatMap → Ah, mem_cons_of_mem → Aj, getElem?_of_mem → Ak
open Nat renaming le_refl → Ai
theorem Jgd {α β : Type} {f : α → Option β} : ∀ {l : List α} {ps : List β}, l.mapM f = some ps → ps.length = l.length ∧ ∀ (i : Nat) (x : α), l[i]? = some x → ∃ p, ps[i]? = some p ∧ f x = some p
 | [], ps, h => by simp at h; subst h; exact ⟨rfl, fun i x hi => by simp at hi⟩
 | x :: l, ps, h => by
  rw [List.mapM_cons] at h
  cases hx : f x with
  | none => rw [hx] at h; cases h
  | some y =>
   cases hl : l.mapM f with
   | none => rw [hx, hl] at h; cases h
   | some qs =>
    rw [hx, hl] at h
    injection h with h
    subst h
    obtain ⟨h1, h2⟩ := Jgd hl
    refine ⟨by simp [h1], fun i z hi => ?_⟩
    cases i with
    | zero => simp at hi; subst hi; exact ⟨y, rfl, hx⟩
    | succ i => simpa using h2 i z (by simpa using hi)
section
variable {w : World} {S : Nat → Prop} {h : Heap} {μ : Gh}
theorem Rep.flat {x : AV} {v : Value} (hr : Rep w S h μ x v) (hf : x.flat = true) : RepP w S x v := by
 cases hr with
 | pure hp => exact hp
 | any => simp [AV.flat] at hf
 | fn => simp [AV.flat] at hf
 | agg => simp [AV.flat] at hf
 | tup => simp [AV.flat] at hf
 | arr => simp [AV.flat] at hf
 | ptr => simp [AV.flat] at hf
 | map => simp [AV.flat] at hf
theorem Jnh : ∀ {l : List AV}, Jtj l = true → ∀ (i : Nat) (x : AV), l[i]? = some x → x.noNm = true
 | [], _, i, x, hx => by simp at hx
 | v :: r, hf, i, x, hx => by
  simp only [Jtj, Bool.and_eq_true] at hf
  cases i with
  | zero => simp at hx; subst hx; exact hf.1
  | succ i => exact Jnh hf.2 i x (by simpa using hx)
theorem Rep.noNm {x : AV} {v : Value} (hr : Rep w S h μ x v) (hf : x.noNm = true) : RepP w S x v := by
 induction hr with
 | pure hp => exact hp
 | any => simp [AV.noNm] at hf
 | fn f l cs hl hr ih => exact .fn f l cs hl fun i x hi => ih i x hi (Jnh (by simpa only [AV.noNm] using hf) i x hi)
 | agg l cs hl h1 hr ih => exact .agg l cs hl h1 fun i x hi => ih i x hi (Jnh (by simpa only [AV.noNm] using hf) i x hi)
 | tup l cs hl hr ih => exact .tup l cs hl fun i x hi => ih i x hi (Jnh (by simpa only [AV.noNm] using hf) i x hi)
 | arr => simp [AV.noNm] at hf
 | ptr => simp [AV.noNm] at hf
 | map => simp [AV.noNm] at hf
def Met (S' : Nat → Prop) (μ : Gh) (ns : List Nat) : Prop := ∀ g, g ∈ ns → S' (μ.b g)
theorem Je0 (hp : RepH w S h μ) {S' : Nat → Prop} (hS : ∀ b, S b → S' b) : ∀ (k : Nat) {v u : AV} {ns : List Nat} {c : Value}, snap h k v = some (u, ns) → Rep w S h μ v c → Met S' μ ns → RepP w S' u c
 | 0, v, u, ns, c, hs, _, _ => by simp [snap] at hs
 | k + 1, v, u, ns, c, hs, hr, hm => by
  have lst : ∀ {l : List AV} {ps : List (AV × List Nat)}, l.mapM (snap h k) = some ps → (∀ g, g ∈ ps.flatMap (·.2) → g ∈ ns) →
    (ps.map (·.1)).length = l.length ∧ ∀ (i : Nat) (y : AV), (ps.map (·.1))[i]? = some y → ∃ x, l[i]? = some x ∧ ∀ c, Rep w S h μ x c → RepP w S' y c := by
   intro l ps hl hsub
   obtain ⟨h1, h2⟩ := Jgd hl
   refine ⟨by simp [h1], fun i y hi => ?_⟩
   rw [Af] at hi
   cases hpi : ps[i]? with
   | none => rw [hpi] at hi; cases hi
   | some p =>
    rw [hpi] at hi
    injection hi with hi
    have hlt : i < l.length := by have := (Ae.1 hpi).1; omega
    obtain ⟨p', hp1, hp2⟩ := h2 i l[i] (Ac hlt)
    rw [hpi] at hp1
    injection hp1 with hp1
    subst hp1
    refine ⟨l[i], Ac hlt, fun c hc => ?_⟩
    subst hi
    exact Je0 hp hS k (u := p.1) (ns := p.2) hp2 hc (fun g hg => hm g (hsub g (Ah.2 ⟨p, Ad hpi, hg⟩)))
  unfold snap at hs
  split at hs
  ·cases hs
  ·cases hs
  ·rename_i g ver
   split at hs
   ·rename_i ver' es ho
    split at hs
    ·rename_i hc
     obtain ⟨rfl, hfl⟩ := hc
     injection hs with hs
     simp only [Aa] at hs
     obtain ⟨rfl, rfl⟩ := hs
     obtain ⟨es', clock, hb, hsz, -, hh⟩ := hp.ob g _ ho
     rw [hr.map_inv ho]
     refine .mpr _ _ (μ.b g) es' clock (hm g (by simp)) hb (by simp [hsz]) (by simp [hsz]) (fun i x e hx he => ?_) (fun i x e hx he => ?_)
     ·rw [Af] at hx
      cases hi : es[i]? with
      | none => rw [hi] at hx; cases hx
      | some p =>
       rw [hi] at hx
       cases hx
       obtain ⟨e', he', h1, h2⟩ := hh i p.1 p.2 hi
       rw [he] at he'
       cases he'
       exact h1.mono hS (fun _ _ => rfl)
     ·rw [Af] at hx
      cases hi : es[i]? with
      | none => rw [hi] at hx; cases hx
      | some p =>
       rw [hi] at hx
       cases hx
       obtain ⟨e', he', h1, h2⟩ := hh i p.1 p.2 hi
       rw [he] at he'
       cases he'
       exact (h2.noNm (Ag.1 hfl p (Ad hi))).mono hS (fun _ _ => rfl)
    ·cases hs
   ·cases hs
  ·rename_i g ver off len
   split at hs
   ·rename_i ver' esz el cells fz ho
    split at hs
    ·rename_i hc
     obtain ⟨rfl, hle⟩ := hc
     obtain ⟨a, cap, cs0, el0, z0, rfl, hlc, hb0, hsz0, ha⟩ := hr.arr_inv ho
     obtain ⟨cs, hb, hsz, hh, _⟩ := hp.ob g _ ho
     have key : ∀ i x, (cut cells (off * esz) (len * esz))[i]? = some x → 0 < cap ∧ cells[off * esz + i]? = some x ∧ w.cell? (a.add i) = some (cs.getD (μ.o g + (off * esz + i)) undef) := by
      intro i x hi
      simp only [cut, List.getElem?_take, List.getElem?_drop] at hi
      split at hi
      ·rename_i hlt
       have hpos : 0 < cap := by
        rcases Nat.eq_zero_or_pos len with h0 | h0
        ·rw [h0, Nat.zero_mul] at hlt; omega
        ·omega
       have hlt2 : μ.o g + (off * esz + i) < cs.size := by have := (Ae.1 hi).1; omega
       exact ⟨hpos, hi, by rw [ha hpos, Jnl hb, Nat.add_assoc, getD_some hlt2]⟩
      ·cases hi
     simp only at hs
     split at hs
     ·rename_i hflat
      injection hs with hs
      simp only [Aa] at hs
      obtain ⟨rfl, rfl⟩ := hs
      refine .lst _ _ _ _ (fun i => cs.getD (μ.o g + (off * esz + i)) undef) (fun hne => ?_) hlc (fun i x hi => (key i x hi).2.2) (fun i x hi => (hh _ x (key i x hi).2.1).2) (fun i x hi => ?_)
      ·cases hcut : cut cells (off * esz) (len * esz) with
       | nil => exact (hne hcut).elim
       | cons x r => rw [ha (key 0 x (by rw [hcut]; rfl)).1]; exact hm g (by simp)
      ·have hf := Ag.1 hflat x (Ad hi)
       exact ((hh _ x (key i x hi).2.1).1.flat hf).mono hS (fun _ _ => rfl)
     ·split at hs
      ·rename_i ps hps
       injection hs with hs
       simp only [Aa] at hs
       obtain ⟨rfl, rfl⟩ := hs
       obtain ⟨h1, h2⟩ := lst hps (fun g' hg' => Aj _ hg')
       have key2 : ∀ i y, (ps.map (·.1))[i]? = some y → ∃ x, (cut cells (off * esz) (len * esz))[i]? = some x ∧ ∀ c, Rep w S h μ x c → RepP w S' y c := h2
       refine .lst _ _ _ _ (fun i => cs.getD (μ.o g + (off * esz + i)) undef) (fun hne => ?_) hlc (fun i y hi => ?_) (fun i y hi => ?_) (fun i y hi => ?_)
       ·cases hcut : ps.map (·.1) with
        | nil => exact (hne hcut).elim
        | cons x r =>
         obtain ⟨x', hx', _⟩ := key2 0 x (by rw [hcut]; rfl)
         rw [ha (key 0 x' hx').1]; exact hm g (by simp)
       ·obtain ⟨x, hx, _⟩ := key2 i y hi; exact (key i x hx).2.2
       ·obtain ⟨x, hx, _⟩ := key2 i y hi; exact (hh _ x (key i x hx).2.1).2
       ·obtain ⟨x, hx, hxr⟩ := key2 i y hi; exact hxr _ (hh _ x (key i x hx).2.1).1
      ·cases hs
    ·cases hs
   ·cases hs
  ·rename_i f caps
   split at hs
   ·rename_i ps hps
    injection hs with hs
    simp only [Aa] at hs
    obtain ⟨rfl, rfl⟩ := hs
    obtain ⟨h1, h2⟩ := lst hps (fun g' hg' => hg')
    obtain ⟨cs, rfl, hl, hh⟩ := hr.fn_inv
    exact .fn _ _ cs (by omega) (fun i y hi => by obtain ⟨x, hx, hxr⟩ := h2 i y hi; exact hxr _ (hh i x hx))
   ·cases hs
  ·rename_i l
   split at hs
   ·rename_i hflat
    injection hs with hs
    simp only [Aa] at hs
    obtain ⟨rfl, rfl⟩ := hs
    obtain ⟨cs, rfl, hl, hh⟩ := hr.agg_inv
    exact .agg _ cs hl (fun i x hi => (hh i x hi).2) (fun i x hi => ((hh i x hi).1.flat (Ag.1 hflat x (Ad hi))).mono hS (fun _ _ => rfl))
   ·split at hs
    ·rename_i ps hps
     injection hs with hs
     simp only [Aa] at hs
     obtain ⟨rfl, rfl⟩ := hs
     obtain ⟨h1, h2⟩ := lst hps (fun g' hg' => hg')
     obtain ⟨cs, rfl, hl, hh⟩ := hr.agg_inv
     exact .agg _ cs (by omega) (fun i y hi => by obtain ⟨x, hx, _⟩ := h2 i y hi; exact (hh i x hx).2) (fun i y hi => by obtain ⟨x, hx, hxr⟩ := h2 i y hi; exact hxr _ (hh i x hx).1)
    ·cases hs
  ·rename_i l
   split at hs
   ·rename_i ps hps
    injection hs with hs
    simp only [Aa] at hs
    obtain ⟨rfl, rfl⟩ := hs
    obtain ⟨h1, h2⟩ := lst hps (fun g' hg' => hg')
    obtain ⟨cs, rfl, hl, hh⟩ := hr.tup_inv
    exact .tup _ cs (by omega) (fun i y hi => by obtain ⟨x, hx, hxr⟩ := h2 i y hi; exact hxr _ (hh i x hx))
   ·cases hs
  ·rename_i x1 x2 x3 x4 x5 x6 x7
   injection hs with hs
   simp only [Aa] at hs
   obtain ⟨rfl, rfl⟩ := hs
   cases hr with
   | pure hp' => exact hp'.mono hS (fun _ _ => rfl)
   | any => exact (x1 rfl).elim
   | fn => exact (x5 _ _ rfl).elim
   | agg => exact (x6 _ rfl).elim
   | tup => exact (x7 _ rfl).elim
   | arr => exact (x4 _ _ _ _ rfl).elim
   | ptr => exact (x2 _ _ _ rfl).elim
   | map => exact (x3 _ _ rfl).elim
theorem Jea : ∀ (k : Nat) {v u : AV} {ns : List Nat}, snap h k v = some (u, ns) → ∀ g ∈ ns, ∃ o, h g = some o ∧ o.freeze.fz = true
 | 0, v, u, ns, hs => by simp [snap] at hs
 | k + 1, v, u, ns, hs => by
  have lst : ∀ {l : List AV} {ps : List (AV × List Nat)}, l.mapM (snap h k) = some ps → ∀ g ∈ ps.flatMap (·.2), ∃ o, h g = some o ∧ o.freeze.fz = true := by
   intro l ps hl g hg
   obtain ⟨h1, h2⟩ := Jgd hl
   obtain ⟨p, hp, hg⟩ := Ah.1 hg
   obtain ⟨i, hi⟩ := Ak hp
   have hlt : i < l.length := by have := (Ae.1 hi).1; omega
   obtain ⟨p', hp1, hp2⟩ := h2 i l[i] (Ac hlt)
   rw [hi] at hp1
   injection hp1 with hp1
   subst hp1
   exact Jea k (u := p.1) (ns := p.2) hp2 g hg
  unfold snap at hs
  split at hs
  ·cases hs
  ·cases hs
  ·rename_i g0 ver
   split at hs
   ·rename_i ver' es ho
    split at hs
    ·injection hs with hs
     simp only [Aa] at hs
     obtain ⟨rfl, rfl⟩ := hs
     intro g hg
     simp at hg
     subst hg
     exact ⟨_, ho, rfl⟩
    ·cases hs
   ·cases hs
  ·rename_i g0 ver off len
   split at hs
   ·rename_i ver' esz el cells fz ho
    split at hs
    ·simp only at hs
     split at hs
     ·injection hs with hs
      simp only [Aa] at hs
      obtain ⟨rfl, rfl⟩ := hs
      intro g hg
      simp at hg
      subst hg
      exact ⟨_, ho, rfl⟩
     ·split at hs
      ·rename_i ps hps
       injection hs with hs
       simp only [Aa] at hs
       obtain ⟨rfl, rfl⟩ := hs
       intro g hg
       rcases List.mem_cons.1 hg with rfl | hg
       ·exact ⟨_, ho, rfl⟩
       ·exact lst hps g hg
      ·cases hs
    ·cases hs
   ·cases hs
  ·split at hs
   ·rename_i ps hps
    injection hs with hs
    simp only [Aa] at hs
    obtain ⟨rfl, rfl⟩ := hs
    exact lst hps
   ·cases hs
  ·split at hs
   ·injection hs with hs
    simp only [Aa] at hs
    obtain ⟨rfl, rfl⟩ := hs
    intro g hg; simp at hg
   ·split at hs
    ·rename_i ps hps
     injection hs with hs
     simp only [Aa] at hs
     obtain ⟨rfl, rfl⟩ := hs
     exact lst hps
    ·cases hs
  ·split at hs
   ·rename_i ps hps
    injection hs with hs
    simp only [Aa] at hs
    obtain ⟨rfl, rfl⟩ := hs
    exact lst hps
   ·cases hs
  ·injection hs with hs
   simp only [Aa] at hs
   obtain ⟨rfl, rfl⟩ := hs
   intro g hg; simp at hg
theorem Jqu (hp : RepH w S h μ) {S' : Nat → Prop} (hS : ∀ b, S b → S' b) {l vs : List AV} {ns : List Nat} (hs : Jjk h l = some (vs, ns)) (hm : Met S' μ ns) :
  vs.length = l.length ∧ ∀ (i : Nat) (y : AV), vs[i]? = some y → ∃ x, l[i]? = some x ∧ ∀ c, Rep w S h μ x c → RepP w S' y c := by
 unfold Jjk at hs
 split at hs
 ·rename_i ps hps
  injection hs with hs
  simp only [Aa] at hs
  obtain ⟨rfl, rfl⟩ := hs
  obtain ⟨h1, h2⟩ := Jgd hps
  refine ⟨by simp [h1], fun i y hi => ?_⟩
  rw [Af] at hi
  cases hpi : ps[i]? with
  | none => rw [hpi] at hi; cases hi
  | some p =>
   rw [hpi] at hi
   injection hi with hi
   have hlt : i < l.length := by have := (Ae.1 hpi).1; omega
   obtain ⟨p', hp1, hp2⟩ := h2 i l[i] (Ac hlt)
   rw [hpi] at hp1
   injection hp1 with hp1
   subst hp1
   refine ⟨l[i], Ac hlt, fun c hc => ?_⟩
   subst hi
   exact Je0 hp hS depth (u := p.1) (ns := p.2) hp2 hc (fun g hg => hm g (Ah.2 ⟨p, Ad hpi, hg⟩))
 ·cases hs
theorem Jmh {l vs : List AV} {ns : List Nat} (hs : Jjk h l = some (vs, ns)) : ∀ g ∈ ns, ∃ o, h g = some o ∧ o.freeze.fz = true := by
 unfold Jjk at hs
 split at hs
 ·rename_i ps hps
  injection hs with hs
  simp only [Aa] at hs
  obtain ⟨rfl, rfl⟩ := hs
  intro g hg
  obtain ⟨p, hp, hg⟩ := Ah.1 hg
  obtain ⟨h1, h2⟩ := Jgd hps
  obtain ⟨i, hi⟩ := Ak hp
  have hlt : i < l.length := by have := (Ae.1 hi).1; omega
  obtain ⟨p', hp1, hp2⟩ := h2 i l[i] (Ac hlt)
  rw [hi] at hp1
  injection hp1 with hp1
  subst hp1
  exact Jea depth (u := p.1) (ns := p.2) hp2 g hg
 ·cases hs
theorem Jz4 (o : AObj) : o.freeze.ver = o.ver := by cases o <;> rfl
theorem Jwf (o : AObj) : o.like o.freeze := by cases o <;> simp [AObj.freeze, AObj.like, AObj.kind]
theorem Jk6 (hp : RepH w S h μ) {ns : List Nat} (hn : ∀ g ∈ ns, ∃ o, h g = some o ∧ o.freeze.fz = true) :
  RepH w (fun b => S b ∨ ∃ g ∈ ns, μ.b g = b) (Kg h ns) μ ∧ Evo w S h μ w (fun b => S b ∨ ∃ g ∈ ns, μ.b g = b) (Kg h ns) μ ∧ EvoV h μ (Kg h ns) μ := by
 have inv : ∀ g o, Kg h ns g = some o → ∃ o1, h g = some o1 ∧ (o = o1 ∨ (o = o1.freeze ∧ g ∈ ns)) := by
  intro g o ho
  unfold Kg at ho
  split at ho
  ·rename_i hg
   cases ho1 : h g with
   | none => rw [ho1] at ho; cases ho
   | some o1 => rw [ho1] at ho; injection ho with ho; exact ⟨o1, rfl, .inr ⟨ho.symm, hg⟩⟩
  ·exact ⟨o, ho, .inl rfl⟩
 have fz : ∀ g ∈ ns, ∀ o, Kg h ns g = some o → o.fz = true := by
  intro g hg o ho
  obtain ⟨o1, hh, hz⟩ := hn g hg
  unfold Kg at ho
  rw [if_pos hg, hh] at ho
  injection ho with ho
  subst ho
  exact hz
 have vv : EvoV h μ (Kg h ns) μ := by
  intro g o ho
  unfold Kg
  split
  ·exact ⟨o.freeze, by rw [ho]; rfl, by rw [Jz4]; exact Ai _, fun _ => ⟨⟨rfl, rfl⟩, Jwf o⟩⟩
  ·exact ⟨o, ho, Ai _, fun _ => ⟨⟨rfl, rfl⟩, .refl o⟩⟩
 have ev : Evo w S h μ w (fun b => S b ∨ ∃ g ∈ ns, μ.b g = b) (Kg h ns) μ := by
  refine ⟨rfl, rfl, rfl, Ai _, fun _ _ _ => rfl, fun _ cs _ _ hc => ⟨cs, hc, rfl⟩, fun _ h => .inl h, fun b hb => ?_, fun b hb => ?_⟩
  ·rcases hb with hb | ⟨g, hg, rfl⟩
   ·exact .inl hb
   ·obtain ⟨o1, hh, hz⟩ := hn g hg
    cases hz1 : o1.fz with
    | false => exact .inr (.inr ⟨g, _, hh, hz1, rfl⟩)
    | true =>
     refine .inl ?_
     have := hp.ob g _ hh
     cases o1 with
     | box => cases hz1
     | arr => obtain ⟨_, _, _, _, h4⟩ := this; exact h4 hz1
     | map => obtain ⟨_, _, _, _, h4, _⟩ := this; exact h4 hz1
  ·obtain ⟨g, o, ho, hz, e⟩ := hb
   obtain ⟨o1, ho1, ho2⟩ := inv g o ho
   rcases ho2 with rfl | ⟨rfl, hg⟩
   ·exact .inl ⟨g, o, ho1, hz, e⟩
   ·have := fz g hg _ ho; rw [this] at hz; cases hz
 refine ⟨⟨fun g o ho => ?_, fun g g' o o' ho ho' e => ?_, fun g o ho hz hb => ?_, fun b hb => ?_⟩, ev, vv⟩
 ·obtain ⟨o1, ho1, ho2⟩ := inv g o ho
  have := (hp.ob g o1 ho1).evo hp ev vv rfl
  rcases ho2 with rfl | ⟨rfl, hg⟩
  ·exact this
  ·cases o1 with
   | box => exact this
   | map v es z =>
    obtain ⟨cs, q, h1, h2, h3, h4⟩ := this
    exact ⟨cs, q, h1, h2, fun _ => .inr ⟨g, hg, rfl⟩, h4⟩
   | arr v e t c z =>
    obtain ⟨cs, h1, h2, h3, h4⟩ := this
    exact ⟨cs, h1, h2, h3, fun _ => .inr ⟨g, hg, rfl⟩⟩
 ·obtain ⟨o1, ho1, _⟩ := inv g o ho
  obtain ⟨o2, ho2, _⟩ := inv g' o' ho'
  exact hp.inj g g' o1 o2 ho1 ho2 e
 ·obtain ⟨o1, ho1, ho2⟩ := inv g o ho
  rcases ho2 with rfl | ⟨rfl, hg⟩
  ·rcases hb with hb | ⟨g', hg', e⟩
   ·exact hp.own g o ho1 hz hb
   ·obtain ⟨o', hh', _⟩ := hn g' hg'
    have := hp.inj g' g _ _ hh' ho1 e
    subst this
    have := fz g' hg' _ ho
    rw [this] at hz
    cases hz
  ·have := fz g hg _ ho
   rw [this] at hz
   cases hz
 ·rcases hb with hb | ⟨g, hg, rfl⟩
  ·exact hp.lt b hb
  ·obtain ⟨o, hh, _⟩ := hn g hg
   exact (hp.ob g _ hh).lt
theorem Jly {g : Nat} {x : Win} : ∀ {tb : List Win}, Jgg tb g = some x → x ∈ tb ∧ x.g = g
 | [], h => by cases h
 | y :: r, h => by
  simp only [Jgg] at h
  split at h
  ·rename_i hy
   cases h
   exact ⟨List.mem_cons_self .., hy⟩
  ·obtain ⟨h1, h2⟩ := Jly h
   exact ⟨Aj _ h1, h2⟩
theorem Jjq {g : Nat} : ∀ {tb : List Win}, Jgg tb g = none → ∀ x ∈ tb, x.g ≠ g
 | [], _, x, hx => by cases hx
 | y :: r, h, x, hx => by
  simp only [Jgg] at h
  split at h
  ·cases h
  ·rename_i hy
   rcases List.mem_cons.1 hx with rfl | hx
   ·exact hy
   ·exact Jjq h x hx
def J40 (x : Win) : AObj → Prop
 | .arr _ e _ c _ => x.off * e ≤ c.length
 | _ => True
def Maps (h : Heap) (μ : Gh) (h' : Heap) (μ' : Gh) (tb : List Win) : Prop :=
 ∀ x ∈ tb, ∀ o, h x.g = some o → h' x.nn = some (renO h tb x o) ∧ μ'.b x.nn = μ.b x.g ∧ μ'.o x.nn = (match o with | .arr _ e _ _ _ => μ.o x.g + x.off * e | _ => μ.o x.g) ∧ J40 x o
theorem Jkb {tb : List Win} : ∀ (l : List AV) (i : Nat), (renL h tb l)[i]? = (l[i]?).map (ren h tb)
 | [], i => by simp [renL]
 | y :: r, i => by
  rw [renL]
  cases i with
  | zero => simp
  | succ i => simpa using Jkb r i
theorem Jnq {tb : List Win} : ∀ l : List AV, (renL h tb l).length = l.length
 | [] => rfl
 | y :: r => by rw [renL, List.length_cons, List.length_cons, Jnq r]
theorem Jvf {tb : List Win} {l : List AV} (hl : ∀ (i : Nat) (x : AV), l[i]? = some x → ren h tb x = x) : renL h tb l = l := by
 apply List.ext_getElem?
 intro i
 rw [Jkb]
 cases hi : l[i]? with
 | none => rfl
 | some x => simp [hl i x hi]
theorem ren_pure {tb : List Win} {x : AV} {v : Value} (hr : RepP w S x v) : ren h tb x = x := by
 induction hr with
 | fn f l cs hl hr ih => rw [ren, Jvf ih]
 | agg l cs hl h1 hr ih => rw [ren, Jvf ih]
 | tup l cs hl hr ih => rw [ren, Jvf ih]
 | _ => rw [ren]
theorem Jx9 {tb : List Win} {x : AV} (hf : x.flat = true) : ren h tb x = x := by
 cases x <;> first | (simp [AV.flat] at hf; done) | rw [ren]
mutual
theorem Jx8 {tb : List Win} : ∀ (x : AV), x.noNm = true → ren h tb x = x
 | .fn f l, hf => by rw [ren, Jm0 l hf]
 | .agg l, hf => by rw [ren, Jm0 l hf]
 | .tup l, hf => by rw [ren, Jm0 l hf]
 | .any, hf => by cases hf
 | .arr .., hf => by cases hf
 | .ptr .., hf => by cases hf
 | .map .., hf => by cases hf
 | .bool _, _ => by rw [ren]
 | .int _ _, _ => by rw [ren]
 | .str _, _ => by rw [ren]
 | .nils, _ => by rw [ren]
 | .nilp, _ => by rw [ren]
 | .nilf, _ => by rw [ren]
 | .nilm, _ => by rw [ren]
 | .mpr _ _, _ => by rw [ren]
 | .lst _ _, _ => by rw [ren]
 | .rptr _, _ => by rw [ren]
theorem Jm0 {tb : List Win} : ∀ (l : List AV), Jtj l = true → renL h tb l = l
 | [], _ => by rw [renL]
 | v :: r, hf => by
  simp only [Jtj, Bool.and_eq_true] at hf
  rw [renL, Jx8 v hf.1, Jm0 r hf.2]
end
theorem Jxq {tb : List Win} (l : List AV) (i : Nat) : (renC h tb l)[i]? = (l[i]?).map (ren h tb) := by
 unfold renC
 split
 ·rename_i hf
  cases hi : l[i]? with
  | none => rfl
  | some x => simp [Jx9 (Ag.1 hf x (Ad hi))]
 ·exact Jkb l i
theorem Jxz {tb : List Win} (l : List AV) : (renC h tb l).length = l.length := by
 unfold renC
 split
 ·rfl
 ·exact Jnq l
theorem Jnf {tb : List Win} (x : Win) (o : AObj) : (renO h tb x o).ver = x.v := by cases o <;> rfl
theorem Jqa {tb : List Win} (x : Win) (o : AObj) : (renO h tb x o).fz = o.fz := by cases o <;> rfl
theorem Jn4 {h' : Heap} {μ' : Gh} {tb : List Win} (hm : Maps h μ h' μ' tb) {x : AV} {v : Value} (hr : Rep w S h μ x v) : Rep w S h' μ' (ren h tb x) v := by
 induction hr with
 | any v => rw [ren]; exact .any v
 | pure hp => rw [ren_pure hp]; exact .pure hp
 | fn f l cs hl hr ih =>
  rw [ren]
  refine .fn f _ cs (by rw [Jnq]; exact hl) fun i y hi => ?_
  rw [Jkb] at hi
  obtain ⟨z, hz, rfl⟩ := Ab.1 hi
  exact ih i z hz
 | agg l cs hl h1 hr ih =>
  rw [ren]
  refine .agg _ cs (by rw [Jnq]; exact hl) (fun i y hi => ?_) fun i y hi => ?_
  ·rw [Jkb] at hi
   obtain ⟨z, hz, rfl⟩ := Ab.1 hi
   exact h1 i z hz
  ·rw [Jkb] at hi
   obtain ⟨z, hz, rfl⟩ := Ab.1 hi
   exact ih i z hz
 | tup l cs hl hr ih =>
  rw [ren]
  refine .tup _ cs (by rw [Jnq]; exact hl) fun i y hi => ?_
  rw [Jkb] at hi
  obtain ⟨z, hz, rfl⟩ := Ab.1 hi
  exact ih i z hz
 | arr g ver off len v o ho hv h1 hr =>
  rw [ren]
  split
  ·rename_i x hx
   split
   ·rename_i hc
    obtain ⟨hc, rfl, rfl⟩ := hc
    obtain ⟨hx1, rfl⟩ := Jly hx
    obtain ⟨m1, m2, m3, -⟩ := hm x hx1 o ho
    refine .arr x.nn x.v 0 x.len v _ m1 (by rw [Jnf]; exact Ai _) h1 fun _ => ?_
    cases o with
    | arr v' e t c z =>
     have hver : ver = v' := by simp only [Jek, ho, beq_iff_eq] at hc; exact hc.symm
     obtain ⟨esz, el, cells, fz, eq, a, cap, cs, el', zz, q1, q2, q3, q4, q5⟩ := hr hver
     cases eq
     refine ⟨e, t, _, z, rfl, a, cap, cs, el', zz, q1, q2, by rw [m2]; exact q3, ?_, fun h0 => ?_⟩
     ·rw [m3]
      show μ.o x.g + x.off * e + (0 + cap) * e ≤ cs.size
      have : (x.off + cap) * e = x.off * e + cap * e := Nat.add_mul ..
      rw [Nat.zero_add]
      omega
     ·rw [m2, m3, q5 h0]
      show (⟨μ.b x.g, μ.o x.g + x.off * e, none⟩ : Addr) = ⟨μ.b x.g, μ.o x.g + x.off * e + 0 * e, none⟩
      rw [Nat.zero_mul, Nat.add_zero]
    | box v' c => simp [Jek, ho] at hc
    | map v' es => simp [Jek, ho] at hc
   ·exact .any _
  ·exact .any _
 | ptr g ver off v o ho hv h1 hr =>
  rw [ren]
  split
  ·rename_i x hx
   split
   ·rename_i hc
    obtain ⟨hx1, rfl⟩ := Jly hx
    obtain ⟨m1, m2, m3, -⟩ := hm x hx1 o ho
    refine .ptr x.nn x.v off v _ m1 (by rw [Jnf]; exact Ai _) h1 fun _ => ?_
    cases o with
    | box v' c =>
     have hver : ver = v' := by simp only [Jux, ho, beq_iff_eq] at hc; exact hc.symm
     rw [m2, m3]
     exact hr hver
    | arr v' e t c z => simp [Jux, ho] at hc
    | map v' es => simp [Jux, ho] at hc
   ·exact .any _
  ·exact .any _
 | map g ver v o ho hv h1 hr =>
  rw [ren]
  split
  ·rename_i x hx
   split
   ·rename_i hc
    obtain ⟨hx1, rfl⟩ := Jly hx
    obtain ⟨m1, m2, m3, -⟩ := hm x hx1 o ho
    refine .map x.nn x.v v _ m1 (by rw [Jnf]; exact Ai _) h1 fun _ => ?_
    cases o with
    | map v' c =>
     have hver : ver = v' := by simp only [Jor, ho, beq_iff_eq] at hc; exact hc.symm
     rw [m2]
     exact hr hver
    | arr v' e t c z => simp [Jor, ho] at hc
    | box v' es => simp [Jor, ho] at hc
   ·exact .any _
  ·exact .any _
theorem cut_get {l : List AV} {off n i : Nat} {x : AV} (hi : (cut l off n)[i]? = some x) : l[off + i]? = some x := by
 unfold cut at hi
 rw [List.getElem?_take] at hi
 split at hi
 ·rwa [List.getElem?_drop] at hi
 ·cases hi
theorem Jw5 {h' : Heap} {μ' : Gh} {tb : List Win} (hm : Maps h μ h' μ' tb) {x : Win} (hx : x ∈ tb) {o : AObj} (ho : h x.g = some o) (hob : RepObj w S h μ (μ.b x.g) (μ.o x.g) o) :
  RepObj w S h' μ' (μ'.b x.nn) (μ'.o x.nn) (renO h tb x o) := by
 obtain ⟨-, m2, m3, m4⟩ := hm x hx o ho
 rw [m2, m3]
 cases o with
 | box v c =>
  obtain ⟨cs, el, e1, e2, e3⟩ := hob
  refine ⟨cs, el, e1, by rw [Jxz]; exact e2, fun i y hi => ?_⟩
  rw [Jxq] at hi
  obtain ⟨z, hz, rfl⟩ := Ab.1 hi
  exact ⟨Jn4 hm (e3 i z hz).1, (e3 i z hz).2⟩
 | arr v e t c z =>
  obtain ⟨cs, e1, e2, e3, e4⟩ := hob
  refine ⟨cs, e1, ?_, fun i y hi => ?_, e4⟩
  ·rw [Jxz]
   simp only [cut, List.length_take, List.length_drop]
   have := Nat.min_le_right (x.len * e) (c.length - x.off * e)
   have hh : x.off * e ≤ c.length := m4
   show μ.o x.g + x.off * e + _ ≤ _
   omega
  ·rw [Jxq] at hi
   obtain ⟨z, hz, rfl⟩ := Ab.1 hi
   have := e3 _ z (cut_get hz)
   rw [← Nat.add_assoc] at this
   exact ⟨Jn4 hm this.1, this.2⟩
 | map v es fz =>
  obtain ⟨es', clock, e1, e2, ez, e3⟩ := hob
  show RepObj w S h' μ' (μ.b x.g) _ (.map x.v (renE h tb es) fz)
  unfold renE
  by_cases hnm : es.all (fun p => p.2.noNm) = true
  ·rw [if_pos hnm]
   refine ⟨es', clock, e1, e2, ez, fun i k v hi => ?_⟩
   obtain ⟨e, he, hk, hv⟩ := e3 i k v hi
   have h3 := Ag.1 hnm (k, v) (Ad hi)
   have := Jn4 hm hv
   rw [Jx8 v h3] at this
   exact ⟨e, he, hk, this⟩
  ·rw [if_neg hnm]
   refine ⟨es', clock, e1, by simpa using e2, ez, fun i k v hi => ?_⟩
   rw [Af] at hi
   obtain ⟨z, hz, hzz⟩ := Ab.1 hi
   simp only [Aa] at hzz
   obtain ⟨e, he, hk, hv⟩ := e3 i z.1 z.2 hz
   exact ⟨e, he, hzz.1 ▸ hk, hzz.2 ▸ Jn4 hm hv⟩
theorem Jtg {nt : Nat} {σ : St} {a : Act} {w' : World} {S' : Nat → Prop} {h' : Heap} {μ' : Gh} {d : Option Nat} {v : AV} {cv : Value} (hs : RepS nt w S σ μ a) (hd : okDst nt d = true)
  (hr : Rep w' S' h' μ' v cv) (hp : RepH w' S' h' μ') (ev : Evo w S σ.h μ w' S' h' μ') (vv : EvoV σ.h μ h' μ') : RepS nt w' S' (σ.put d v h') μ' (a.put d cv) := by
 cases d with
 | none => exact ⟨fun k => (hs.fr k).evo hs.hp ev vv, hp, hs.df, hs.sz⟩
 | some d =>
  simp only [okDst, decide_eq_true_eq] at hd
  refine ⟨fun k => ?_, hp, hs.df, by simpa [Act.put] using hs.sz⟩
  simp only [St.put, Act.put]
  rw [Jrt]
  by_cases hk : k = d
  ·subst hk
   rw [Yf, if_pos ⟨rfl, by have := hs.sz; omega⟩]
   exact hr
  ·rw [Qd _ _ _ _ hk, if_neg (by omega)]
   exact (hs.fr k).evo hs.hp ev vv
end
end Go.Vv
