/- What the heap holds, read as a value; slots and names that are dropped; a slot that is written. Conditions: none. -/
import Derived.Test.YtldcbmkfkbnmbaaVg
namespace Go.Vv
open Go

theorem mapM_get {α β : Type} {f : α → Option β} : ∀ {l : List α} {ps : List β}, l.mapM f = some ps → ps.length = l.length ∧ ∀ (i : Nat) (x : α), l[i]? = some x → ∃ p, ps[i]? = some p ∧ f x = some p
  | [], ps, h => by simp at h; subst h; exact ⟨rfl, fun i x hi => by simp at hi⟩
  | x :: l, ps, h => by
    rw [List.mapM_cons] at h
    cases hx : f x with
    | none => rw [hx] at h; cases h
    | some y =>
      cases hl : l.mapM f with
      | none => rw [hx, hl] at h; cases h
      | some qs =>
        rw [hx, hl] at h
        injection h with h
        subst h
        obtain ⟨h1, h2⟩ := mapM_get hl
        refine ⟨by simp [h1], fun i z hi => ?_⟩
        cases i with
        | zero => simp at hi; subst hi; exact ⟨y, rfl, hx⟩
        | succ i => simpa using h2 i z (by simpa using hi)
section
variable {w : World} {S : Nat → Prop} {h : Heap} {μ : Gh}
theorem Rep.flat {x : AV} {v : Value} (hr : Rep w S h μ x v) (hf : x.flat = true) : RepP w S x v := by
  cases hr with
  | pure hp => exact hp
  | any => simp [AV.flat] at hf
  | fn => simp [AV.flat] at hf
  | agg => simp [AV.flat] at hf
  | tup => simp [AV.flat] at hf
  | arr => simp [AV.flat] at hf
  | ptr => simp [AV.flat] at hf
  | map => simp [AV.flat] at hf
/-- The names that a reading has met. -/
def Met (S' : Nat → Prop) (μ : Gh) (ns : List Nat) : Prop := ∀ g, g ∈ ns → S' (μ.b g)
theorem snap_sound (hp : RepH w S h μ) {S' : Nat → Prop} (hS : ∀ b, S b → S' b) : ∀ (k : Nat) {v u : AV} {ns : List Nat} {c : Value}, snap h k v = some (u, ns) → Rep w S h μ v c → Met S' μ ns → RepP w S' u c
  | 0, v, u, ns, c, hs, _, _ => by simp [snap] at hs
  | k + 1, v, u, ns, c, hs, hr, hm => by
    have lst : ∀ {l : List AV} {ps : List (AV × List Nat)}, l.mapM (snap h k) = some ps → (∀ g, g ∈ ps.flatMap (·.2) → g ∈ ns) →
        (ps.map (·.1)).length = l.length ∧ ∀ (i : Nat) (y : AV), (ps.map (·.1))[i]? = some y → ∃ x, l[i]? = some x ∧ ∀ c, Rep w S h μ x c → RepP w S' y c := by
      intro l ps hl hsub
      obtain ⟨h1, h2⟩ := mapM_get hl
      refine ⟨by simp [h1], fun i y hi => ?_⟩
      rw [List.getElem?_map] at hi
      cases hpi : ps[i]? with
      | none => rw [hpi] at hi; cases hi
      | some p =>
        rw [hpi] at hi
        injection hi with hi
        have hlt : i < l.length := by have := (List.getElem?_eq_some_iff.1 hpi).1; omega
        obtain ⟨p', hp1, hp2⟩ := h2 i l[i] (List.getElem?_eq_getElem hlt)
        rw [hpi] at hp1
        injection hp1 with hp1
        subst hp1
        refine ⟨l[i], List.getElem?_eq_getElem hlt, fun c hc => ?_⟩
        subst hi
        exact snap_sound hp hS k (u := p.1) (ns := p.2) hp2 hc (fun g hg => hm g (hsub g (List.mem_flatMap.2 ⟨p, List.mem_of_getElem? hpi, hg⟩)))
    unfold snap at hs
    split at hs
    · cases hs
    · cases hs
    · cases hs
    · rename_i g ver off len
      split at hs
      · rename_i ver' esz el cells fz ho
        split at hs
        · rename_i hc
          obtain ⟨rfl, hle⟩ := hc
          obtain ⟨a, cap, cs0, el0, z0, rfl, hlc, hb0, hsz0, ha⟩ := hr.arr_inv ho
          obtain ⟨cs, hb, hsz, hh, _⟩ := hp.ob g _ ho
          have key : ∀ i x, (cut cells (off * esz) (len * esz))[i]? = some x → 0 < cap ∧ cells[off * esz + i]? = some x ∧ w.cell? (a.add i) = some (cs.getD (μ.o g + (off * esz + i)) undef) := by
            intro i x hi
            simp only [cut, List.getElem?_take, List.getElem?_drop] at hi
            split at hi
            · rename_i hlt
              have hpos : 0 < cap := by
                rcases Nat.eq_zero_or_pos len with h0 | h0
                · rw [h0, Nat.zero_mul] at hlt; omega
                · omega
              have hlt2 : μ.o g + (off * esz + i) < cs.size := by have := (List.getElem?_eq_some_iff.1 hi).1; omega
              exact ⟨hpos, hi, by rw [ha hpos, cell_add hb, Nat.add_assoc, getD_some hlt2]⟩
            · cases hi
          simp only at hs
          split at hs
          · rename_i hflat
            injection hs with hs
            simp only [Prod.mk.injEq] at hs
            obtain ⟨rfl, rfl⟩ := hs
            refine .lst _ _ _ _ (fun i => cs.getD (μ.o g + (off * esz + i)) undef) (fun hne => ?_) hlc (fun i x hi => (key i x hi).2.2) (fun i x hi => (hh _ x (key i x hi).2.1).2) (fun i x hi => ?_)
            · cases hcut : cut cells (off * esz) (len * esz) with
              | nil => exact (hne hcut).elim
              | cons x r => rw [ha (key 0 x (by rw [hcut]; rfl)).1]; exact hm g (by simp)
            · have hf := List.all_eq_true.1 hflat x (List.mem_of_getElem? hi)
              exact ((hh _ x (key i x hi).2.1).1.flat hf).mono hS (fun _ _ => rfl)
          · split at hs
            · rename_i ps hps
              injection hs with hs
              simp only [Prod.mk.injEq] at hs
              obtain ⟨rfl, rfl⟩ := hs
              obtain ⟨h1, h2⟩ := lst hps (fun g' hg' => List.mem_cons_of_mem _ hg')
              have key2 : ∀ i y, (ps.map (·.1))[i]? = some y → ∃ x, (cut cells (off * esz) (len * esz))[i]? = some x ∧ ∀ c, Rep w S h μ x c → RepP w S' y c := h2
              refine .lst _ _ _ _ (fun i => cs.getD (μ.o g + (off * esz + i)) undef) (fun hne => ?_) hlc (fun i y hi => ?_) (fun i y hi => ?_) (fun i y hi => ?_)
              · cases hcut : ps.map (·.1) with
                | nil => exact (hne hcut).elim
                | cons x r =>
                  obtain ⟨x', hx', _⟩ := key2 0 x (by rw [hcut]; rfl)
                  rw [ha (key 0 x' hx').1]; exact hm g (by simp)
              · obtain ⟨x, hx, _⟩ := key2 i y hi; exact (key i x hx).2.2
              · obtain ⟨x, hx, _⟩ := key2 i y hi; exact (hh _ x (key i x hx).2.1).2
              · obtain ⟨x, hx, hxr⟩ := key2 i y hi; exact hxr _ (hh _ x (key i x hx).2.1).1
            · cases hs
        · cases hs
      · cases hs
    · rename_i f caps
      split at hs
      · rename_i ps hps
        injection hs with hs
        simp only [Prod.mk.injEq] at hs
        obtain ⟨rfl, rfl⟩ := hs
        obtain ⟨h1, h2⟩ := lst hps (fun g' hg' => hg')
        obtain ⟨cs, rfl, hl, hh⟩ := hr.fn_inv
        exact .fn _ _ cs (by omega) (fun i y hi => by obtain ⟨x, hx, hxr⟩ := h2 i y hi; exact hxr _ (hh i x hx))
      · cases hs
    · rename_i l
      split at hs
      · rename_i hflat
        injection hs with hs
        simp only [Prod.mk.injEq] at hs
        obtain ⟨rfl, rfl⟩ := hs
        obtain ⟨cs, rfl, hl, hh⟩ := hr.agg_inv
        exact .agg _ cs hl (fun i x hi => (hh i x hi).2) (fun i x hi => ((hh i x hi).1.flat (List.all_eq_true.1 hflat x (List.mem_of_getElem? hi))).mono hS (fun _ _ => rfl))
      · split at hs
        · rename_i ps hps
          injection hs with hs
          simp only [Prod.mk.injEq] at hs
          obtain ⟨rfl, rfl⟩ := hs
          obtain ⟨h1, h2⟩ := lst hps (fun g' hg' => hg')
          obtain ⟨cs, rfl, hl, hh⟩ := hr.agg_inv
          exact .agg _ cs (by omega) (fun i y hi => by obtain ⟨x, hx, _⟩ := h2 i y hi; exact (hh i x hx).2) (fun i y hi => by obtain ⟨x, hx, hxr⟩ := h2 i y hi; exact hxr _ (hh i x hx).1)
        · cases hs
    · rename_i l
      split at hs
      · rename_i ps hps
        injection hs with hs
        simp only [Prod.mk.injEq] at hs
        obtain ⟨rfl, rfl⟩ := hs
        obtain ⟨h1, h2⟩ := lst hps (fun g' hg' => hg')
        obtain ⟨cs, rfl, hl, hh⟩ := hr.tup_inv
        exact .tup _ cs (by omega) (fun i y hi => by obtain ⟨x, hx, hxr⟩ := h2 i y hi; exact hxr _ (hh i x hx))
      · cases hs
    · rename_i x1 x2 x3 x4 x5 x6 x7
      injection hs with hs
      simp only [Prod.mk.injEq] at hs
      obtain ⟨rfl, rfl⟩ := hs
      cases hr with
      | pure hp' => exact hp'.mono hS (fun _ _ => rfl)
      | any => exact (x1 rfl).elim
      | fn => exact (x5 _ _ rfl).elim
      | agg => exact (x6 _ rfl).elim
      | tup => exact (x7 _ rfl).elim
      | arr => exact (x4 _ _ _ _ rfl).elim
      | ptr => exact (x2 _ _ _ rfl).elim
      | map => exact (x3 _ _ rfl).elim
/-- The names that a reading has met stand for rows. -/
theorem snap_names : ∀ (k : Nat) {v u : AV} {ns : List Nat}, snap h k v = some (u, ns) → ∀ g ∈ ns, ∃ v e t c z, h g = some (.arr v e t c z)
  | 0, v, u, ns, hs => by simp [snap] at hs
  | k + 1, v, u, ns, hs => by
    have lst : ∀ {l : List AV} {ps : List (AV × List Nat)}, l.mapM (snap h k) = some ps → ∀ g ∈ ps.flatMap (·.2), ∃ v e t c z, h g = some (.arr v e t c z) := by
      intro l ps hl g hg
      obtain ⟨h1, h2⟩ := mapM_get hl
      obtain ⟨p, hp, hg⟩ := List.mem_flatMap.1 hg
      obtain ⟨i, hi⟩ := List.getElem?_of_mem hp
      have hlt : i < l.length := by have := (List.getElem?_eq_some_iff.1 hi).1; omega
      obtain ⟨p', hp1, hp2⟩ := h2 i l[i] (List.getElem?_eq_getElem hlt)
      rw [hi] at hp1
      injection hp1 with hp1
      subst hp1
      exact snap_names k (u := p.1) (ns := p.2) hp2 g hg
    unfold snap at hs
    split at hs
    · cases hs
    · cases hs
    · cases hs
    · rename_i g0 ver off len
      split at hs
      · rename_i ver' esz el cells fz ho
        split at hs
        · simp only at hs
          split at hs
          · injection hs with hs
            simp only [Prod.mk.injEq] at hs
            obtain ⟨rfl, rfl⟩ := hs
            intro g hg
            simp at hg
            subst hg
            exact ⟨_, _, _, _, _, ho⟩
          · split at hs
            · rename_i ps hps
              injection hs with hs
              simp only [Prod.mk.injEq] at hs
              obtain ⟨rfl, rfl⟩ := hs
              intro g hg
              rcases List.mem_cons.1 hg with rfl | hg
              · exact ⟨_, _, _, _, _, ho⟩
              · exact lst hps g hg
            · cases hs
        · cases hs
      · cases hs
    · split at hs
      · rename_i ps hps
        injection hs with hs
        simp only [Prod.mk.injEq] at hs
        obtain ⟨rfl, rfl⟩ := hs
        exact lst hps
      · cases hs
    · split at hs
      · injection hs with hs
        simp only [Prod.mk.injEq] at hs
        obtain ⟨rfl, rfl⟩ := hs
        intro g hg; simp at hg
      · split at hs
        · rename_i ps hps
          injection hs with hs
          simp only [Prod.mk.injEq] at hs
          obtain ⟨rfl, rfl⟩ := hs
          exact lst hps
        · cases hs
    · split at hs
      · rename_i ps hps
        injection hs with hs
        simp only [Prod.mk.injEq] at hs
        obtain ⟨rfl, rfl⟩ := hs
        exact lst hps
      · cases hs
    · injection hs with hs
      simp only [Prod.mk.injEq] at hs
      obtain ⟨rfl, rfl⟩ := hs
      intro g hg; simp at hg

theorem snaps_sound (hp : RepH w S h μ) {S' : Nat → Prop} (hS : ∀ b, S b → S' b) {l vs : List AV} {ns : List Nat} (hs : snaps h l = some (vs, ns)) (hm : Met S' μ ns) :
    vs.length = l.length ∧ ∀ (i : Nat) (y : AV), vs[i]? = some y → ∃ x, l[i]? = some x ∧ ∀ c, Rep w S h μ x c → RepP w S' y c := by
  unfold snaps at hs
  split at hs
  · rename_i ps hps
    injection hs with hs
    simp only [Prod.mk.injEq] at hs
    obtain ⟨rfl, rfl⟩ := hs
    obtain ⟨h1, h2⟩ := mapM_get hps
    refine ⟨by simp [h1], fun i y hi => ?_⟩
    rw [List.getElem?_map] at hi
    cases hpi : ps[i]? with
    | none => rw [hpi] at hi; cases hi
    | some p =>
      rw [hpi] at hi
      injection hi with hi
      have hlt : i < l.length := by have := (List.getElem?_eq_some_iff.1 hpi).1; omega
      obtain ⟨p', hp1, hp2⟩ := h2 i l[i] (List.getElem?_eq_getElem hlt)
      rw [hpi] at hp1
      injection hp1 with hp1
      subst hp1
      refine ⟨l[i], List.getElem?_eq_getElem hlt, fun c hc => ?_⟩
      subst hi
      exact snap_sound hp hS depth (u := p.1) (ns := p.2) hp2 hc (fun g hg => hm g (List.mem_flatMap.2 ⟨p, List.mem_of_getElem? hpi, hg⟩))
  · cases hs
theorem snaps_names {l vs : List AV} {ns : List Nat} (hs : snaps h l = some (vs, ns)) : ∀ g ∈ ns, ∃ v e t c z, h g = some (.arr v e t c z) := by
  unfold snaps at hs
  split at hs
  · rename_i ps hps
    injection hs with hs
    simp only [Prod.mk.injEq] at hs
    obtain ⟨rfl, rfl⟩ := hs
    intro g hg
    obtain ⟨p, hp, hg⟩ := List.mem_flatMap.1 hg
    obtain ⟨h1, h2⟩ := mapM_get hps
    obtain ⟨i, hi⟩ := List.getElem?_of_mem hp
    have hlt : i < l.length := by have := (List.getElem?_eq_some_iff.1 hi).1; omega
    obtain ⟨p', hp1, hp2⟩ := h2 i l[i] (List.getElem?_eq_getElem hlt)
    rw [hi] at hp1
    injection hp1 with hp1
    subst hp1
    exact snap_names depth (u := p.1) (ns := p.2) hp2 g hg
  · cases hs

/-! ### What has been read is written no more -/
theorem freeze_ver (o : AObj) : o.freeze.ver = o.ver := by cases o <;> rfl
theorem freeze_like (o : AObj) : o.like o.freeze := by cases o <;> simp [AObj.freeze, AObj.like, AObj.kind]
theorem freeze_ok (hp : RepH w S h μ) {ns : List Nat} (hn : ∀ g ∈ ns, ∃ v e t c z, h g = some (.arr v e t c z)) :
    RepH w (fun b => S b ∨ ∃ g ∈ ns, μ.b g = b) (freezeAll h ns) μ ∧ Evo w S h μ w (fun b => S b ∨ ∃ g ∈ ns, μ.b g = b) (freezeAll h ns) μ ∧ EvoV h μ (freezeAll h ns) μ := by
  have inv : ∀ g o, freezeAll h ns g = some o → ∃ o1, h g = some o1 ∧ (o = o1 ∨ (o = o1.freeze ∧ g ∈ ns)) := by
    intro g o ho
    unfold freezeAll at ho
    split at ho
    · rename_i hg
      cases ho1 : h g with
      | none => rw [ho1] at ho; cases ho
      | some o1 => rw [ho1] at ho; injection ho with ho; exact ⟨o1, rfl, .inr ⟨ho.symm, hg⟩⟩
    · exact ⟨o, ho, .inl rfl⟩
  have fz : ∀ g ∈ ns, ∀ o, freezeAll h ns g = some o → o.fz = true := by
    intro g hg o ho
    obtain ⟨v, e, t, c, z, hh⟩ := hn g hg
    unfold freezeAll at ho
    rw [if_pos hg, hh] at ho
    injection ho with ho
    subst ho
    rfl
  have vv : EvoV h μ (freezeAll h ns) μ := by
    intro g o ho
    unfold freezeAll
    split
    · exact ⟨o.freeze, by rw [ho]; rfl, by rw [freeze_ver]; exact Nat.le_refl _, fun _ => ⟨⟨rfl, rfl⟩, freeze_like o⟩⟩
    · exact ⟨o, ho, Nat.le_refl _, fun _ => ⟨⟨rfl, rfl⟩, .refl o⟩⟩
  have ev : Evo w S h μ w (fun b => S b ∨ ∃ g ∈ ns, μ.b g = b) (freezeAll h ns) μ := by
    refine ⟨rfl, rfl, rfl, Nat.le_refl _, fun _ _ _ => rfl, fun _ cs _ _ hc => ⟨cs, hc, rfl⟩, fun _ h => .inl h, fun b hb => ?_, fun b hb => ?_⟩
    · rcases hb with hb | ⟨g, hg, rfl⟩
      · exact .inl hb
      · obtain ⟨v, e, t, c, z, hh⟩ := hn g hg
        cases z with
        | false => exact .inr (.inr ⟨g, _, hh, rfl, rfl⟩)
        | true => obtain ⟨_, _, _, _, h4⟩ := hp.ob g _ hh; exact .inl (h4 rfl)
    · obtain ⟨g, o, ho, hz, e⟩ := hb
      obtain ⟨o1, ho1, ho2⟩ := inv g o ho
      rcases ho2 with rfl | ⟨rfl, hg⟩
      · exact .inl ⟨g, o, ho1, hz, e⟩
      · have := fz g hg _ ho; rw [this] at hz; cases hz
  refine ⟨⟨fun g o ho => ?_, fun g g' o o' ho ho' e => ?_, fun g o ho hz hb => ?_, fun b hb => ?_⟩, ev, vv⟩
  · obtain ⟨o1, ho1, ho2⟩ := inv g o ho
    have := (hp.ob g o1 ho1).evo hp ev vv rfl
    rcases ho2 with rfl | ⟨rfl, hg⟩
    · exact this
    · cases o1 with
      | box => exact this
      | map => exact this
      | arr v e t c z =>
        obtain ⟨cs, h1, h2, h3, h4⟩ := this
        exact ⟨cs, h1, h2, h3, fun _ => .inr ⟨g, hg, rfl⟩⟩
  · obtain ⟨o1, ho1, _⟩ := inv g o ho
    obtain ⟨o2, ho2, _⟩ := inv g' o' ho'
    exact hp.inj g g' o1 o2 ho1 ho2 e
  · obtain ⟨o1, ho1, ho2⟩ := inv g o ho
    rcases ho2 with rfl | ⟨rfl, hg⟩
    · rcases hb with hb | ⟨g', hg', e⟩
      · exact hp.own g o ho1 hz hb
      · obtain ⟨v', e', t', c', z', hh'⟩ := hn g' hg'
        have := hp.inj g' g _ _ hh' ho1 e
        subst this
        have := fz g' hg' _ ho
        rw [this] at hz
        cases hz
    · have := fz g hg _ ho
      rw [this] at hz
      cases hz
  · rcases hb with hb | ⟨g, hg, rfl⟩
    · exact hp.lt b hb
    · obtain ⟨v, e, t, c, z, hh⟩ := hn g hg
      exact (hp.ob g _ hh).lt

/-! ### Slots and names that are dropped -/
theorem refsInL_get {ns : List Nat} : ∀ {l : List AV}, refsInL ns l = true → ∀ (i : Nat) (x : AV), l[i]? = some x → refsIn ns x = true
  | [], _, i, x, hi => by simp at hi
  | y :: l, hr, i, x, hi => by
    simp only [refsInL, Bool.and_eq_true] at hr
    cases i with
    | zero => simp at hi; subst hi; exact hr.1
    | succ i => exact refsInL_get hr.2 i x (by simpa using hi)
theorem Rep.names {ns : List Nat} {h' : Heap} (hh : ∀ g ∈ ns, h' g = h g) {x : AV} {v : Value} (hr : Rep w S h μ x v) (hn : refsIn ns x = true) : Rep w S h' μ x v := by
  induction hr with
  | any v => exact .any v
  | pure hp => exact .pure hp
  | fn f l cs hl hr ih => exact .fn f l cs hl (fun i x hi => ih i x hi (refsInL_get (by simpa [refsIn] using hn) i x hi))
  | agg l cs hl h1 hr ih => exact .agg l cs hl h1 (fun i x hi => ih i x hi (refsInL_get (by simpa [refsIn] using hn) i x hi))
  | tup l cs hl hr ih => exact .tup l cs hl (fun i x hi => ih i x hi (refsInL_get (by simpa [refsIn] using hn) i x hi))
  | arr g ver off len v o ho hv h1 hr => exact .arr g ver off len v o ((hh g (by simpa [refsIn] using hn)).trans ho) hv h1 hr
  | ptr g ver off v o ho hv h1 hr => exact .ptr g ver off v o ((hh g (by simpa [refsIn] using hn)).trans ho) hv h1 hr
  | map g ver v o ho hv h1 hr => exact .map g ver v o ((hh g (by simpa [refsIn] using hn)).trans ho) hv h1 hr
theorem flat_refs {ns : List Nat} {x : AV} (hf : x.flat = true) : refsIn ns x = true := by cases x <;> simp_all [AV.flat, refsIn]
theorem hl_filter (h : Heap) : ∀ (ns : List Nat) (g : Nat), hl (ns.filterMap fun n => (h n).map fun o => (n, o)) g = if g ∈ ns then h g else none
  | [], g => rfl
  | n :: ns, g => by
    cases hn : h n with
    | none =>
      simp only [List.filterMap_cons, hn, Option.map_none]
      rw [hl_filter h ns g]
      by_cases hg : g = n
      · subst hg; simp [hn]
      · simp [hg]
    | some o =>
      simp only [List.filterMap_cons, hn, Option.map_some, hl]
      by_cases hg : g = n
      · subst hg; simp [hn]
      · rw [if_neg hg, hl_filter h ns g]; simp [hg]
theorem fr_map (f : Nat → AV) : ∀ (ks : List Nat) (k : Nat), fr (ks.map fun k => (k, f k)) k = if k ∈ ks then f k else .any
  | [], k => rfl
  | x :: ks, k => by
    simp only [List.map_cons, fr]
    by_cases hk : k = x
    · subst hk; simp
    · rw [if_neg hk, fr_map f ks k]; simp [hk]
theorem keep_sound {nt : Nat} {σ σ' : St} {a : Act} {pm : Bool} {ks ns : List Nat} (hs : RepS nt w S σ μ a) (hk : keep pm ks ns σ = some σ') :
    RepS nt w S σ' μ a ∧ Evo w S σ.h μ w S σ'.h μ ∧ (pm = false → σ'.h = σ.h) := by
  unfold keep at hk
  split at hk
  · rename_i hpm
    split at hk
    · rename_i hc
      obtain ⟨h1, h2⟩ := hc
      injection hk with hk
      subst hk
      have hh : ∀ g, hl (ns.filterMap fun n => (σ.h n).map fun o => (n, o)) g = if g ∈ ns then σ.h g else none := hl_filter σ.h ns
      have hin : ∀ g o, hl (ns.filterMap fun n => (σ.h n).map fun o => (n, o)) g = some o → g ∈ ns ∧ σ.h g = some o := fun g o ho => by
        rw [hh] at ho
        split at ho
        · exact ⟨‹_›, ho⟩
        · cases ho
      have heq : ∀ g ∈ ns, hl (ns.filterMap fun n => (σ.h n).map fun o => (n, o)) g = σ.h g := fun g hg => by rw [hh, if_pos hg]
      refine ⟨⟨fun d => ?_, ⟨fun g o ho => ?_, fun g g' o o' ho ho' => hs.hp.inj g g' o o' (hin g o ho).2 (hin g' o' ho').2, fun g o ho => hs.hp.own g o (hin g o ho).2, hs.hp.lt⟩, hs.df, hs.sz⟩, ?_, fun e => by rw [e] at hpm; cases hpm⟩
      · simp only
        rw [fr_map]
        split
        · rename_i hd
          exact (hs.fr d).names heq (List.all_eq_true.1 h1 d hd)
        · exact .any _
      · obtain ⟨hg, hso⟩ := hin g o ho
        have hr := List.all_eq_true.1 h2 g hg
        rw [hso] at hr
        simp only at hr
        have hob := hs.hp.ob g o hso
        cases o with
        | box v c =>
          obtain ⟨cs, el, e1, e2, e3⟩ := hob
          exact ⟨cs, el, e1, e2, fun i x hi => ⟨(e3 i x hi).1.names heq (refsInL_get (by simpa [refsInO] using hr) i x hi), (e3 i x hi).2⟩⟩
        | arr v e t c z =>
          obtain ⟨cs, e1, e2, e3, e4⟩ := hob
          refine ⟨cs, e1, e2, fun i x hi => ⟨(e3 i x hi).1.names heq ?_, (e3 i x hi).2⟩, e4⟩
          simp only [refsInO, Bool.or_eq_true] at hr
          rcases hr with hr | hr
          · exact flat_refs (List.all_eq_true.1 hr x (List.mem_of_getElem? hi))
          · exact refsInL_get hr i x hi
        | map v es =>
          obtain ⟨es', clock, e1, e2, e3⟩ := hob
          simp only [refsInO, Bool.and_eq_true] at hr
          refine ⟨es', clock, e1, e2, fun i k v hi => ?_⟩
          obtain ⟨e, he, hk, hv⟩ := e3 i k v hi
          exact ⟨e, he, hk, hv.names heq (refsInL_get hr.2 i v (by simp [List.getElem?_map, hi]))⟩
      · exact ⟨rfl, rfl, rfl, Nat.le_refl _, fun _ _ _ => rfl, fun _ cs _ _ hc => ⟨cs, hc, rfl⟩, fun _ h => h, fun _ h => .inl h, fun b ⟨g, o, ho, hz, e⟩ => .inl ⟨g, o, (hin g o ho).2, hz, e⟩⟩
    · cases hk
  · injection hk with hk
    subst hk
    refine ⟨⟨fun d => ?_, hs.hp, hs.df, hs.sz⟩, .refl, fun _ => rfl⟩
    simp only
    rw [fr_map]
    split
    · exact hs.fr d
    · exact .any _

/-! ### A slot that is written -/
theorem put_sound {nt : Nat} {σ : St} {a : Act} {w' : World} {S' : Nat → Prop} {h' : Heap} {μ' : Gh} {d : Option Nat} {v : AV} {cv : Value} (hs : RepS nt w S σ μ a) (hd : okDst nt d = true)
    (hr : Rep w' S' h' μ' v cv) (hp : RepH w' S' h' μ') (ev : Evo w S σ.h μ w' S' h' μ') (vv : EvoV σ.h μ h' μ') : RepS nt w' S' (σ.put d v h') μ' (a.put d cv) := by
  cases d with
  | none => exact ⟨fun k => (hs.fr k).evo hs.hp ev vv, hp, hs.df, hs.sz⟩
  | some d =>
    simp only [okDst, decide_eq_true_eq] at hd
    refine ⟨fun k => ?_, hp, hs.df, by simpa [Act.put] using hs.sz⟩
    simp only [St.put, Act.put]
    rw [getD_setIf]
    by_cases hk : k = d
    · subst hk
      rw [upd_same, if_pos ⟨rfl, by have := hs.sz; omega⟩]
      exact hr
    · rw [upd_other _ _ _ _ hk, if_neg (by omega)]
      exact (hs.fr k).evo hs.hp ev vv
end
end Go.Vv
