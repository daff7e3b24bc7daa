/- region: what it is for a region to be valid and to contain a cell, in plain Lean; the program's text and the reference's say so. Conditions: none. -/
import Derived.Test.YtemehoioeoohmaaTf
import Derived.Test.YtemehoioeoohmaaPy
namespace Go.Vv
open Go
/-- A loop over indices that is left at the first one that is not good. -/
theorem Jf9 {R : Type} (body : Int → Option (LR Int R)) (n : Nat) (hn : n ≤ 9223372036854775807) (good : Nat → Prop) (bad : Nat → R) (fin : R)
    (h1 : ∀ i : Nat, i < n → (∀ j, j < i → good j) → (good i → body i = some (.nx ((i + 1 : Nat) : Int))) ∧ (¬ good i → body i = some (.dn (bad i)))) (h2 : (∀ i, i < n → good i) → body n = some (.dn fin)) :
    ∃ r, Ku body bigN 0 = some r ∧ ((r = fin ∧ ∀ i, i < n → good i) ∨ ∃ i, i < n ∧ r = bad i ∧ ¬ good i ∧ ∀ j, j < i → good j) := by
  refine Zp (body := body) (fun s => ∃ i : Nat, s = i ∧ i ≤ n ∧ ∀ j, j < i → good j) (fun s => ((n : Int) - s).toNat) _ ?_ bigN 0 ⟨0, rfl, by omega, fun j hj => by omega⟩ (by rw [bigN_eq]; omega)
  rintro s ⟨i, rfl, hi, hg⟩
  by_cases hin : i < n
  · by_cases hgi : good i
    · refine .inl ⟨_, (h1 i hin hg).1 hgi, ⟨i + 1, rfl, by omega, fun j hj => ?_⟩, by omega⟩
      by_cases hji : j = i
      · rw [hji]; exact hgi
      · exact hg j (by omega)
    · exact .inr ⟨_, (h1 i hin hg).2 hgi, .inr ⟨i, hin, rfl, hgi, hg⟩⟩
  · have : i = n := by omega
    subst this
    exact .inr ⟨_, h2 hg, .inl ⟨rfl, hg⟩⟩
theorem Xz {α : Type} {x : FS α} {i : Nat} (h : i < x.l.length) : fget x (i : Int) = some x.l[i] := Ja3 (List.getElem?_eq_getElem h)
theorem Jfg {α : Type} {x : FS α} {i : Nat} (h0 : 0 < i) (h : i < x.l.length) (hb : x.l.length ≤ 9223372036854775807) : fget x (isub .i64 (i : Int) 1) = some (x.l[i - 1]'(by omega)) := by
  rw [jr (by omega) (by omega)]
  have : (i : Int) - 1 = ((i - 1 : Nat) : Int) := by omega
  rw [this]
  exact Xz (by omega)
theorem z8 {i : Nat} (h : i ≤ 9223372036854775806) : iadd .i64 (i : Int) 1 = ((i + 1 : Nat) : Int) := by rw [Jan (by omega) (by omega)]; omega
end Go.Vv
namespace Go.Proofs.Ytemehoioeoohmaa
open Go Go.Vv Go.Proofs
set_option linter.unusedSimpArgs false
set_option linter.unusedVariables false
set_option linter.unusedSectionVars false
/-- The lists are not longer than any that a memory holds. -/
def Lim (r : Jk) : Prop := r.Rows.l.length ≤ 1000000 ∧ ∀ w ∈ r.Rows.l, w.Runs.l.length ≤ 1000000
def Big (r : Jk) : Prop := r.Rows.l.length ≤ 9223372036854775807 ∧ ∀ w ∈ r.Rows.l, w.Runs.l.length ≤ 9223372036854775807
theorem Lim.big {r : Jk} (h : Lim r) : Big r := ⟨by have := h.1; omega, fun w hw => by have := h.2 w hw; omega⟩
/-- A run at its place in a list of runs. -/
def Jgu (lo hi : Int) (l : List Kg) (i : Nat) : Prop := ∀ r, l[i]? = some r → lo ≤ r.From ∧ r.From < r.To ∧ r.To ≤ hi ∧ ∀ p, 0 < i → l[i - 1]? = some p → p.To < r.From
def Jh4 (lo hi : Int) (l : List Kg) : Prop := ∀ i, i < l.length → Jgu lo hi l i
theorem Jnd (r : Kg) : Z6 r = true ↔ -1048576 ≤ r.From ∧ r.From ≤ 1048576 ∧ -1048576 ≤ r.To ∧ r.To ≤ 1048576 := by
  simp only [Z6, Jbc, z9, Jcr]; omega
theorem Jhj (x : FS Kg) (hL : x.l.length ≤ 9223372036854775807) : ∃ b, zw x = some b ∧ (b = true ↔ Jh4 (-1048576) 1048576 x.l) := by
  obtain ⟨r, e, hr⟩ := Jf9 (Yo x x (flen x)) x.l.length (by omega) (fun i => Jgu (-1048576) 1048576 x.l i) (fun _ => .inl false) (.inr ())
    (fun i hi hg => by
      have g1 := Xz hi
      have c1 : ilt (i : Int) (flen x) = true := jf (by rw [Ka]; omega)
      have key : ∀ b : Bool, (b = true ↔ ¬ Jgu (-1048576) 1048576 x.l i) → Yo x x (flen x) i = (if b = true then some (.dn (.inl false)) else some (.nx ((i + 1 : Nat) : Int))) → (Jgu (-1048576) 1048576 x.l i → Yo x x (flen x) i = some (.nx ((i + 1 : Nat) : Int))) ∧ (¬ Jgu (-1048576) 1048576 x.l i → Yo x x (flen x) i = some (.dn (.inl false))) := fun b hb he => by
        refine ⟨fun h => ?_, fun h => ?_⟩
        · rw [he, if_neg (fun h2 => hb.1 h2 h)]
        · rw [he, if_pos (hb.2 h)]
      by_cases h0 : 0 < i
      · have g2 := Jfg h0 hi (by omega)
        have c2 : igt (i : Int) 0 = true := Jdh (by omega)
        by_cases hc : bor (ige (x.l[i]).From (x.l[i]).To) (bnot (Z6 x.l[i])) = true
        · refine key true ⟨fun _ hgd => ?_, fun _ => rfl⟩ ?_
          · have := hgd _ (List.getElem?_eq_getElem hi)
            rw [z3, Jao, Jnd, z9] at hc
            omega
          · simp only [Yo, c1, if_true, g1, hc, Zi, Jbb, jh, Jgo]
        · rw [Bool.not_eq_true] at hc
          refine key (ile (x.l[i]).From (x.l[i - 1]'(by omega)).To) ?_ ?_
          · rw [← Bool.not_eq_true, z3, Jao, Jnd, z9] at hc
            rw [Jcr]
            constructor
            · intro h1 h2
              have := (h2 _ (List.getElem?_eq_getElem hi)).2.2.2 _ h0 (List.getElem?_eq_getElem (by omega))
              omega
            · intro h1
              by_cases h2 : (x.l[i]).From ≤ (x.l[i - 1]'(by omega)).To
              · exact h2
              · exfalso
                refine h1 fun r hr => ?_
                rw [List.getElem?_eq_getElem hi] at hr
                cases hr
                refine ⟨by omega, by omega, by omega, fun p _ hp => ?_⟩
                rw [List.getElem?_eq_getElem (by omega)] at hp
                cases hp
                omega
          · simp only [Yo, c1, if_true, g1, hc, je, Jbf, c2, g2, Z3, Option.getD_some, Jdt, z8 (i := i) (by omega)]
      · have c2 : igt (i : Int) 0 = false := Jd2 (by omega)
        refine key (bor (ige (x.l[i]).From (x.l[i]).To) (bnot (Z6 x.l[i]))) ?_ ?_
        · rw [z3, Jao, Jnd, z9]
          constructor
          · intro h1 h2
            have := h2 _ (List.getElem?_eq_getElem hi)
            omega
          · intro h1
            by_cases h2 : (x.l[i]).To ≤ (x.l[i]).From ∨ ¬ (-1048576 ≤ (x.l[i]).From ∧ (x.l[i]).From ≤ 1048576 ∧ -1048576 ≤ (x.l[i]).To ∧ (x.l[i]).To ≤ 1048576)
            · exact h2
            · exfalso
              refine h1 fun r hr => ?_
              rw [List.getElem?_eq_getElem hi] at hr
              cases hr
              exact ⟨by omega, by omega, by omega, fun p hp => by omega⟩
        · simp only [Yo, c1, if_true, g1, c2, Jbq, jh, Jbb, Jo0, z8 (i := i) (by omega)])
    (fun _ => by simp only [Yo, Ka, Zs (a := (x.l.length : Int)) (b := x.l.length) (by omega), Bool.false_eq_true, if_false])
  unfold zw
  rw [e]
  rcases hr with ⟨rfl, hr⟩ | ⟨i, hi, rfl, hr, -⟩
  · exact ⟨true, rfl, fun _ => hr, fun _ => rfl⟩
  · exact ⟨false, rfl, by simp only [Bool.false_eq_true, false_iff]; exact fun h => hr (h i hi)⟩
/-- Bounds of all runs are those of the first one and of the last one. -/
theorem Jmq {lo hi : Int} {l : List Kg} (h : Jh4 lo hi l) : ∀ (i : Nat) (r r0 : Kg), l[i]? = some r → l[0]? = some r0 → r0.From ≤ r.From
  | 0, r, r0, hr, h0 => by rw [hr] at h0; cases h0; omega
  | i + 1, r, r0, hr, h0 => by
    have hlt := (List.getElem?_eq_some_iff.1 hr).1
    have hp := List.getElem?_eq_getElem (l := l) (i := i) (by omega)
    have ih := Jmq h i _ _ hp h0
    have h1 := (h (i + 1) hlt _ hr).2.2.2 _ (by omega) hp
    have h2 := (h i (by omega) _ hp).2.1
    omega
theorem Jmv {lo hi : Int} {l : List Kg} (h : Jh4 lo hi l) : ∀ (k i : Nat) (r r1 : Kg), i + k + 1 = l.length → l[i]? = some r → l[l.length - 1]? = some r1 → r.To ≤ r1.To
  | 0, i, r, r1, hk, hr, h1 => by
    have : l.length - 1 = i := by omega
    rw [this, hr] at h1; cases h1; omega
  | k + 1, i, r, r1, hk, hr, h1 => by
    have hp := List.getElem?_eq_getElem (l := l) (i := i + 1) (by omega)
    have ih := Jmv h k (i + 1) _ _ (by omega) hp h1
    have a1 := (h (i + 1) (by omega) _ hp).2.2.2 r (by omega) hr
    have a2 := (h (i + 1) (by omega) _ hp).2.1
    omega
theorem Js8 {l : List Kg} (h : Jh4 (-1048576) 1048576 l) (hne : 0 < l.length) : Jh4 (-4096) 4096 l ↔ -4096 ≤ (l[0]).From ∧ (l[l.length - 1]'(by omega)).To ≤ 4096 := by
  constructor
  · intro hv
    exact ⟨(hv 0 hne _ (List.getElem?_eq_getElem hne)).1, (hv (l.length - 1) (by omega) _ (List.getElem?_eq_getElem (by omega))).2.2.1⟩
  · rintro ⟨h0, h1⟩ i hi r hr
    have a := h i hi r hr
    have b := Jmq h i r _ hr (List.getElem?_eq_getElem hne)
    have c := Jmv h (l.length - 1 - i) i r _ (by omega) hr (List.getElem?_eq_getElem (by omega))
    exact ⟨by omega, a.2.1, by omega, a.2.2.2⟩
def Jm0 (r : Jk) (i : Nat) : Prop := ∀ w, r.Rows.l[i]? = some w → -4096 ≤ w.Y ∧ w.Y < 4096 ∧ w.Runs.l ≠ [] ∧ Jh4 (-4096) 4096 w.Runs.l ∧ ∀ p, 0 < i → r.Rows.l[i - 1]? = some p → p.Y < w.Y
def Jcx (r : Jk) : Prop := ∀ i, i < r.Rows.l.length → Jm0 r i
theorem Jkc (x : Int) : Ko x = true ↔ -4096 ≤ x ∧ x < 4096 := by simp only [Ko, Jbc, z9, zb]
theorem Jd1 {r : Jk} {i : Nat} (hi : i < r.Rows.l.length) : Jm0 r i ↔ -4096 ≤ (r.Rows.l[i]).Y ∧ (r.Rows.l[i]).Y < 4096 ∧ (r.Rows.l[i]).Runs.l ≠ [] ∧ Jh4 (-4096) 4096 (r.Rows.l[i]).Runs.l ∧ (∀ _ : 0 < i, (r.Rows.l[i - 1]'(by omega)).Y < (r.Rows.l[i]).Y) := by
  constructor
  · intro h
    have a := h _ (List.getElem?_eq_getElem hi)
    exact ⟨a.1, a.2.1, a.2.2.1, a.2.2.2.1, fun h0 => a.2.2.2.2 _ h0 (List.getElem?_eq_getElem (by omega))⟩
  · intro h w hw
    rw [List.getElem?_eq_getElem hi] at hw
    cases hw
    refine ⟨h.1, h.2.1, h.2.2.1, h.2.2.2.1, fun p h0 hp => ?_⟩
    rw [List.getElem?_eq_getElem (by omega)] at hp
    cases hp
    exact h.2.2.2.2 h0
theorem jm {S R : Type} {P : Prop} {o : Option (LR S R)} {x y : Option (LR S R)} (b : Bool) (hb : b = true ↔ ¬ P) (he : o = if b = true then x else y) : (P → o = y) ∧ (¬ P → o = x) := by
  refine ⟨fun h => ?_, fun h => ?_⟩
  · rw [he, if_neg (fun h2 => hb.1 h2 h)]
  · rw [he, if_pos (hb.2 h)]
theorem Je2 (r : Jk) (hL : Big r) : ∃ b, js r = some b ∧ (b = true ↔ Jcx r) := by
  obtain ⟨hL1, hL2⟩ := hL
  obtain ⟨x, e, hr⟩ := Jf9 (Yp r r.Rows (flen r.Rows)) r.Rows.l.length (by omega) (fun i => Jm0 r i) (fun _ => .inl false) (.inr ())
    (fun i hi hg => by
      have g1 := Xz hi
      have c1 : ilt (i : Int) (flen r.Rows) = true := jf (by rw [Ka]; omega)
      have hrl := hL2 _ (List.getElem_mem hi)
      obtain ⟨bv, ev, hv⟩ := Jhj (r.Rows.l[i]).Runs hrl
      have hgood := Jd1 hi
      generalize hw : r.Rows.l[i] = w at g1 hrl ev hv hgood
      -- what comes before the runs
      have pre : ∃ p : Bool, (p = true ↔ ¬ (-4096 ≤ w.Y ∧ w.Y < 4096 ∧ (∀ _ : 0 < i, (r.Rows.l[i - 1]'(by omega)).Y < w.Y))) ∧ Yp r r.Rows (flen r.Rows) i =
          (match gOpt (bnot (bor p (ieq (flen w.Runs) 0))) (zw w.Runs) with
           | none => none
           | some v11 => (if (bor (bor p (ieq (flen w.Runs) 0)) (bnot (v11.getD false))) = true then some (.dn (.inl false))
             else (match fget w.Runs 0 with
               | none => none
               | some v15 => (match gOpt (bnot (bnot (Ko v15.From))) (fget w.Runs (isub .i64 (flen w.Runs) 1)) with
                 | none => none
                 | some v19 => (if (bor (bnot (Ko v15.From)) (bnot (Ko (isub .i64 (((v19.getD (⟨0, 0⟩ : Kg))).To) 1)))) = true then some (.dn (.inl false))
                   else some (.nx (iadd .i64 i 1))))))) := by
        by_cases h0 : 0 < i
        · have g2 := Jfg h0 hi (by omega)
          have c2 : igt (i : Int) 0 = true := Jdh (by omega)
          by_cases hy : Ko w.Y = true
          · refine ⟨ile w.Y (r.Rows.l[i - 1]'(by omega)).Y, ?_, ?_⟩
            · rw [Jcr]
              have := (Jkc _).1 hy
              constructor
              · intro h1 h2
                have := h2.2.2 h0
                omega
              · intro h1
                by_cases h2 : w.Y ≤ (r.Rows.l[i - 1]'(by omega)).Y
                · exact h2
                · exact absurd ⟨this.1, this.2, fun _ => by omega⟩ h1
            · simp only [Yp, c1, if_true, g1, hy, Zi, je, Jbf, c2, g2, Z3, Option.getD_some, Jdt]
              rfl
          · rw [Bool.not_eq_true] at hy
            refine ⟨true, ?_, ?_⟩
            · have : ¬ Ko w.Y = true := by rw [hy]; simp
              rw [Jkc] at this
              simp only [true_iff]
              exact fun h2 => this ⟨h2.1, h2.2.1⟩
            · simp only [Yp, c1, if_true, g1, hy, Zi, je, Jbb, jh, Jgo]
        · have c2 : igt (i : Int) 0 = false := Jd2 (by omega)
          refine ⟨bnot (Ko w.Y), ?_, ?_⟩
          · rw [Jao, Jkc]
            constructor
            · exact fun h1 h2 => h1 ⟨h2.1, h2.2.1⟩
            · exact fun h1 h2 => h1 ⟨h2.1, h2.2, fun h3 => absurd h3 h0⟩
          · simp only [Yp, c1, if_true, g1, c2, Jbq, jh, Jbb, Jo0]
            rfl
      obtain ⟨p, hp, he⟩ := pre
      rw [z8 (i := i) (by omega)] at he
      by_cases hpt : p = true
      · refine jm true ⟨fun _ hg2 => ?_, fun _ => rfl⟩ ?_
        · have := hgood.1 hg2
          exact hp.1 hpt ⟨this.1, this.2.1, this.2.2.2.2⟩
        · rw [he, hpt]; simp only [Jgo, Zi, jh, if_true]
      · have hpf : p = false := by simpa using hpt
        have hpo : -4096 ≤ w.Y ∧ w.Y < 4096 ∧ (∀ _ : 0 < i, (r.Rows.l[i - 1]'(by omega)).Y < w.Y) := by
          by_cases h2 : -4096 ≤ w.Y ∧ w.Y < 4096 ∧ (∀ _ : 0 < i, (r.Rows.l[i - 1]'(by omega)).Y < w.Y)
          · exact h2
          · exact absurd (hp.2 h2) hpt
        rw [hpf] at he
        simp only [Jdt] at he
        by_cases hz : w.Runs.l.length = 0
        · have c3 : ieq (flen w.Runs) 0 = true := Jlx (by rw [Ka]; omega)
          refine jm true ⟨fun _ hg2 => ?_, fun _ => rfl⟩ ?_
          · exact (hgood.1 hg2).2.2.1 (List.length_eq_zero_iff.1 hz)
          · rw [he, c3]; simp only [Jgo, Zi, jh, if_true]
        · have c3 : ieq (flen w.Runs) 0 = false := Jff (by rw [Ka]; omega)
          rw [c3] at he
          simp only [je, ev, Z3, Option.getD_some, Jdt] at he
          by_cases hbv : bv = true
          · have hV := hv.1 hbv
            have hends := Js8 hV (by omega)
            rw [hbv] at he
            have s1 : isub .i64 (flen w.Runs) 1 = ((w.Runs.l.length - 1 : Nat) : Int) := by rw [Ka, jr (by omega) (by omega)]; omega
            have g3 : fget w.Runs 0 = some (w.Runs.l[0]'(by omega)) := Xz (i := 0) (by omega)
            have g4 := Xz (x := w.Runs) (i := w.Runs.l.length - 1) (by omega)
            have f0 := hV 0 (by omega) _ (List.getElem?_eq_getElem (by omega))
            have f1 := hV (w.Runs.l.length - 1) (by omega) _ (List.getElem?_eq_getElem (by omega))
            have ft := Jmv hV (w.Runs.l.length - 1) 0 _ _ (by omega) (List.getElem?_eq_getElem (by omega)) (List.getElem?_eq_getElem (by omega))
            have s2 : isub .i64 (w.Runs.l[w.Runs.l.length - 1]'(by omega)).To 1 = (w.Runs.l[w.Runs.l.length - 1]'(by omega)).To - 1 := jr (by omega) (by omega)
            simp only [Zi, Bool.false_eq_true, if_false, g3, s1] at he
            refine jm (bor (bnot (Ko (w.Runs.l[0]'(by omega)).From)) (bnot (Ko ((w.Runs.l[w.Runs.l.length - 1]'(by omega)).To - 1)))) ?_ ?_
            · rw [z3, Jao, Jao, Jkc, Jkc, hgood, hends]
              constructor
              · intro h1 h2
                have := h2.2.2.2.1
                omega
              · intro h1
                by_cases h2 : -4096 ≤ (w.Runs.l[0]'(by omega)).From ∧ (w.Runs.l[w.Runs.l.length - 1]'(by omega)).To ≤ 4096
                · exact absurd ⟨hpo.1, hpo.2.1, fun h3 => hz (by rw [h3]; rfl), h2, hpo.2.2⟩ h1
                · omega
            · rw [he]
              by_cases ho : Ko (w.Runs.l[0]'(by omega)).From = true
              · simp only [ho, Zi, je, g4, Z3, Option.getD_some, s2, Jdt]
              · rw [Bool.not_eq_true] at ho
                simp only [ho, Zi, je, jh, Jgo, if_true]
          · have hbf : bv = false := by simpa using hbv
            rw [hbf] at he
            refine jm true ⟨fun _ hg2 => ?_, fun _ => rfl⟩ ?_
            · have h3 := (hgood.1 hg2).2.2.2.1
              exact hbv (hv.2 fun j hj q hq => by have := h3 j hj q hq; exact ⟨by omega, this.2.1, by omega, this.2.2.2⟩)
            · rw [he]; simp only [je, if_true])
    (fun _ => by simp only [Yp, Ka, Zs (a := (r.Rows.l.length : Int)) (b := r.Rows.l.length) (by omega), Bool.false_eq_true, if_false])
  unfold js
  rw [e]
  rcases hr with ⟨rfl, hr⟩ | ⟨i, hi, rfl, hr, -⟩
  · exact ⟨true, rfl, fun _ => hr, fun _ => rfl⟩
  · exact ⟨false, rfl, by simp only [Bool.false_eq_true, false_iff]; exact fun h => hr (h i hi)⟩
/-! The reference. -/
theorem fine_ok (x : FS Kg) (hL : x.l.length ≤ 9223372036854775807) : ∃ b, Zm x = some b ∧ (b = true ↔ x.l ≠ [] ∧ Jh4 (-4096) 4096 x.l) := by
  obtain ⟨r, e, hr⟩ := Jf9 (Xg x) x.l.length (by omega) (fun i => Jgu (-4096) 4096 x.l i) (fun _ => .inl false) (.inr ())
    (fun i hi hg => by
      have g1 := Xz hi
      have c1 : ilt (i : Int) (flen x) = true := jf (by rw [Ka]; omega)
      have hgr : Jgu (-4096) 4096 x.l i ↔ -4096 ≤ (x.l[i]).From ∧ (x.l[i]).From < (x.l[i]).To ∧ (x.l[i]).To ≤ 4096 ∧ (∀ _ : 0 < i, (x.l[i - 1]'(by omega)).To < (x.l[i]).From) := by
        constructor
        · intro h
          have a := h _ (List.getElem?_eq_getElem hi)
          exact ⟨a.1, a.2.1, a.2.2.1, fun h0 => a.2.2.2 _ h0 (List.getElem?_eq_getElem (by omega))⟩
        · intro h q hq
          rw [List.getElem?_eq_getElem hi] at hq
          cases hq
          refine ⟨h.1, h.2.1, h.2.2.1, fun p h0 hp => ?_⟩
          rw [List.getElem?_eq_getElem (by omega)] at hp
          cases hp
          exact h.2.2.2 h0
      generalize hq : x.l[i] = q at g1 hgr
      by_cases h0 : 0 < i
      · have g2 := Jfg h0 hi (by omega)
        have c2 : igt (i : Int) 0 = true := Jdh (by omega)
        by_cases hc : bor (bor (ilt q.From (-4096)) (ige q.From q.To)) (igt q.To 4096) = true
        · refine jm true ⟨fun _ hgd => ?_, fun _ => rfl⟩ ?_
          · have := hgr.1 hgd
            simp only [z3, zb, z9, Jek] at hc
            omega
          · simp only [Xg, c1, if_true, g1, hc, Zi, Jbb, jh, Jgo]
        · rw [Bool.not_eq_true] at hc
          refine jm (ile q.From (x.l[i - 1]'(by omega)).To) ?_ ?_
          · rw [← Bool.not_eq_true] at hc
            simp only [z3, zb, z9, Jek] at hc
            rw [Jcr, hgr]
            constructor
            · intro h1 h2
              have := h2.2.2.2 h0
              omega
            · intro h1
              by_cases h2 : q.From ≤ (x.l[i - 1]'(by omega)).To
              · exact h2
              · exact absurd ⟨by omega, by omega, by omega, fun _ => by omega⟩ h1
          · simp only [Xg, c1, if_true, g1, hc, je, Jbf, c2, g2, Z3, Option.getD_some, Jdt, z8 (i := i) (by omega)]
      · have c2 : igt (i : Int) 0 = false := Jd2 (by omega)
        refine jm (bor (bor (ilt q.From (-4096)) (ige q.From q.To)) (igt q.To 4096)) ?_ ?_
        · simp only [z3, zb, z9, Jek]
          rw [hgr]
          constructor
          · intro h1 h2; omega
          · intro h1
            by_cases h2 : (q.From < -4096 ∨ q.To ≤ q.From) ∨ 4096 < q.To
            · exact h2
            · exact absurd ⟨by omega, by omega, by omega, fun h3 => absurd h3 h0⟩ h1
        · simp only [Xg, c1, if_true, g1, c2, Jbq, jh, Jbb, Jo0, z8 (i := i) (by omega)])
    (fun _ => by simp only [Xg, Ka, Zs (a := (x.l.length : Int)) (b := x.l.length) (by omega), Bool.false_eq_true, if_false])
  unfold Zm
  rw [e]
  rcases hr with ⟨rfl, hr⟩ | ⟨i, hi, rfl, hr, -⟩
  · refine ⟨_, rfl, ?_⟩
    rw [Jek, Ka]
    constructor
    · exact fun h => ⟨fun h2 => by rw [h2] at h; simp at h, hr⟩
    · rintro ⟨h, -⟩
      have : x.l.length ≠ 0 := fun h2 => h (List.length_eq_zero_iff.1 h2)
      omega
  · exact ⟨false, rfl, by simp only [Bool.false_eq_true, false_iff]; exact fun h => hr (h.2 i hi)⟩
theorem Jhd (r : Jk) (hL : Big r) : ∃ b, Y8 r = some b ∧ (b = true ↔ Jcx r) := by
  obtain ⟨hL1, hL2⟩ := hL
  obtain ⟨x, e, hr⟩ := Jf9 (Qp r) r.Rows.l.length (by omega) (fun i => Jm0 r i) (fun _ => .inl false) (.inr ())
    (fun i hi hg => by
      have g1 := Xz hi
      have c1 : ilt (i : Int) (flen r.Rows) = true := jf (by rw [Ka]; omega)
      have hrl := hL2 _ (List.getElem_mem hi)
      obtain ⟨bv, ev, hv⟩ := fine_ok (r.Rows.l[i]).Runs hrl
      have hgood := Jd1 hi
      generalize hw : r.Rows.l[i] = w at g1 hrl ev hv hgood
      have pre : ∃ p : Bool, (p = true ↔ ¬ (-4096 ≤ w.Y ∧ w.Y < 4096 ∧ (∀ _ : 0 < i, (r.Rows.l[i - 1]'(by omega)).Y < w.Y))) ∧ Qp r i =
          (match gOpt (bnot p) (Zm w.Runs) with
           | none => none
           | some v11 => (if (bor p (bnot (v11.getD false))) = true then some (.dn (.inl false)) else some (.nx (iadd .i64 i 1)))) := by
        by_cases h0 : 0 < i
        · have g2 := Jfg h0 hi (by omega)
          have c2 : igt (i : Int) 0 = true := Jdh (by omega)
          by_cases hy : bor (ilt w.Y (-4096)) (ige w.Y 4096) = true
          · refine ⟨true, ?_, ?_⟩
            · simp only [z3, zb, z9] at hy
              simp only [true_iff]
              exact fun h2 => by omega
            · simp only [Qp, c1, if_true, g1, hy, Zi, je, Jbb, jh, Jgo]
          · rw [Bool.not_eq_true] at hy
            refine ⟨ile w.Y (r.Rows.l[i - 1]'(by omega)).Y, ?_, ?_⟩
            · rw [← Bool.not_eq_true] at hy
              simp only [z3, zb, z9] at hy
              rw [Jcr]
              constructor
              · intro h1 h2
                have := h2.2.2 h0
                omega
              · intro h1
                by_cases h2 : w.Y ≤ (r.Rows.l[i - 1]'(by omega)).Y
                · exact h2
                · exact absurd ⟨by omega, by omega, fun _ => by omega⟩ h1
            · simp only [Qp, c1, if_true, g1, hy, Zi, je, Jbf, c2, g2, Z3, Option.getD_some, Jdt]
              rfl
        · have c2 : igt (i : Int) 0 = false := Jd2 (by omega)
          refine ⟨bor (ilt w.Y (-4096)) (ige w.Y 4096), ?_, ?_⟩
          · simp only [z3, zb, z9]
            constructor
            · exact fun h1 h2 => by omega
            · intro h1
              by_cases h2 : w.Y < -4096 ∨ 4096 ≤ w.Y
              · exact h2
              · exact absurd ⟨by omega, by omega, fun h3 => absurd h3 h0⟩ h1
          · simp only [Qp, c1, if_true, g1, c2, Jbq, jh, Jbb, Jo0]
            rfl
      obtain ⟨p, hp, he⟩ := pre
      rw [z8 (i := i) (by omega)] at he
      by_cases hpt : p = true
      · refine jm true ⟨fun _ hg2 => ?_, fun _ => rfl⟩ ?_
        · have := hgood.1 hg2
          exact hp.1 hpt ⟨this.1, this.2.1, this.2.2.2.2⟩
        · rw [he, hpt]; simp only [Jgo, Zi, jh, if_true]
      · have hpf : p = false := by simpa using hpt
        have hpo : -4096 ≤ w.Y ∧ w.Y < 4096 ∧ (∀ _ : 0 < i, (r.Rows.l[i - 1]'(by omega)).Y < w.Y) := by
          by_cases h2 : -4096 ≤ w.Y ∧ w.Y < 4096 ∧ (∀ _ : 0 < i, (r.Rows.l[i - 1]'(by omega)).Y < w.Y)
          · exact h2
          · exact absurd (hp.2 h2) hpt
        rw [hpf] at he
        simp only [Jdt, je, ev, Z3, Option.getD_some] at he
        refine jm (bnot bv) ?_ he
        rw [Jao, hv, hgood]
        constructor
        · exact fun h1 h2 => h1 ⟨h2.2.2.1, h2.2.2.2.1⟩
        · exact fun h1 h2 => h1 ⟨hpo.1, hpo.2.1, h2.1, h2.2, hpo.2.2⟩)
    (fun _ => by simp only [Qp, Ka, Zs (a := (r.Rows.l.length : Int)) (b := r.Rows.l.length) (by omega), Bool.false_eq_true, if_false])
  unfold Y8
  rw [e]
  rcases hr with ⟨rfl, hr⟩ | ⟨i, hi, rfl, hr, -⟩
  · exact ⟨true, rfl, fun _ => hr, fun _ => rfl⟩
  · exact ⟨false, rfl, by simp only [Bool.false_eq_true, false_iff]; exact fun h => hr (h i hi)⟩
theorem Jjo (r : Jk) (hL : Lim r) : ∃ b, js r = some b ∧ (b = true ↔ Jcx r) := Je2 r hL.big
theorem Jor (r : Jk) (hL : Lim r) : ∃ b, Y8 r = some b ∧ (b = true ↔ Jcx r) := Jhd r hL.big
end Go.Proofs.Ytemehoioeoohmaa
