/- region: what it is for a region to be valid and to contain a cell, in plain Lean; the program's text and the reference's say so. Conditions: none. -/
import Derived.Test.YtemehoioeoohmaaGreatTg
import Derived.Test.YtemehoioeoohmaaGreatPy
open List renaming getElem?_eq_getElem → Aa, getElem?_eq_some_iff → Ac, getElem_of_mem → Ae, getElem?_append_left → Ag, getElem?_map → Ah, mem_of_getElem? → Ai, length_cons → Aj, getElem_mem → Ak, prefix_refl → Al, mem_singleton → Am, length_drop → Ao, getElem?_eq_none → Ap, mem_map → Aq, prefix_append → Ar, length_append → As, getElem?_append_right → At, length_eq_zero_iff → Au, map_append → Aw, length_map → Ax, length_set → Ay, length_reverse → Az
open Bool renaming false_eq_true → Ab, not_eq_true → Ad
open Option renaming getD_some → Af
open Int renaming toNat_natCast → An, eq_ofNat_of_zero_le → Av
namespace Go.Vv
open Go
theorem Jgf {R : Type} (body : Int → Option (LR Int R)) (n : Nat) (hn : n ≤ 9223372036854775807) (good : Nat → Prop) (bad : Nat → R) (fin : R)
  (h1 : ∀ i : Nat, i < n → (∀ j, j < i → good j) → (good i → body i = some (.nx ((i + 1 : Nat) : Int))) ∧ (¬ good i → body i = some (.dn (bad i)))) (h2 : (∀ i, i < n → good i) → body n = some (.dn fin)) :
  ∃ r, Kn body bigN 0 = some r ∧ ((r = fin ∧ ∀ i, i < n → good i) ∨ ∃ i, i < n ∧ r = bad i ∧ ¬ good i ∧ ∀ j, j < i → good j) := by
 refine Qe (body := body) (fun s => ∃ i : Nat, s = i ∧ i ≤ n ∧ ∀ j, j < i → good j) (fun s => ((n : Int) - s).toNat) _ ?_ bigN 0 ⟨0, rfl, by omega, fun j hj => by omega⟩ (by rw [bigN_eq]; omega)
 rintro s ⟨i, rfl, hi, hg⟩
 by_cases hin : i < n
 ·by_cases hgi : good i
  ·refine .inl ⟨_, (h1 i hin hg).1 hgi, ⟨i + 1, rfl, by omega, fun j hj => ?_⟩, by omega⟩
   by_cases hji : j = i
   ·rw [hji]; exact hgi
   ·exact hg j (by omega)
  ·exact .inr ⟨_, (h1 i hin hg).2 hgi, .inr ⟨i, hin, rfl, hgi, hg⟩⟩
 ·have : i = n := by omega
  subst this
  exact .inr ⟨_, h2 hg, .inl ⟨rfl, hg⟩⟩
theorem Ku {α : Type} {x : FS α} {i : Nat} (h : i < x.l.length) : fget x (i : Int) = some x.l[i] := Jcj (Aa h)
theorem Jia {α : Type} {x : FS α} {i : Nat} (h0 : 0 < i) (h : i < x.l.length) (hb : x.l.length ≤ 9223372036854775807) : fget x (isub .i64 (i : Int) 1) = some (x.l[i - 1]'(by omega)) := by
 rw [Xc (by omega) (by omega)]
 have : (i : Int) - 1 = ((i - 1 : Nat) : Int) := by omega
 rw [this]; try rw [Je]
 exact Ku (by omega)
theorem zx {i : Nat} (h : i ≤ 9223372036854775806) : iadd .i64 (i : Int) 1 = ((i + 1 : Nat) : Int) := by rw [zt (by omega) (by omega)]; omega
end Go.Vv
namespace Go.Proofs.YtemehoioeoohmaaGreat
open Go Go.Vv Go.Proofs
set_option linter.unusedSimpArgs false
set_option linter.unusedVariables false
set_option linter.unusedSectionVars false
def Lim (r : Jl) : Prop := r.Rows.l.length ≤ 1000000 ∧ ∀ w ∈ r.Rows.l, w.Runs.l.length ≤ 1000000
def Big (r : Jl) : Prop := r.Rows.l.length ≤ 9223372036854775807 ∧ ∀ w ∈ r.Rows.l, w.Runs.l.length ≤ 9223372036854775807
theorem Lim.big {r : Jl} (h : Lim r) : Big r := ⟨by have := h.1; omega, fun w hw => by have := h.2 w hw; omega⟩
def Jmi (lo hi : Int) (l : List Kk) (i : Nat) : Prop := ∀ r, l[i]? = some r → lo ≤ r.From ∧ r.From < r.To ∧ r.To ≤ hi ∧ ∀ p, 0 < i → l[i - 1]? = some p → p.To < r.From
def Jod (lo hi : Int) (l : List Kk) : Prop := ∀ i, i < l.length → Jmi lo hi l i
theorem Jsr (r : Kk) : Jcn r = true ↔ -1048576 ≤ r.From ∧ r.From ≤ 1048576 ∧ -1048576 ≤ r.To ∧ r.To ≤ 1048576 := by
 simp only [Je, Jcn, zd, Jbg, Je9]; omega
theorem Jm1 (x : FS Kk) (hL : x.l.length ≤ 9223372036854775807) : ∃ b, Jeo x = some b ∧ (b = true ↔ Jod (-1048576) 1048576 x.l) := by
 obtain ⟨r, e, hr⟩ := Jgf (zs x x (flen x)) x.l.length (by omega) (fun i => Jmi (-1048576) 1048576 x.l i) (fun _ => .inl false) (.inr ())
  (fun i hi hg => by
   have g1 := Ku hi
   have c1 : ilt (i : Int) (flen x) = true := Xg (by rw [Jp]; omega)
   have key : ∀ b : Bool, (b = true ↔ ¬ Jmi (-1048576) 1048576 x.l i) → zs x x (flen x) i = (if b = true then some (.dn (.inl false)) else some (.nx ((i + 1 : Nat) : Int))) → (Jmi (-1048576) 1048576 x.l i → zs x x (flen x) i = some (.nx ((i + 1 : Nat) : Int))) ∧ (¬ Jmi (-1048576) 1048576 x.l i → zs x x (flen x) i = some (.dn (.inl false))) := fun b hb he => by
    refine ⟨fun h => ?_, fun h => ?_⟩
    ·rw [he, if_neg (fun h2 => hb.1 h2 h)]
    ·rw [he, if_pos (hb.2 h)]
   by_cases h0 : 0 < i
   ·have g2 := Jia h0 hi (by omega)
    have c2 : igt (i : Int) 0 = true := Jf6 (by omega)
    by_cases hc : bor (ige (x.l[i]).From (x.l[i]).To) (bnot (Jcn x.l[i])) = true
    ·refine key true ⟨fun _ hgd => ?_, fun _ => rfl⟩ ?_
     ·have := hgd _ (Aa hi)
      rw [Yi, Jbj, Jsr, Jbg] at hc
      omega
     ·simp only [Je, zs, c1, if_true, g1, hc, Qx, Jd5, jp, Jjm]
    ·rw [Ad] at hc
     refine key (ile (x.l[i]).From (x.l[i - 1]'(by omega)).To) ?_ ?_
     ·rw [← Ad, Yi, Jbj, Jsr, Jbg] at hc
      rw [Je9]; try rw [Je]
      constructor
      ·intro h1 h2
       have := (h2 _ (Aa hi)).2.2.2 _ h0 (Aa (by omega))
       omega
      ·intro h1
       by_cases h2 : (x.l[i]).From ≤ (x.l[i - 1]'(by omega)).To
       ·exact h2
       ·exfalso
        refine h1 fun r hr => ?_
        rw [Aa hi] at hr
        cases hr
        refine ⟨by omega, by omega, by omega, fun p _ hp => ?_⟩
        rw [Aa (by omega)] at hp
        cases hp
        omega
     ·simp only [Je, zs, c1, if_true, g1, hc, Zt, Jdr, c2, g2, Y4, Af, Jgt, zx (i := i) (by omega)]
   ·have c2 : igt (i : Int) 0 = false := Jhc (by omega)
    refine key (bor (ige (x.l[i]).From (x.l[i]).To) (bnot (Jcn x.l[i]))) ?_ ?_
    ·rw [Yi, Jbj, Jsr, Jbg]
     constructor
     ·intro h1 h2
      have := h2 _ (Aa hi)
      omega
     ·intro h1
      by_cases h2 : (x.l[i]).To ≤ (x.l[i]).From ∨ ¬ (-1048576 ≤ (x.l[i]).From ∧ (x.l[i]).From ≤ 1048576 ∧ -1048576 ≤ (x.l[i]).To ∧ (x.l[i]).To ≤ 1048576)
      ·exact h2
      ·exfalso
       refine h1 fun r hr => ?_
       rw [Aa hi] at hr
       cases hr
       exact ⟨by omega, by omega, by omega, fun p hp => by omega⟩
    ·simp only [Je, zs, c1, if_true, g1, c2, Jfy, jp, Jd5, Juj, zx (i := i) (by omega)])
  (fun _ => by simp only [Je, zs, Jp, Xe (a := (x.l.length : Int)) (b := x.l.length) (by omega), Ab, if_false])
 unfold Jeo
 rw [e]; try rw [Je]; try simp only [Je]
 rcases hr with ⟨rfl, hr⟩ | ⟨i, hi, rfl, hr, -⟩
 ·exact ⟨true, rfl, fun _ => hr, fun _ => rfl⟩
 ·exact ⟨false, rfl, by simp only [Je, Ab, false_iff]; exact fun h => hr (h i hi)⟩
theorem Jrh {lo hi : Int} {l : List Kk} (h : Jod lo hi l) : ∀ (i : Nat) (r r0 : Kk), l[i]? = some r → l[0]? = some r0 → r0.From ≤ r.From
 | 0, r, r0, hr, h0 => by rw [hr] at h0; cases h0; omega
 | i + 1, r, r0, hr, h0 => by
  have hlt := (Ac.1 hr).1
  have hp := Aa (l := l) (i := i) (by omega)
  have ih := Jrh h i _ _ hp h0
  have h1 := (h (i + 1) hlt _ hr).2.2.2 _ (by omega) hp
  have h2 := (h i (by omega) _ hp).2.1
  omega
theorem Jsv {lo hi : Int} {l : List Kk} (h : Jod lo hi l) : ∀ (k i : Nat) (r r1 : Kk), i + k + 1 = l.length → l[i]? = some r → l[l.length - 1]? = some r1 → r.To ≤ r1.To
 | 0, i, r, r1, hk, hr, h1 => by
  have : l.length - 1 = i := by omega
  rw [this, hr] at h1; cases h1; omega
 | k + 1, i, r, r1, hk, hr, h1 => by
  have hp := Aa (l := l) (i := i + 1) (by omega)
  have ih := Jsv h k (i + 1) _ _ (by omega) hp h1
  have a1 := (h (i + 1) (by omega) _ hp).2.2.2 r (by omega) hr
  have a2 := (h (i + 1) (by omega) _ hp).2.1
  omega
theorem Jzt {l : List Kk} (h : Jod (-1048576) 1048576 l) (hne : 0 < l.length) : Jod (-4096) 4096 l ↔ -4096 ≤ (l[0]).From ∧ (l[l.length - 1]'(by omega)).To ≤ 4096 := by
 constructor
 ·intro hv
  exact ⟨(hv 0 hne _ (Aa hne)).1, (hv (l.length - 1) (by omega) _ (Aa (by omega))).2.2.1⟩
 ·rintro ⟨h0, h1⟩ i hi r hr
  have a := h i hi r hr
  have b := Jrh h i r _ hr (Aa hne)
  have c := Jsv h (l.length - 1 - i) i r _ (by omega) hr (Aa (by omega))
  exact ⟨by omega, a.2.1, by omega, a.2.2.2⟩
def Js0 (r : Jl) (i : Nat) : Prop := ∀ w, r.Rows.l[i]? = some w → -4096 ≤ w.Y ∧ w.Y < 4096 ∧ w.Runs.l ≠ [] ∧ Jod (-4096) 4096 w.Runs.l ∧ ∀ p, 0 < i → r.Rows.l[i - 1]? = some p → p.Y < w.Y
def Jg8 (r : Jl) : Prop := ∀ i, i < r.Rows.l.length → Js0 r i
theorem Jp9 (x : Int) : K0 x = true ↔ -4096 ≤ x ∧ x < 4096 := by simp only [Je, K0, zd, Jbg, Yj]
theorem Jjv {r : Jl} {i : Nat} (hi : i < r.Rows.l.length) : Js0 r i ↔ -4096 ≤ (r.Rows.l[i]).Y ∧ (r.Rows.l[i]).Y < 4096 ∧ (r.Rows.l[i]).Runs.l ≠ [] ∧ Jod (-4096) 4096 (r.Rows.l[i]).Runs.l ∧ (∀ _ : 0 < i, (r.Rows.l[i - 1]'(by omega)).Y < (r.Rows.l[i]).Y) := by
 constructor
 ·intro h
  have a := h _ (Aa hi)
  exact ⟨a.1, a.2.1, a.2.2.1, a.2.2.2.1, fun h0 => a.2.2.2.2 _ h0 (Aa (by omega))⟩
 ·intro h w hw
  rw [Aa hi] at hw
  cases hw
  refine ⟨h.1, h.2.1, h.2.2.1, h.2.2.2.1, fun p h0 hp => ?_⟩
  rw [Aa (by omega)] at hp
  cases hp
  exact h.2.2.2.2 h0
theorem jd {S R : Type} {P : Prop} {o : Option (LR S R)} {x y : Option (LR S R)} (b : Bool) (hb : b = true ↔ ¬ P) (he : o = if b = true then x else y) : (P → o = y) ∧ (¬ P → o = x) := by
 refine ⟨fun h => ?_, fun h => ?_⟩
 ·rw [he, if_neg (fun h2 => hb.1 h2 h)]
 ·rw [he, if_pos (hb.2 h)]
theorem Jku (r : Jl) (hL : Big r) : ∃ b, Jdm r = some b ∧ (b = true ↔ Jg8 r) := by
 obtain ⟨hL1, hL2⟩ := hL
 obtain ⟨x, e, hr⟩ := Jgf (Jaa r r.Rows (flen r.Rows)) r.Rows.l.length (by omega) (fun i => Js0 r i) (fun _ => .inl false) (.inr ())
  (fun i hi hg => by
   have g1 := Ku hi
   have c1 : ilt (i : Int) (flen r.Rows) = true := Xg (by rw [Jp]; omega)
   have hrl := hL2 _ (Ak hi)
   obtain ⟨bv, ev, hv⟩ := Jm1 (r.Rows.l[i]).Runs hrl
   have hgood := Jjv hi
   generalize hw : r.Rows.l[i] = w at g1 hrl ev hv hgood
   have pre : ∃ p : Bool, (p = true ↔ ¬ (-4096 ≤ w.Y ∧ w.Y < 4096 ∧ (∀ _ : 0 < i, (r.Rows.l[i - 1]'(by omega)).Y < w.Y))) ∧ Jaa r r.Rows (flen r.Rows) i =
     (J6 (gOpt (bnot (bor p (ieq (flen w.Runs) 0))) (Jeo w.Runs)) fun v11 => (if (bor (bor p (ieq (flen w.Runs) 0)) (bnot (v11.getD false))) = true then some (.dn (.inl false))
       else (J6 (fget w.Runs 0) fun v15 => (J6 (gOpt (bnot (bnot (K0 v15.From))) (fget w.Runs (isub .i64 (flen w.Runs) 1))) fun v19 => (if (bor (bnot (K0 v15.From)) (bnot (K0 (isub .i64 (((v19.getD (⟨0, 0⟩ : Kk))).To) 1)))) = true then some (.dn (.inl false))
          else some (.nx (iadd .i64 i 1))))))) := by
    by_cases h0 : 0 < i
    ·have g2 := Jia h0 hi (by omega)
     have c2 : igt (i : Int) 0 = true := Jf6 (by omega)
     by_cases hy : K0 w.Y = true
     ·refine ⟨ile w.Y (r.Rows.l[i - 1]'(by omega)).Y, ?_, ?_⟩
      ·rw [Je9]; try rw [Je]
       have := (Jp9 _).1 hy
       constructor
       ·intro h1 h2
        have := h2.2.2 h0
        omega
       ·intro h1
        by_cases h2 : w.Y ≤ (r.Rows.l[i - 1]'(by omega)).Y
        ·exact h2
        ·exact absurd ⟨this.1, this.2, fun _ => by omega⟩ h1
      ·simp only [Je, Jaa, c1, if_true, g1, hy, Qx, Zt, Jdr, c2, g2, Y4, Af, Jgt]
     ·rw [Ad] at hy
      refine ⟨true, ?_, ?_⟩
      ·have : ¬ K0 w.Y = true := by rw [hy]; simp
       rw [Jp9] at this
       simp only [Je, true_iff]
       exact fun h2 => this ⟨h2.1, h2.2.1⟩
      ·simp only [Je, Jaa, c1, if_true, g1, hy, Qx, Zt, Jd5, jp, Jjm]
    ·have c2 : igt (i : Int) 0 = false := Jhc (by omega)
     refine ⟨bnot (K0 w.Y), ?_, ?_⟩
     ·rw [Jbj, Jp9]
      constructor
      ·exact fun h1 h2 => h1 ⟨h2.1, h2.2.1⟩
      ·exact fun h1 h2 => h1 ⟨h2.1, h2.2, fun h3 => absurd h3 h0⟩
     ·simp only [Je, Jaa, c1, if_true, g1, c2, Jfy, jp, Jd5, Juj]
   obtain ⟨p, hp, he⟩ := pre
   rw [zx (i := i) (by omega)] at he
   by_cases hpt : p = true
   ·refine jd true ⟨fun _ hg2 => ?_, fun _ => rfl⟩ ?_
    ·have := hgood.1 hg2
     exact hp.1 hpt ⟨this.1, this.2.1, this.2.2.2.2⟩
    ·rw [he, hpt]; simp only [Je, Jjm, Qx, jp, if_true]
   ·have hpf : p = false := by simpa using hpt
    have hpo : -4096 ≤ w.Y ∧ w.Y < 4096 ∧ (∀ _ : 0 < i, (r.Rows.l[i - 1]'(by omega)).Y < w.Y) := by
     by_cases h2 : -4096 ≤ w.Y ∧ w.Y < 4096 ∧ (∀ _ : 0 < i, (r.Rows.l[i - 1]'(by omega)).Y < w.Y)
     ·exact h2
     ·exact absurd (hp.2 h2) hpt
    rw [hpf] at he
    simp only [Je, Jgt] at he
    by_cases hz : w.Runs.l.length = 0
    ·have c3 : ieq (flen w.Runs) 0 = true := Jlb (by rw [Jp]; omega)
     refine jd true ⟨fun _ hg2 => ?_, fun _ => rfl⟩ ?_
     ·exact (hgood.1 hg2).2.2.1 (Au.1 hz)
     ·rw [he, c3]; simp only [Je, Jjm, Qx, jp, if_true]
    ·have c3 : ieq (flen w.Runs) 0 = false := Jg9 (by rw [Jp]; omega)
     rw [c3] at he
     simp only [Je, Zt, ev, Y4, Af, Jgt] at he
     by_cases hbv : bv = true
     ·have hV := hv.1 hbv
      have hends := Jzt hV (by omega)
      rw [hbv] at he
      have s1 : isub .i64 (flen w.Runs) 1 = ((w.Runs.l.length - 1 : Nat) : Int) := by rw [Jp, Xc (by omega) (by omega)]; omega
      have g3 : fget w.Runs 0 = some (w.Runs.l[0]'(by omega)) := Ku (i := 0) (by omega)
      have g4 := Ku (x := w.Runs) (i := w.Runs.l.length - 1) (by omega)
      have f0 := hV 0 (by omega) _ (Aa (by omega))
      have f1 := hV (w.Runs.l.length - 1) (by omega) _ (Aa (by omega))
      have ft := Jsv hV (w.Runs.l.length - 1) 0 _ _ (by omega) (Aa (by omega)) (Aa (by omega))
      have s2 : isub .i64 (w.Runs.l[w.Runs.l.length - 1]'(by omega)).To 1 = (w.Runs.l[w.Runs.l.length - 1]'(by omega)).To - 1 := Xc (by omega) (by omega)
      simp only [Je, Qx, Ab, if_false, g3, s1] at he
      refine jd (bor (bnot (K0 (w.Runs.l[0]'(by omega)).From)) (bnot (K0 ((w.Runs.l[w.Runs.l.length - 1]'(by omega)).To - 1)))) ?_ ?_
      ·rw [Yi, Jbj, Jbj, Jp9, Jp9, hgood, hends]
       constructor
       ·intro h1 h2
        have := h2.2.2.2.1
        omega
       ·intro h1
        by_cases h2 : -4096 ≤ (w.Runs.l[0]'(by omega)).From ∧ (w.Runs.l[w.Runs.l.length - 1]'(by omega)).To ≤ 4096
        ·exact absurd ⟨hpo.1, hpo.2.1, fun h3 => hz (by rw [h3]; rfl), h2, hpo.2.2⟩ h1
        ·omega
      ·rw [he]; try rw [Je]
       by_cases ho : K0 (w.Runs.l[0]'(by omega)).From = true
       ·simp only [Je, ho, Qx, Zt, g4, Y4, Af, s2, Jgt]
       ·rw [Ad] at ho
        simp only [Je, ho, Qx, Zt, jp, Jjm, if_true]
     ·have hbf : bv = false := by simpa using hbv
      rw [hbf] at he
      refine jd true ⟨fun _ hg2 => ?_, fun _ => rfl⟩ ?_
      ·have h3 := (hgood.1 hg2).2.2.2.1
       exact hbv (hv.2 fun j hj q hq => by have := h3 j hj q hq; exact ⟨by omega, this.2.1, by omega, this.2.2.2⟩)
      ·rw [he]; simp only [Je, Zt, if_true])
  (fun _ => by simp only [Je, Jaa, Jp, Xe (a := (r.Rows.l.length : Int)) (b := r.Rows.l.length) (by omega), Ab, if_false])
 unfold Jdm
 rw [e]; try rw [Je]; try simp only [Je]
 rcases hr with ⟨rfl, hr⟩ | ⟨i, hi, rfl, hr, -⟩
 ·exact ⟨true, rfl, fun _ => hr, fun _ => rfl⟩
 ·exact ⟨false, rfl, by simp only [Je, Ab, false_iff]; exact fun h => hr (h i hi)⟩
theorem fine_ok (x : FS Kk) (hL : x.l.length ≤ 9223372036854775807) : ∃ b, Jbr x = some b ∧ (b = true ↔ x.l ≠ [] ∧ Jod (-4096) 4096 x.l) := by
 obtain ⟨r, e, hr⟩ := Jgf (Ye x) x.l.length (by omega) (fun i => Jmi (-4096) 4096 x.l i) (fun _ => .inl false) (.inr ())
  (fun i hi hg => by
   have g1 := Ku hi
   have c1 : ilt (i : Int) (flen x) = true := Xg (by rw [Jp]; omega)
   have hgr : Jmi (-4096) 4096 x.l i ↔ -4096 ≤ (x.l[i]).From ∧ (x.l[i]).From < (x.l[i]).To ∧ (x.l[i]).To ≤ 4096 ∧ (∀ _ : 0 < i, (x.l[i - 1]'(by omega)).To < (x.l[i]).From) := by
    constructor
    ·intro h
     have a := h _ (Aa hi)
     exact ⟨a.1, a.2.1, a.2.2.1, fun h0 => a.2.2.2 _ h0 (Aa (by omega))⟩
    ·intro h q hq
     rw [Aa hi] at hq
     cases hq
     refine ⟨h.1, h.2.1, h.2.2.1, fun p h0 hp => ?_⟩
     rw [Aa (by omega)] at hp
     cases hp
     exact h.2.2.2 h0
   generalize hq : x.l[i] = q at g1 hgr
   by_cases h0 : 0 < i
   ·have g2 := Jia h0 hi (by omega)
    have c2 : igt (i : Int) 0 = true := Jf6 (by omega)
    by_cases hc : bor (bor (ilt q.From (-4096)) (ige q.From q.To)) (igt q.To 4096) = true
    ·refine jd true ⟨fun _ hgd => ?_, fun _ => rfl⟩ ?_
     ·have := hgr.1 hgd
      simp only [Je, Yi, Yj, Jbg, Jd4] at hc
      omega
     ·simp only [Je, Ye, c1, if_true, g1, hc, Qx, Jd5, jp, Jjm]
    ·rw [Ad] at hc
     refine jd (ile q.From (x.l[i - 1]'(by omega)).To) ?_ ?_
     ·rw [← Ad] at hc
      simp only [Je, Yi, Yj, Jbg, Jd4] at hc
      rw [Je9, hgr]
      constructor
      ·intro h1 h2
       have := h2.2.2.2 h0
       omega
      ·intro h1
       by_cases h2 : q.From ≤ (x.l[i - 1]'(by omega)).To
       ·exact h2
       ·exact absurd ⟨by omega, by omega, by omega, fun _ => by omega⟩ h1
     ·simp only [Je, Ye, c1, if_true, g1, hc, Zt, Jdr, c2, g2, Y4, Af, Jgt, zx (i := i) (by omega)]
   ·have c2 : igt (i : Int) 0 = false := Jhc (by omega)
    refine jd (bor (bor (ilt q.From (-4096)) (ige q.From q.To)) (igt q.To 4096)) ?_ ?_
    ·simp only [Je, Yi, Yj, Jbg, Jd4]
     rw [hgr]; try rw [Je]
     constructor
     ·intro h1 h2; omega
     ·intro h1
      by_cases h2 : (q.From < -4096 ∨ q.To ≤ q.From) ∨ 4096 < q.To
      ·exact h2
      ·exact absurd ⟨by omega, by omega, by omega, fun h3 => absurd h3 h0⟩ h1
    ·simp only [Je, Ye, c1, if_true, g1, c2, Jfy, jp, Jd5, Juj, zx (i := i) (by omega)])
  (fun _ => by simp only [Je, Ye, Jp, Xe (a := (x.l.length : Int)) (b := x.l.length) (by omega), Ab, if_false])
 unfold Jbr
 rw [e]; try rw [Je]; try simp only [Je]
 rcases hr with ⟨rfl, hr⟩ | ⟨i, hi, rfl, hr, -⟩
 ·refine ⟨_, rfl, ?_⟩
  rw [Jd4, Jp]
  constructor
  ·exact fun h => ⟨fun h2 => by rw [h2] at h; simp at h, hr⟩
  ·rintro ⟨h, -⟩
   have : x.l.length ≠ 0 := fun h2 => h (Au.1 h2)
   omega
 ·exact ⟨false, rfl, by simp only [Je, Ab, false_iff]; exact fun h => hr (h.2 i hi)⟩
theorem Jhg (r : Jl) (hL : Big r) : ∃ b, Zm r = some b ∧ (b = true ↔ Jg8 r) := by
 obtain ⟨hL1, hL2⟩ := hL
 obtain ⟨x, e, hr⟩ := Jgf (Q5 r) r.Rows.l.length (by omega) (fun i => Js0 r i) (fun _ => .inl false) (.inr ())
  (fun i hi hg => by
   have g1 := Ku hi
   have c1 : ilt (i : Int) (flen r.Rows) = true := Xg (by rw [Jp]; omega)
   have hrl := hL2 _ (Ak hi)
   obtain ⟨bv, ev, hv⟩ := fine_ok (r.Rows.l[i]).Runs hrl
   have hgood := Jjv hi
   generalize hw : r.Rows.l[i] = w at g1 hrl ev hv hgood
   have pre : ∃ p : Bool, (p = true ↔ ¬ (-4096 ≤ w.Y ∧ w.Y < 4096 ∧ (∀ _ : 0 < i, (r.Rows.l[i - 1]'(by omega)).Y < w.Y))) ∧ Q5 r i =
     (J6 (gOpt (bnot p) (Jbr w.Runs)) fun v11 => (if (bor p (bnot (v11.getD false))) = true then some (.dn (.inl false)) else some (.nx (iadd .i64 i 1)))) := by
    by_cases h0 : 0 < i
    ·have g2 := Jia h0 hi (by omega)
     have c2 : igt (i : Int) 0 = true := Jf6 (by omega)
     by_cases hy : bor (ilt w.Y (-4096)) (ige w.Y 4096) = true
     ·refine ⟨true, ?_, ?_⟩
      ·simp only [Je, Yi, Yj, Jbg] at hy
       simp only [Je, true_iff]
       exact fun h2 => by omega
      ·simp only [Je, Q5, c1, if_true, g1, hy, Qx, Zt, Jd5, jp, Jjm]
     ·rw [Ad] at hy
      refine ⟨ile w.Y (r.Rows.l[i - 1]'(by omega)).Y, ?_, ?_⟩
      ·rw [← Ad] at hy
       simp only [Je, Yi, Yj, Jbg] at hy
       rw [Je9]; try rw [Je]
       constructor
       ·intro h1 h2
        have := h2.2.2 h0
        omega
       ·intro h1
        by_cases h2 : w.Y ≤ (r.Rows.l[i - 1]'(by omega)).Y
        ·exact h2
        ·exact absurd ⟨by omega, by omega, fun _ => by omega⟩ h1
      ·simp only [Je, Q5, c1, if_true, g1, hy, Qx, Zt, Jdr, c2, g2, Y4, Af, Jgt]
    ·have c2 : igt (i : Int) 0 = false := Jhc (by omega)
     refine ⟨bor (ilt w.Y (-4096)) (ige w.Y 4096), ?_, ?_⟩
     ·simp only [Je, Yi, Yj, Jbg]
      constructor
      ·exact fun h1 h2 => by omega
      ·intro h1
       by_cases h2 : w.Y < -4096 ∨ 4096 ≤ w.Y
       ·exact h2
       ·exact absurd ⟨by omega, by omega, fun h3 => absurd h3 h0⟩ h1
     ·simp only [Je, Q5, c1, if_true, g1, c2, Jfy, jp, Jd5, Juj]
   obtain ⟨p, hp, he⟩ := pre
   rw [zx (i := i) (by omega)] at he
   by_cases hpt : p = true
   ·refine jd true ⟨fun _ hg2 => ?_, fun _ => rfl⟩ ?_
    ·have := hgood.1 hg2
     exact hp.1 hpt ⟨this.1, this.2.1, this.2.2.2.2⟩
    ·rw [he, hpt]; simp only [Je, Jjm, Qx, jp, if_true]
   ·have hpf : p = false := by simpa using hpt
    have hpo : -4096 ≤ w.Y ∧ w.Y < 4096 ∧ (∀ _ : 0 < i, (r.Rows.l[i - 1]'(by omega)).Y < w.Y) := by
     by_cases h2 : -4096 ≤ w.Y ∧ w.Y < 4096 ∧ (∀ _ : 0 < i, (r.Rows.l[i - 1]'(by omega)).Y < w.Y)
     ·exact h2
     ·exact absurd (hp.2 h2) hpt
    rw [hpf] at he
    simp only [Je, Jgt, Zt, ev, Y4, Af] at he
    refine jd (bnot bv) ?_ he
    rw [Jbj, hv, hgood]
    constructor
    ·exact fun h1 h2 => h1 ⟨h2.2.2.1, h2.2.2.2.1⟩
    ·exact fun h1 h2 => h1 ⟨hpo.1, hpo.2.1, h2.1, h2.2, hpo.2.2⟩)
  (fun _ => by simp only [Je, Q5, Jp, Xe (a := (r.Rows.l.length : Int)) (b := r.Rows.l.length) (by omega), Ab, if_false])
 unfold Zm
 rw [e]; try rw [Je]; try simp only [Je]
 rcases hr with ⟨rfl, hr⟩ | ⟨i, hi, rfl, hr, -⟩
 ·exact ⟨true, rfl, fun _ => hr, fun _ => rfl⟩
 ·exact ⟨false, rfl, by simp only [Je, Ab, false_iff]; exact fun h => hr (h i hi)⟩
theorem Jpj (r : Jl) (hL : Lim r) : ∃ b, Jdm r = some b ∧ (b = true ↔ Jg8 r) := Jku r hL.big
theorem Jon (r : Jl) (hL : Lim r) : ∃ b, Zm r = some b ∧ (b = true ↔ Jg8 r) := Jhg r hL.big
end Go.Proofs.YtemehoioeoohmaaGreat
namespace Go.Proofs.YtemehoioeoohmaaGreat
open Go Go.Vv Go.Proofs
set_option linter.unusedSimpArgs false
set_option linter.unusedVariables false
set_option linter.unusedSectionVars false
def HasX (l : List Kk) (x : Int) : Prop := ∃ q ∈ l, q.From ≤ x ∧ x < q.To
def In (r : Jl) (c : Ja) : Prop := Jg8 r ∧ ∃ w ∈ r.Rows.l, w.Y = c.Y ∧ HasX w.Runs.l c.X
theorem u64w (x : Int) (h0 : 0 ≤ x) (h1 : x ≤ 9223372036854775807) : IntKind.wrap .u64 x = x := by
 have : IntKind.wrap .u64 x = x % 18446744073709551616 := rfl
 rw [this]; try rw [Je]
 omega
theorem mid_eq {a : Int} (h0 : 0 ≤ a) (h1 : a ≤ 4611686018427387904) : icnv .i64 (ishr .u64 (icnv .u64 a) 1) = a / 2 := by
 unfold icnv ishr
 rw [u64w a h0 (by omega)]
 have e1 : (2 : Int) ^ (min (1 : Int).toNat IntKind.u64.bits) = 2 := by decide
 have e2 : a.fdiv 2 = a / 2 := by rw [Int.fdiv_eq_ediv_of_nonneg _ (by omega)]
 rw [e1, e2, w64 _ (by omega) (by omega)]
theorem cmp_ok (a b : Int) : Jfx a b = some (if a < b then -1 else if b < a then 1 else 0) := by
 have n : ∀ x : Int, Jem x = false := fun x => by simp [Jem, ine]
 unfold Jfx
 rw [n, n]; try simp only [Je]
 simp only [Je, Ab, if_false]
 by_cases h1 : a < b
 ·rw [Xg h1, if_pos rfl, if_pos h1]
 ·rw [Xe h1, if_neg (by simp), if_neg h1]
  by_cases h2 : b < a
  ·rw [Jf6 h2, if_pos rfl, if_pos h2]
  ·rw [Jhc h2, if_neg (by simp), if_neg h2]
theorem Jwe (w : Jaf) (y : Int) : Jd8 w y = some (if w.Y < y then -1 else if y < w.Y then 1 else 0) := by
 unfold Jd8
 rw [cmp_ok]; rfl
theorem Jo4 {r : Jl} (h : Jg8 r) : ∀ (k i : Nat) (hk : i + k < r.Rows.l.length), 0 < k → (r.Rows.l[i]'(by omega)).Y < (r.Rows.l[i + k]).Y
 | 0, i, hk, h0 => by omega
 | k + 1, i, hk, _ => by
  have a := ((Jjv (i := i + (k + 1)) hk).1 (h _ hk)).2.2.2.2 (by omega)
  have e : i + (k + 1) - 1 = i + k := by omega
  simp only [Je, e] at a
  by_cases h1 : 0 < k
  ·have := Jo4 h k i (by omega) h1
   omega
  ·have : k = 0 := by omega
   subst this
   simpa using a
theorem Jsn {r : Jl} (h : Jg8 r) {i j : Nat} (hij : i ≤ j) (hj : j < r.Rows.l.length) : (r.Rows.l[i]'(by omega)).Y ≤ (r.Rows.l[j]).Y := by
 by_cases e : i = j
 ·subst e; omega
 ·have := Jo4 h (j - i) i (by omega) (by omega)
  have e2 : i + (j - i) = j := by omega
  simp only [Je, e2] at this
  omega
theorem Jzj (r : Jl) (hL : Lim r) (hv : Jg8 r) (y : Int) : ∃ i : Nat, i ≤ r.Rows.l.length ∧ Kp r.Rows y = some ((i : Int), if h : i < r.Rows.l.length then decide ((r.Rows.l[i]).Y = y) else false) ∧
  (∀ k (hk : k < r.Rows.l.length), k < i → (r.Rows.l[k]).Y < y) ∧ (∀ k (hk : k < r.Rows.l.length), i ≤ k → y ≤ (r.Rows.l[k]).Y) := by
 obtain ⟨hL1, -⟩ := hL
 obtain ⟨x, e, i, rfl, hi, ha, hb⟩ := Qe (body := Kc r.Rows y (flen r.Rows))
  (fun s => ∃ i j : Nat, s = ((i : Int), (j : Int)) ∧ i ≤ j ∧ j ≤ r.Rows.l.length ∧ (∀ k (hk : k < r.Rows.l.length), k < i → (r.Rows.l[k]).Y < y) ∧ (∀ k (hk : k < r.Rows.l.length), j ≤ k → y ≤ (r.Rows.l[k]).Y))
  (fun s => (s.2 - s.1).toNat) (fun x => ∃ i : Nat, x = (i : Int) ∧ i ≤ r.Rows.l.length ∧ (∀ k (hk : k < r.Rows.l.length), k < i → (r.Rows.l[k]).Y < y) ∧ (∀ k (hk : k < r.Rows.l.length), i ≤ k → y ≤ (r.Rows.l[k]).Y))
  (by
   rintro s ⟨i, j, rfl, hij, hj, ha, hb⟩
   by_cases hlt : i < j
   ·left
    have em : icnv .i64 (ishr .u64 (icnv .u64 (iadd .i64 (i : Int) (j : Int))) 1) = (((i + j) / 2 : Nat) : Int) := by
     rw [zt (by omega) (by omega), mid_eq (by omega) (by omega)]; omega
    have hm : (i + j) / 2 < r.Rows.l.length := by omega
    have g := Ku hm
    have c1 : ilt (i : Int) (j : Int) = true := Xg (by omega)
    by_cases hy : (r.Rows.l[(i + j) / 2]).Y < y
    ·refine ⟨((((i + j) / 2 + 1 : Nat) : Int), (j : Int)), ?_, ⟨(i + j) / 2 + 1, j, rfl, by omega, hj, fun k hk hki => ?_, hb⟩, by simp only; omega⟩
     ·have : ilt (-1) 0 = true := rfl
      simp only [Je, Kc, c1, if_true, em, g, Jwe, if_pos hy, this, zx (i := (i + j) / 2) (by omega)]
     ·have := Jsn hv (i := k) (j := (i + j) / 2) (by omega) hm
      omega
    ·refine ⟨((i : Int), (((i + j) / 2 : Nat) : Int)), ?_, ⟨i, (i + j) / 2, rfl, by omega, by omega, ha, fun k hk hki => ?_⟩, by simp only; omega⟩
     ·have c3 : ilt (if y < (r.Rows.l[(i + j) / 2]).Y then (1 : Int) else 0) 0 = false := by split <;> rfl
      simp only [Je, Kc, c1, if_true, em, g, Jwe, if_neg hy, c3, Ab, if_false]
     ·have := Jsn hv (i := (i + j) / 2) (j := k) (by omega) hk
      omega
   ·right
    have : i = j := by omega
    subst this
    have c1 : ilt (i : Int) (i : Int) = false := Xe (by omega)
    exact ⟨(i : Int), by simp only [Je, Kc, c1, Ab, if_false], i, rfl, hj, ha, hb⟩)
  bigN (0, flen r.Rows) ⟨0, r.Rows.l.length, rfl, by omega, by omega, fun k hk hki => by omega, fun k hk hki => by omega⟩ (Qk (by simp only [Je, Jp]; omega))
 refine ⟨i, hi, ?_, ha, hb⟩
 unfold Kp
 rw [e]; try rw [Je]; try simp only [Je]
 by_cases hin : i < r.Rows.l.length
 ·have c1 : ilt (i : Int) (flen r.Rows) = true := Xg (by rw [Jp]; omega)
  have g := Ku hin
  rw [dif_pos hin]
  have hge := hb i hin (by omega)
  simp only [Je, c1, g, Y4, Af, Jwe, Jdr]
  by_cases hy : (r.Rows.l[i]).Y = y
  ·rw [if_neg (by omega), if_neg (by omega)]
   simp [hy, ieq]
  ·rw [if_neg (by omega), if_pos (by omega)]
   simp [hy, ieq]
 ·have c1 : ilt (i : Int) (flen r.Rows) = false := Xe (by rw [Jp]; omega)
  rw [dif_neg hin]
  simp only [Je, c1, jp, Jd5]
theorem row_ok (r : Jl) (hL : Lim r) (hv : Jg8 r) (y : Int) : ∃ s, Jgi r y = some s ∧ ((∃ w ∈ r.Rows.l, w.Y = y ∧ s = w.Runs) ∨ (s = .nil ∧ ∀ w ∈ r.Rows.l, w.Y ≠ y)) := by
 obtain ⟨i, hi, e, ha, hb⟩ := Jzj r hL hv y
 unfold Jgi
 rw [e]; try rw [Je]; try simp only [Je]
 by_cases hin : i < r.Rows.l.length
 ·by_cases hy : (r.Rows.l[i]).Y = y
  ·refine ⟨(r.Rows.l[i]).Runs, ?_, .inl ⟨_, Ak hin, hy, rfl⟩⟩
   simp only [Je, dif_pos hin, hy, decide_true, Qx, Ab, if_false, Ku hin]
  ·refine ⟨.nil, ?_, .inr ⟨rfl, fun w hw => ?_⟩⟩
   ·simp only [Je, dif_pos hin, hy, decide_false, Zt, if_true]
   ·obtain ⟨k, hk, rfl⟩ := Ae hw
    by_cases hki : k < i
    ·have := ha k hk hki; omega
    ·have h1 := hb i hin (by omega)
     have h2 := Jsn hv (i := i) (j := k) (by omega) hk
     omega
 ·refine ⟨.nil, ?_, .inr ⟨rfl, fun w hw => ?_⟩⟩
  ·simp only [Je, dif_neg hin, Zt, if_true]
  ·obtain ⟨k, hk, rfl⟩ := Ae hw
   have := ha k hk (by omega)
   omega
theorem Jok (x : FS Kk) (hL : x.l.length ≤ 1000000) (hv : Jod (-1048576) 1048576 x.l) (n : Int) : ∃ b, Jet x n = some b ∧ (b = true ↔ HasX x.l n) := by
 obtain ⟨bv, ev, hbv⟩ := Jm1 x (by omega)
 rw [hbv.2 hv] at ev
 obtain ⟨r, e, hr⟩ := Jgf (Ko x n (flen x)) x.l.length (by omega) (fun i => ∀ q, x.l[i]? = some q → ¬ (q.From ≤ n ∧ n < q.To)) (fun i => .inl (i : Int)) (.inr ())
  (fun i hi _ => by
   have g1 := Ku hi
   have c1 : ilt (i : Int) (flen x) = true := Xg (by rw [Jp]; omega)
   have hiff : Jb3 x.l[i] n = true ↔ ¬ ∀ q, x.l[i]? = some q → ¬ (q.From ≤ n ∧ n < q.To) := by
    simp only [Je, Jb3, zd, Je9, Yj]
    constructor
    ·exact fun h h2 => h2 _ (Aa hi) h
    ·intro h
     by_cases h2 : (x.l[i]).From ≤ n ∧ n < (x.l[i]).To
     ·exact h2
     ·exact absurd (fun q hq => by rw [Aa hi] at hq; cases hq; exact h2) h
   refine jd (Jb3 x.l[i] n) hiff ?_
   simp only [Je, Ko, c1, if_true, g1, zx (i := i) (by omega)])
  (fun _ => by simp only [Je, Ko, Jp, Xe (a := (x.l.length : Int)) (b := x.l.length) (by omega), Ab, if_false])
 unfold Jet Qa Ql
 rw [ev, e]; try simp only [Je]
 rcases hr with ⟨rfl, hr⟩ | ⟨i, hi, rfl, hr, -⟩
 ·refine ⟨false, rfl, ?_⟩
  simp only [Je, Ab, false_iff]
  rintro ⟨q, hq, h⟩
  obtain ⟨k, hk, rfl⟩ := Ae hq
  exact hr k hk _ (Aa hk) h
 ·refine ⟨true, ?_, fun _ => ?_, fun _ => rfl⟩
  ·have : ige (i : Int) 0 = true := Jbg.2 (by omega)
   simp only [Je, Qx, Ab, if_false, this]
  ·by_cases h2 : (x.l[i]).From ≤ n ∧ n < (x.l[i]).To
   ·exact ⟨_, Ak hi, h2⟩
   ·exact absurd (fun q hq => by rw [Aa hi] at hq; cases hq; exact h2) hr
theorem Jrj {r : Jl} (hv : Jg8 r) {w : Jaf} (hw : w ∈ r.Rows.l) : Jod (-4096) 4096 w.Runs.l := by
 obtain ⟨k, hk, rfl⟩ := Ae hw
 exact ((Jjv hk).1 (hv k hk)).2.2.2.1
theorem J0n {l : List Kk} (h : Jod (-4096) 4096 l) : Jod (-1048576) 1048576 l := fun i hi r hr => by
 have := h i hi r hr
 exact ⟨by omega, this.2.1, by omega, this.2.2.2⟩
theorem Jmx {r : Jl} (hv : Jg8 r) {v w : Jaf} (h1 : v ∈ r.Rows.l) (h2 : w ∈ r.Rows.l) (e : v.Y = w.Y) : v = w := by
 obtain ⟨i, hi, rfl⟩ := Ae h1
 obtain ⟨j, hj, rfl⟩ := Ae h2
 by_cases hij : i = j
 ·subst hij; rfl
 ·by_cases hlt : i < j
  ·have := Jo4 hv (j - i) i (by omega) (by omega)
   have e2 : i + (j - i) = j := by omega
   simp only [Je, e2] at this
   omega
  ·have := Jo4 hv (i - j) j (by omega) (by omega)
   have e2 : j + (i - j) = i := by omega
   simp only [Je, e2] at this
   omega
theorem Jp8 (r : Jl) (hL : Lim r) (c : Ja) : ∃ b, z2 r c = some b ∧ (b = true ↔ In r c) := by
 obtain ⟨bv, ev, hbv⟩ := Jpj r hL
 unfold z2
 rw [ev]; try rw [Je]; try simp only [Je]
 by_cases hv : Jg8 r
 ·rw [hbv.2 hv]
  obtain ⟨s, es, hs⟩ := row_ok r hL hv c.Y
  simp only [Je, es, Y4, Af, Jdr]
  rcases hs with ⟨w, hw, hy, rfl⟩ | ⟨rfl, hn⟩
  ·obtain ⟨b, eb, hb⟩ := Jok w.Runs (hL.2 w hw) (J0n (Jrj hv hw)) c.X
   simp only [Je, eb, Y4, Af]
   refine ⟨b, rfl, ?_⟩
   rw [hb]; try rw [Je]
   constructor
   ·exact fun h => ⟨hv, w, hw, hy, h⟩
   ·rintro ⟨-, v, hv2, hy2, h⟩
    rw [Jmx hv hw hv2 (by omega)]
    exact h
  ·obtain ⟨b, eb, hb⟩ := Jok .nil (by simp [FS.l]) (fun i hi => absurd hi (by simp [FS.l])) c.X
   simp only [Je, eb, Y4, Af]
   refine ⟨b, rfl, ?_⟩
   rw [hb]; try rw [Je]
   constructor
   ·rintro ⟨q, hq, -⟩
    simp [FS.l] at hq
   ·rintro ⟨-, v, hv2, hy2, h⟩
    exact absurd hy2 (hn v hv2)
 ·have : bv = false := by rw [← Ad]; exact fun h => hv (hbv.1 h)
  rw [this]; try rw [Je]
  simp only [Je, jp, Jd5]
  exact ⟨false, rfl, by simp only [Je, Ab, false_iff]; exact fun h => hv h.1⟩
end Go.Proofs.YtemehoioeoohmaaGreat
namespace Go.Vv
theorem Jst : ∀ (n : Nat) (l : List Nat), l.Nodup → (∀ x ∈ l, x < n) → l.length ≤ n
 | 0, l, _, h => by
  cases l with
  | nil => simp
  | cons a r => exact absurd (h a (by simp)) (by omega)
 | n + 1, l, hd, h => by
  by_cases hm : n ∈ l
  ·have h1 : (l.erase n).length = l.length - 1 := List.length_erase_of_mem hm
   have h2 := Jst n (l.erase n) (hd.erase n) (fun x hx => by
    have hx2 := (List.Nodup.mem_erase_iff hd).1 hx
    have := h x hx2.2
    omega)
   omega
  ·have := Jst n l hd (fun x hx => by
    have h1 := h x hx
    have h2 : x ≠ n := fun e => hm (e ▸ hx)
    omega)
   omega
end Go.Vv
namespace Go.Proofs.YtemehoioeoohmaaGreat
open Go Go.Vv Go.Proofs
set_option linter.unusedSimpArgs false
set_option linter.unusedVariables false
set_option linter.unusedSectionVars false
def InR (c : Ja) : Prop := -4096 ≤ c.X ∧ c.X < 4096 ∧ -4096 ≤ c.Y ∧ c.Y < 4096
theorem Cell.ext' {a b : Ja} (h1 : a.X = b.X) (h2 : a.Y = b.Y) : a = b := by cases a; cases b; simp_all
theorem Joy (a b : Ja) : Kw a b = true ↔ a = b := by
 simp only [Je, Kw, zd, Jdo]
 constructor
 ·exact fun h => Cell.ext' h.1 h.2.1
 ·rintro rfl; exact ⟨rfl, rfl, trivial⟩
theorem q_eq (a b : Ja) : band (ieq a.X b.X) (band (ieq a.Y b.Y) true) = Kw a b := rfl
theorem Jnv {r : Jl} {c : Ja} (h : In r c) : InR c := by
 obtain ⟨hv, w, hw, hy, q, hq, h1, h2⟩ := h
 obtain ⟨k, hk, rfl⟩ := Ae hw
 have a := (Jjv hk).1 (hv k hk)
 obtain ⟨j, hj, rfl⟩ := Ae hq
 have b := a.2.2.2.1 j hj _ (Aa hj)
 exact ⟨by omega, by omega, by omega, by omega⟩
def cb (r : Jl) (c : Ja) : Bool := (z2 r c).getD false
section
variable {r : Jl} (hL : Lim r)
include hL
theorem Jpk (c : Ja) : z2 r c = some (cb r c) := by
 obtain ⟨b, e, -⟩ := Jp8 r hL c
 unfold cb; rw [e]; rfl
theorem Jqv (c : Ja) : cb r c = true ↔ In r c := by
 obtain ⟨b, e, hb⟩ := Jp8 r hL c
 unfold cb; rw [e]; exact hb
end
abbrev Seen := J2
def nbr (c : Ja) : Nat → Ja
 | 0 => ⟨c.X + 1, c.Y⟩
 | 1 => ⟨c.X - 1, c.Y⟩
 | 2 => ⟨c.X, c.Y + 1⟩
 | _ => ⟨c.X, c.Y - 1⟩
def fnd (Q : List Seen) (c : Ja) : Bool := Q.any fun x => Kw x.cell c
def Jhf (r : Jl) (Q : List Seen) (i k : Nat) : List Seen :=
 match Q[i]? with
 | none => Q
 | some s => if cb r (nbr s.cell k) = true ∧ fnd Q (nbr s.cell k) = false then Q ++ [⟨nbr s.cell k, (i : Int)⟩] else Q
def S (r : Jl) (a : Ja) : Nat → List Seen
 | 0 => [⟨a, -1⟩]
 | t + 1 => Jhf r (S r a t) (t / 4) (t % 4)
theorem Jgc (Q : List Seen) (c : Ja) : fnd Q c = true ↔ ∃ x ∈ Q, x.cell = c := by
 simp only [Je, fnd, List.any_eq_true, Joy]
theorem J2n (r : Jl) (Q : List Seen) (i k : Nat) : Q <+: Jhf r Q i k := by
 unfold Jhf
 split
 ·exact Al Q
 ·split
  ·exact Ar Q _
  ·exact Al Q
theorem Joo (r : Jl) (a : Ja) {t u : Nat} (h : t ≤ u) : S r a t <+: S r a u := by
 induction u with
 | zero =>
  have : t = 0 := by omega
  subst this; exact Al _
 | succ u ih =>
  by_cases e : t = u + 1
  ·subst e; exact Al _
  ·exact (ih (by omega)).trans (J2n r _ _ _)
theorem Jic {α : Type} {l m : List α} (h : l <+: m) {i : Nat} {x : α} (hi : l[i]? = some x) : m[i]? = some x := by
 obtain ⟨n, rfl⟩ := h
 rw [Ag (Ac.1 hi).1]
 exact hi
structure QOK (r : Jl) (a : Ja) (Q : List Seen) : Prop where
 first : Q[0]? = some ⟨a, -1⟩
 back : ∀ (j : Nat) (s : Seen), Q[j]? = some s → 0 < j → ∃ p : Nat, s.before = p ∧ p < j
 nodup : (Q.map (·.cell)).Nodup
 inr : ∀ s ∈ Q, In r s.cell
theorem QOK.ne {r : Jl} {a : Ja} {Q : List Seen} (h : QOK r a Q) : 0 < Q.length := (Ac.1 h.first).1
theorem QOK.inj {r : Jl} {a : Ja} {Q : List Seen} (h : QOK r a Q) {i j : Nat} {x y : Seen} (hi : Q[i]? = some x) (hj : Q[j]? = some y) (e : x.cell = y.cell) : i = j := by
 have h1 : (Q.map (·.cell))[i]? = some x.cell := by rw [Ah, hi]; rfl
 have h2 : (Q.map (·.cell))[j]? = some x.cell := by rw [Ah, hj, e]; rfl
 have l1 := (Ac.1 h1).1
 exact (List.getElem?_inj l1 h.nodup).1 (h1.trans h2.symm)
theorem visit_ok {r : Jl} (hL : Lim r) {a : Ja} {Q : List Seen} (h : QOK r a Q) (i k : Nat) : QOK r a (Jhf r Q i k) := by
 unfold Jhf
 split
 ·exact h
 ·rename_i s hs
  split
  ·rename_i hc
   have hi := (Ac.1 hs).1
   refine ⟨?_, fun j x hx h0 => ?_, ?_, fun x hx => ?_⟩
   ·rw [Ag h.ne]; exact h.first
   ·by_cases hj : j < Q.length
    ·rw [Ag hj] at hx; exact h.back j x hx h0
    ·rw [At (by omega)] at hx
     have : j - Q.length = 0 := by
      have := (Ac.1 hx).1
      simp at this
      omega
     rw [this] at hx
     simp at hx
     subst hx
     exact ⟨i, rfl, by omega⟩
   ·rw [Aw, List.nodup_append]
    refine ⟨h.nodup, by simp, fun x hx y hy => ?_⟩
    simp only [Je, List.map_cons, List.map_nil, Am] at hy
    subst hy
    rintro rfl
    obtain ⟨z, hz, e⟩ := Aq.1 hx
    have := (Jgc Q (nbr s.cell k)).2 ⟨z, hz, e⟩
    rw [hc.2] at this
    cases this
   ·rw [List.mem_append, Am] at hx
    rcases hx with hx | rfl
    ·exact h.inr x hx
    ·exact (Jqv hL _).1 hc.1
  ·exact h
theorem S_ok {r : Jl} (hL : Lim r) {a : Ja} (ha : In r a) : ∀ t, QOK r a (S r a t)
 | 0 => ⟨rfl, fun j s hs h0 => by
   have := (Ac.1 hs).1
   simp [S] at this
   omega, by simp [S], fun s hs => by simp [S] at hs; subst hs; exact ha⟩
 | t + 1 => visit_ok hL (S_ok hL ha t) _ _
def code (c : Ja) : Nat := ((c.X + 4096) * 8192 + (c.Y + 4096)).toNat
theorem QOK.len {r : Jl} {a : Ja} {Q : List Seen} (h : QOK r a Q) : Q.length ≤ 67108864 := by
 have hd : (Q.map fun s => code s.cell).Nodup := by
  have e : (Q.map fun s => code s.cell) = (Q.map (·.cell)).map code := by rw [List.map_map]; rfl
  rw [e]; try rw [Je]
  refine List.pairwise_map.2 (List.Pairwise.imp_of_mem (fun {x y} hx hy hne => ?_) h.nodup)
  obtain ⟨s, hs, rfl⟩ := Aq.1 hx
  obtain ⟨u, hu, rfl⟩ := Aq.1 hy
  have p := Jnv (h.inr s hs)
  have q := Jnv (h.inr u hu)
  unfold InR at p q
  intro e
  refine hne (Cell.ext' ?_ ?_)
  ·unfold code at e; omega
  ·unfold code at e; omega
 have h1 := Jst 67108864 _ hd (fun x hx => by
  obtain ⟨s, hs, rfl⟩ := Aq.1 hx
  have p := Jnv (h.inr s hs)
  unfold InR at p
  unfold code
  omega)
 simpa using h1
end Go.Proofs.YtemehoioeoohmaaGreat
namespace Go.Proofs.YtemehoioeoohmaaGreat
open Go Go.Vv Go.Proofs
set_option linter.unusedSimpArgs false
set_option linter.unusedVariables false
set_option linter.unusedSectionVars false
def ends (b : Ja) (Q : List Seen) : Bool := match Q[Q.length - 1]? with | some s => Kw s.cell b | none => false
theorem Jsb {x : FS Seen} (h0 : 0 < x.l.length) (h1 : x.l.length ≤ 1000000000) (b : Ja) : ∃ s, fget x (isub .i64 (flen x) 1) = some s ∧ Kw s.cell b = ends b x.l ∧ x.l[x.l.length - 1]? = some s := by
 have e : isub .i64 (flen x) 1 = ((x.l.length - 1 : Nat) : Int) := by rw [Jp, Xc (by omega) (by omega)]; omega
 have hi : x.l.length - 1 < x.l.length := by omega
 refine ⟨_, by rw [e]; exact Ku hi, ?_, Aa hi⟩
 unfold ends
 rw [Aa hi]
section
variable {r : Jl} (hL : Lim r) {a b : Ja} (ha : In r a)
include hL ha
theorem nbr_list {c : Ja} (hc : InR c) (k : Nat) (hk : k < 4) :
  fget (flit ([(⟨(iadd .i64 c.X 1), c.Y⟩ : Ja), (⟨(isub .i64 c.X 1), c.Y⟩ : Ja), (⟨c.X, (iadd .i64 c.Y 1)⟩ : Ja), (⟨c.X, (isub .i64 c.Y 1)⟩ : Ja)] : List Ja)) (k : Int) = some (nbr c k) := by
 unfold InR at hc
 rw [zt (a := c.X) (by omega) (by omega), Xc (a := c.X) (by omega) (by omega), zt (a := c.Y) (by omega) (by omega), Xc (a := c.Y) (by omega) (by omega)]
 refine Jcj ?_
 have : k = 0 ∨ k = 1 ∨ k = 2 ∨ k = 3 := by omega
 rcases this with rfl | rfl | rfl | rfl <;> rfl
end
end Go.Proofs.YtemehoioeoohmaaGreat
namespace Go.Proofs.YtemehoioeoohmaaGreat
open Go Go.Vv Go.Proofs
set_option linter.unusedSimpArgs false
set_option linter.unusedVariables false
set_option linter.unusedSectionVars false
def pc (Q : List Seen) (s : Seen) : Ja := ((Q[s.before.toNat]?).map (·.cell)).getD s.cell
def mp (Q : List Seen) : List (Ja × Ja) := Q.map fun s => (s.cell, pc Q s)
theorem Juy (k : Ja) : ∀ (es : List (Ja × Ja)) (i : Nat), (∀ p ∈ es, p.1 ≠ k) → mpos Kw k i es = none
 | [], i, _ => rfl
 | p :: r, i, h => by
  have h1 : Kw k p.1 = false := by rw [← Ad, Joy]; exact fun e => h p (by simp) e.symm
  simp only [Je, mpos, h1, Ab, if_false]
  exact Juy k r (i + 1) fun p hp => h p (by simp [hp])
theorem J07 (k : Ja) : ∀ (es : List (Ja × Ja)) (i j : Nat) (p : Ja × Ja), es[j]? = some p → p.1 = k → (∀ m p', m < j → es[m]? = some p' → p'.1 ≠ k) → mpos Kw k i es = some (i + j)
 | [], i, j, p, hp, _, _ => by simp at hp
 | x :: r, i, j, p, hp, hk, hb => by
  cases j with
  | zero =>
   simp at hp
   subst hp
   have h1 : Kw k x.1 = true := (Joy _ _).2 hk.symm
   simp only [Je, mpos, h1, if_true, Nat.add_zero]
  | succ j =>
   have h1 : Kw k x.1 = false := by rw [← Ad, Joy]; exact fun e => hb 0 x (by omega) rfl e.symm
   simp only [Je, mpos, h1, Ab, if_false]
   rw [J07 k r (i + 1) j p (by simpa using hp) hk (fun m p' hm hp' => hb (m + 1) p' (by omega) (by simpa using hp'))]
   congr 1; omega
section
variable {r : Jl} {a : Ja} {Q : List Seen} (ok : QOK r a Q)
include ok
theorem mp_pos {j : Nat} {s : Seen} (hj : Q[j]? = some s) : mpos Kw s.cell 0 (mp Q) = some j := by
 have := J07 s.cell (mp Q) 0 j (s.cell, pc Q s) (by unfold mp; rw [Ah, hj]; rfl) rfl (fun m p' hm hp' e => by
  unfold mp at hp'
  rw [Ah] at hp'
  cases hx : Q[m]? with
  | none => rw [hx] at hp'; cases hp'
  | some x =>
   rw [hx] at hp'
   cases hp'
   have := ok.inj hx hj e
   omega)
 rwa [Nat.zero_add] at this
theorem mp_get {j : Nat} {s : Seen} (hj : Q[j]? = some s) (z : Ja) : mget Kw (mp Q) s.cell z = pc Q s := by
 unfold mget
 rw [mp_pos ok hj]
 simp only
 have : (mp Q)[j]? = some (s.cell, pc Q s) := by unfold mp; rw [Ah, hj]; rfl
 rw [this]; try rw [Je]
theorem Jwr (c : Ja) : mhas Kw (mp Q) c = fnd Q c := by
 unfold mhas
 by_cases h : fnd Q c = true
 ·obtain ⟨s, hs, rfl⟩ := (Jgc Q c).1 h
  obtain ⟨j, hj, rfl⟩ := Ae hs
  rw [mp_pos ok (Aa hj), h]
  rfl
 ·rw [Juy]; try rw [Je]
  ·rw [Ad] at h; rw [h]; rfl
  ·intro p hp e
   unfold mp at hp
   obtain ⟨s, hs, rfl⟩ := Aq.1 hp
   exact h ((Jgc Q c).2 ⟨s, hs, e⟩)
theorem mp_snoc {i : Nat} {s : Seen} (hi : Q[i]? = some s) {c : Ja} (hf : fnd Q c = false) : mset Kw (mp Q) c s.cell = mp (Q ++ [⟨c, (i : Int)⟩]) := by
 have h1 : mpos Kw c 0 (mp Q) = none := by
  have := Jwr ok c
  rw [hf] at this
  unfold mhas at this
  cases hm : mpos Kw c 0 (mp Q) with
  | none => rfl
  | some j => rw [hm] at this; cases this
 have hil := (Ac.1 hi).1
 unfold mset
 rw [h1]; try rw [Je]
 simp only
 unfold mp
 rw [Aw]
 congr 1
 ·refine List.map_congr_left fun x hx => ?_
  obtain ⟨j, hj, rfl⟩ := Ae hx
  congr 1
  unfold pc
  by_cases h0 : 0 < j
  ·obtain ⟨p, hp, hlt⟩ := ok.back j _ (Aa hj) h0
   rw [hp, An, Ag (by omega)]
  ·have : j = 0 := by omega
   subst this
   have hf0 := ok.first
   rw [Aa hj] at hf0
   have e : Q[0] = ⟨a, -1⟩ := Option.some.inj hf0
   rw [e]; try rw [Je]
   have : (-1 : Int).toNat = 0 := rfl
   simp only [Je, this]
   rw [Ag hj]
 ·simp only [Je, List.map_cons, List.map_nil, pc, An]
  rw [Ag hil, hi]
  rfl
end
theorem Jnx {x : FS Ja} (h : 0 < x.l.length) : ∃ y, fsl x 1 (flen x) = some y ∧ y.l = x.l.drop 1 := by
 cases x with
 | nil => simp [FS.l] at h
 | lst l =>
  simp only [Je, FS.l] at h
  refine ⟨.lst ((l.drop 1).take (flen (.lst l) - 1).toNat), ?_, ?_⟩
  ·have hc : (0:Int) ≤ 1 ∧ (1:Int) ≤ flen (.lst l : FS Ja) ∧ flen (.lst l : FS Ja) ≤ flen (.lst l : FS Ja) := by
    simp only [Je, flen, FS.l]
    exact ⟨by omega, by omega, by omega⟩
   simp only [Je, fsl]
   exact if_pos hc
  ·simp only [Je, FS.l, flen]
   rw [List.take_of_length_le]
   rw [Ao]; omega
section
variable {r : Jl} (hL : Lim r) {a b : Ja} (ha : In r a)
include hL ha
theorem get4 {c : Ja} (hc : InR c) (k : Nat) (hk : k < 4) :
  A4.get (⟨(⟨(iadd .i64 c.X 1), c.Y⟩ : Ja), (⟨(isub .i64 c.X 1), c.Y⟩ : Ja), (⟨c.X, (iadd .i64 c.Y 1)⟩ : Ja), (⟨c.X, (isub .i64 c.Y 1)⟩ : Ja)⟩ : (A4 Ja)) (k : Int) = nbr c k := by
 unfold InR at hc
 rw [zt (a := c.X) (by omega) (by omega), Xc (a := c.X) (by omega) (by omega), zt (a := c.Y) (by omega) (by omega), Xc (a := c.Y) (by omega) (by omega)]
 have : k = 0 ∨ k = 1 ∨ k = 2 ∨ k = 3 := by omega
 rcases this with rfl | rfl | rfl | rfl <;> rfl
theorem J0g (i : Nat) (x0 : FS Ja) (s0 : Seen) (hs0 : (S r a (4 * i))[i]? = some s0) (h0 : x0.l = ((S r a (4 * i)).drop (i + 1)).map (·.cell)) :
  ∃ y : List (Ja × Ja) × FS Ja, Kn (Jau r b s0.cell (⟨(⟨(iadd .i64 s0.cell.X 1), s0.cell.Y⟩ : Ja), (⟨(isub .i64 s0.cell.X 1), s0.cell.Y⟩ : Ja), (⟨s0.cell.X, (iadd .i64 s0.cell.Y 1)⟩ : Ja), (⟨s0.cell.X, (isub .i64 s0.cell.Y 1)⟩ : Ja)⟩ : (A4 Ja))) bigN (mp (S r a (4 * i)), x0, 0) = some y ∧
   y.1 = mp (S r a (4 * (i + 1))) ∧ y.2.l = ((S r a (4 * (i + 1))).drop (i + 1)).map (·.cell) := by
 have hin := Jnv ((S_ok hL ha (4 * i)).inr s0 (Ai hs0))
 refine Qe (body := Jau r b s0.cell _)
  (fun s => ∃ k : Nat, s.2.2 = k ∧ k ≤ 4 ∧ s.1 = mp (S r a (4 * i + k)) ∧ s.2.1.l = ((S r a (4 * i + k)).drop (i + 1)).map (·.cell)) (fun s => (4 - s.2.2).toNat)
  (fun y => y.1 = mp (S r a (4 * (i + 1))) ∧ y.2.l = ((S r a (4 * (i + 1))).drop (i + 1)).map (·.cell))
  ?_ bigN _ ⟨0, rfl, by omega, rfl, h0⟩ (Qk (by simp only; omega))
 rintro ⟨M, x, k'⟩ ⟨k, hk', hk, hM, hx⟩
 simp only at hk' hM hx
 subst hk'
 have ok := S_ok hL ha (4 * i + k)
 have hlen := ok.len
 have hq : (S r a (4 * i + k))[i]? = some s0 := Jic (Joo r a (by omega)) hs0
 have hil := (Ac.1 hq).1
 have hxl : x.l.length ≤ 67108864 := by rw [hx, Ax, Ao]; omega
 by_cases hk4 : k < 4
 ·left
  have c1 : ilt (k : Int) 4 = true := Xg (by omega)
  have c2 : inB (k : Int) 4 = true := by rw [Jvx]; omega
  have g4 := get4 (r := r) hL (a := a) ha hin k hk4
  have hcb := Jpk hL (nbr s0.cell k)
  have hm := Jwr ok (nbr s0.cell k)
  have hfit : fits 16 (flen x + 1) = true := Jnm (l := x.l) (by omega) (by omega)
  have hstep : S r a (4 * i + (k + 1)) = Jhf r (S r a (4 * i + k)) i k := by
   have e1 : (4 * i + k) / 4 = i := by omega
   have e2 : (4 * i + k) % 4 = k := by omega
   show Jhf r (S r a (4 * i + k)) ((4 * i + k) / 4) ((4 * i + k) % 4) = _
   rw [e1, e2]
  have hv : Jhf r (S r a (4 * i + k)) i k = if cb r (nbr s0.cell k) = true ∧ fnd (S r a (4 * i + k)) (nbr s0.cell k) = false then S r a (4 * i + k) ++ [⟨nbr s0.cell k, (i : Int)⟩] else S r a (4 * i + k) := by
   unfold Jhf; rw [hq]
  by_cases hft : fnd (S r a (4 * i + k)) (nbr s0.cell k) = true
  ·refine ⟨(M, x, ((k + 1 : Nat) : Int)), ?_, ⟨k + 1, rfl, by omega, ?_, ?_⟩, by simp only; omega⟩
   ·simp only [Je, Jau, c1, c2, if_true, g4, hM, hm, hft, Qx, jp, Jd5, Ab, if_false, zx (i := k) (by omega)]
   ·simp only; rw [hstep, hv, if_neg (by rw [hft]; simp)]; exact hM
   ·simp only; rw [hstep, hv, if_neg (by rw [hft]; simp)]; exact hx
  ·rw [Ad] at hft
   by_cases hcbt : cb r (nbr s0.cell k) = true
   ·refine ⟨(mset Kw M (nbr s0.cell k) s0.cell, Yy x (nbr s0.cell k), ((k + 1 : Nat) : Int)), ?_, ⟨k + 1, rfl, by omega, ?_, ?_⟩, by simp only; omega⟩
    ·simp only [Je, Jau, c1, c2, if_true, g4, hM, hm, hft, Zt, hcb, hcbt, Y4, Af, Jdr, hfit, zx (i := k) (by omega)]
    ·simp only; rw [hstep, hv, if_pos ⟨hcbt, hft⟩, hM, mp_snoc ok hq hft]
    ·simp only [Je, jt]; rw [hstep, hv, if_pos ⟨hcbt, hft⟩, hx, List.drop_append_of_le_length (by omega), Aw]; rfl
   ·rw [Ad] at hcbt
    refine ⟨(M, x, ((k + 1 : Nat) : Int)), ?_, ⟨k + 1, rfl, by omega, ?_, ?_⟩, by simp only; omega⟩
    ·simp only [Je, Jau, c1, c2, if_true, g4, hM, hm, hft, Zt, hcb, hcbt, Y4, Af, Jfy, Ab, if_false, zx (i := k) (by omega)]
    ·simp only; rw [hstep, hv, if_neg (by rw [hcbt]; simp)]; exact hM
    ·simp only; rw [hstep, hv, if_neg (by rw [hcbt]; simp)]; exact hx
 ·right
  have : k = 4 := by omega
  subst this
  have c1 : ilt ((4 : Nat) : Int) 4 = false := Xe (by omega)
  refine ⟨(M, x), ?_, hM, hx⟩
  simp only [Je, Jau, c1, Ab, if_false]
theorem Jqf : ∃ i : Nat, Jfw r a b = some (mp (S r a (4 * i))) ∧ i ≤ (S r a (4 * i)).length ∧ ((S r a (4 * i)).length ≤ i ∨ ∃ s, (S r a (4 * i))[i]? = some s ∧ s.cell = b) := by
 obtain ⟨y, e, i, rfl, h1, h2⟩ := Qe (body := Jcm r b)
  (fun s => ∃ i : Nat, s.1 = mp (S r a (4 * i)) ∧ s.2.l = ((S r a (4 * i)).drop i).map (·.cell) ∧ i ≤ (S r a (4 * i)).length) (fun s => 67108866 - (s.1.length - s.2.l.length))
  (fun y => ∃ i : Nat, y = mp (S r a (4 * i)) ∧ i ≤ (S r a (4 * i)).length ∧ ((S r a (4 * i)).length ≤ i ∨ ∃ s, (S r a (4 * i))[i]? = some s ∧ s.cell = b))
  (by
   rintro ⟨M, x⟩ ⟨i, hM, hx, hi⟩
   simp only at hM hx
   have ok := S_ok hL ha (4 * i)
   have hlen := ok.len
   have hxl : x.l.length = (S r a (4 * i)).length - i := by rw [hx, Ax, Ao]
   have hMl : M.length = (S r a (4 * i)).length := by rw [hM]; simp [mp]
   by_cases hlt : i < (S r a (4 * i)).length
   ·have c1 : igt (flen x) 0 = true := Jf6 (by rw [Jp]; omega)
    have hs := Aa hlt
    generalize hs0 : (S r a (4 * i))[i] = s0 at hs
    have g0 : fget x 0 = some s0.cell := fget_int (by omega) (by
     rw [hx]; try rw [Je]
     simp only [Je, Int.toNat_zero, Ah, List.getElem?_drop, Nat.add_zero, hs]
     rfl)
    obtain ⟨y, ey, hy⟩ := Jnx (x := x) (by omega)
    by_cases hb : s0.cell = b
    ·right
     refine ⟨M, ?_, i, hM, hi, .inr ⟨s0, hs, hb⟩⟩
     have : Kw s0.cell b = true := (Joy _ _).2 hb
     simp only [Je, Jcm, c1, if_true, g0, ey, q_eq, this]
    ·left
     have hq : Kw s0.cell b = false := by rw [← Ad, Joy]; exact hb
     obtain ⟨⟨M', z⟩, ez, h1, h2⟩ := J0g hL ha (b := b) i y s0 hs (by rw [hy, hx, ← List.map_drop, List.drop_drop])
     simp only at h1 h2
     have hle : i + 1 ≤ (S r a (4 * (i + 1))).length := by
      have := (Joo r a (show 4 * i ≤ 4 * (i + 1) by omega)).length_le
      omega
     have ok' := S_ok hL ha (4 * (i + 1))
     have hlen' := ok'.len
     refine ⟨(M', z), ?_, ⟨i + 1, h1, h2, hle⟩, ?_⟩
     ·simp only [Je, Jcm, c1, if_true, g0, ey, q_eq, hq, Ab, if_false, hM, ez]
     ·simp only
      rw [h1, h2]
      simp only [Je, mp, Ax, Ao]
      omega
   ·right
    have c1 : igt (flen x) 0 = false := Jhc (by rw [Jp]; omega)
    refine ⟨M, ?_, i, hM, hi, .inl (by omega)⟩
    simp only [Je, Jcm, c1, Ab, if_false])
  bigN (mset Kw [] a a, flit [a]) ⟨0, rfl, rfl, by simp [S]⟩ (Qk (by simp only; omega))
 refine ⟨i, ?_, h1, h2⟩
 unfold Jfw
 rw [e]; try rw [Je]; try simp only [Je]
end
end Go.Proofs.YtemehoioeoohmaaGreat
namespace Go.Proofs.YtemehoioeoohmaaGreat
open Go Go.Vv Go.Proofs
set_option linter.unusedSimpArgs false
set_option linter.unusedVariables false
set_option linter.unusedSectionVars false
inductive Ch (Q : List Seen) : Nat → List Ja → Prop
 | base {s : Seen} : Q[0]? = some s → Ch Q 0 [s.cell]
 | step {j p : Nat} {s : Seen} {l : List Ja} : Q[j]? = some s → 0 < j → s.before = p → Ch Q p l → Ch Q j (s.cell :: l)
theorem Ch.pre {Q Q' : List Seen} (h : Q <+: Q') {j : Nat} {l : List Ja} (hc : Ch Q j l) : Ch Q' j l := by
 induction hc with
 | base hs => exact .base (Jic h hs)
 | step hs h0 hp _ ih => exact .step (Jic h hs) h0 hp ih
theorem Ch.head {Q : List Seen} {j : Nat} {l : List Ja} (hc : Ch Q j l) : ∃ s t, Q[j]? = some s ∧ l = s.cell :: t := by
 cases hc with
 | base hs => exact ⟨_, _, hs, rfl⟩
 | step hs _ _ _ => exact ⟨_, _, hs, rfl⟩
section
variable {r : Jl} {a : Ja} {Q : List Seen} (ok : QOK r a Q)
include ok
theorem Ch.ex : ∀ (n j : Nat), j ≤ n → j < Q.length → ∃ l, Ch Q j l ∧ l.length ≤ j + 1
 | 0, j, hj, hl => by
  have : j = 0 := by omega
  subst this
  exact ⟨_, .base ok.first, by simp⟩
 | n + 1, j, hj, hl => by
  by_cases h0 : j = 0
  ·subst h0; exact ⟨_, .base ok.first, by simp⟩
  ·obtain ⟨p, hp, hpj⟩ := ok.back j _ (Aa hl) (by omega)
   obtain ⟨l, hc, hll⟩ := Ch.ex n p (by omega) (by omega)
   exact ⟨_, .step (Aa hl) (by omega) hp hc, by simp only [Je, Aj]; omega⟩
theorem Jth {b : Ja} {J : Nat} {full : List Ja} {s : Seen} (hs : Q[J]? = some s) (hb : s.cell = b) (hf : Ch Q J full) (hlen : full.length ≤ 67108865) :
  ∃ y, Kn (Jdj a (mp Q)) bigN ((flit ([b] : List Ja)), b) = some y ∧ y.l = full := by
 refine Qe (body := Jdj a (mp Q)) (fun st => ∃ (j : Nat) (l : List Ja), Ch Q j (st.2 :: l) ∧ st.1.l ++ l = full) (fun st => full.length - st.1.l.length) (fun y => y.l = full) ?_ bigN _ ?_ (Qk (by simp only; omega))
 ·rintro ⟨x, c⟩ ⟨j, l, hc, he⟩
  simp only at hc he
  have hlx : x.l.length + l.length = full.length := by rw [← he, As]
  cases hc with
  | base h0 =>
   right
   rename_i s'
   refine ⟨x, ?_, by simpa using he⟩
   have e : Kw s'.cell a = true := (Joy _ _).2 (by rw [ok.first] at h0; cases h0; rfl)
   simp only [Je, Jdj, q_eq, e, Qx, Ab, if_false]
  | step h0 hj hp hc =>
   rename_i p s'
   left
   obtain ⟨sp, t, hsp, rfl⟩ := hc.head
   have e : Kw s'.cell a = false := by
    rw [← Ad, Joy]
    intro e
    have := ok.inj h0 ok.first e
    omega
   have hm : mget Kw (mp Q) s'.cell (⟨0, 0⟩ : Ja) = sp.cell := by
    rw [mp_get ok h0]
    unfold pc
    rw [hp, An, hsp]
    rfl
   have hfit : fits 16 (flen x + 1) = true := Jnm (l := x.l) (by omega) (by omega)
   refine ⟨(Yy x sp.cell, sp.cell), ?_, ⟨p, t, hc, ?_⟩, ?_⟩
   ·simp only [Je, Jdj, q_eq, e, Zt, if_true, hm, hfit]
   ·simp only [Je, jt]
    rw [← he, List.append_assoc]
    rfl
   ·simp only [Je, jt, As, Aj, List.length_nil] at hlx ⊢
    omega
 ·obtain ⟨s2, t, hs2, rfl⟩ := hf.head
  rw [hs] at hs2
  cases hs2
  subst hb
  exact ⟨J, t, hf, rfl⟩
end
theorem J4k (x : FS Ja) (hlen : x.l.length ≤ 67108865) : ∃ y, X4 x = some y ∧ y.l = x.l.reverse := by
 have h := Qe (body := Qj) (fun st => ∃ i : Nat, st.2.1 = i ∧ st.2.2 = (x.l.length : Int) - 1 - i ∧ 2 * i ≤ x.l.length + 1 ∧ st.1.l.length = x.l.length ∧
   ∀ k, k < x.l.length → st.1.l[k]? = if k < i ∨ x.l.length ≤ k + i then x.l[x.l.length - 1 - k]? else x.l[k]?) (fun st => (x.l.length - st.2.1).toNat) (fun y => y.l = x.l.reverse) ?_ bigN (x, 0, (isub .i64 (flen x) 1)) ?_ (Qk (by simp only; omega))
 ·obtain ⟨y, e, hy⟩ := h
  refine ⟨y, ?_, hy⟩
  unfold X4
  rw [e]; try rw [Je]; try simp only [Je]
 ·rintro ⟨o, c, d⟩ ⟨i, hc, hd, hi, hl, ho⟩
  simp only at hc hd hl ho
  subst hc hd
  by_cases hlt : 2 * i + 1 < x.l.length
  ·left
   have c1 : ilt (i : Int) ((x.l.length : Int) - 1 - i) = true := Xg (by omega)
   have ed : (x.l.length : Int) - 1 - i = ((x.l.length - 1 - i : Nat) : Int) := by omega
   rw [ed] at c1 ⊢
   have g1 := Ku (x := o) (i := x.l.length - 1 - i) (by omega)
   have g2 := Ku (x := o) (i := i) (by omega)
   have g3 := Ku (x := fset o (i : Int) (o.l[x.l.length - 1 - i]'(by omega))) (i := x.l.length - 1 - i) (by rw [Jjp, Ay]; omega)
   refine ⟨(fset (fset o (i : Int) (o.l[x.l.length - 1 - i]'(by omega))) ((x.l.length - 1 - i : Nat) : Int) (o.l[i]'(by omega)), ((i + 1 : Nat) : Int), (x.l.length : Int) - 1 - ((i + 1 : Nat) : Int)), ?_, ⟨i + 1, rfl, rfl, by omega, ?_, ?_⟩, by simp only; omega⟩
   ·have e3 : isub .i64 ((x.l.length - 1 - i : Nat) : Int) 1 = (x.l.length : Int) - 1 - ((i + 1 : Nat) : Int) := by rw [Xc (by omega) (by omega)]; omega
    simp only [Je, Qj, c1, if_true, g1, g2, g3, zx (i := i) (by omega), e3]
   ·simp only [Je, Jjp, Ay]; exact hl
   ·intro k hk
    simp only [Je, Jjp, An]
    rw [List.getElem?_set, List.getElem?_set, Ay]
    have e1 : o.l[i]'(by omega) = x.l[i]'(by omega) := by
     have h := ho i (by omega)
     rw [if_neg (by omega), Aa (by omega), Aa (by omega)] at h
     exact Option.some.inj h
    have e2 : o.l[x.l.length - 1 - i]'(by omega) = x.l[x.l.length - 1 - i]'(by omega) := by
     have h := ho (x.l.length - 1 - i) (by omega)
     rw [if_neg (by omega), Aa (by omega), Aa (by omega)] at h
     exact Option.some.inj h
    by_cases k1 : x.l.length - 1 - i = k
    ·rw [if_pos k1, if_pos (by omega), if_pos (by omega), e1]
     have : x.l.length - 1 - k = i := by omega
     rw [this, Aa (by omega)]
    ·rw [if_neg k1]
     by_cases k2 : i = k
     ·rw [if_pos k2, if_pos (by omega), if_pos (by omega), e2]
      subst k2
      rw [Aa (by omega)]
     ·rw [if_neg k2, ho k hk]
      by_cases k3 : k < i ∨ x.l.length ≤ k + i
      ·rw [if_pos k3, if_pos (by omega)]
      ·rw [if_neg k3, if_neg (by omega)]
  ·right
   have c1 : ilt (i : Int) ((x.l.length : Int) - 1 - i) = false := Xe (by omega)
   refine ⟨o, ?_, ?_⟩
   ·simp only [Je, Qj, c1, Ab, if_false]
   ·apply List.ext_getElem?
    intro k
    by_cases hk : k < x.l.length
    ·rw [ho k hk, List.getElem?_reverse hk]
     by_cases k3 : k < i ∨ x.l.length ≤ k + i
     ·rw [if_pos k3]
     ·rw [if_neg k3]
      have : x.l.length - 1 - k = k := by omega
      rw [this]; try rw [Je]
    ·rw [Ap (by omega), Ap (by rw [Az]; omega)]
 ·refine ⟨0, rfl, ?_, by omega, rfl, fun k hk => ?_⟩
  ·simp only
   rw [Jp, Xc (by omega) (by omega)]
   omega
  ·rw [if_neg (by omega)]
end Go.Proofs.YtemehoioeoohmaaGreat
namespace Go.Proofs.YtemehoioeoohmaaGreat
open Go Go.Vv Go.Proofs
set_option linter.unusedSimpArgs false
set_option linter.unusedVariables false
set_option linter.unusedSectionVars false
theorem fnd_ends {b : Ja} {Q : List Seen} (h : ends b Q = true) : fnd Q b = true := by
 unfold ends at h
 cases e : Q[Q.length - 1]? with
 | none => rw [e] at h; cases h
 | some s =>
  rw [e] at h
  exact (Jgc Q b).2 ⟨s, Ai e, (Joy _ _).1 h⟩
theorem fnd_snoc (b : Ja) (Q : List Seen) (x : Seen) : fnd (Q ++ [x]) b = (fnd Q b || ends b (Q ++ [x])) := by
 have e : (Q ++ [x])[(Q ++ [x]).length - 1]? = some x := by simp
 unfold ends
 rw [e]; try rw [Je]
 simp [fnd]
theorem Jv2 (r : Jl) (Q : List Seen) (i k : Nat) : Jhf r Q i k = Q ∨ ∃ x, Jhf r Q i k = Q ++ [x] := by
 unfold Jhf
 split
 ·exact .inl rfl
 ·split
  ·exact .inr ⟨_, rfl⟩
  ·exact .inl rfl
theorem nofnd (r : Jl) (a b : Ja) {T : Nat} : (∀ t, t < T → ends b (S r a t) = false) → ∀ t, t < T → fnd (S r a t) b = false := by
 intro h t
 induction t with
 | zero =>
  intro ht
  have := h 0 ht
  simpa [fnd, ends, S] using this
 | succ t ih =>
  intro ht
  have h1 := ih (by omega)
  have h2 := h (t + 1) ht
  have e : S r a (t + 1) = Jhf r (S r a t) (t / 4) (t % 4) := rfl
  rcases Jv2 r (S r a t) (t / 4) (t % 4) with h3 | ⟨x, h3⟩
  ·rw [e, h3]; exact h1
  ·rw [e, h3] at h2 ⊢
   rw [fnd_snoc, h1, h2]; rfl
theorem Jqt (r : Jl) (a : Ja) {n : Nat} (h : (S r a (4 * n)).length ≤ n) : ∀ t, 4 * n ≤ t → S r a t = S r a (4 * n) := by
 intro t
 induction t with
 | zero =>
  intro ht; have : 4 * n = 0 := by omega
  rw [this]
 | succ t ih =>
  intro ht
  by_cases e : 4 * n = t + 1
  ·rw [e]; try rw [Je]
  ·have h1 := ih (by omega)
   show Jhf r (S r a t) (t / 4) (t % 4) = _
   rw [h1]; try rw [Je]
   unfold Jhf
   rw [Ap (by omega)]
theorem fnd_pre {Q Q' : List Seen} (h : Q <+: Q') {b : Ja} (hf : fnd Q b = true) : fnd Q' b = true := by
 obtain ⟨s, hs, e⟩ := (Jgc Q b).1 hf
 exact (Jgc Q' b).2 ⟨s, h.subset hs, e⟩
section
variable {r : Jl} (hL : Lim r) {a b : Ja}
include hL
end
end Go.Proofs.YtemehoioeoohmaaGreat
namespace Go.Proofs.YtemehoioeoohmaaGreat
open Go Go.Vv Go.Proofs
set_option linter.unusedSimpArgs false
set_option linter.unusedVariables false
set_option linter.unusedSectionVars false
theorem count_ok (r : Jl) (hL : Lim r) : ∃ v, zf r = some v := by
 obtain ⟨b, e, -⟩ := Jon r hL
 unfold zf
 rw [e]; try rw [Je]; try simp only [Je]
 cases b with
 | false => exact ⟨_, rfl⟩
 | true =>
  obtain ⟨v, ev, -⟩ := Qe (body := jx r) (fun s => 0 ≤ s.2 ∧ s.2 ≤ r.Rows.l.length) (fun s => (r.Rows.l.length - s.2).toNat) (fun _ => True)
   (by
    rintro ⟨x, i⟩ ⟨h0, h1⟩
    simp only at h0 h1
    obtain ⟨n, rfl⟩ := Av h0
    have hl := hL.1
    by_cases hlt : n < r.Rows.l.length
    ·left
     have c1 : ilt (n : Int) (flen r.Rows) = true := Xg (by rw [Jp]; omega)
     have g1 := Ku hlt
     have hr := hL.2 _ (Ak hlt)
     obtain ⟨w, ew, -⟩ := Qe (body := j9 r (n : Int)) (fun s => 0 ≤ s.2 ∧ s.2 ≤ (r.Rows.l[n]).Runs.l.length) (fun s => ((r.Rows.l[n]).Runs.l.length - s.2).toNat) (fun _ => True)
      (by
       rintro ⟨y, j⟩ ⟨k0, k1⟩
       simp only at k0 k1
       obtain ⟨m, rfl⟩ := Av k0
       by_cases hlm : m < (r.Rows.l[n]).Runs.l.length
       ·left
        have c2 : ilt (m : Int) (flen (r.Rows.l[n]).Runs) = true := Xg (by rw [Jp]; omega)
        have g2 := Ku hlm
        exact ⟨_, by simp only [Je, j9, g1, c2, if_true, g2, zx (i := m) (by omega)]; rfl, ⟨by simp only; omega, by simp only; omega⟩, by simp only; omega⟩
       ·right
        have c2 : ilt (m : Int) (flen (r.Rows.l[n]).Runs) = false := Xe (by rw [Jp]; omega)
        exact ⟨_, by simp only [Je, j9, g1, c2, Ab, if_false]; rfl, trivial⟩)
      bigN (x, 0) ⟨by simp only; omega, by simp only; omega⟩ (Qk (by simp only; omega))
     exact ⟨(w, ((n + 1 : Nat) : Int)), by simp only [Je, jx, c1, if_true, ew, zx (i := n) (by omega)], ⟨by simp only; omega, by simp only; omega⟩, by simp only; omega⟩
    ·right
     have c1 : ilt (n : Int) (flen r.Rows) = false := Xe (by rw [Jp]; omega)
     exact ⟨_, by simp only [Je, jx, c1, Ab, if_false]; rfl, trivial⟩)
   bigN (0, 0) ⟨by simp only; omega, by simp only; omega⟩ (Qk (by have := hL.1; simp only; omega))
  refine ⟨v, ?_⟩
  simp only [Je, Qx, Ab, if_false, ev]
def Lim4 (r : Jl) : Prop := r.Rows.l.length ≤ 40 ∧ ∀ w ∈ r.Rows.l, w.Runs.l.length ≤ 40
theorem Lim4.lim {r : Jl} (h : Lim4 r) : Lim r := ⟨by have := h.1; omega, fun w hw => by have := h.2 w hw; omega⟩
end Go.Proofs.YtemehoioeoohmaaGreat
namespace Go.Proofs.YtemehoioeoohmaaGreat
open Go Go.Vv Go.Proofs
set_option linter.unusedSimpArgs false
set_option linter.unusedVariables false
set_option linter.unusedSectionVars false
def Adj (c d : Ja) : Prop := ∃ k, k < 4 ∧ d = nbr c k
theorem Adj.symm {c d : Ja} (h : Adj c d) : Adj d c := by
 obtain ⟨k, hk, rfl⟩ := h
 have : k = 0 ∨ k = 1 ∨ k = 2 ∨ k = 3 := by omega
 rcases this with rfl | rfl | rfl | rfl
 ·exact ⟨1, by omega, Cell.ext' (by simp only [Je, nbr]; omega) rfl⟩
 ·exact ⟨0, by omega, Cell.ext' (by simp only [Je, nbr]; omega) rfl⟩
 ·exact ⟨3, by omega, Cell.ext' rfl (by simp only [Je, nbr]; omega)⟩
 ·exact ⟨2, by omega, Cell.ext' rfl (by simp only [Je, nbr]; omega)⟩
inductive Wk (r : Jl) (a : Ja) : Nat → Ja → Prop
 | here : In r a → Wk r a 0 a
 | step {n : Nat} {c d : Ja} : Wk r a n c → In r d → Adj c d → Wk r a (n + 1) d
theorem Wk.inr {r : Jl} {a c : Ja} {n : Nat} (h : Wk r a n c) : In r c := by
 cases h with
 | here h => exact h
 | step _ h _ => exact h
theorem Wk.ina {r : Jl} {a c : Ja} {n : Nat} (h : Wk r a n c) : In r a := by
 induction h with
 | here h => exact h
 | step _ _ _ ih => exact ih
theorem Wk.front {r : Jl} {a b c : Ja} {n : Nat} (h : Wk r b n c) (ha : In r a) (hab : Adj a b) : Wk r a (n + 1) c := by
 induction h with
 | here h => exact .step (.here ha) h hab
 | step _ h2 h3 ih => exact .step ih h2 h3
theorem Wk.symm {r : Jl} {a c : Ja} {n : Nat} (h : Wk r a n c) : Wk r c n a := by
 induction h with
 | here h => exact .here h
 | step h1 h2 h3 ih => exact ih.front h2 h3.symm
structure QB (r : Jl) (t : Nat) (Q : List Seen) : Prop where
 low : ∀ s ∈ Q, 4 * s.before < t
 mono : ∀ (j k : Nat) (x y : Seen), j ≤ k → Q[j]? = some x → Q[k]? = some y → x.before ≤ y.before
 adj : ∀ (j p : Nat) (s : Seen), Q[j]? = some s → s.before = p → ∃ u, Q[p]? = some u ∧ Adj u.cell s.cell
theorem S_qb (r : Jl) (a : Ja) : ∀ t, QB r t (S r a t)
 | 0 => ⟨fun s hs => by simp [S] at hs; subst hs; simp, fun j k x y hjk hx hy => by
   have h1 := (Ac.1 hx).1
   have h2 := (Ac.1 hy).1
   simp [S] at h1 h2
   subst h1 h2
   rw [hx] at hy
   cases hy
   omega, fun j p s hs hp => by
   have h1 := (Ac.1 hs).1
   simp [S] at h1
   subst h1
   simp [S] at hs
   subst hs
   simp at hp⟩
 | t + 1 => by
  have ih := S_qb r a t
  show QB r (t + 1) (Jhf r (S r a t) (t / 4) (t % 4))
  have hsame : QB r (t + 1) (S r a t) := ⟨fun s hs => by have := ih.low s hs; omega, ih.mono, ih.adj⟩
  unfold Jhf
  split
  ·exact hsame
  ·rename_i s hs
   split
   ·rename_i hc
    have hi := (Ac.1 hs).1
    have hlast : ∀ (j : Nat) (x : Seen), (S r a t ++ [⟨nbr s.cell (t % 4), ((t / 4 : Nat) : Int)⟩])[j]? = some x → (S r a t)[j]? = some x ∨ (j = (S r a t).length ∧ x = ⟨nbr s.cell (t % 4), ((t / 4 : Nat) : Int)⟩) := by
     intro j x hx
     by_cases hj : j < (S r a t).length
     ·rw [Ag hj] at hx; exact .inl hx
     ·rw [At (by omega)] at hx
      have h1 := (Ac.1 hx).1
      simp at h1
      have : j - (S r a t).length = 0 := by omega
      rw [this] at hx
      simp at hx
      exact .inr ⟨by omega, hx.symm⟩
    refine ⟨fun x hx => ?_, fun j k x y hjk hx hy => ?_, fun j p x hx hp => ?_⟩
    ·rw [List.mem_append, Am] at hx
     rcases hx with hx | rfl
     ·have := ih.low x hx; omega
     ·simp only; omega
    ·rcases hlast j x hx with hx | ⟨hj, rfl⟩
     ·rcases hlast k y hy with hy | ⟨hk, rfl⟩
      ·exact ih.mono j k x y hjk hx hy
      ·have := ih.low x (Ai hx)
       simp only; omega
     ·rcases hlast k y hy with hy | ⟨hk, rfl⟩
      ·have := (Ac.1 hy).1
       omega
      ·exact Int.le_refl _
    ·rcases hlast j x hx with hx | ⟨hj, rfl⟩
     ·obtain ⟨u, hu, ha⟩ := ih.adj j p x hx hp
      exact ⟨u, Jic (Ar _ _) hu, ha⟩
     ·simp only at hp
      have : t / 4 = p := Int.ofNat_inj.1 hp
      subst this
      exact ⟨s, Jic (Ar _ _) hs, t % 4, by omega, rfl⟩
   ·exact hsame
def Qc (r : Jl) (a : Ja) : List Seen := S r a (4 * 67108864)
theorem Ch.le {r : Jl} {a : Ja} {Q : List Seen} {t : Nat} (qb : QB r t Q) {j : Nat} {l : List Ja} (h : Ch Q j l) : ∀ {k : Nat} {m : List Ja}, Ch Q k m → j ≤ k → l.length ≤ m.length := by
 induction h with
 | base hs =>
  intro k m h2 _
  obtain ⟨_, _, _, rfl⟩ := h2.head
  simp
 | step hs h0 hp hc ih =>
  intro k m h2 hjk
  cases h2 with
  | base _ => omega
  | step hs2 h02 hp2 hc2 =>
   have := qb.mono _ _ _ _ hjk hs hs2
   have := ih hc2 (by omega)
   simp only [Je, Aj]
   omega
section
variable {r : Jl} (hL : Lim r) {a b : Ja} (ha : In r a)
include hL ha
theorem J1j : QOK r a (Qc r a) := S_ok hL ha _
theorem Qc_qb : QB r (4 * 67108864) (Qc r a) := S_qb r a _
theorem Qc_len : (Qc r a).length ≤ 67108864 := (J1j hL ha).len
theorem S_Qc (t : Nat) : S r a t <+: Qc r a := by
 by_cases h : t ≤ 4 * 67108864
 ·exact Joo r a h
 ·have := Jqt r a (n := 67108864) (Qc_len hL ha) t (by omega)
  rw [this]; try rw [Je]
  exact Al _
theorem J3x {i : Nat} {s : Seen} (hs : (Qc r a)[i]? = some s) {d : Ja} (hd : In r d) (had : Adj s.cell d) : ∃ (m : Nat) (u : Seen), (Qc r a)[m]? = some u ∧ u.cell = d ∧ u.before ≤ i := by
 obtain ⟨k, hk, rfl⟩ := had
 have hi := (Ac.1 hs).1
 have hl := Qc_len hL ha
 have hlen : i < (S r a (4 * i)).length := by
  by_cases h : i < (S r a (4 * i)).length
  ·exact h
  ·have := Jqt r a (n := i) (by omega) (4 * 67108864) (by omega)
   have e : (Qc r a).length = (S r a (4 * i)).length := by unfold Qc; rw [this]
   omega
 have hpre := S_Qc hL ha (4 * i + k)
 have hm := Joo r a (t := 4 * i) (u := 4 * i + k) (by omega)
 have hsi : (S r a (4 * i + k))[i]? = some s := by
  have h1 := Jic hm (Aa hlen)
  have h2 := Jic hpre h1
  rw [hs] at h2
  rw [h1, ← h2]
 have e : S r a (4 * i + k + 1) = Jhf r (S r a (4 * i + k)) i k := by
  show Jhf r (S r a (4 * i + k)) ((4 * i + k) / 4) ((4 * i + k) % 4) = _
  have e1 : (4 * i + k) / 4 = i := by omega
  have e2 : (4 * i + k) % 4 = k := by omega
  rw [e1, e2]
 have hf : fnd (S r a (4 * i + k + 1)) (nbr s.cell k) = true := by
  rw [e]; try rw [Je]
  unfold Jhf
  rw [hsi]; try rw [Je]
  simp only
  split
  ·exact (Jgc _ _).2 ⟨_, List.mem_append_right _ (Am.2 rfl), rfl⟩
  ·rename_i hn
   by_cases hf : fnd (S r a (4 * i + k)) (nbr s.cell k) = true
   ·exact hf
   ·exact absurd ⟨(Jqv hL _).2 hd, by simpa using hf⟩ hn
 obtain ⟨u, hu, hc⟩ := (Jgc _ _).1 hf
 obtain ⟨m, hm2, rfl⟩ := Ae hu
 have hlow := (S_qb r a (4 * i + k + 1)).low _ hu
 exact ⟨m, _, Jic (S_Qc hL ha _) (Aa hm2), hc, by omega⟩
theorem Qc_short {n : Nat} {c : Ja} (h : Wk r a n c) : ∃ (m : Nat) (u : Seen) (l : List Ja), (Qc r a)[m]? = some u ∧ u.cell = c ∧ Ch (Qc r a) m l ∧ l.length ≤ n + 1 := by
 induction h with
 | here h => exact ⟨0, _, _, (J1j hL ha).first, rfl, .base (J1j hL ha).first, by simp⟩
 | step h1 h2 h3 ih =>
  obtain ⟨m, u, l, hu, rfl, hc, hl⟩ := ih
  obtain ⟨m', u', hu', hc', hb⟩ := J3x hL ha hu h2 h3
  have hm' := (Ac.1 hu').1
  obtain ⟨l', hch, -⟩ := Ch.ex (J1j hL ha) _ _ (Nat.le_refl _) hm'
  refine ⟨m', u', l', hu', hc', hch, ?_⟩
  cases hch with
  | base _ => simp
  | step hs h0 hp hc2 =>
   rw [hu'] at hs
   cases hs
   have := Ch.le (r := r) (a := a) (Qc_qb hL ha) hc2 hc (by omega)
   simp only [Je, Aj]
   omega
end
end Go.Proofs.YtemehoioeoohmaaGreat
namespace Go.Proofs.YtemehoioeoohmaaGreat
open Go Go.Vv Go.Proofs
set_option linter.unusedSimpArgs false
set_option linter.unusedVariables false
set_option linter.unusedSectionVars false
section
variable {r : Jl} (hL : Lim r) {a b : Ja}
include hL
theorem J4e : ∃ x o, Jd2 r a b = some (x, o) ∧ ((o = false ∧ x.l = [] ∧ ∀ n, ¬ Wk r a n b) ∨ (o = true ∧ In r a ∧ ∃ m u full, (Qc r a)[m]? = some u ∧ u.cell = b ∧ Ch (Qc r a) m full ∧ full.length ≤ 67108865 ∧ x.l = full.reverse)) := by
 unfold Jd2
 rw [Jpk hL a, Jpk hL b]; try simp only [Je]
 by_cases hca : cb r a = true
 case neg =>
  refine ⟨.nil, false, ?_, .inl ⟨rfl, rfl, fun n h => hca ((Jqv hL a).2 h.ina)⟩⟩
  rw [Ad] at hca
  simp [hca, gOpt, bnot, bor]
 by_cases hcb : cb r b = true
 case neg =>
  refine ⟨.nil, false, ?_, .inl ⟨rfl, rfl, fun n h => hcb ((Jqv hL b).2 h.inr)⟩⟩
  rw [Ad] at hcb
  simp [hca, hcb, gOpt, bnot, bor]
 have ha := (Jqv hL a).1 hca
 have c0 : bor false false = false := rfl
 obtain ⟨i, ep, hp1, hp2⟩ := Jqf hL ha (b := b)
 have okp := S_ok hL ha (4 * i)
 simp only [Je, hca, hcb, Qx, Zt, Y4, Af, c0, Ab, if_false, ep, Jwr okp]
 by_cases hf : fnd (S r a (4 * i)) b = true
 ·obtain ⟨s, hs, hb⟩ := (Jgc _ _).1 hf
  obtain ⟨J, hJ, rfl⟩ := Ae hs
  obtain ⟨full, hch, hfl⟩ := Ch.ex okp _ _ (Nat.le_refl _) hJ
  have hlenT := okp.len
  obtain ⟨x, ex, hx⟩ := Jth okp (Aa hJ) hb hch (by omega)
  obtain ⟨w, ew, hw⟩ := J4k x (by rw [hx]; omega)
  have e2 : ieq (flen w) (flen x) = true := by rw [Jdo, Jp, Jp, hw, Az]
  have hpre := S_Qc hL ha (4 * i)
  refine ⟨flst w, true, ?_, .inr ⟨rfl, ha, J, _, full, Jic hpre (Aa hJ), hb, hch.pre hpre, by omega, by rw [Jkr, hw, hx]⟩⟩
  simp only [Je, hf, Qx, Ab, if_false, ex, ew, e2, if_true]
 ·refine ⟨.nil, false, ?_, .inl ⟨rfl, rfl, fun n h => ?_⟩⟩
  ·rw [Ad] at hf
   simp only [Je, hf, Zt, if_true]
  ·have hi : (S r a (4 * i)).length ≤ i := by
    rcases hp2 with h | ⟨s, hs, e⟩
    ·exact h
    ·exact absurd ((Jgc (S r a (4 * i)) b).2 ⟨s, Ai hs, e⟩) hf
   obtain ⟨m, u, l, hu, hc, -, -⟩ := Qc_short hL ha h
   have hlt : Qc r a = S r a (4 * i) := by
    by_cases h2 : 4 * i ≤ 4 * 67108864
    ·exact Jqt r a hi _ h2
    ·have h3 := okp.len
     omega
   rw [hlt] at hu
   exact hf ((Jgc _ _).2 ⟨u, Ai hu, hc⟩)
end
end Go.Proofs.YtemehoioeoohmaaGreat
namespace Go.Proofs.YtemehoioeoohmaaGreat
open Go Go.Vv Go.Proofs
set_option linter.unusedSimpArgs false
set_option linter.unusedVariables false
theorem ok_iff (c : Ja) : Jdy c = true ↔ InR c := by
 simp only [Je, Jdy, zd, Jbg, Yj, InR]; omega
def dist (a b : Ja) : Nat := (a.X - b.X).natAbs + (a.Y - b.Y).natAbs
def nxt (b c : Ja) : Ja :=
 if c.X < b.X then ⟨c.X + 1, c.Y⟩ else if b.X < c.X then ⟨c.X - 1, c.Y⟩ else if c.Y < b.Y then ⟨c.X, c.Y + 1⟩ else ⟨c.X, c.Y - 1⟩
def Jfs (b : Ja) : Nat → Ja → List Ja
 | 0, _ => []
 | n + 1, c => nxt b c :: Jfs b n (nxt b c)
theorem Jjs (b : Ja) : ∀ (n : Nat) (c : Ja), (Jfs b n c).length = n
 | 0, _ => rfl
 | n + 1, c => by rw [Jfs, Aj, Jjs b n]
theorem J2l {b c : Ja} (hb : InR b) (hc : InR c) (h : 0 < dist c b) : InR (nxt b c) ∧ dist (nxt b c) b + 1 = dist c b := by
 unfold InR dist nxt at *
 split
 ·exact ⟨by simp only; omega, by simp only; omega⟩
 ·split
  ·exact ⟨by simp only; omega, by simp only; omega⟩
  ·split
   ·exact ⟨by simp only; omega, by simp only; omega⟩
   ·exact ⟨by simp only; omega, by simp only; omega⟩
theorem Jfj {a b : Ja} (ha : InR a) (hb : InR b) : dist a b ≤ 16384 := by
 unfold InR dist at *; omega
theorem Jvz {a b : Ja} (ha : InR a) (hb : InR b) : Jeu a b = some (.lst (a :: Jfs b (dist a b) a)) := by
 have h := Qe (body := Jck b) (fun s => InR s.1 ∧ s.2.l ++ Jfs b (dist s.1 b) s.1 = a :: Jfs b (dist a b) a) (fun s => dist s.1 b) (fun r => r.l = a :: Jfs b (dist a b) a)
  (fun ⟨c, out⟩ ⟨hc, ho⟩ => by
   simp only at hc ho ⊢
   have hlen : out.l.length + dist c b = 1 + dist a b := by
    have := congrArg List.length ho
    simp only [Je, As, Jjs, Aj] at this
    omega
   have hd := Jfj ha hb
   have hf : fits 16 (flen out + 1) = true := Xf (by rw [Jp]; omega) (by rw [Jp]; omega) (by omega)
   by_cases h0 : dist c b = 0
   ·right
    refine ⟨out, ?_, by rw [h0] at ho; simpa [Jfs] using ho⟩
    have e1 : c.X = b.X := by unfold dist at h0; omega
    have e2 : c.Y = b.Y := by unfold dist at h0; omega
    simp [Jck, e1, e2, ieq]
   ·left
    obtain ⟨n1, n2⟩ := J2l hb hc (by omega)
    refine ⟨(nxt b c, Yy out (nxt b c)), ?_, ⟨n1, ?_⟩, by show dist (nxt b c) b < dist c b; omega⟩
    ·have ne : bnot (band (ieq c.X b.X) (band (ieq c.Y b.Y) true)) = true := by
      rw [Jbj, zd, zd, Jdo, Jdo]
      unfold dist at h0; omega
     unfold InR at hc hb
     simp only [Je, Jck, ne, if_true, hf]
     unfold nxt
     by_cases c1 : c.X < b.X
     ·simp only [Je, Xg c1, if_true, c1, zt (a := c.X) (b := 1) (by omega) (by omega)]
     ·simp only [Je, Xe c1, if_false, c1, Ab]
      by_cases c2 : b.X < c.X
      ·simp only [Je, Jf6 c2, if_true, c2, Xc (a := c.X) (b := 1) (by omega) (by omega)]
      ·simp only [Je, Jhc c2, if_false, c2, Ab]
       by_cases c3 : c.Y < b.Y
       ·simp only [Je, Xg c3, if_true, c3, zt (a := c.Y) (b := 1) (by omega) (by omega)]
       ·simp only [Je, Xe c3, if_false, c3, Ab, Xc (a := c.Y) (b := 1) (by omega) (by omega)]
    ·simp only [Je, jt]; rw [← ho, ← n2, Jfs, List.append_assoc]; rfl) bigN (a, flit [a]) ⟨ha, rfl⟩ (Qk (by have := Jfj ha hb; simp only; omega))
 obtain ⟨r, e, hr⟩ := h
 have c0 : bor (bnot (Jdy a)) (bnot (Jdy b)) = false := by
  rw [← Ad, Yi, Jbj, Jbj, ok_iff, ok_iff]; simp [ha, hb]
 unfold Jeu
 rw [c0, e]; try simp only [Je]
 simp [flst, hr]
end Go.Proofs.YtemehoioeoohmaaGreat
