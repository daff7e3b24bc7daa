/- The reference's tracks: validity, reversal, rotation, variants, in plain Lean. Conditions: none. -/
import Derived.Test.YtemehoioeoohmaaGreatMc
import Derived.Test.YtemehoioeoohmaaGreatVq
open List renaming getElem?_eq_getElem → Aa, getElem_mem → Ad, length_cons → Ae, mem_of_getElem? → Ag, drop_eq_getElem_cons → Ah, length_append → Ai, length_drop → Aj, take_succ_eq_append_getElem → Ak, length_reverse → Al, length_eq_zero_iff → Am, length_map → An, append_assoc → Ap, getElem?_of_mem → Aq, getElem?_append_left → Ar, getElem?_eq_some_iff → As, reverse_cons → At, length_take → Av, getElem?_reverse → Ax, length_nil → Ay, getElem_of_mem → Az, getElem?_drop → Ba, getElem?_append_right → Bb, getElem?_map → Bd, drop_length → Be, take_of_length_le → Bg, map_append → Bh, nil_append → Bi, drop_eq_nil_of_le → Bj, take_append_drop → Bl, range → Bm, map_cons → Bn
open Bool renaming false_eq_true → Ab, not_eq_true → Ac
open Option renaming getD_some → Af
open Nat renaming le_refl → Ao, lt_trichotomy → Au, mod_eq_of_lt → Aw, zero_mul → Bf, zero_le → Bk
open Int renaming tmod_eq_emod_of_nonneg → Bc, add_zero → Bo
namespace Go.Proofs.YtemehoioeoohmaaGreat
open Go Go.Vv Go.Proofs
set_option linter.unusedSimpArgs false
set_option linter.unusedVariables false
set_option linter.unusedSectionVars false
theorem Jgq (c : Ja) : Kb c = true ↔ InR c := by
 unfold InR; simp only [Kb, zd, Jbg, Yj]
 exact ⟨fun h => ⟨h.1.1.1, h.1.1.2, h.1.2, h.2⟩, fun h => ⟨⟨⟨h.1, h.2.1⟩, h.2.2.1⟩, h.2.2.2⟩⟩
theorem Jo8 {n : Int} (h0 : -100000 ≤ n) (h1 : n ≤ 100000) : Jai n = (n.natAbs : Int) := by
 unfold Jai
 rw [Jhr, show ineg .i64 n = -n from by unfold ineg; rw [w64 _ (by omega) (by omega)]; omega]
 omega
theorem sq_one {x y : Int} (h : x * x + y * y = 1) : x.natAbs + y.natAbs = 1 := by
 have e1 : x * x = ((x.natAbs * x.natAbs : Nat) : Int) := by rw [Int.natCast_mul]; exact Int.natAbs_mul_self.symm
 have e2 : y * y = ((y.natAbs * y.natAbs : Nat) : Int) := by rw [Int.natCast_mul]; exact Int.natAbs_mul_self.symm
 rw [e1, e2] at h
 have h' : x.natAbs * x.natAbs + y.natAbs * y.natAbs = 1 := by omega
 have a : x.natAbs ≤ 1 := by
  apply Nat.le_of_not_lt
  intro hx
  have := Nat.mul_le_mul hx hx
  omega
 have b : y.natAbs ≤ 1 := by
  apply Nat.le_of_not_lt
  intro hx
  have := Nat.mul_le_mul hx hx
  omega
 have ca : x.natAbs = 0 ∨ x.natAbs = 1 := by omega
 have cb : y.natAbs = 0 ∨ y.natAbs = 1 := by omega
 rcases ca with ca | ca <;> rcases cb with cb | cb <;> rw [ca, cb] at h' <;> omega
theorem J9n {a b : Ja} (ha : InR a) (hb : InR b) (h : nb a b) : Ky a b = true := by
 rw [Jwx ha hb] at h
 have h1 := sq_one h
 obtain ⟨a1, a2, a3, a4⟩ := ha
 obtain ⟨b1, b2, b3, b4⟩ := hb
 unfold Ky
 rw [Xc (a := a.X) (b := b.X) (by omega) (by omega), Xc (a := a.Y) (b := b.Y) (by omega) (by omega), Jo8 (by omega) (by omega), Jo8 (by omega) (by omega), zt (by omega) (by omega), Jdo]
 omega
theorem Jmf {t : Jb} (h : VT t) : Xi t = some true := by
 have hr := h.role
 have hl := h.len
 have c0 : bor (bor (bor (ilt t.Role 1) (igt t.Role 7)) (ilt (flen t.Cells) 1)) (igt (flen t.Cells) 65536) = false := by
  rw [← Ac, Yi, Yi, Yi, Yj, Jd4, Yj, Jd4, Jp]; omega
 obtain ⟨v, ev, rfl⟩ := Qe (body := K3 t (flen t.Cells) t.Cells (flen t.Cells)) (fun s => ∃ i : Nat, s = i ∧ i ≤ t.Cells.l.length) (fun s => (t.Cells.l.length - s).toNat) (fun v => v = .inr ())
  (by
   rintro s ⟨i, rfl, hi⟩
   by_cases hlt : i < t.Cells.l.length
   ·have c : ilt (i : Int) (flen t.Cells) = true := Xg (by rw [Jp]; omega)
    have g := Ku hlt
    have hin := h.inr _ (Ad hlt)
    have hg := (Jgq _).2 hin
    refine .inl ⟨_, ?_, ⟨i + 1, rfl, hlt⟩, by omega⟩
    by_cases h0 : 0 < i
    ·have c2 : igt (i : Int) 0 = true := Jf6 (by omega)
     have g2 := Jia h0 hlt (by omega)
     have hn := J9n (h.inr _ (Ad (by omega : i - 1 < t.Cells.l.length))) hin (h.chn (i - 1) _ _ (Aa (by omega)) (by rw [show i - 1 + 1 = i by omega]; exact Aa hlt))
     simp only [K3, c, if_true, g, Jj, hg, Qx, Zt, c2, Jdr, Y4, g2, Af, hn, Jgt, if_false, Ab, zx (i := i) (by omega)]
    ·have c2 : igt (i : Int) 0 = false := Jhc (by omega)
     simp only [K3, c, if_true, g, Jj, hg, Qx, Zt, c2, Jdr, Jd5, jp, Jgt, if_false, Ab, zx (i := i) (by omega)]
   ·have c : ilt (i : Int) (flen t.Cells) = false := Xe (by rw [Jp]; omega)
    exact .inr ⟨.inr (), by simp only [K3, c, if_false, Ab], rfl⟩)
  bigN 0 ⟨0, rfl, by omega⟩ (Qk (by omega))
 unfold Xi
 rw [c0]
 simp only [if_false, Ab, ev, Jj]
 cases hc : t.Closed with
 | false => simp only [Zt, Jjm, Qx, jp, Jj]
 | true =>
  by_cases h1 : t.Cells.l.length = 1
  ·have e1 : ieq (flen t.Cells) 1 = true := Jlb (by rw [Jp]; omega)
   simp only [Qx, Jgt, e1, jp, Jj, Jjm]
  ·have e1 : ieq (flen t.Cells) 1 = false := Jg9 (by rw [Jp]; omega)
   have gl : fget t.Cells (isub .i64 (flen t.Cells) 1) = some (t.Cells.l[t.Cells.l.length - 1]'(by omega)) := by
    rw [Xc (by rw [Jp]; omega) (by rw [Jp]; omega), Jp, show (t.Cells.l.length : Int) - 1 = ((t.Cells.l.length - 1 : Nat) : Int) by omega]
    exact Ku (by omega)
   have gf : fget t.Cells 0 = some (t.Cells.l[0]'(by omega)) := Ku (i := 0) (by omega)
   have hn := J9n (h.inr _ (Ad (by omega : t.Cells.l.length - 1 < t.Cells.l.length))) (h.inr _ (Ad (by omega : 0 < t.Cells.l.length))) (h.cls hc h1 _ _ (Aa (by omega)) (Aa (by omega)))
   simp only [Qx, Jgt, e1, Zt, Y4, gl, gf, Jj, Af, hn]
theorem Jpp (x : FS Jb) (hv : ∀ t ∈ x.l, VT t) (hL : x.l.length ≤ 1000000) : ∃ y, zr x = some y ∧ y.l = x.l := by
 obtain ⟨y, ey, hy⟩ := Qe (body := jv x (flen x)) (fun s => ∃ i : Nat, s.2 = i ∧ i ≤ x.l.length ∧ s.1.l = x.l.take i) (fun s => (x.l.length - s.2).toNat) (fun y => y.l = x.l)
  (by
   rintro ⟨u, s1⟩ ⟨i, rfl, hi, hu⟩
   simp only at hu
   by_cases hlt : i < x.l.length
   ·have c : ilt (i : Int) (flen x) = true := Xg (by rw [Jp]; omega)
    have g := Ku hlt
    have hul : u.l.length ≤ 1000000 := by rw [hu, Av]; omega
    have f : fits 40 (flen u + 1) = true := Xf (by rw [Jp]; omega) (by rw [Jp]; omega) (by omega)
    refine .inl ⟨(Yy u x.l[i], ((i + 1 : Nat) : Int)), by simp only [jv, c, if_true, g, Jj, Jmf (hv _ (Ad hlt)), f, zx (i := i) (by omega)], ⟨i + 1, rfl, hlt, ?_⟩, by simp only; omega⟩
    simp only [jt, hu, Ak hlt]
   ·have c : ilt (i : Int) (flen x) = false := Xe (by rw [Jp]; omega)
    have hi' : i = x.l.length := by omega
    subst hi'
    exact .inr ⟨u, by simp only [jv, c, if_false, Ab], by rw [hu, List.take_length]⟩)
  bigN (FS.nil, 0) ⟨0, rfl, by omega, rfl⟩ (Qk (by simp only; omega))
 exact ⟨y, by simp only [zr, ey, Jj], hy⟩
theorem Jqh {t : Jb} (h : VT t) : z4 t = some ⟨t.Role, t.Closed, .lst t.Cells.l.reverse⟩ := by
 have hl := h.len
 obtain ⟨y, ey, c, rfl, hc⟩ := Qe (body := Zx t ⟨0, false, FS.nil⟩) (fun s => ∃ (k : Nat) (c : FS Ja), s = (⟨t.Role, t.Closed, c⟩, (k : Int) - 1) ∧ k ≤ t.Cells.l.length ∧ c.l = (t.Cells.l.drop k).reverse) (fun s => (s.2 + 1).toNat) (fun y => ∃ c : FS Ja, y = ⟨t.Role, t.Closed, c⟩ ∧ c.l = t.Cells.l.reverse)
  (by
   rintro s ⟨k, c, rfl, hk, hc⟩
   cases k with
   | zero =>
    have g : ige (((0 : Nat) : Int) - 1) 0 = false := rfl
    exact .inr ⟨⟨t.Role, t.Closed, c⟩, by simp only [Zx, g, if_false, Ab], c, rfl, by simpa using hc⟩
   | succ k =>
    have e : ((k + 1 : Nat) : Int) - 1 = (k : Int) := by omega
    have g : ige (k : Int) 0 = true := Jbg.2 (by omega)
    have gk := Ku (x := t.Cells) (i := k) (by omega)
    have hcl : c.l.length ≤ 65536 := by rw [hc]; simp; omega
    have f : fits 16 (flen c + 1) = true := Xf (by rw [Jp]; omega) (by rw [Jp]; omega) (by omega)
    rw [e]
    refine .inl ⟨(⟨t.Role, t.Closed, Yy c (t.Cells.l[k]'(by omega))⟩, (k : Int) - 1), ?_, ⟨k, _, rfl, by omega, ?_⟩, by simp only; omega⟩
    ·simp only [Zx, g, if_true, gk, Jj, f]
     rw [Xc (by omega) (by omega)]
    ·rw [jt, hc, Ah (by omega : k < t.Cells.l.length), At])
  bigN (⟨t.Role, t.Closed, FS.nil⟩, (t.Cells.l.length : Int) - 1) ⟨t.Cells.l.length, FS.nil, rfl, Ao _, by simp [FS.l]⟩ (Qk (by simp only; omega))
 have hcl : c = .lst t.Cells.l.reverse := by rw [← hc]; exact Jhu (by rw [hc, Al]; omega)
 have e : isub .i64 (flen t.Cells) 1 = (t.Cells.l.length : Int) - 1 := by rw [Xc (by rw [Jp]; omega) (by rw [Jp]; omega), Jp]
 simp only [z4, Jmf h, Jj, Qx, if_false, Ab, e, ey, hcl]
theorem rot_get {α : Type} {l : List α} {k : Nat} (hk : k < l.length) {j : Nat} (hj : j < l.length) : (l.drop k ++ l.take k)[j]? = l[(k + j) % l.length]? := by
 by_cases h1 : j + k < l.length
 ·rw [Ar (by rw [Aj]; omega), Ba, Aw (by omega)]
 ·rw [Bb (by rw [Aj]; omega), Aj, List.getElem?_take, if_pos (by omega)]
  congr 1
  rw [Nat.mod_eq_sub_mod (by omega), Aw (by omega)]
  omega
theorem Jsi (a b : Nat) : irem (a : Int) (b : Int) = ((a % b : Nat) : Int) := by unfold irem; rw [Bc (by omega)]; rfl
theorem Jyb {t : Jb} (h : VT t) (hc : t.Closed = true) {k : Nat} (hk : k < t.Cells.l.length) : Jb1 t k = some ⟨t.Role, true, .lst (t.Cells.l.drop k ++ t.Cells.l.take k)⟩ := by
 have hl := h.len
 have hrl : (t.Cells.l.drop k ++ t.Cells.l.take k).length = t.Cells.l.length := by simp; omega
 obtain ⟨y, ey, c, rfl, hcc⟩ := Qe (body := Yl t ⟨0, false, FS.nil⟩ (k : Int) (flen t.Cells) (flen t.Cells)) (fun s => ∃ (j : Nat) (c : FS Ja), s = (⟨t.Role, t.Closed, c⟩, (j : Int)) ∧ j ≤ t.Cells.l.length ∧ c.l = (t.Cells.l.drop k ++ t.Cells.l.take k).take j) (fun s => (t.Cells.l.length - s.2).toNat) (fun y => ∃ c : FS Ja, y = ⟨t.Role, t.Closed, c⟩ ∧ c.l = t.Cells.l.drop k ++ t.Cells.l.take k)
  (by
   rintro s ⟨j, c, rfl, hj, hcc⟩
   by_cases hlt : j < t.Cells.l.length
   ·have c1 : ilt (j : Int) (flen t.Cells) = true := Xg (by rw [Jp]; omega)
    have z : ieq (flen t.Cells) 0 = false := Jg9 (by rw [Jp]; omega)
    have e : irem (iadd .i64 (k : Int) (j : Int)) (flen t.Cells) = (((k + j) % t.Cells.l.length : Nat) : Int) := by
     rw [zt (by omega) (by omega), Jp, show (k : Int) + (j : Int) = ((k + j : Nat) : Int) by omega, Jsi]
    have hm : (k + j) % t.Cells.l.length < t.Cells.l.length := Nat.mod_lt _ (by omega)
    have g := Ku (x := t.Cells) hm
    have hcl : c.l.length ≤ 65536 := by rw [hcc, Av]; omega
    have f : fits 16 (flen c + 1) = true := Xf (by rw [Jp]; omega) (by rw [Jp]; omega) (by omega)
    refine .inl ⟨(⟨t.Role, t.Closed, Yy c (t.Cells.l[(k + j) % t.Cells.l.length]'hm)⟩, ((j + 1 : Nat) : Int)), by simp only [Yl, c1, if_true, z, if_false, Ab, e, g, Jj, f, zx (i := j) (by omega)], ⟨j + 1, _, rfl, hlt, ?_⟩, by simp only; omega⟩
    have hg := rot_get hk hlt
    rw [Aa hm] at hg
    rw [jt, hcc, List.take_add_one, hg]
    rfl
   ·have c1 : ilt (j : Int) (flen t.Cells) = false := Xe (by rw [Jp]; omega)
    have hj' : j = t.Cells.l.length := by omega
    subst hj'
    exact .inr ⟨⟨t.Role, t.Closed, c⟩, by simp only [Yl, c1, if_false, Ab], c, rfl, by rw [hcc, Bg (by omega)]⟩)
  bigN (⟨t.Role, t.Closed, FS.nil⟩, 0) ⟨0, FS.nil, rfl, by omega, rfl⟩ (Qk (by simp only; omega))
 have hcl : c = .lst (t.Cells.l.drop k ++ t.Cells.l.take k) := by rw [← hcc]; exact Jhu (by rw [hcc, hrl]; omega)
 have z : ieq (flen t.Cells) 0 = false := Jg9 (by rw [Jp]; omega)
 have e1 : irem (k : Int) (flen t.Cells) = (k : Int) := by rw [Jp, Jsi, Aw hk]
 have e2 : irem (iadd .i64 (k : Int) (flen t.Cells)) (flen t.Cells) = (k : Int) := by
  rw [Jp, zt (by omega) (by omega), show (k : Int) + (t.Cells.l.length : Int) = ((k + t.Cells.l.length : Nat) : Int) by omega, Jsi, Nat.add_mod_right, Aw hk]
 simp only [Jb1, Jmf h, Jj, Qx, if_false, Ab, hc, if_true, z, e1, e2] at ey ⊢
 rw [ey, Jj, hcl]
theorem Jvv {t : Jb} (h : VT t) : ∃ y, j8 t = some y ∧ y.l = (Bm (j7 t).length).map (vr t) := by
 have hl := h.len
 cases hc : t.Closed with
 | false =>
  have hf : (j7 t).length = 2 := by
   unfold j7
   rw [hc, if_neg (by decide), Aa (by omega : 0 < t.Cells.l.length), Aa (by omega : t.Cells.l.length - 1 < t.Cells.l.length)]
   rfl
  refine ⟨flit [t, ⟨t.Role, t.Closed, .lst t.Cells.l.reverse⟩], by simp only [j8, hc, Zt, if_true, Jqh h, Jj], ?_⟩
  rw [hf, Je1]
  have e0 : vr t 0 = t := by unfold vr; rw [hc, if_neg (by decide), if_neg (by decide)]
  have e1 : vr t 1 = ⟨t.Role, t.Closed, .lst t.Cells.l.reverse⟩ := by unfold vr; rw [hc, if_neg (by decide), if_pos rfl]
  show [t, _] = [vr t 0, vr t 1]
  rw [e0, e1]
 | true =>
  have hf : (j7 t).length = t.Cells.l.length := by unfold j7; rw [hc, if_pos rfl]
  obtain ⟨y, ey, hy⟩ := Qe (body := Zg t (flen t.Cells)) (fun s => ∃ i : Nat, s.2 = i ∧ i ≤ t.Cells.l.length ∧ s.1.l = (Bm i).map (vr t)) (fun s => (t.Cells.l.length - s.2).toNat) (fun y => y.l = (Bm t.Cells.l.length).map (vr t))
   (by
    rintro ⟨u, s1⟩ ⟨i, rfl, hi, hu⟩
    simp only at hu
    by_cases hlt : i < t.Cells.l.length
    ·have c : ilt (i : Int) (flen t.Cells) = true := Xg (by rw [Jp]; omega)
     have hul : u.l.length ≤ 65536 := by rw [hu]; simp; omega
     have f : fits 40 (flen u + 1) = true := Xf (by rw [Jp]; omega) (by rw [Jp]; omega) (by omega)
     have e : vr t i = ⟨t.Role, true, .lst (t.Cells.l.drop i ++ t.Cells.l.take i)⟩ := by unfold vr; rw [hc, if_pos rfl]
     refine .inl ⟨(Yy u (vr t i), ((i + 1 : Nat) : Int)), by simp only [Zg, c, if_true, Jyb h hc hlt, Jj, f, e, zx (i := i) (by omega)], ⟨i + 1, rfl, hlt, ?_⟩, by simp only; omega⟩
     simp only [jt, hu, List.range_succ, Bh, Bn, List.map_nil]
    ·have c : ilt (i : Int) (flen t.Cells) = false := Xe (by rw [Jp]; omega)
     have hi' : i = t.Cells.l.length := by omega
     subst hi'
     exact .inr ⟨u, by simp only [Zg, c, if_false, Ab], hu⟩)
   bigN (FS.nil, 0) ⟨0, rfl, by omega, rfl⟩ (Qk (by simp only; omega))
  exact ⟨y, by simp only [j8, hc, Qx, if_false, Ab, ey, Jj], by rw [hy, hf]⟩
theorem vr_first {t : Jb} (h : VT t) {k : Nat} (hk : k < (j7 t).length) : (vr t k).Cells.l[0]? = (j7 t)[k]? := by
 have hl := h.len
 cases hc : t.Closed with
 | true =>
  have hf : j7 t = t.Cells.l := by unfold j7; rw [hc, if_pos rfl]
  rw [hf] at hk ⊢
  have e : vr t k = ⟨t.Role, true, .lst (t.Cells.l.drop k ++ t.Cells.l.take k)⟩ := by unfold vr; rw [hc, if_pos rfl]
  rw [e]
  show (t.Cells.l.drop k ++ t.Cells.l.take k)[0]? = _
  rw [Ar (by rw [Aj]; omega), Ba, Nat.add_zero]
 | false =>
  have hf : j7 t = [t.Cells.l[0], t.Cells.l[t.Cells.l.length - 1]'(by omega)] := by
   unfold j7
   rw [hc, if_neg (by decide), Aa (by omega : 0 < t.Cells.l.length), Aa (by omega : t.Cells.l.length - 1 < t.Cells.l.length)]
  rw [hf] at hk ⊢
  have hk2 : k = 0 ∨ k = 1 := by simp at hk; omega
  rcases hk2 with rfl | rfl
  ·have e0 : vr t 0 = t := by unfold vr; rw [hc, if_neg (by decide), if_neg (by decide)]
   rw [e0, Aa (by omega : 0 < t.Cells.l.length)]; rfl
  ·have e1 : vr t 1 = ⟨t.Role, t.Closed, .lst t.Cells.l.reverse⟩ := by unfold vr; rw [hc, if_neg (by decide), if_pos rfl]
   rw [e1]
   show t.Cells.l.reverse[0]? = _
   rw [Ax (by omega), Aa (by omega : t.Cells.l.length - 1 - 0 < t.Cells.l.length)]; rfl
end Go.Proofs.YtemehoioeoohmaaGreat
namespace Go.Proofs.YtemehoioeoohmaaGreat
open Go Go.Vv Go.Proofs
set_option linter.unusedSimpArgs false
set_option linter.unusedVariables false
set_option linter.unusedSectionVars false
theorem rs33 {n : Int} (h0 : -100000 ≤ n) (h1 : n ≤ 100000) : Jae n = (n.natAbs : Int) := by
 unfold Jae
 rw [Jhr, show ineg .i64 n = -n from by unfold ineg; rw [w64 _ (by omega) (by omega)]; omega]
 omega
theorem Jw6 {a b : Ja} (ha : InR a) (hb : InR b) : Kr a b = ((dist a b : Nat) : Int) := by
 obtain ⟨a1, a2, a3, a4⟩ := ha
 obtain ⟨b1, b2, b3, b4⟩ := hb
 unfold Kr dist
 rw [Xc (a := a.X) (b := b.X) (by omega) (by omega), Xc (a := a.Y) (b := b.Y) (by omega) (by omega), rs33 (by omega) (by omega), rs33 (by omega) (by omega), zt (by omega) (by omega)]
 omega
theorem J7z {a b : Ja} (ha : InR a) (hb : InR b) : Kr a b = J9 a b := by rw [Jw6 ha hb, Jl9 ha hb]
theorem Ju9 {p : Ja} (hp : InR p) {t : Jb} (ht : VT t) {vs : FS Jb} (hvs : vs.l = (Bm (j7 t).length).map (vr t)) (k1 : FS Jb) (n : Int) (hn0 : 0 ≤ n) (k3 : FS Jb) (k4 k5 : Int) (out : FS Jb) (best : Jb) (at0 d0 : Int) :
  ∃ r, Kn (Qg p k1 n k3 k4 k5 vs (flen vs)) bigN (out, best, at0, d0, 0) = some r ∧
   ((0 ≤ at0 ∧ r = (best, out, at0, d0) ∧ ∀ c ∈ j7 t, d0 ≤ J9 p c) ∨ (∃ (k : Nat) (d : Int), Best p (j7 t) k d ∧ k < (j7 t).length ∧ r = (vr t k, out, n, d) ∧ (0 ≤ at0 → d < d0))) := by
 have hlen : vs.l.length = (j7 t).length := by rw [hvs]; simp
 have hfl : 0 < (j7 t).length ∧ (j7 t).length ≤ 65536 := by
  have hl := ht.len
  cases hc : t.Closed with
  | true => unfold j7; rw [hc, if_pos rfl]; omega
  | false =>
   unfold j7
   rw [hc, if_neg (by decide), Aa (by omega : 0 < t.Cells.l.length), Aa (by omega : t.Cells.l.length - 1 < t.Cells.l.length)]
   exact ⟨by simp, by simp⟩
 have hin : ∀ c ∈ j7 t, InR c := Jrp ht
 refine Qe (body := Qg p k1 n k3 k4 k5 vs (flen vs))
  (fun s => ∃ j : Nat, s.2.2.2.2 = j ∧ j ≤ (j7 t).length ∧ s.1 = out ∧
   (((0 ≤ at0 ∨ j = 0) ∧ s.2.1 = best ∧ s.2.2.1 = at0 ∧ s.2.2.2.1 = d0 ∧ ∀ (i : Nat) c, i < j → (j7 t)[i]? = some c → d0 ≤ J9 p c) ∨
    (∃ (k : Nat) (c : Ja), k < j ∧ (j7 t)[k]? = some c ∧ s.2.1 = vr t k ∧ s.2.2.1 = n ∧ s.2.2.2.1 = J9 p c ∧ (∀ (i : Nat) c', i < j → (j7 t)[i]? = some c' → J9 p c ≤ J9 p c') ∧ (∀ (i : Nat) c', i < k → (j7 t)[i]? = some c' → J9 p c < J9 p c') ∧ (0 ≤ at0 → J9 p c < d0))))
  (fun s => ((j7 t).length - s.2.2.2.2).toNat) _ ?_ bigN (out, best, at0, d0, 0) ⟨0, rfl, by omega, rfl, .inl ⟨.inr rfl, rfl, rfl, rfl, fun i c hi => by omega⟩⟩ (Qk (by simp only; omega))
 rintro ⟨s0, s1, s2, s3, s4⟩ ⟨j, rfl, hj, rfl, hJ⟩
 simp only at hJ
 by_cases hlt : j < (j7 t).length
 ·have c1 : ilt (j : Int) (flen vs) = true := Xg (by rw [Jp]; omega)
  have gv : fget vs (j : Int) = some (vr t j) := Jcj (by rw [hvs, Bd, List.getElem?_range hlt]; rfl)
  have hcj := Aa hlt
  generalize (j7 t)[j] = cj at hcj
  have gc : fget (vr t j).Cells 0 = some cj := by
   show fget (vr t j).Cells ((0 : Nat) : Int) = _
   exact Jcj (by rw [vr_first ht hlt]; exact hcj)
  have hcin := hin cj (Ag hcj)
  have ed := J7z hp hcin
  have is1 := zx (i := j) (by omega)
  have stay : ∀ i c, i < j + 1 → (j7 t)[i]? = some c → i < j ∨ (i = j ∧ c = cj) := fun i c hi hc => by
   by_cases h : i = j
   ·subst h; rw [hcj] at hc; cases hc; exact .inr ⟨rfl, rfl⟩
   ·exact .inl (by omega)
  rcases hJ with ⟨h1, rfl, rfl, rfl, h2⟩ | ⟨k, c, hk, hc, rfl, rfl, rfl, h3, h4, h5⟩
  ·by_cases hcond : s2 < 0 ∨ J9 p cj < s3
   ·have cc : bor (ilt s2 0) (ilt (J9 p cj) s3) = true := by rw [Yi, Yj, Yj]; exact hcond
    refine .inl ⟨(s0, vr t j, n, J9 p cj, ((j + 1 : Nat) : Int)), by simp only [Qg, c1, if_true, gv, Jj, gc, cc, ed, is1], ⟨j + 1, rfl, hlt, rfl, .inr ⟨j, cj, by omega, hcj, rfl, rfl, rfl, fun i c' hi hc' => ?_, fun i c' hi hc' => ?_, fun h0 => by omega⟩⟩, by simp only; omega⟩
    ·rcases stay i c' hi hc' with h | ⟨-, rfl⟩
     ·have := h2 i c' h hc'; omega
     ·exact Int.le_refl _
    ·have := h2 i c' hi hc'; omega
   ·have cc : bor (ilt s2 0) (ilt (J9 p cj) s3) = false := by rw [← Ac, Yi, Yj, Yj]; exact hcond
    refine .inl ⟨(s0, s1, s2, s3, ((j + 1 : Nat) : Int)), by simp only [Qg, c1, if_true, gv, Jj, gc, ed, cc, if_false, Ab, is1], ⟨j + 1, rfl, hlt, rfl, .inl ⟨.inl (by omega), rfl, rfl, rfl, fun i c' hi hc' => ?_⟩⟩, by simp only; omega⟩
    rcases stay i c' hi hc' with h | ⟨-, rfl⟩
    ·exact h2 i c' h hc'
    ·omega
  ·by_cases hcond : J9 p cj < J9 p c
   ·have cc : bor (ilt s2 0) (ilt (J9 p cj) (J9 p c)) = true := by rw [Yi, Yj, Yj]; exact .inr hcond
    refine .inl ⟨(s0, vr t j, s2, J9 p cj, ((j + 1 : Nat) : Int)), by simp only [Qg, c1, if_true, gv, Jj, gc, cc, ed, is1], ⟨j + 1, rfl, hlt, rfl, .inr ⟨j, cj, by omega, hcj, rfl, rfl, rfl, fun i c' hi hc' => ?_, fun i c' hi hc' => ?_, fun h0 => by have := h5 h0; omega⟩⟩, by simp only; omega⟩
    ·rcases stay i c' hi hc' with h | ⟨-, rfl⟩
     ·have := h3 i c' h hc'; omega
     ·exact Int.le_refl _
    ·have := h3 i c' hi hc'; omega
   ·by_cases hn : s2 < 0
    ·exact absurd hn (by omega)
    ·have cc : bor (ilt s2 0) (ilt (J9 p cj) (J9 p c)) = false := by rw [← Ac, Yi, Yj, Yj]; omega
     refine .inl ⟨(s0, vr t k, s2, J9 p c, ((j + 1 : Nat) : Int)), by simp only [Qg, c1, if_true, gv, Jj, gc, ed, cc, if_false, Ab, is1], ⟨j + 1, rfl, hlt, rfl, .inr ⟨k, c, by omega, hc, rfl, rfl, rfl, fun i c' hi hc' => ?_, h4, h5⟩⟩, by simp only; omega⟩
     rcases stay i c' hi hc' with h | ⟨-, rfl⟩
     ·exact h3 i c' h hc'
     ·omega
 ·have c1 : ilt (j : Int) (flen vs) = false := Xe (by rw [Jp]; omega)
  have hj' : j = (j7 t).length := by omega
  subst hj'
  refine .inr ⟨(s1, s0, s2, s3), by simp only [Qg, c1, if_false, Ab], ?_⟩
  rcases hJ with ⟨h1, rfl, rfl, rfl, h2⟩ | ⟨k, c, hk, hc, rfl, rfl, rfl, h3, h4, h5⟩
  ·refine .inl ⟨by omega, rfl, fun c hc => ?_⟩
   obtain ⟨i, hi⟩ := Aq hc
   exact h2 i c (As.1 hi).1 hi
  ·exact .inr ⟨k, _, ⟨⟨c, hc, rfl⟩, fun i c' hc' => h3 i c' (As.1 hc').1 hc', h4⟩, hk, rfl, h5⟩
theorem PickN.uniq {p : Ja} {l : List Jb} {n a k a' k' : Nat} {d d' : Int} (h : PickN p l n a k d) (h' : PickN p l n a' k' d') : a = a' ∧ k = k' ∧ d = d' := by
 obtain ⟨t, ht, hb, hk⟩ := h.here
 obtain ⟨t', ht', hb', hk'⟩ := h'.here
 obtain ⟨c, hc, hd⟩ := hb.here
 obtain ⟨c', hc', hd'⟩ := hb'.here
 have e1 := h.le a' t' h'.lt ht' c' (Ag hc')
 have e2 := h'.le a t h.lt ht c (Ag hc)
 have hdd : d = d' := by omega
 have haa : a = a' := by
  rcases Au a a' with hlt | heq | hlt
  ·have := h'.sm a t hlt ht c (Ag hc); omega
  ·exact heq
  ·have := h.sm a' t' hlt ht' c' (Ag hc'); omega
 subst haa
 rw [ht] at ht'; cases ht'
 refine ⟨rfl, ?_, hdd⟩
 rcases Au k k' with hlt | heq | hlt
 ·have := hb'.lt k c hlt hc; omega
 ·exact heq
 ·have := hb.lt k' c' hlt hc'; omega
theorem rpick {p : Ja} (hp : InR p) (x : FS Jb) (hv : ∀ t ∈ x.l, VT t) (hL : x.l.length ≤ 1000000) (h0 : 0 < x.l.length) (k1 : FS Jb) (out : FS Jb) (b0 : Jb) :
  ∃ (a k : Nat) (d : Int) (t : Jb), Kn (Xk p k1 x (flen x)) bigN (out, b0, (-1), 0, 0) = some (vr t k, out, (a : Int)) ∧ PickN p x.l x.l.length a k d ∧ x.l[a]? = some t := by
 obtain ⟨r, er, a, k, d, t, rfl, h1, h2⟩ := Qe (body := Xk p k1 x (flen x))
  (fun s => ∃ n : Nat, s.2.2.2.2 = n ∧ n ≤ x.l.length ∧ s.1 = out ∧ ((n = 0 ∧ s.2.2.1 = -1) ∨ ∃ (a k : Nat) (d : Int) (t : Jb), s.2.2.1 = a ∧ s.2.1 = vr t k ∧ s.2.2.2.1 = d ∧ PickN p x.l n a k d ∧ x.l[a]? = some t))
  (fun s => (x.l.length - s.2.2.2.2).toNat) (fun r => ∃ (a k : Nat) (d : Int) (t : Jb), r = (vr t k, out, (a : Int)) ∧ PickN p x.l x.l.length a k d ∧ x.l[a]? = some t)
  (by
   rintro ⟨s0, s1, s2, s3, s4⟩ ⟨n, rfl, hn, rfl, hJ⟩
   simp only at hJ
   by_cases hlt : n < x.l.length
   ·have c1 : ilt (n : Int) (flen x) = true := Xg (by rw [Jp]; omega)
    have g := Ku hlt
    have hgt := Aa hlt
    have ht := hv _ (Ad hlt)
    generalize x.l[n] = t at g hgt ht
    obtain ⟨vs, ev, hvs⟩ := Jvv ht
    obtain ⟨r, er, hr⟩ := Ju9 hp ht hvs k1 (n : Int) (by omega) x (flen x) (n : Int) s0 s1 s2 s3
    have is1 := zx (i := n) (by omega)
    have hstep : Xk p k1 x (flen x) (s0, s1, s2, s3, (n : Int)) = some (.nx (r.2.1, r.1, r.2.2.1, r.2.2.2, ((n + 1 : Nat) : Int))) := by
     simp only [Xk, c1, if_true, g, Jj, ev, er, is1]
    refine .inl ⟨_, hstep, ⟨n + 1, rfl, hlt, ?_, ?_⟩, by simp only; omega⟩
    ·rcases hr with ⟨-, rfl, -⟩ | ⟨_, _, _, _, rfl, _⟩ <;> rfl
    ·right
     rcases hJ with ⟨rfl, rfl⟩ | ⟨a, k, d, t', rfl, rfl, rfl, hP, ht'⟩
     ·rcases hr with ⟨h, -, -⟩ | ⟨k, d, hb, hk, rfl, -⟩
      ·omega
      ·refine ⟨0, k, d, t, rfl, rfl, rfl, ⟨by omega, ⟨t, hgt, hb, hk⟩, fun i u hi hu c hc => ?_, fun i u hi => by omega⟩, hgt⟩
       have : i = 0 := by omega
       subst this
       rw [hgt] at hu; cases hu
       obtain ⟨q, hq⟩ := Aq hc
       exact hb.le q c hq
     ·rcases hr with ⟨-, rfl, hle⟩ | ⟨k2, d2, hb, hk, rfl, hd⟩
      ·refine ⟨a, k, s3, t', rfl, rfl, rfl, ⟨by have := hP.lt; omega, hP.here, fun i u hi hu c hc => ?_, hP.sm⟩, ht'⟩
       by_cases he : i = n
       ·subst he; rw [hgt] at hu; cases hu; exact hle c hc
       ·exact hP.le i u (by omega) hu c hc
      ·have hd' := hd (by omega)
       refine ⟨n, k2, d2, t, rfl, rfl, rfl, ⟨by omega, ⟨t, hgt, hb, hk⟩, fun i u hi hu c hc => ?_, fun i u hi hu c hc => ?_⟩, hgt⟩
       ·by_cases he : i = n
        ·subst he; rw [hgt] at hu; cases hu
         obtain ⟨q, hq⟩ := Aq hc
         exact hb.le q c hq
        ·have := hP.le i u (by omega) hu c hc; omega
       ·have := hP.le i u hi hu c hc; omega
   ·have c1 : ilt (n : Int) (flen x) = false := Xe (by rw [Jp]; omega)
    have hn' : n = x.l.length := by omega
    subst hn'
    rcases hJ with ⟨h, -⟩ | ⟨a, k, d, t, rfl, rfl, rfl, hP, ht⟩
    ·omega
    ·exact .inr ⟨(vr t k, s0, (a : Int)), by simp only [Xk, c1, if_false, Ab], a, k, s3, t, rfl, hP, ht⟩)
  bigN (out, b0, (-1), 0, 0) ⟨0, rfl, by omega, rfl, .inl ⟨rfl, rfl⟩⟩ (Qk (by simp only; omega))
 exact ⟨a, k, d, t, er, h1, h2⟩
theorem fsl_hi {α : Type} {x : FS α} {b : Nat} (h : b ≤ x.l.length) : ∃ m, fsl x 0 (b : Int) = some m ∧ m.l = x.l.take b := by
 cases x with
 | nil =>
  have : b = 0 := by simp [FS.l] at h; exact h
  subst this; exact ⟨.nil, rfl, rfl⟩
 | lst l => exact ⟨_, Jle (a := 0) (Bk _) h, by show ((l.drop 0).take (b - 0)) = _; simp [FS.l]⟩
theorem fsl_lo {α : Type} {x : FS α} {a : Nat} (h : a ≤ x.l.length) : ∃ m, fsl x (a : Int) (flen x) = some m ∧ m.l = x.l.drop a := by
 cases x with
 | nil =>
  have : a = 0 := by simp [FS.l] at h; exact h
  subst this; exact ⟨.nil, rfl, rfl⟩
 | lst l => exact ⟨_, Jle h (Ao _), by show ((l.drop a).take (l.length - a)) = _; rw [Bg (by simp)]; rfl⟩
theorem Jng {α : Type} : flen (flit ([] : List α)) = 0 := rfl
theorem Jy6 {p : Ja} (hp : InR p) (x : FS Jb) (hv : ∀ t ∈ x.l, VT t) (hL : x.l.length ≤ 1000000) {g : List Jb} (hg : Gre p x.l g) : ∃ y, Jbx p x = some y ∧ y.l = g := by
 obtain ⟨z, ez, hz⟩ := Jpp x hv hL
 obtain ⟨y, ey, hy⟩ := Qe (body := jh) (fun s => InR s.1 ∧ (∀ t ∈ s.2.1.l, VT t) ∧ s.2.2.l.length + s.2.1.l.length ≤ 1000000 ∧ ∃ r, Gre s.1 s.2.1.l r ∧ s.2.2.l ++ r = g) (fun s => s.2.1.l.length) (fun y => y.l = g)
  (by
   rintro ⟨q, u, out⟩ ⟨h1, h2, h3, r, hr, hgr⟩
   simp only at h1 h2 h3 hr hgr
   by_cases h0 : 0 < u.l.length
   ·have c1 : igt (flen u) 0 = true := Jf6 (by rw [Jp]; omega)
    obtain ⟨a, k, d, t, el, hP, ht⟩ := rpick h1 u h2 (by omega) h0 u out ⟨0, false, FS.nil⟩
    generalize hul : u.l = ul at hr
    cases hr with
    | nil _ => rw [hul] at h0; simp at h0
    | cons _ q' _ r' a' k' d' t' hP' ht' hq' hr' =>
     subst hul
     obtain ⟨rfl, rfl, -⟩ := hP.uniq hP'
     rw [ht] at ht'; cases ht'
     have ha : a < u.l.length := hP.lt
     have hvt := h2 t (Ag ht)
     obtain ⟨t2, ht2, -, hk⟩ := hP.here
     rw [ht] at ht2; cases ht2
     have hvr := (vr_ok hvt hk).1
     have hvl := hvr.len
     have f1 : fits 40 (flen out + 1) = true := Xf (by rw [Jp]; omega) (by rw [Jp]; omega) (by omega)
     have gl : fget (vr t k).Cells (isub .i64 (flen (vr t k).Cells) 1) = some q' := by
      rw [Xc (by rw [Jp]; omega) (by rw [Jp]; omega), Jp, show ((vr t k).Cells.l.length : Int) - 1 = (((vr t k).Cells.l.length - 1 : Nat) : Int) by omega]
      exact Jcj hq'
     obtain ⟨m1, em1, hm1⟩ := fsl_hi (x := u) (b := a) (by omega)
     obtain ⟨m2, em2, hm2⟩ := fsl_lo (x := u) (a := a + 1) (by omega)
     have f2 : fits 40 (flen (flit ([] : List Jb)) + flen m1) = true := Xf (by rw [Jng, Jp]; omega) (by rw [Jng, Jp, hm1, Av]; omega) (by omega)
     have f3 : fits 40 (flen (fapp (flit ([] : List Jb)) m1) + flen m2) = true := Xf (by rw [Jp, Jp]; omega) (by rw [Jp, Jp, Jhb, Je1, hm1, hm2]; simp; omega) (by omega)
     refine .inl ⟨(q', fapp (fapp (flit ([] : List Jb)) m1) m2, Yy out (vr t k)), by simp only [jh, c1, if_true, el, Jj, f1, gl, em1, zx (i := a) (by omega), em2, f2, f3], ?_, ?_⟩
     ·have e : (fapp (fapp (flit ([] : List Jb)) m1) m2).l = u.l.eraseIdx a := by
       rw [Jhb, Jhb, Je1, hm1, hm2, Jml, Bi]
      refine ⟨hvr.inr _ (Ag hq'), fun w hw => ?_, ?_, r', ?_, ?_⟩
      ·simp only [e] at hw; exact h2 w (List.mem_of_mem_eraseIdx hw)
      ·simp only [e, jt, Ai, List.length_singleton, List.length_eraseIdx, ha, if_true]; omega
      ·simp only [e]; exact hr'
      ·simp only [jt]; rw [← hgr]; simp
     ·simp only
      rw [Jhb, Jhb, Je1, hm1, hm2]
      simp; omega
   ·have c1 : igt (flen u) 0 = false := Jhc (by rw [Jp]; omega)
    have hnil : u.l = [] := List.eq_nil_of_length_eq_zero (by omega)
    have hr0 : r = [] := by
     rw [hnil] at hr
     cases hr with
     | nil _ => rfl
     | cons _ q' _ r' a' k' d' t' hP' ht' hq' hr' => simp at ht'
    subst hr0
    exact .inr ⟨out, by simp only [jh, c1, if_false, Ab], by rw [← hgr]; simp⟩)
  bigN (p, z, FS.nil) ⟨hp, by rw [hz]; exact hv, by simp only; rw [hz]; simpa [FS.l] using hL, g, by rw [hz]; exact hg, rfl⟩ (Qk (by simp only; rw [hz]; omega))
 have hgr : Kb p = true := (Jgq p).2 hp
 exact ⟨y, by simp only [Jbx, hgr, Qx, if_false, Ab, ez, Jj, ey], hy⟩
end Go.Proofs.YtemehoioeoohmaaGreat
namespace Go.Proofs.YtemehoioeoohmaaGreat
open Go Go.Vv Go.Proofs
set_option linter.unusedSimpArgs false
set_option linter.unusedVariables false
set_option linter.unusedSectionVars false
def Jd7 : Ja → List Jb → Nat
 | _, [] => 0
 | p, t :: r => dist p (fstC t) + Jd7 (lstC t) r
theorem Jfq : ∀ (p : Ja) (A B : List Jb), Jd7 p (A ++ B) = Jd7 p A + Jd7 (endC p A) B
 | p, [], B => by simp [Jd7, endC]
 | p, t :: A, B => by
  simp only [List.cons_append, Jd7, endC]
  rw [Jfq (lstC t) A B]; omega
theorem Jma : ∀ (p : Ja) (A B : List Jb), endC p (A ++ B) = endC (endC p A) B
 | p, [], B => rfl
 | p, t :: A, B => by simp only [List.cons_append, endC]; exact Jma _ A B
theorem Jne (a : Ja) : dist a a = 0 := by unfold dist; omega
theorem Jpb (q : Ja) (t : Jb) (r : List Jb) : Jd7 q (t :: r) = dist q (fstC t) + Jd7 (fstC t) (t :: r) := by
 simp only [Jd7, Jne]; omega
theorem Joh {t : Jb} (h : VT t) : fstC (tr t) = fstB t ∧ lstC (tr t) = lstB t := by
 have hl := h.len
 unfold tr fstB lstB
 cases hc : t.Closed with
 | true => simp
 | false =>
  simp only [if_false, Ab]
  unfold fstC lstC
  simp only [FS.l_lst, Al]
  rw [Ax (by omega), Ax (by omega), Nat.sub_zero, show t.Cells.l.length - 1 - (t.Cells.l.length - 1) = 0 by omega]
  exact ⟨rfl, rfl⟩
section
variable {l : List Jb} {i : Nat}
theorem Jnp {n : Nat} (h : i + n < l.length) : (l.drop i).take (n + 1) = (l.drop i).take n ++ [at_ l (i + n)] := by
 have hd : n < (l.drop i).length := by rw [Aj]; omega
 rw [Ak hd, List.getElem_drop, Jk1 h]
theorem Jvi {n : Nat} (a : Ja) (h : i + n < l.length) : endC a ((l.drop i).take (n + 1)) = lstC (at_ l (i + n)) := by
 rw [Jnp h, Jma]; rfl
theorem Jww {n : Nat} (h : i < l.length) : (l.drop i).take (n + 1) = at_ l i :: (l.drop (i + 1)).take n := by
 rw [Ah h, List.take_succ_cons, Jk1 h]
theorem segA : ∀ n, i + n < l.length → Jd7 (fstC (at_ l i)) ((l.drop i).take (n + 1)) + sumA l i = sumA l (i + n)
 | 0, h => by
  rw [Jww (by omega)]; simp [Jd7, Jne]
 | n + 1, h => by
  rw [Jnp (n := n + 1) h, Jfq, Jvi _ (by omega)]
  have := segA n (by omega)
  simp only [Jd7]
  rw [show i + (n + 1) = (i + n) + 1 by omega, sumA]
  omega
theorem segB (hv : ∀ t ∈ l, VT t) : ∀ n, i + n < l.length → Jd7 (fstB (at_ l (i + n))) (((l.drop i).take (n + 1)).reverse.map tr) + sumB l i = sumB l (i + n)
 | 0, h => by
  have ht : VT (at_ l i) := by rw [Jk1 (by omega)]; exact hv _ (Ad _)
  rw [Jww (by omega)]
  simp [Jd7, (Joh ht).1, Jne]
 | n + 1, h => by
  have ht : VT (at_ l (i + (n + 1))) := by rw [Jk1 h]; exact hv _ (Ad _)
  have hs : VT (at_ l (i + n)) := by rw [Jk1 (by omega)]; exact hv _ (Ad _)
  have ih := segB hv n (by omega)
  have e : ((l.drop i).take (n + 1)).reverse.map tr = tr (at_ l (i + n)) :: ((l.drop i).take n).reverse.map tr := by rw [Jnp (by omega)]; simp
  rw [Jnp (n := n + 1) h, List.reverse_append]
  simp only [At, List.reverse_nil, Bi, List.singleton_append, Bn, Jd7, (Joh ht).1, (Joh ht).2, Jne]
  rw [e] at ih ⊢
  rw [Jpb, (Joh hs).1]
  rw [show i + (n + 1) = (i + n) + 1 by omega, sumB]
  omega
end
theorem Jx6 {p : Ja} {l : List Jb} {i : Nat} (h : i ≤ l.length) : endC p (l.take i) = Jk9 p l i := by
 cases i with
 | zero => rfl
 | succ i =>
  have := Jvi (l := l) (i := 0) (n := i) p (by omega)
  simp only [List.drop_zero, Nat.zero_add] at this
  rw [this]; unfold Jk9; rw [if_pos (by omega)]; rfl
theorem costB {r : Ja} {l : List Jb} {j : Nat} : ∃ k, ∀ r, Jd7 r (l.drop (j + 1)) = (if j + 1 < l.length then dist r (fstC (at_ l (j + 1))) else 0) + k := by
 by_cases h : j + 1 < l.length
 ·refine ⟨Jd7 (fstC (at_ l (j + 1))) (l.drop (j + 1)), fun r => ?_⟩
  rw [if_pos h, Ah h, ← Jk1 h, Jpb]
 ·exact ⟨0, fun r => by rw [if_neg h, Bj (by omega)]; rfl⟩
theorem low_iff {p : Ja} {l : List Jb} (hv : ∀ t ∈ l, VT t) {i j : Nat} (hij : i ≤ j) (hj : j < l.length) : Low p l i j ↔ Jd7 p (revP l i j) < Jd7 p l := by
 obtain ⟨n, rfl⟩ : ∃ n, j = i + n := ⟨j - i, by omega⟩
 have hi : VT (at_ l i) := by rw [Jk1 (by omega)]; exact hv _ (Ad _)
 have hjv : VT (at_ l (i + n)) := by rw [Jk1 hj]; exact hv _ (Ad _)
 have e1 : i + n + 1 - i = n + 1 := by omega
 have hl : l = l.take i ++ ((l.drop i).take (n + 1) ++ l.drop (i + n + 1)) := by
  have : (l.drop i).take (n + 1) ++ l.drop (i + n + 1) = l.drop i := by
   rw [show i + n + 1 = i + (n + 1) by omega, ← List.drop_drop, Bl]
  rw [this, Bl]
 obtain ⟨k, hk⟩ := costB (r := p) (l := l) (j := i + n)
 have a := segA (l := l) (i := i) n hj
 have b := segB (l := l) (i := i) hv n hj
 have c1 : Jd7 p l = Jd7 p (l.take i) + (dist (Jk9 p l i) (fstC (at_ l i)) + Jd7 (fstC (at_ l i)) ((l.drop i).take (n + 1)) + ((if i + n + 1 < l.length then dist (lstC (at_ l (i + n))) (fstC (at_ l (i + n + 1))) else 0) + k)) := by
  conv => lhs; rw [hl]
  rw [Jfq, Jfq, Jx6 (by omega), Jvi _ hj, hk]
  rw [Jww (by omega), Jpb]
 have c2 : Jd7 p (revP l i (i + n)) = Jd7 p (l.take i) + (dist (Jk9 p l i) (fstB (at_ l (i + n))) + Jd7 (fstB (at_ l (i + n))) (((l.drop i).take (n + 1)).reverse.map tr) + ((if i + n + 1 < l.length then dist (lstB (at_ l i)) (fstC (at_ l (i + n + 1))) else 0) + k)) := by
  unfold revP
  rw [e1, Jfq, Jfq, Jx6 (by omega)]
  have ee : endC (Jk9 p l i) (((l.drop i).take (n + 1)).reverse.map tr) = lstB (at_ l i) := by
   rw [Jww (by omega), At, Bh, Jma]
   exact (Joh hi).2
  rw [ee, hk]
  have e2 : ((l.drop i).take (n + 1)).reverse.map tr = tr (at_ l (i + n)) :: ((l.drop i).take n).reverse.map tr := by rw [Jnp hj]; simp
  rw [e2, Jpb, (Joh hjv).1]
 unfold Low Jns Jka
 split <;> rename_i hc
 ·rw [if_pos hc] at c1 c2; omega
 ·rw [if_neg hc] at c1 c2; omega
theorem Jx1 {p : Ja} (hp : InR p) (x : FS Jb) (hv : ∀ t ∈ x.l, VT t) (hL : x.l.length ≤ 100000) : Jbt p x = some (Jd7 p x.l : Int) := by
 obtain ⟨z, ez, hz⟩ := Jpp x hv (by omega)
 obtain ⟨v, ev, rfl⟩ := Qe (body := zy z (flen z)) (fun s => ∃ n m : Nat, s.2.2 = n ∧ n ≤ x.l.length ∧ InR s.1 ∧ s.2.1 = m ∧ m ≤ 16384 * n ∧ m + Jd7 s.1 (x.l.drop n) = Jd7 p x.l) (fun s => (x.l.length - s.2.2).toNat) (fun v => v = (Jd7 p x.l : Int))
  (by
   rintro ⟨q, s1, s2⟩ ⟨n, m, rfl, hn, hq, rfl, hm, hs⟩
   simp only at hq hs
   by_cases hlt : n < x.l.length
   ·have c : ilt (n : Int) (flen z) = true := Xg (by rw [Jp, hz]; omega)
    have g : fget z (n : Int) = some x.l[n] := Jcj (by rw [hz]; exact Aa hlt)
    have ht := hv _ (Ad hlt)
    have hl := ht.len
    have he := Jdc ht
    have g0 : fget (x.l[n]).Cells 0 = some (fstC x.l[n]) := by
     show fget (x.l[n]).Cells ((0 : Nat) : Int) = _
     refine Jcj ?_
     unfold fstC; rw [Aa (by omega : 0 < (x.l[n]).Cells.l.length)]; rfl
    have g1 : fget (x.l[n]).Cells (isub .i64 (flen (x.l[n]).Cells) 1) = some (lstC x.l[n]) := by
     rw [Xc (by rw [Jp]; omega) (by rw [Jp]; omega), Jp, show ((x.l[n]).Cells.l.length : Int) - 1 = (((x.l[n]).Cells.l.length - 1 : Nat) : Int) by omega]
     refine Jcj ?_
     unfold lstC; rw [Aa (by omega : (x.l[n]).Cells.l.length - 1 < (x.l[n]).Cells.l.length)]; rfl
    have hd := Jfj hq he.2.1
    have ea : iadd .i64 (m : Int) (Kr q (fstC x.l[n])) = ((m + dist q (fstC x.l[n]) : Nat) : Int) := by
     rw [Jw6 hq he.2.1, zt (by omega) (by omega)]; omega
    rw [Ah hlt] at hs
    simp only [Jd7] at hs
    exact .inl ⟨(lstC x.l[n], ((m + dist q (fstC x.l[n]) : Nat) : Int), ((n + 1 : Nat) : Int)), by simp only [zy, c, if_true, g, Jj, g0, g1, ea, zx (i := n) (by omega)], ⟨n + 1, m + dist q (fstC x.l[n]), rfl, hlt, he.2.2, rfl, by omega, by simp only; omega⟩, by simp only; omega⟩
   ·have c : ilt (n : Int) (flen z) = false := Xe (by rw [Jp, hz]; omega)
    have hd : x.l.drop n = [] := Bj (by omega)
    rw [hd] at hs
    simp only [Jd7] at hs
    exact .inr ⟨(m : Int), by simp only [zy, c, if_false, Ab], by omega⟩)
  bigN (p, 0, 0) ⟨0, 0, rfl, by omega, hp, rfl, by omega, by simp⟩ (Qk (by simp only; omega))
 have hgr : Kb p = true := (Jgq p).2 hp
 simp only [Jbt, hgr, Qx, if_false, Ab, ez, Jj, ev]
theorem Jtk (x : FS Jb) (hv : ∀ t ∈ x.l, VT t) (hL : x.l.length ≤ 100000) {i j : Nat} (hij : i ≤ j) (hj : j < x.l.length) : ∃ y, Ja3 x i j = some y ∧ y.l = revP x.l i j := by
 obtain ⟨y, ey, h1, h2⟩ := Qe (body := Xp x i j) (fun s => ∃ k : Nat, s.2 = k ∧ i ≤ k ∧ k ≤ j + 1 ∧ s.1.l.length = x.l.length ∧ ∀ q : Nat, s.1.l[q]? = if i ≤ q ∧ q < k then (x.l[i + j - q]?).map tr else x.l[q]?) (fun s => (j + 1 - s.2).toNat) (fun y => y.l.length = x.l.length ∧ ∀ q : Nat, y.l[q]? = if i ≤ q ∧ q < j + 1 then (x.l[i + j - q]?).map tr else x.l[q]?)
  (by
   rintro ⟨u, s1⟩ ⟨k, rfl, hik, hkj, hul, hu⟩
   simp only at hul hu
   by_cases hlt : k ≤ j
   ·have c : ile (k : Int) (j : Int) = true := Je9.2 (by omega)
    have hm : i + j - k < x.l.length := by omega
    have e : isub .i64 (iadd .i64 (i : Int) (j : Int)) (k : Int) = ((i + j - k : Nat) : Int) := by rw [zt (by omega) (by omega), Xc (by omega) (by omega)]; omega
    have g := Ku (x := x) hm
    have ht := hv _ (Ad hm)
    have gk := Ku (x := u) (i := k) (by omega)
    have is1 := zx (i := k) (by omega)
    have fin : ∀ w, w = tr x.l[i + j - k] → ∀ q : Nat, (u.l.set k w)[q]? = if i ≤ q ∧ q < k + 1 then (x.l[i + j - q]?).map tr else x.l[q]? := fun w hw q => by
     rw [List.getElem?_set]
     by_cases hq : k = q
     ·subst hq
      rw [if_pos rfl, if_pos (by omega), if_pos (by omega), Aa hm, hw]; rfl
     ·rw [if_neg hq, hu q]
      by_cases h3 : i ≤ q ∧ q < k
      ·rw [if_pos h3, if_pos (by omega)]
      ·rw [if_neg h3, if_neg (by omega)]
    cases hc : (x.l[i + j - k]).Closed with
    | false =>
     refine .inl ⟨(fset u (k : Int) ⟨(x.l[i + j - k]).Role, (x.l[i + j - k]).Closed, .lst (x.l[i + j - k]).Cells.l.reverse⟩, ((k + 1 : Nat) : Int)), ?_, ⟨k + 1, rfl, by omega, by omega, ?_, ?_⟩, by simp only; omega⟩
     ·simp only [Xp, c, if_true, e, g, Jj, hc, Zt, Jqh ht, gk, is1]
     ·simp only [Jjp, List.length_set]; exact hul
     ·exact fin _ (by unfold tr; rw [hc, if_neg (by decide)])
    | true =>
     refine .inl ⟨(fset u (k : Int) x.l[i + j - k], ((k + 1 : Nat) : Int)), ?_, ⟨k + 1, rfl, by omega, by omega, ?_, ?_⟩, by simp only; omega⟩
     ·simp only [Xp, c, if_true, e, g, Jj, hc, Qx, if_false, Ab, gk, is1]
     ·simp only [Jjp, List.length_set]; exact hul
     ·exact fin _ (by unfold tr; rw [hc, if_pos rfl])
   ·have c : ile (k : Int) (j : Int) = false := by rw [← Ac, Je9]; omega
    have hk : k = j + 1 := by omega
    subst hk
    exact .inr ⟨u, by simp only [Xp, c, if_false, Ab], hul, hu⟩)
  bigN (fapp (flit ([] : List Jb)) x, (i : Int)) ⟨i, rfl, Ao _, by omega, by rw [Jhb, Je1]; simp, fun q => by rw [if_neg (by omega), Jhb, Je1, Bi]⟩ (Qk (by simp only; omega))
 have f : fits 40 (flen (flit ([] : List Jb)) + flen x) = true := Xf (by rw [Jng, Jp]; omega) (by rw [Jng, Jp]; omega) (by omega)
 refine ⟨flst y, by simp only [Ja3, f, if_true, ey, Jj], ?_⟩
 rw [Jkr]
 apply List.ext_getElem?
 intro q
 rw [h2 q, Jxd hij hj q]
 by_cases hq : i ≤ q ∧ q ≤ j
 ·rw [if_pos hq, if_pos (by omega)]
 ·rw [if_neg hq, if_neg (by omega)]
theorem rlow0 {p : Ja} (hp : InR p) (x : FS Jb) (hv : ∀ t ∈ x.l, VT t) (hL : x.l.length ≤ 100000) {i : Nat} (hi : i < x.l.length) :
  ∃ r, Kn (X3 x p (Jd7 p x.l : Int) (i : Int) (flen x) (i : Int)) bigN (i : Int) = some r ∧ ((∃ (j : Nat) (m : FS Jb), r = .inl (m, true) ∧ m.l = revP x.l i j ∧ i ≤ j ∧ j < x.l.length ∧ Low p x.l i j ∧ ∀ j', i ≤ j' → j' < j → ¬ Low p x.l i j') ∨ (r = .inr () ∧ ∀ j', i ≤ j' → j' < x.l.length → ¬ Low p x.l i j')) := by
 refine Qe (body := X3 x p (Jd7 p x.l : Int) (i : Int) (flen x) (i : Int)) (fun s => ∃ j : Nat, s = j ∧ i ≤ j ∧ j ≤ x.l.length ∧ ∀ j', i ≤ j' → j' < j → ¬ Low p x.l i j') (fun s => (x.l.length - s).toNat) _ ?_ bigN (i : Int) ⟨i, rfl, Ao _, by omega, fun j' h1 h2 => by omega⟩ (Qk (by omega))
 rintro s ⟨j, rfl, hij, hj, hno⟩
 by_cases hlt : j < x.l.length
 ·have c : ilt (j : Int) (flen x) = true := Xg (by rw [Jp]; omega)
  obtain ⟨m, em, hm⟩ := Jtk x hv hL hij hlt
  have ec := Jx1 hp m (by rw [hm]; exact Jlu hv) (by rw [hm, Jo2 hij hlt]; exact hL)
  rw [hm] at ec
  have hlow := low_iff (p := p) hv hij hlt
  by_cases hc : Low p x.l i j
  ·have cc : ilt (Jd7 p (revP x.l i j) : Int) (Jd7 p x.l : Int) = true := Xg (by have := hlow.1 hc; omega)
   exact .inr ⟨.inl (m, true), by simp only [X3, c, if_true, em, Jj, ec, cc], .inl ⟨j, m, rfl, hm, hij, hlt, hc, hno⟩⟩
  ·have cc : ilt (Jd7 p (revP x.l i j) : Int) (Jd7 p x.l : Int) = false := Xe (fun h => hc (hlow.2 (by omega)))
   refine .inl ⟨((j + 1 : Nat) : Int), by simp only [X3, c, if_true, em, Jj, ec, cc, if_false, Ab, zx (i := j) (by omega)], ⟨j + 1, rfl, by omega, hlt, fun j' h1 h2 => ?_⟩, by omega⟩
   by_cases he : j' = j
   ·subst he; exact hc
   ·exact hno j' h1 (by omega)
 ·have c : ilt (j : Int) (flen x) = false := Xe (by rw [Jp]; omega)
  exact .inr ⟨.inr (), by simp only [X3, c, if_false, Ab], .inr ⟨rfl, fun j' h1 h2 => hno j' h1 (by omega)⟩⟩
theorem rlower {p : Ja} (hp : InR p) (x : FS Jb) (hv : ∀ t ∈ x.l, VT t) (hL : x.l.length ≤ 100000) :
  (∃ (i j : Nat) (m : FS Jb), zm p x = some (m, true) ∧ m.l = revP x.l i j ∧ FirstLow p x.l i j) ∨ (zm p x = some (x, false) ∧ J3d p x.l) := by
 obtain ⟨r, er, hr⟩ := Qe (body := Zj x p (Jd7 p x.l : Int) (flen x)) (fun s => ∃ i : Nat, s = i ∧ i ≤ x.l.length ∧ ∀ i' j', i' < i → i' ≤ j' → j' < x.l.length → ¬ Low p x.l i' j') (fun s => (x.l.length - s).toNat)
  (fun r => (∃ (i j : Nat) (m : FS Jb), r = .inl (m, true) ∧ m.l = revP x.l i j ∧ FirstLow p x.l i j) ∨ (r = .inr () ∧ J3d p x.l))
  (by
   rintro s ⟨i, rfl, hi, hno⟩
   by_cases hlt : i < x.l.length
   ·have c : ilt (i : Int) (flen x) = true := Xg (by rw [Jp]; omega)
    obtain ⟨r, er, hr⟩ := rlow0 hp x hv hL hlt
    rcases hr with ⟨j, m, rfl, hm, h1, h2, h3, h4⟩ | ⟨rfl, h1⟩
    ·exact .inr ⟨.inl (m, true), by simp only [Zj, c, if_true, er, Jj], .inl ⟨i, j, m, rfl, hm, ⟨h1, h2, h3, h4, hno⟩⟩⟩
    ·refine .inl ⟨((i + 1 : Nat) : Int), by simp only [Zj, c, if_true, er, Jj, zx (i := i) (by omega)], ⟨i + 1, rfl, hlt, fun i' j' a b d => ?_⟩, by omega⟩
     by_cases he : i' = i
     ·subst he; exact h1 j' b d
     ·exact hno i' j' (by omega) b d
   ·have c : ilt (i : Int) (flen x) = false := Xe (by rw [Jp]; omega)
    exact .inr ⟨.inr (), by simp only [Zj, c, if_false, Ab], .inr ⟨rfl, fun i' j' a b => hno i' j' (by omega) a b⟩⟩)
  bigN 0 ⟨0, rfl, by omega, fun i' j' h => by omega⟩ (Qk (by omega))
 have ec := Jx1 hp x hv hL
 rcases hr with ⟨i, j, m, rfl, hm, hf⟩ | ⟨rfl, hn⟩
 ·exact .inl ⟨i, j, m, by simp only [zm, ec, Jj, er], hm, hf⟩
 ·exact .inr ⟨by simp only [zm, ec, Jj, er], hn⟩
theorem FirstLow.uniq {p : Ja} {l : List Jb} {i j i' j' : Nat} (h : FirstLow p l i j) (h' : FirstLow p l i' j') : i = i' ∧ j = j' := by
 have hi : i = i' := by
  rcases Au i i' with a | a | a
  ·exact (h'.pre i j a h.le h.lt h.low).elim
  ·exact a
  ·exact (h.pre i' j' a h'.le h'.lt h'.low).elim
 subst hi
 refine ⟨rfl, ?_⟩
 rcases Au j j' with a | a | a
 ·exact (h'.row j h.le a h.low).elim
 ·exact a
 ·exact (h.row j' h'.le a h'.low).elim
theorem Ju6 {p : Ja} (hp : InR p) (x : FS Jb) (hv : ∀ t ∈ x.l, VT t) (hL : x.l.length ≤ 100000) (n : Nat) (hn : n ≤ 64) {g : List Jb} (hg : Imp p n x.l g) : ∃ y, z7 p x (n : Int) = some y ∧ y.l = g := by
 obtain ⟨z, ez, hz⟩ := Jpp x hv (by omega)
 obtain ⟨y, ey, hy⟩ := Qe (body := Xb (n : Int) p) (fun s => ∃ k : Nat, s.2.2 = k ∧ k ≤ n ∧ (∀ t ∈ s.1.l, VT t) ∧ s.1.l.length ≤ 100000 ∧ ((s.2.1 = true ∧ Imp p (n - k) s.1.l g) ∨ (s.2.1 = false ∧ s.1.l = g))) (fun s => (n - s.2.2).toNat) (fun y => y.l = g)
  (by
   rintro ⟨u, b, s2⟩ ⟨k, rfl, hk, h1, h2, h3⟩
   simp only at h1 h2 h3
   have em : imin (n : Int) 64 = n := by rw [Jvp]; omega
   rcases h3 with ⟨rfl, hi⟩ | ⟨rfl, hu⟩
   ·by_cases hlt : k < n
    ·have c : band (ilt (k : Int) (imin (n : Int) 64)) true = true := by rw [em, Xg (by omega)]; rfl
     obtain ⟨m, hm⟩ : ∃ m, n - k = m + 1 := ⟨n - k - 1, by omega⟩
     rw [hm] at hi
     have is1 := zx (i := k) (by omega)
     rcases rlower hp u h1 h2 with ⟨i, j, w, ew, hw, hf⟩ | ⟨ew, hno⟩
     ·refine .inl ⟨(w, true, ((k + 1 : Nat) : Int)), by simp only [Xb, c, if_true, ew, Jj, is1], ⟨k + 1, rfl, hlt, ?_, ?_, .inl ⟨rfl, ?_⟩⟩, by simp only; omega⟩
      ·simp only [hw]; exact Jlu h1
      ·simp only [hw, Jo2 hf.le hf.lt]; exact h2
      ·simp only [hw]
       cases hi with
       | stop _ _ hno => exact (hno i j hf.le hf.lt hf.low).elim
       | go _ i' j' _ _ hf' hr =>
        obtain ⟨rfl, rfl⟩ := hf.uniq hf'
        rw [show n - (k + 1) = m by omega]; exact hr
     ·refine .inl ⟨(u, false, ((k + 1 : Nat) : Int)), by simp only [Xb, c, if_true, ew, Jj, is1], ⟨k + 1, rfl, hlt, h1, h2, .inr ⟨rfl, ?_⟩⟩, by simp only; omega⟩
      cases hi with
      | stop _ _ _ => rfl
      | go _ i' j' _ _ hf' hr => exact (hno i' j' hf'.le hf'.lt hf'.low).elim
    ·have c : band (ilt (k : Int) (imin (n : Int) 64)) true = false := by rw [em, Xe (by omega)]; rfl
     rw [show n - k = 0 by omega] at hi
     refine .inr ⟨u, by simp only [Xb, c, if_false, Ab], ?_⟩
     cases hi with
     | zero _ => rfl
   ·have c : band (ilt (k : Int) (imin (n : Int) 64)) false = false := by cases ilt (k : Int) (imin (n : Int) 64) <;> rfl
    exact .inr ⟨u, by simp only [Xb, c, if_false, Ab], hu⟩)
  bigN (z, true, 0) ⟨0, rfl, by omega, by rw [hz]; exact hv, by rw [hz]; exact hL, .inl ⟨rfl, by rw [hz]; exact hg⟩⟩ (Qk (by simp only; omega))
 have hgr : Kb p = true := (Jgq p).2 hp
 exact ⟨y, by simp only [z7, hgr, Qx, if_false, Ab, ez, Jj, ey], hy⟩
end Go.Proofs.YtemehoioeoohmaaGreat
namespace Go.Proofs.YtemehoioeoohmaaGreat
open Go Go.Vv Go.Proofs
set_option linter.unusedSimpArgs false
set_option linter.unusedVariables false
set_option linter.unusedSectionVars false
theorem Jzr (r : Jl) (hL : Lim r) (y : Int) : ∃ s, Jc2 r y = some s ∧ ((∃ w ∈ r.Rows.l, w.Y = y ∧ s = w.Runs) ∨ (s = .nil ∧ ∀ w ∈ r.Rows.l, w.Y ≠ y)) := by
 obtain ⟨hL1, -⟩ := hL
 obtain ⟨x, e, hr⟩ := Jgf (Jao y r) r.Rows.l.length (by omega) (fun i => ∀ w, r.Rows.l[i]? = some w → w.Y ≠ y) (fun i => .inl ((r.Rows.l[i]?.map Jaf.Runs).getD .nil)) (.inr ())
  (fun i hi _ => by
   have g1 := Ku hi
   have c1 : ilt (i : Int) (flen r.Rows) = true := Xg (by rw [Jp]; omega)
   refine jd (ieq (r.Rows.l[i]).Y y) ?_ ?_
   ·rw [Jdo]
    constructor
    ·exact fun h h2 => h2 _ (Aa hi) h
    ·intro h
     by_cases h2 : (r.Rows.l[i]).Y = y
     ·exact h2
     ·exact absurd (fun w hw => by rw [Aa hi] at hw; cases hw; exact h2) h
   ·simp only [Jj, Jao, c1, if_true, g1, zx (i := i) (by omega), Aa hi, Option.map_some, Af])
  (fun _ => by simp only [Jj, Jao, Jp, Xe (a := (r.Rows.l.length : Int)) (b := r.Rows.l.length) (by omega), Ab, if_false])
 unfold Jc2
 rw [e]
 rcases hr with ⟨rfl, hr⟩ | ⟨i, hi, rfl, hr, -⟩
 ·refine ⟨.nil, rfl, .inr ⟨rfl, fun w hw => ?_⟩⟩
  obtain ⟨k, hk, rfl⟩ := Az hw
  exact hr k hk _ (Aa hk)
 ·refine ⟨_, rfl, .inl ⟨r.Rows.l[i], Ad hi, ?_, by rw [Aa hi]; rfl⟩⟩
  by_cases h2 : (r.Rows.l[i]).Y = y
  ·exact h2
  ·exact absurd (fun w hw => by rw [Aa hi] at hw; cases hw; exact h2) hr
theorem Jtr (x : FS Kk) (hL : x.l.length ≤ 1000000) (n : Int) : ∃ b, Jb2 x n = some b ∧ (b = true ↔ HasX x.l n) := by
 obtain ⟨r, e, hr⟩ := Jgf (ji x n) x.l.length (by omega) (fun i => ∀ q, x.l[i]? = some q → ¬ (q.From ≤ n ∧ n < q.To)) (fun _ => .inl true) (.inr ())
  (fun i hi _ => by
   have g1 := Ku hi
   have c1 : ilt (i : Int) (flen x) = true := Xg (by rw [Jp]; omega)
   refine jd (band (ile (x.l[i]).From n) (ilt n (x.l[i]).To)) ?_ ?_
   ·simp only [Jj, zd, Je9, Yj]
    constructor
    ·exact fun h h2 => h2 _ (Aa hi) h
    ·intro h
     by_cases h2 : (x.l[i]).From ≤ n ∧ n < (x.l[i]).To
     ·exact h2
     ·exact absurd (fun q hq => by rw [Aa hi] at hq; cases hq; exact h2) h
   ·simp only [Jj, ji, c1, if_true, g1, zx (i := i) (by omega)])
  (fun _ => by simp only [Jj, ji, Jp, Xe (a := (x.l.length : Int)) (b := x.l.length) (by omega), Ab, if_false])
 unfold Jb2
 rw [e]
 rcases hr with ⟨rfl, hr⟩ | ⟨i, hi, rfl, hr, -⟩
 ·refine ⟨false, rfl, ?_⟩
  simp only [Jj, Ab, false_iff]
  rintro ⟨q, hq, h⟩
  obtain ⟨k, hk, rfl⟩ := Az hq
  exact hr k hk _ (Aa hk) h
 ·refine ⟨true, rfl, fun _ => ?_, fun _ => rfl⟩
  by_cases h2 : (x.l[i]).From ≤ n ∧ n < (x.l[i]).To
  ·exact ⟨_, Ad hi, h2⟩
  ·exact absurd (fun q hq => by rw [Aa hi] at hq; cases hq; exact h2) hr
theorem Jpm (r : Jl) (hL : Lim r) (c : Ja) : ∃ b, X0 r c = some b ∧ (b = true ↔ In r c) := by
 obtain ⟨bv, ev, hbv⟩ := Jon r hL
 unfold X0
 rw [ev]
 by_cases hv : Jg8 r
 ·rw [hbv.2 hv]
  obtain ⟨s, es, hs⟩ := Jzr r hL c.Y
  simp only [Jj, es, Y4, Af, Jdr]
  rcases hs with ⟨w, hw, hy, rfl⟩ | ⟨rfl, hn⟩
  ·obtain ⟨b, eb, hb⟩ := Jtr w.Runs (hL.2 w hw) c.X
   simp only [Jj, eb, Y4, Af]
   refine ⟨b, rfl, ?_⟩
   rw [hb]
   constructor
   ·exact fun h => ⟨hv, w, hw, hy, h⟩
   ·rintro ⟨-, v, hv2, hy2, h⟩
    rw [Jmx hv hw hv2 (by omega)]
    exact h
  ·obtain ⟨b, eb, hb⟩ := Jtr .nil (by simp [FS.l]) c.X
   simp only [Jj, eb, Y4, Af]
   refine ⟨b, rfl, ?_⟩
   rw [hb]
   constructor
   ·rintro ⟨q, hq, -⟩
    simp [FS.l] at hq
   ·rintro ⟨-, v, hv2, hy2, h⟩
    exact absurd hy2 (hn v hv2)
 ·have : bv = false := by rw [← Ac]; exact fun h => hv (hbv.1 h)
  rw [this]
  simp only [Jj, jp, Jd5]
  exact ⟨false, rfl, by simp only [Jj, Ab, false_iff]; exact fun h => hv h.1⟩
section
variable {r : Jl} (hL : Lim r)
include hL
theorem J7t (c : Ja) : X0 r c = some (cb r c) := by
 obtain ⟨b, e, hb⟩ := Jpm r hL c
 have := Jqv hL c
 rw [e]; congr 1
 cases b <;> cases h : cb r c <;> simp_all
end
theorem found_ok (x : FS Seen) (hL : x.l.length ≤ 1000000000) (c : Ja) : Jcf x c = some (fnd x.l c) := by
 obtain ⟨r, e, hr⟩ := Jgf (jz x c) x.l.length (by omega) (fun i => ∀ q, x.l[i]? = some q → ¬ q.cell = c) (fun _ => .inl true) (.inr ())
  (fun i hi _ => by
   have g1 := Ku hi
   have c1 : ilt (i : Int) (flen x) = true := Xg (by rw [Jp]; omega)
   refine jd (Kw (x.l[i]).cell c) ?_ ?_
   ·rw [Joy]
    constructor
    ·exact fun h h2 => h2 _ (Aa hi) h
    ·intro h
     by_cases h2 : (x.l[i]).cell = c
     ·exact h2
     ·exact absurd (fun q hq => by rw [Aa hi] at hq; cases hq; exact h2) h
   ·simp only [Jj, jz, c1, if_true, g1, q_eq, zt (a := (i : Int)) (b := 1) (by omega) (by omega)]
    rfl)
  (fun _ => by simp only [Jj, jz, Jp, Xe (a := (x.l.length : Int)) (b := x.l.length) (by omega), Ab, if_false])
 unfold Jcf
 rw [e, Jj]
 have hf := Jgc x.l c
 rcases hr with ⟨rfl, hr⟩ | ⟨i, hi, rfl, hr, -⟩
 ·have : fnd x.l c = false := by
   rw [← Ac, hf]
   rintro ⟨q, hq, h⟩
   obtain ⟨k, hk, rfl⟩ := Az hq
   exact hr k hk _ (Aa hk) h
  rw [this]
 ·have : fnd x.l c = true := by
   rw [hf]
   by_cases h2 : (x.l[i]).cell = c
   ·exact ⟨_, Ad hi, h2⟩
   ·exact absurd (fun q hq => by rw [Aa hi] at hq; cases hq; exact h2) hr
  rw [this]
section
variable {r : Jl} (hL : Lim r) {a b : Ja} (ha : In r a)
include hL ha
theorem J3i (i : Nat) (x0 : FS Seen) (h0 : x0.l = S r a (4 * i)) (s0 : Seen) (hs0 : (S r a (4 * i))[i]? = some s0) (hn : ∀ t, t < 4 * i → ends b (S r a t) = false) :
  ∃ y T, Kn (Qh r b (i : Int) (flit ([(⟨(iadd .i64 s0.cell.X 1), s0.cell.Y⟩ : Ja), (⟨(isub .i64 s0.cell.X 1), s0.cell.Y⟩ : Ja), (⟨s0.cell.X, (iadd .i64 s0.cell.Y 1)⟩ : Ja), (⟨s0.cell.X, (isub .i64 s0.cell.Y 1)⟩ : Ja)] : List Ja))) bigN (x0, 0) = some y ∧
   y.l = S r a T ∧ 4 * i ≤ T ∧ T ≤ 4 * i + 4 ∧ (T = 4 * i + 4 ∨ ends b (S r a T) = true) ∧ ∀ t, t < T → ends b (S r a t) = false := by
 have hin := Jnv ((S_ok hL ha (4 * i)).inr s0 (Ag hs0))
 obtain ⟨y, e, T, h1, h2⟩ := Qe (body := Qh r b (i : Int) (flit ([(⟨(iadd .i64 s0.cell.X 1), s0.cell.Y⟩ : Ja), (⟨(isub .i64 s0.cell.X 1), s0.cell.Y⟩ : Ja), (⟨s0.cell.X, (iadd .i64 s0.cell.Y 1)⟩ : Ja), (⟨s0.cell.X, (isub .i64 s0.cell.Y 1)⟩ : Ja)] : List Ja)))
  (fun s => ∃ k : Nat, s.2 = k ∧ k ≤ 4 ∧ s.1.l = S r a (4 * i + k) ∧ ∀ t, t < 4 * i + k → ends b (S r a t) = false) (fun s => (4 - s.2).toNat)
  (fun y => ∃ T, y.l = S r a T ∧ 4 * i ≤ T ∧ T ≤ 4 * i + 4 ∧ (T = 4 * i + 4 ∨ ends b (S r a T) = true) ∧ ∀ t, t < T → ends b (S r a t) = false)
  (by
   rintro ⟨x, k'⟩ ⟨k, hk', hk, hx, ht⟩
   simp only at hk' hx
   subst hk'
   have ok := S_ok hL ha (4 * i + k)
   rw [← hx] at ok
   have hlen := ok.len
   obtain ⟨sl, gl, hl, -⟩ := Jsb (x := x) ok.ne (by omega) b
   by_cases hk4 : k < 4
   ·have c1 : ilt (k : Int) 4 = true := Xg (by omega)
    by_cases he : ends b x.l = true
    ·right
     refine ⟨x, ?_, 4 * i + k, hx, by omega, by omega, .inr (by rw [← hx]; exact he), ht⟩
     simp only [Jj, Qh, c1, gl, Y4, Af, q_eq, hl, he, Qx, Jfy, Ab, if_false]
    ·left
     rw [Ac] at he
     have gn := nbr_list (r := r) hL (a := a) ha hin k hk4
     have hcb := J7t hL (nbr s0.cell k)
     have hf := found_ok (flst x) (by rw [Jkr]; omega) (nbr s0.cell k)
     rw [Jkr] at hf
     have hq : x.l[i]? = some s0 := by rw [hx]; exact Jic (Joo r a (by omega)) hs0
     have hstep : S r a (4 * i + (k + 1)) = Jhf r x.l i k := by
      have e1 : (4 * i + k) / 4 = i := by omega
      have e2 : (4 * i + k) % 4 = k := by omega
      show Jhf r (S r a (4 * i + k)) ((4 * i + k) / 4) ((4 * i + k) % 4) = _
      rw [e1, e2, hx]
     have hfit : fits 24 (flen x + 1) = true := Jnm (l := x.l) (by omega) (by omega)
     have ht' : ∀ t, t < 4 * i + (k + 1) → ends b (S r a t) = false := fun t htl => by
      by_cases e : t = 4 * i + k
      ·rw [e, ← hx]; exact he
      ·exact ht t (by omega)
     have hv : Jhf r x.l i k = if cb r (nbr s0.cell k) = true ∧ fnd x.l (nbr s0.cell k) = false then x.l ++ [⟨nbr s0.cell k, (i : Int)⟩] else x.l := by
      unfold Jhf; rw [hq]
     by_cases hcbt : cb r (nbr s0.cell k) = true
     ·by_cases hft : fnd x.l (nbr s0.cell k) = true
      ·refine ⟨(x, ((k + 1 : Nat) : Int)), ?_, ⟨k + 1, rfl, by omega, ?_, ht'⟩, by simp only; omega⟩
       ·simp only [Jj, Qh, c1, gl, Y4, Af, q_eq, hl, he, Zt, Qx, Jdr, if_true, gn, hcb, hcbt, hf, hft, Ab, if_false, zx (i := k) (by omega)]
       ·simp only; rw [hstep, hv, if_neg (by rw [hft]; simp)]
      ·rw [Ac] at hft
       refine ⟨(Yy x ⟨nbr s0.cell k, (i : Int)⟩, ((k + 1 : Nat) : Int)), ?_, ⟨k + 1, rfl, by omega, ?_, ht'⟩, by simp only; omega⟩
       ·simp only [Jj, Qh, c1, gl, Y4, Af, q_eq, hl, he, Zt, Qx, Jdr, if_true, gn, hcb, hcbt, hf, hft, hfit, zx (i := k) (by omega)]
       ·simp only [Jj, jt]; rw [hstep, hv, if_pos ⟨hcbt, hft⟩]
     ·rw [Ac] at hcbt
      refine ⟨(x, ((k + 1 : Nat) : Int)), ?_, ⟨k + 1, rfl, by omega, ?_, ht'⟩, by simp only; omega⟩
      ·simp only [Jj, Qh, c1, gl, Y4, jp, Af, q_eq, hl, he, Zt, Qx, Jdr, Jd5, if_true, gn, hcb, hcbt, Ab, if_false, zx (i := k) (by omega)]
      ·simp only; rw [hstep, hv, if_neg (by rw [hcbt]; simp)]
   ·right
    have : k = 4 := by omega
    subst this
    have c1 : ilt ((4 : Nat) : Int) 4 = false := Xe (by omega)
    refine ⟨x, ?_, 4 * i + 4, hx, by omega, by omega, .inl rfl, ht⟩
    simp only [Jj, Qh, c1, jp, Jd5, Ab, if_false])
  bigN (x0, 0) ⟨0, rfl, by omega, h0, hn⟩ (Qk (by simp only; omega))
 exact ⟨y, T, e, h1, h2⟩
theorem Jyo : ∃ y T, Jby r a b = some y ∧ y.l = S r a T ∧ (∀ t, t < T → ends b (S r a t) = false) ∧ (ends b (S r a T) = true ∨ ∃ n, T = 4 * n ∧ (S r a T).length ≤ n) := by
 obtain ⟨y, e, T, h1, h2, h3⟩ := Qe (body := Yh r b)
  (fun s => ∃ T n : Nat, s.2 = n ∧ n ≤ 67108865 ∧ s.1.l = S r a T ∧ (∀ t, t < T → ends b (S r a t) = false) ∧ (T = 4 * n ∨ ends b (S r a T) = true)) (fun s => (67108866 - s.2).toNat)
  (fun y => ∃ T, y.l = S r a T ∧ (∀ t, t < T → ends b (S r a t) = false) ∧ (ends b (S r a T) = true ∨ ∃ n, T = 4 * n ∧ (S r a T).length ≤ n))
  (by
   rintro ⟨x, n'⟩ ⟨T, n, hn', hn, hx, ht, hT⟩
   simp only at hn' hx
   subst hn'
   have ok := S_ok hL ha T
   rw [← hx] at ok
   have hlen := ok.len
   obtain ⟨sl, gl, hl, -⟩ := Jsb (x := x) ok.ne (by omega) b
   by_cases hnl : n < x.l.length
   ·have c1 : ilt (n : Int) (flen x) = true := Xg (by rw [Jp]; omega)
    by_cases he : ends b x.l = true
    ·right
     refine ⟨x, ?_, T, hx, ht, .inl (by rw [← hx]; exact he)⟩
     simp only [Jj, Yh, c1, gl, Y4, Af, q_eq, hl, he, Qx, Jfy, Ab, if_false]
    ·left
     have hT4 : T = 4 * n := by
      rcases hT with h | h
      ·exact h
      ·rw [← hx] at h; exact absurd h he
     subst hT4
     rw [Ac] at he
     have gs := Ku hnl
     obtain ⟨y, T', ey, hy, hT1, hT2, hT3, hT4⟩ := J3i hL ha (b := b) n x hx _ (by rw [← hx]; exact Aa hnl) ht
     refine ⟨(y, ((n + 1 : Nat) : Int)), ?_, ⟨T', n + 1, rfl, by omega, hy, hT4, ?_⟩, by simp only; omega⟩
     ·simp only [Jj, Yh, c1, gl, Y4, Af, q_eq, hl, he, Zt, Jdr, if_true, gs, ey, zx (i := n) (by omega)]
     ·rcases hT3 with h | h
      ·exact .inl (by omega)
      ·exact .inr h
   ·right
    have c1 : ilt (n : Int) (flen x) = false := Xe (by rw [Jp]; omega)
    refine ⟨x, ?_, T, hx, ht, ?_⟩
    ·simp only [Jj, Yh, c1, jp, Jd5, Ab, if_false]
    ·rcases hT with h | h
     ·exact .inr ⟨n, h, by rw [← hx]; omega⟩
     ·exact .inl h)
  bigN (flit [⟨a, -1⟩], 0) ⟨0, 0, rfl, by omega, rfl, fun t h => absurd h (by omega), .inl rfl⟩ (Qk (by simp only; omega))
 refine ⟨flst y, T, ?_, by rw [Jkr]; exact h1, h2, h3⟩
 unfold Jby
 rw [e, Jj]
end
section
variable {r : Jl} {a : Ja} {Q : List Seen} (ok : QOK r a Q)
include ok
theorem ref_back {x : FS Seen} (hx : x.l = Q) {J : Nat} {full : List Ja} (hf : Ch Q J full) (hlen : full.length ≤ 67108865) (hJ : J < Q.length) (hq : Q.length ≤ 67108864) :
  ∃ y, Kn (Yg x) bigN ((FS.nil : FS Ja), (J : Int)) = some y ∧ y.l = full := by
 refine Qe (body := Yg x) (fun st => (st.2 = -1 ∧ st.1.l = full) ∨ ∃ (j : Nat) (l : List Ja), st.2 = j ∧ Ch Q j l ∧ st.1.l ++ l = full) (fun st => full.length - st.1.l.length) (fun y => y.l = full) ?_ bigN _ ?_ (Qk (by simp only; omega))
 ·rintro ⟨o, c⟩ h
  simp only at h
  rcases h with ⟨rfl, ho⟩ | ⟨j, l, rfl, hc, he⟩
  ·right
   refine ⟨o, ?_, ho⟩
   simp only [Jj, Yg, show ige (-1) 0 = false from rfl, Ab, if_false]
  ·left
   have c1 : ige (j : Int) 0 = true := Jbg.2 (by omega)
   have hlx : o.l.length + l.length = full.length := by rw [← he, Ai]
   have hfit : fits 16 (flen o + 1) = true := Jnm (l := o.l) (by omega) (by omega)
   cases hc with
   | base h0 =>
    rename_i s'
    have g : fget x ((0 : Nat) : Int) = some s' := Jcj (by rw [hx]; exact h0)
    rw [ok.first] at h0
    cases h0
    refine ⟨(Yy o a, -1), ?_, .inl ⟨rfl, he⟩, ?_⟩
    ·simp only [Jj, Yg, c1, if_true, g, hfit]
    ·simp only [Jj, jt, Ai, Ae, Ay] at hlx ⊢
     omega
   | step h0 hj hp hc =>
    rename_i p s' l'
    have g : fget x (j : Int) = some s' := Jcj (by rw [hx]; exact h0)
    refine ⟨(Yy o s'.cell, s'.before), ?_, .inr ⟨p, l', hp, hc, ?_⟩, ?_⟩
    ·simp only [Jj, Yg, c1, if_true, g, hfit]
    ·simp only [Jj, jt]
     rw [← he, Ap]
     rfl
    ·simp only [Jj, jt, Ai, Ae, Ay] at hlx ⊢
     omega
 ·exact .inr ⟨J, full, rfl, hf, rfl⟩
end
theorem ref_turn (x : FS Ja) (hlen : x.l.length ≤ 67108865) : ∃ y, Kn (Z7 x) bigN ((FS.nil : FS Ja), (isub .i64 (flen x) 1)) = some y ∧ y.l = x.l.reverse := by
 refine Qe (body := Z7 x) (fun st => ∃ k : Nat, st.2 = (k : Int) - 1 ∧ k ≤ x.l.length ∧ st.1.l = (x.l.drop k).reverse) (fun st => (st.2 + 1).toNat) (fun y => y.l = x.l.reverse) ?_ bigN _ ?_ (Qk (by simp only; rw [Jp, Xc (by omega) (by omega)]; omega))
 ·rintro ⟨o, c⟩ ⟨k, hc, hk, ho⟩
  simp only at hc ho
  subst hc
  cases k with
  | zero =>
   right
   refine ⟨o, ?_, by rw [ho]; rfl⟩
   simp only [Jj, Z7, show ige (((0 : Nat) : Int) - 1) 0 = false from rfl, Ab, if_false]
  | succ k =>
   left
   have ek : ((k + 1 : Nat) : Int) - 1 = (k : Int) := by omega
   rw [ek]
   have c1 : ige (k : Int) 0 = true := Jbg.2 (by omega)
   have g := Ku (x := x) (i := k) (by omega)
   have hol : o.l.length ≤ 67108865 := by rw [ho, Al, Aj]; omega
   have hfit : fits 16 (flen o + 1) = true := Jnm (l := o.l) (by omega) (by omega)
   refine ⟨(Yy o x.l[k], (k : Int) - 1), ?_, ⟨k, rfl, by omega, ?_⟩, by simp only; omega⟩
   ·simp only [Jj, Z7, c1, if_true, g, hfit, Xc (a := (k : Int)) (b := 1) (by omega) (by omega)]
   ·simp only [Jj, jt, ho]
    rw [Ah (i := k) (by omega), At]
 ·refine ⟨x.l.length, ?_, Ao _, by simp [FS.l]⟩
  simp only
  rw [Jp, Xc (by omega) (by omega)]
section
variable {r : Jl} (hL : Lim r) {a b : Ja}
include hL
theorem Jyg : ∃ x y o, Jd2 r a b = some (x, o) ∧ Jcp r a b = some (y, o) ∧ x.l = y.l ∧ x.l.length ≤ 67108865 := by
 unfold Jd2 Jcp
 rw [Jpk hL a, Jpk hL b, J7t hL a, J7t hL b]
 by_cases hca : cb r a = true
 case neg =>
  rw [Ac] at hca
  exact ⟨.nil, .nil, false, by simp [hca, gOpt, bnot, bor], by simp [hca, gOpt, bnot, bor], rfl, by simp [FS.l]⟩
 by_cases hcb : cb r b = true
 case neg =>
  rw [Ac] at hcb
  exact ⟨.nil, .nil, false, by simp [hca, hcb, gOpt, bnot, bor], by simp [hca, hcb, gOpt, bnot, bor], rfl, by simp [FS.l]⟩
 have ha := (Jqv hL a).1 hca
 have c0 : bor false false = false := rfl
 obtain ⟨i, ep, hp1, hp2⟩ := Jqf hL ha (b := b)
 obtain ⟨v, T, er, hv, hT1, hT2⟩ := Jyo hL ha (b := b)
 have okp := S_ok hL ha (4 * i)
 have okr := S_ok hL ha T
 have hn := nofnd r a b hT1
 have okv := okr
 rw [← hv] at okv
 have hvl := okv.len
 obtain ⟨sl, gl, hl, hlast⟩ := Jsb (x := v) okv.ne (by omega) b
 simp only [Jj, hca, hcb, Qx, Zt, Y4, Af, c0, Ab, if_false, ep, er, Jwr okp, gl, q_eq, hl]
 by_cases hf : fnd (S r a (4 * i)) b = true
 ·have hTi : T ≤ 4 * i := by
   by_cases h : T ≤ 4 * i
   ·exact h
   ·have := hn (4 * i) (by omega); rw [hf] at this; cases this
  have he : ends b (S r a T) = true := by
   rcases hT2 with h | ⟨n, rfl, h⟩
   ·exact h
   ·by_cases he : ends b (S r a (4 * n)) = true
    ·exact he
    ·rw [Ac] at he
     have h1 := nofnd r a b (T := 4 * n + 1) (fun t ht => by
      by_cases e : t = 4 * n
      ·rw [e]; exact he
      ·exact hT1 t (by omega)) (4 * n) (by omega)
     rw [← Jqt r a h (4 * i) hTi, hf] at h1
     cases h1
  have hb : sl.cell = b := by
   rw [← hv, ← hl] at he
   exact (Joy _ _).1 he
  rw [hv] at hlast
  have hJ : (S r a T).length - 1 < (S r a T).length := by have := okr.ne; omega
  obtain ⟨full, hch, hfl⟩ := Ch.ex okr _ _ (Ao _) hJ
  have hlenT := okr.len
  have hchp := hch.pre (Joo r a hTi)
  have hsp := Jic (Joo r a hTi) hlast
  obtain ⟨x, ex, hx⟩ := Jth okp hsp hb hchp (by omega)
  obtain ⟨y, ey, hy⟩ := ref_back okr hv hch (by omega) hJ hlenT
  obtain ⟨z, ez, hz⟩ := ref_turn y (by rw [hy]; omega)
  obtain ⟨w, ew, hw⟩ := J4k x (by rw [hx]; omega)
  have e1 : isub .i64 (flen v) 1 = (((S r a T).length - 1 : Nat) : Int) := by
   rw [Jp, hv, Xc (by omega) (by omega)]
   have := okr.ne
   omega
  have e2 : ieq (flen w) (flen x) = true := by rw [Jdo, Jp, Jp, hw, Al]
  refine ⟨flst w, z, true, ?_, ?_, by rw [Jkr, hw, hz, hx, hy], by rw [Jkr, hw, Al, hx]; omega⟩
  ·simp only [Jj, hf, Qx, Ab, if_false, ex, ew, e2, if_true]
  ·rw [hv, he, e1]
   simp only [Jj, Qx, Ab, if_false, ey, ez]
 ·rw [Ac] at hf
  have he : ends b (S r a T) = false := by
   have hi : (S r a (4 * i)).length ≤ i := by
    rcases hp2 with h | ⟨s, hs, e⟩
    ·exact h
    ·have := (Jgc (S r a (4 * i)) b).2 ⟨s, Ag hs, e⟩
     rw [hf] at this
     cases this
   rw [← Ac]
   intro h
   have h1 := fnd_ends h
   by_cases h2 : T ≤ 4 * i
   ·have := fnd_pre (Joo r a h2) h1
    rw [hf] at this
    cases this
   ·rw [Jqt r a hi T (by omega), hf] at h1
    cases h1
  refine ⟨.nil, .nil, false, ?_, ?_, rfl, by simp [FS.l]⟩
  ·simp only [Jj, hf, Zt, if_true]
  ·rw [hv, he]
   simp only [Jj, Zt, if_true]
end
end Go.Proofs.YtemehoioeoohmaaGreat
namespace Go.Proofs.YtemehoioeoohmaaGreat
open Go Go.Vv Go.Proofs
set_option linter.unusedSimpArgs false
set_option linter.unusedVariables false
set_option linter.unusedSectionVars false
theorem Jut (c : Ja) : Kz c = true ↔ InR c := by
 simp only [Kz, zd, Jbg, Yj, InR]; omega
theorem Jtv {n m : Int} (h0 : -4096 ≤ n) (h1 : n < 4096) : Jap n m = some (if n < m then n + 1 else n - 1) := by
 unfold Jap
 by_cases c : n < m
 ·rw [Xg c, if_pos rfl, if_pos c, zt (by omega) (by omega)]
 ·rw [Xe c, if_neg (by simp), if_neg c, Xc (by omega) (by omega)]
theorem Jtp {a b : Ja} (ha : InR a) (hb : InR b) : Ja0 a b = some (.lst (a :: Jfs b (dist a b) a)) := by
 have hd := Jfj ha hb
 have hlen : ∀ {c : Ja} {out : List Ja}, out ++ Jfs b (dist c b) c = a :: Jfs b (dist a b) a → out.length + dist c b = 1 + dist a b := fun {c out} ho => by
  have := congrArg List.length ho
  simp only [Jj, Ai, Jjs, Ae] at this
  omega
 have h := Qe (body := Zc b) (fun s => InR s.1 ∧ s.2.l ++ Jfs b (dist s.1 b) s.1 = a :: Jfs b (dist a b) a) (fun s => (s.1.X - b.X).natAbs)
  (fun r => (InR r.1 ∧ r.2.l ++ Jfs b (dist r.1 b) r.1 = a :: Jfs b (dist a b) a) ∧ r.1.X = b.X)
  (fun ⟨c, out⟩ ⟨hc, ho⟩ => by
   simp only at hc ho ⊢
   have hl := hlen ho
   have hf : fits 16 (flen out + 1) = true := Xf (by rw [Jp]; omega) (by rw [Jp]; omega) (by omega)
   by_cases h0 : c.X = b.X
   ·right
    refine ⟨(c, out), ?_, ⟨hc, ho⟩, h0⟩
    simp [Zc, h0, ine]
   ·left
    have hp : 0 < dist c b := by unfold dist; omega
    obtain ⟨n1, n2⟩ := J2l hb hc hp
    have hn : nxt b c = ⟨if c.X < b.X then c.X + 1 else c.X - 1, c.Y⟩ := by
     unfold nxt
     by_cases c1 : c.X < b.X
     ·rw [if_pos c1, if_pos c1]
     ·rw [if_neg c1, if_neg c1, if_pos (by omega)]
    refine ⟨(nxt b c, Yy out (nxt b c)), ?_, ⟨n1, ?_⟩, ?_⟩
    ·have ne : ine c.X b.X = true := Jgz.2 h0
     unfold InR at hc
     simp only [Jj, Zc, ne, if_true, Jtv hc.1 hc.2.1, hf, hn]
    ·simp only [Jj, jt]; rw [← ho, ← n2, Jfs, Ap]; rfl
    ·rw [hn]; simp only; split <;> omega) bigN (a, Yy FS.nil a) ⟨ha, rfl⟩ (Qk (by simp only; unfold InR at ha hb; omega))
 obtain ⟨⟨c1, out1⟩, e, ⟨hc1, ho1⟩, hx⟩ := h
 simp only at hc1 ho1 hx
 have h2 := Qe (body := Ze b) (fun s => InR s.1 ∧ s.1.X = b.X ∧ s.2.l ++ Jfs b (dist s.1 b) s.1 = a :: Jfs b (dist a b) a) (fun s => (s.1.Y - b.Y).natAbs)
  (fun r => r.l = a :: Jfs b (dist a b) a)
  (fun ⟨c, out⟩ ⟨hc, hx, ho⟩ => by
   simp only at hc hx ho ⊢
   have hl := hlen ho
   have hf : fits 16 (flen out + 1) = true := Xf (by rw [Jp]; omega) (by rw [Jp]; omega) (by omega)
   by_cases h0 : c.Y = b.Y
   ·right
    refine ⟨out, ?_, ?_⟩
    ·simp [Ze, h0, ine]
    ·have : dist c b = 0 := by unfold dist; omega
     rw [this] at ho; simpa [Jfs] using ho
   ·left
    have hp : 0 < dist c b := by unfold dist; omega
    obtain ⟨n1, n2⟩ := J2l hb hc hp
    have hn : nxt b c = ⟨c.X, if c.Y < b.Y then c.Y + 1 else c.Y - 1⟩ := by
     unfold nxt
     rw [if_neg (by omega), if_neg (by omega)]
     split <;> rfl
    refine ⟨(nxt b c, Yy out (nxt b c)), ?_, ⟨n1, ?_, ?_⟩, ?_⟩
    ·have ne : ine c.Y b.Y = true := Jgz.2 h0
     unfold InR at hc
     simp only [Jj, Ze, ne, if_true, Jtv hc.2.2.1 hc.2.2.2, hf, hn]
    ·rw [hn]; exact hx
    ·simp only [Jj, jt]; rw [← ho, ← n2, Jfs, Ap]; rfl
    ·rw [hn]; simp only; split <;> omega) bigN (c1, out1) ⟨hc1, hx, ho1⟩ (Qk (by simp only; unfold InR at hc1 hb; omega))
 obtain ⟨r, e2, hr⟩ := h2
 have c0 : bor (bnot (Kz a)) (bnot (Kz b)) = false := by
  rw [← Ac, Yi, Jbj, Jbj, Jut, Jut]; simp [ha, hb]
 unfold Ja0
 rw [c0, if_neg (by simp), if_pos (Xf (by omega) (by omega) (by omega)), e, Jj, e2, Jj]
 simp [flst, hr]
theorem rspd {s : Jy} (u : Int) : imax 1 (iquo .i64 u s.Pitch) = spd s u := by
 unfold spd; rw [Jhr, Jhr]; omega
theorem Js2 {s : Jy} (h : SV s) : ieq s.Pitch 0 = false := by
 rw [← Ac, Jdo]; have := h.pitch; omega
theorem Jy4 {r : Jl} (hL : Lim r) {s : Jy} (hs : SV s) {p q : Ja} (hp : InR p) (hq : InR q) :
  ∃ y, Jbz r p q s = some y ∧ y.l = Jjf r s p q := by
 unfold Jbz Jjf
 rw [Js2 hs, if_neg (by simp)]
 by_cases hpq : p = q
 ·rw [if_pos ((Jrs p q).2 hpq), if_pos hpq]
  exact ⟨.nil, rfl, rfl⟩
 ·rw [if_neg (fun h => hpq ((Jrs p q).1 h)), if_neg hpq]
  obtain ⟨x, o, e, hx⟩ := J4u hL (p := p) (q := q)
  obtain ⟨x', y, o', e', ey, hxy, -⟩ := Jyg hL (a := p) (b := q)
  rw [e] at e'
  cases e'
  rw [ey, Jj]
  cases o with
  | true =>
   obtain ⟨h1, h2, -⟩ := hx rfl
   have h2 := h2 hpq
   obtain ⟨z, ez, hz⟩ := Jnx (x := y) (by rw [← hxy]; omega)
   have hzl : 0 < z.l.length := by rw [hz, ← hxy, Aj]; omega
   have hw : way r p q = (x.l.drop 1, true) := by unfold way; rw [e]
   simp only [ez, Jj, hw, if_true]
   refine ⟨_, rfl, ?_⟩
   rw [rspd, Jhu hzl, hz, ← hxy]; rfl
  | false =>
   have hd := Jwp hpq
   obtain ⟨z, ez, hz⟩ := Jnx (x := .lst (p :: Jfs q (dist p q) p)) (by simp [FS.l])
   have hz' : z.l = Jfs q (dist p q) p := by rw [hz]; rfl
   have hzl : 0 < z.l.length := by rw [hz', Jjs]; exact hd
   have hw : way r p q = (Jfs q (dist p q) p, false) := by unfold way; rw [e]
   simp only [Jtp hp hq, Jj, ez, hw, if_false, Ab]
   by_cases hr : s.Retract = 0
   ·rw [if_pos (Jdo.2 hr), if_pos hr]
    refine ⟨_, rfl, ?_⟩
    rw [rspd, Jhu hzl, hz']; rfl
   ·rw [if_neg (fun h => hr (Jdo.1 h)), if_neg hr]
    refine ⟨_, rfl, ?_⟩
    rw [rspd, Jhu hzl, hz']; rfl
end Go.Proofs.YtemehoioeoohmaaGreat
namespace Go.Proofs.YtemehoioeoohmaaGreat
open Go Go.Vv Go.Proofs
set_option linter.unusedSimpArgs false
set_option linter.unusedVariables false
set_option linter.unusedSectionVars false
theorem rrole {x : FS Jb} (hL : x.l.length ≤ 1000000) {n m : Nat} (hn : n < x.l.length) (h1 : n < m) (h2 : m ≤ x.l.length) (h3 : ∀ (i : Nat) t, n ≤ i → i < m → x.l[i]? = some t → t.Role = (x.l[n]).Role) (h4 : ∀ t, x.l[m]? = some t → t.Role ≠ (x.l[n]).Role) :
  Ja2 x (n : Int) = some (m : Int) := by
 have gn := Ku hn
 obtain ⟨r, e, rfl⟩ := Qe (body := Y7 x (n : Int)) (fun s => ∃ i : Nat, s = i ∧ n ≤ i ∧ i ≤ m) (fun s => (x.l.length - s).toNat) (fun r => r = (m : Int))
  (by
   rintro s ⟨i, rfl, a, b⟩
   by_cases hi : i < m
   ·left
    have c : ilt (i : Int) (flen x) = true := Xg (by rw [Jp]; omega)
    have g := Ku (x := x) (i := i) (by omega)
    have hr := h3 i _ a hi (Aa (by omega))
    exact ⟨((i + 1 : Nat) : Int), by simp only [Jj, Y7, c, Y4, g, gn, Af, Jlb hr, Jdr, if_true, zx (i := i) (by omega)], ⟨i + 1, rfl, by omega, by omega⟩, by omega⟩
   ·right
    have hi : i = m := by omega
    subst hi
    by_cases hm : i < x.l.length
    ·have c : ilt (i : Int) (flen x) = true := Xg (by rw [Jp]; omega)
     have g := Ku hm
     have hr := h4 _ (Aa hm)
     exact ⟨(i : Int), by simp only [Jj, Y7, c, Y4, g, gn, Af, Jg9 hr, Jfy, if_false, Ab], rfl⟩
    ·have c : ilt (i : Int) (flen x) = false := Xe (by rw [Jp]; omega)
     exact ⟨(i : Int), by simp only [Jj, Y7, c, jp, Jd5, if_false, Ab], rfl⟩)
  bigN (n : Int) ⟨n, rfl, by omega, by omega⟩ (Qk (by omega))
 unfold Ja2
 rw [e, Jj]
theorem Jxb {n : Int} (h0 : 0 ≤ n) (h1 : n ≤ 2000000) : fits 64 n = true := Xf (by omega) (by omega) (by omega)
theorem rprint {r : Jl} (hL : Lim r) {s : Jy} (hs : SV s) (z : FS Jb) (zv : ∀ t ∈ z.l, VT t) (hz : z.l.length ≤ 1000) {p : Ja} (hp : InR p) (o : FS J1) (ho : o.l.length ≤ 800000) (k0 : FS Jb) (k3 : Ja) (k4 : Int) :
  ∃ y, Kn (Zi k0 r s k3 k4 z) bigN (o, p, 0) = some (endC p z.l, y) ∧ y.l = o.l ++ Jff r s p z.l := by
 obtain ⟨v, e, hv1, hv2⟩ := Qe (body := Zi k0 r s k3 k4 z) (fun w => ∃ n : Nat, w.2.2 = n ∧ n ≤ z.l.length ∧ InR w.2.1 ∧ w.1.l.length ≤ 800000 + 4 * n ∧ w.1.l ++ Jff r s w.2.1 (z.l.drop n) = o.l ++ Jff r s p z.l ∧ endC w.2.1 (z.l.drop n) = endC p z.l)
  (fun w => (z.l.length - w.2.2).toNat) (fun v => v.1 = endC p z.l ∧ v.2.l = o.l ++ Jff r s p z.l)
  (by
   rintro ⟨u, q, i⟩ ⟨n, h1, h2, h3, h4, h5, h6⟩
   simp only at h1 h2 h3 h4 h5 h6 ⊢
   subst h1
   by_cases hn : n < z.l.length
   ·left
    have c : ilt (n : Int) (flen z) = true := Xg (by rw [Jp]; omega)
    have gz := Ku hn
    have ht := zv _ (Ad hn)
    have hl := ht.len
    obtain ⟨-, i1, i2⟩ := Jdc ht
    have g1 : fget (z.l[n]).Cells 0 = some (fstC z.l[n]) := by
     show fget (z.l[n]).Cells ((0 : Nat) : Int) = _
     rw [Ku (x := (z.l[n]).Cells) (i := 0) (by omega)]
     unfold fstC; rw [Aa (by omega)]; rfl
    have g2 : fget (z.l[n]).Cells (isub .i64 (flen (z.l[n]).Cells) 1) = some (lstC z.l[n]) := by
     rw [Xc (by rw [Jp]; omega) (by rw [Jp]; omega), Jp, show ((z.l[n]).Cells.l.length : Int) - 1 = (((z.l[n]).Cells.l.length - 1 : Nat) : Int) by omega, Ku (by omega)]
     unfold lstC; rw [Aa (by omega)]; rfl
    obtain ⟨y, ey, hy⟩ := Jy4 hL hs h3 i1
    have hyl := Jkf r s q (fstC z.l[n])
    rw [← hy] at hyl
    have f1 : fits 64 (flen u + flen y) = true := Jxb (by rw [Jp, Jp]; omega) (by rw [Jp, Jp]; omega)
    have f2 : fits 64 (flen (fapp u y) + 1) = true := Jxb (by rw [Jp]; omega) (by rw [Jp, Jhb, Ai]; omega)
    have hd := Ah hn
    have hop : (⟨3, (z.l[n]).Role, 0, 0, imax 1 (iquo .i64 s.Feed s.Pitch), (z.l[n]).Cells⟩ : J1) = op3 s z.l[n] := by
     unfold op3; rw [rspd, ← Jhu (by omega)]
    refine ⟨(Yy (fapp u y) (op3 s z.l[n]), lstC z.l[n], ((n + 1 : Nat) : Int)), ?_, ⟨n + 1, rfl, hn, i2, ?_, ?_, ?_⟩, by simp only; omega⟩
    ·simp only [Zi, c, if_true, gz, Jj, g1, ey, f1, Js2 hs, f2, g2, hop, zx (i := n) (by omega), if_false, Ab]
    ·simp only [jt, Jhb, Ai, Ae, Ay]; omega
    ·simp only [jt, Jhb]
     rw [← h5, hd, hy]
     simp only [Jff, Ap]
    ·simp only
     rw [← h6, hd]; rfl
   ·right
    have hn' : n = z.l.length := by omega
    subst hn'
    have c : ilt ((z.l.length : Nat) : Int) (flen z) = false := Xe (by rw [Jp]; omega)
    rw [Be] at h5 h6
    exact ⟨(q, u), by simp only [Zi, c, if_false, Ab], h6, by simpa [Jff] using h5⟩)
  bigN (o, p, 0) ⟨0, rfl, by omega, hp, by simp only; omega, rfl, rfl⟩ (Qk (by simp only; omega))
 obtain ⟨v1, v2⟩ := v
 simp only at hv1 hv2
 subst hv1
 exact ⟨v2, e, hv2⟩
theorem LayR.inv {r : Jl} {s : Jy} {p q : Ja} {l : List Jb} {ops : List J1} (h : LayR r s p l ops q) : (l = [] ∧ ops = [] ∧ q = p) ∨
  ∃ t g' rest g ts o', l = (t :: g') ++ rest ∧ (∀ u ∈ g', u.Role = t.Role) ∧ HeadNe t.Role rest ∧ Gre p (t :: g') g ∧ Imp p 8 g ts ∧ LayR r s (endC p ts) rest o' q ∧ ops = Jff r s p ts ++ o' := by
 cases h with
 | done => exact .inl ⟨rfl, rfl, rfl⟩
 | group a b c d e => exact .inr ⟨_, _, _, _, _, _, rfl, a, b, c, d, e, rfl⟩
theorem rgroups {r : Jl} (hL : Lim r) {s : Jy} (hs : SV s) (x : FS Jb) (hv : ∀ t ∈ x.l, VT t) (hxl : x.l.length ≤ 1000) {p q : Ja} (hp : InR p) (hd : FS J1) (hh : hd.l.length ≤ 2) {ops : List J1} (h : LayR r s p x.l ops q) (k3 : Ja) :
  ∃ y, Kn (Q7 x r s k3) bigN (hd, p, 0) = some (q, y) ∧ y.l = hd.l ++ ops := by
 obtain ⟨v, e, hv1, hv2⟩ := Qe (body := Q7 x r s k3) (fun w => ∃ n : Nat, w.2.2 = n ∧ n ≤ x.l.length ∧ InR w.2.1 ∧ w.1.l.length ≤ 2 + 4 * n ∧ ∃ o', LayR r s w.2.1 (x.l.drop n) o' q ∧ w.1.l ++ o' = hd.l ++ ops)
  (fun w => (x.l.length - w.2.2).toNat) (fun v => v.1 = q ∧ v.2.l = hd.l ++ ops)
  (by
   rintro ⟨u, nz, i⟩ ⟨n, h1, h2, h3, h4, o', h5, h6⟩
   simp only at h1 h2 h3 h4 h5 h6 ⊢
   subst h1
   rcases h5.inv with ⟨a1, a2, a3⟩ | ⟨t, g', rest, g, ts, o2, a1, a2, a3, a4, a5, a6, a7⟩
   ·right
    have hn : ¬ n < x.l.length := fun h => by
     rw [Ah h] at a1; cases a1
    have c : ilt (n : Int) (flen x) = false := Xe (by rw [Jp]; omega)
    subst a2 a3
    exact ⟨(q, u), by simp only [Q7, c, if_false, Ab], rfl, by simpa using h6⟩
   ·left
    have hlen := congrArg List.length a1
    simp only [Aj, Ai, Ae] at hlen
    have hn : n < x.l.length := by omega
    have c : ilt (n : Int) (flen x) = true := Xg (by rw [Jp]; omega)
    have at_n : ∀ k, x.l[n + k]? = ((t :: g') ++ rest)[k]? := fun k => by rw [← a1, Ba]
    have hxn : x.l[n] = t := by
     have := at_n 0
     rw [Nat.add_zero, Aa hn] at this
     simpa using this
    obtain ⟨m, hm⟩ : ∃ m, m = n + (g'.length + 1) := ⟨_, rfl⟩
    have eg : Ja2 x (n : Int) = some (m : Int) := by
     refine rrole (by omega) hn (by omega) (by omega) (fun i w hi1 hi2 hw => ?_) (fun w hw => ?_)
     ·rw [hxn]
      have := at_n (i - n)
      rw [show n + (i - n) = i by omega, hw, Ar (by simp only [Ae]; omega)] at this
      have hmem := Ag this.symm
      rcases List.mem_cons.1 hmem with rfl | hmem
      ·rfl
      ·exact a2 w hmem
     ·rw [hxn]
      have := at_n (g'.length + 1)
      rw [← hm, hw, Bb (by simp only [Ae]; omega)] at this
      simp only [Ae, Nat.sub_self] at this
      exact a3 w this.symm
    have hseg : (x.l.drop n).take (m - n) = t :: g' := by
     rw [a1, show m - n = (t :: g').length by simp only [Ae]; omega]
     exact List.take_left' rfl
    have hrest : x.l.drop m = rest := by
     have e1 : x.l.drop m = (x.l.drop n).drop (g'.length + 1) := by rw [List.drop_drop, hm]
     rw [e1, a1, show g'.length + 1 = (t :: g').length by simp only [Ae]]
     exact List.drop_left' rfl
    have sl : fsl x (n : Int) (m : Int) = some (.lst (t :: g')) :=
     ((congrArg (fun y => fsl y (n : Int) (m : Int)) (Jhu (x := x) (by omega))).trans (Jle (by omega) (by omega))).trans (by rw [hseg])
    have hvs : ∀ w ∈ t :: g', VT w := fun w hw => hv w (List.mem_of_mem_drop (List.mem_of_mem_take (by rw [hseg]; exact hw : w ∈ (x.l.drop n).take (m - n))))
    obtain ⟨gy, egy, hgy⟩ := Jy6 h3 (.lst (t :: g')) hvs (by show (t :: g').length ≤ _; simp only [Ae]; omega) (g := g) a4
    have gv := a4.valid hvs
    have gl := a4.len
    obtain ⟨iv, il, -⟩ := a5.props gv
    obtain ⟨iy, eiy, hiy⟩ := Ju6 h3 gy (by rw [hgy]; exact gv) (by rw [hgy, gl]; simp only [Ae]; omega) 8 (by omega) (g := ts) (by rw [hgy]; exact a5)
    have eiy : z7 nz gy 8 = some iy := eiy
    have hl2 : iy.l.length ≤ g'.length + 1 := by rw [hiy, il, gl]; simp only [Ae]; omega
    obtain ⟨py, epy, hpy⟩ := rprint hL hs iy (by rw [hiy]; exact iv) (by omega) h3 u (by omega) x k3 (n : Int)
    have hpl := Jlx r s iy.l nz
    refine ⟨(py, endC nz iy.l, (m : Int)), ?_, ⟨m, rfl, by omega, Jo5 h3 (by rw [hiy]; exact iv), ?_, o2, ?_, ?_⟩, by simp only; omega⟩
    ·simp only [Q7, c, if_true, eg, Jj, sl, egy, eiy, epy]
    ·simp only [hpy, Ai]; omega
    ·simp only; rw [hrest, hiy]; exact a6
    ·simp only; rw [hpy, hiy, Ap, ← a7]; exact h6)
  bigN (hd, p, 0) ⟨0, rfl, by omega, hp, by simp only; omega, ops, h, rfl⟩ (Qk (by simp only; omega))
 obtain ⟨v1, v2⟩ := v
 simp only at hv1 hv2
 subst hv1
 exact ⟨v2, e, hv2⟩
theorem ref35_ok (s : Jy) : ∃ b, Zo s = some b := by
 unfold Zo
 repeat (first | exact ⟨_, rfl⟩ | split)
theorem Js5 (s : Jy) : Zo s = some (Q0 s) := by
 have hin : ∀ a b c, Ji a b c = Jd a b c := fun _ _ _ => rfl
 obtain ⟨b, e⟩ := ref35_ok s
 rw [e]; congr 1
 unfold Zo at e
 simp only [hin] at e
 rw [Bool.eq_iff_iff]
 have hne : ∀ a : Int, ine (irem a 2) 0 = bnot (ieq (irem a 2) 0) := fun a => by
  cases h : ieq (irem a 2) 0 <;> simp_all [ine, ieq, bnot]
 simp only [hne] at e
 simp only [Q0, Yz, Z8]
 generalize Jd s.Pitch 32 1024 = a1 at *
 generalize ieq (irem s.Pitch 2) 0 = a2 at *
 generalize Jd s.Height 4 1024 = a3 at *
 generalize ieq (irem s.Height 2) 0 = a4 at *
 generalize Jd s.Walls 0 8 = a5 at *
 generalize Jd s.Top 0 16 = a6 at *
 generalize Jd s.Bottom 0 16 = a7 at *
 generalize Jd s.Pattern 0 3 = a8 at *
 generalize Jd s.Spacing 1 64 = a9 at *
 generalize Jd s.Reach 0 64 = b1 at *
 generalize Jd s.Gap 0 64 = b2 at *
 generalize Jd s.Brim 0 64 = b3 at *
 generalize Jd s.Skirt 0 63 = b4 at *
 generalize Jd s.Drop 1 1073741824 = b5 at *
 generalize Jd s.Feed 1 1048576 = b6 at *
 generalize Jd s.Travel 1 1048576 = b7 at *
 generalize Jd s.Retract 0 65536 = b8 at *
 generalize Jd s.MinTime 0 1048576 = b9 at *
 generalize Jd s.MinFeed 1 s.Feed = c1 at *
 generalize Jd s.Nozzle 0 400000 = c2 at *
 generalize Jd s.Bed 0 400000 = c3 at *
 simp only [zd, Jsj, Juu, Jqi]
 split at e
 ·rename_i h
  simp only [Yi, Jbj, zd] at h
  cases e; simp; intros; simp_all
 ·rename_i h1
  split at e
  ·rename_i h
   simp only [Yi, Jbj, zd] at h
   cases e; simp; intros; simp_all
  ·rename_i h2
   split at e
   ·rename_i h
    simp only [Yi, Jbj, zd] at h
    cases e; simp; intros; simp_all
   ·rename_i h3
    split at e
    ·rename_i h
     simp only [Yi, Jbj, zd] at h
     cases e; simp; intros; simp_all
    ·rename_i h4
     cases e
     simp only [Ac, Juu, Jqi] at h1 h2 h3 h4
     simp only [zd]
     simp_all
     constructor
     ·intro h; simp_all
     ·intro h; simp_all
end Go.Proofs.YtemehoioeoohmaaGreat
namespace Go.Proofs.YtemehoioeoohmaaGreat
open Go Go.Vv Go.Proofs
set_option linter.unusedSimpArgs false
set_option linter.unusedVariables false
set_option linter.unusedSectionVars false
theorem one_sq {x y : Int} (h : x.natAbs + y.natAbs = 1) : x * x + y * y = 1 := by
 have : (x = 1 ∧ y = 0) ∨ (x = -1 ∧ y = 0) ∨ (x = 0 ∧ y = 1) ∨ (x = 0 ∧ y = -1) := by omega
 rcases this with ⟨rfl, rfl⟩ | ⟨rfl, rfl⟩ | ⟨rfl, rfl⟩ | ⟨rfl, rfl⟩ <;> rfl
theorem J8c {a b : Ja} (ha : InR a) (hb : InR b) : Ky a b = Q3 a b := by
 have key : Ky a b = true ↔ nb a b := by
  refine ⟨fun h => ?_, J9n ha hb⟩
  rw [Jwx ha hb]
  have ia := ha; have ib := hb
  unfold InR at ia ib
  unfold Ky at h
  rw [Xc (a := a.X) (b := b.X) (by omega) (by omega), Xc (a := a.Y) (b := b.Y) (by omega) (by omega), Jo8 (by omega) (by omega), Jo8 (by omega) (by omega), zt (by omega) (by omega), Jdo] at h
  exact one_sq (by omega)
 rw [Bool.eq_iff_iff]
 exact key
theorem Jq3 (t : Jb) (hL : t.Cells.l.length ≤ 1000000) : ∃ b, Xi t = some b ∧ (b = true ↔ VT t) := by
 unfold Xi
 by_cases hc : bor (bor (bor (ilt t.Role 1) (igt t.Role 7)) (ilt (flen t.Cells) 1)) (igt (flen t.Cells) 65536) = true
 ·refine ⟨false, by rw [if_pos hc], by simp, fun h => ?_⟩
  exfalso
  rw [Yi, Yi, Yi, Yj, Jd4, Yj, Jd4, Jp] at hc
  have h1 := h.role; have h2 := h.len
  omega
 ·rw [if_neg hc]
  rw [Yi, Yi, Yi, Yj, Jd4, Yj, Jd4, Jp] at hc
  obtain ⟨x, e, hr⟩ := Jgf (K3 t (flen t.Cells) t.Cells (flen t.Cells)) t.Cells.l.length (by omega) (fun i => GoodC t.Cells.l i) (fun _ => .inl false) (.inr ())
   (fun i hi hg => by
    have g1 := Ku hi
    have c1 : ilt (i : Int) (flen t.Cells) = true := Xg (by rw [Jp]; omega)
    by_cases h0 : 0 < i
    ·have g2 := Jia h0 hi (by omega)
     have c2 : igt (i : Int) 0 = true := Jf6 (by omega)
     by_cases hgr : Kb t.Cells.l[i] = true
     ·have hnn := J8c (hg (i - 1) (by omega) _ (Aa (by omega))).1 ((Jgq _).1 hgr)
      refine jd (bnot (Q3 (t.Cells.l[i - 1]'(by omega)) t.Cells.l[i])) ?_ ?_
      ·rw [Jbj]; try rw [Jj]
       refine ⟨fun h1 h2 => h1 ((h2 _ (Aa hi)).2 _ h0 (Aa (by omega))), fun h1 h2 => h1 fun c hc => ?_⟩
       rw [Aa hi] at hc
       cases hc
       refine ⟨(Jgq _).1 hgr, fun p _ hp => ?_⟩
       rw [Aa (by omega)] at hp
       cases hp
       exact h2
      ·simp only [Jj, K3, c1, if_true, g1, hgr, Qx, Zt, Jdr, c2, g2, Y4, Af, Jgt, hnn, zx (i := i) (by omega)]
     ·rw [Ac] at hgr
      refine jd true ⟨fun _ h2 => ?_, fun _ => rfl⟩ ?_
      ·have := (Jgq _).2 (h2 _ (Aa hi)).1
       rw [hgr] at this; cases this
      ·simp only [Jj, K3, c1, if_true, g1, hgr, Zt, Qx, Jd5, jp, Jjm, c2]
    ·have c2 : igt (i : Int) 0 = false := Jhc (by omega)
     refine jd (bnot (Kb t.Cells.l[i])) ?_ ?_
     ·rw [Jbj, Jgq]
      refine ⟨fun h1 h2 => h1 (h2 _ (Aa hi)).1, fun h1 h2 => h1 fun c hc => ?_⟩
      rw [Aa hi] at hc
      cases hc
      exact ⟨h2, fun p h3 => (h0 h3).elim⟩
     ·have hb : ∀ x y, bor x (band false y) = x := fun x y => by cases x <;> rfl
      simp only [Jj, K3, c1, if_true, g1, c2, Jfy, jp, hb, zx (i := i) (by omega)])
   (fun _ => by
    have c1 : ilt ((t.Cells.l.length : Nat) : Int) (flen t.Cells) = false := Xe (by rw [Jp]; omega)
    simp only [Jj, K3, c1, if_false, Ab])
  rw [e]; try rw [Jj]
  rcases hr with ⟨rfl, hall⟩ | ⟨i, hi, rfl, hn, -⟩
  ·obtain ⟨k1, k2⟩ := Jnr.1 hall
   have hpos : 0 < t.Cells.l.length := by omega
   have gl : fget t.Cells (isub .i64 (flen t.Cells) 1) = some (t.Cells.l[t.Cells.l.length - 1]'(by omega)) := by
    rw [Xc (by rw [Jp]; omega) (by rw [Jp]; omega), Jp, show (t.Cells.l.length : Int) - 1 = ((t.Cells.l.length - 1 : Nat) : Int) by omega]
    exact Ku (by omega)
   have gf : fget t.Cells 0 = some (t.Cells.l[0]) := Ku (i := 0) hpos
   simp only [Jj, gl, gf]
   have base : ∀ b, (b = true ↔ (t.Closed = true → t.Cells.l.length ≠ 1 → nb (t.Cells.l[t.Cells.l.length - 1]'(by omega)) t.Cells.l[0])) → (b = true ↔ VT t) := fun b hb => by
    rw [hb]; try rw [Jj]
    refine ⟨fun h => ⟨by omega, by omega, k1, k2, fun c1 c2 a b ha hb => ?_⟩, fun h c1 c2 => h.cls c1 c2 _ _ (Aa (by omega)) (Aa hpos)⟩
    rw [Aa (by omega)] at ha hb
    cases ha; cases hb
    exact h c1 c2
   by_cases hcl : t.Closed = true
   ·by_cases h1 : t.Cells.l.length = 1
    ·have e1 : ieq (flen t.Cells) 1 = true := Jlb (by rw [Jp]; omega)
     refine ⟨true, by simp only [Jj, hcl, e1, Qx, Jgt, Qx, jp, Jjm], base true ⟨fun _ _ h => (h h1).elim, fun _ => rfl⟩⟩
    ·have e1 : ieq (flen t.Cells) 1 = false := Jg9 (by rw [Jp]; omega)
     have hnn := J8c (k1 _ (Ad (by omega : t.Cells.l.length - 1 < t.Cells.l.length))) (k1 _ (Ad hpos))
     refine ⟨Q3 (t.Cells.l[t.Cells.l.length - 1]'(by omega)) t.Cells.l[0], by simp only [Jj, hcl, e1, Qx, Jgt, Zt, Y4, Af, hnn], base _ ⟨fun h _ _ => h, fun h => h hcl h1⟩⟩
   ·rw [Ac] at hcl
    refine ⟨true, by simp only [Jj, hcl, Zt, Jjm, Qx, jp], base true ⟨fun _ h => (by rw [hcl] at h; cases h), fun _ => rfl⟩⟩
  ·refine ⟨false, rfl, by simp, fun h => ?_⟩
   exact (hn (Jnr.2 ⟨h.inr, h.chn⟩ i hi)).elim
theorem J5b (x : FS Jb) (hL : x.l.length ≤ 1000000) (hc : ∀ t ∈ x.l, t.Cells.l.length ≤ 1000000) (k1 : Int) (k2 : Jl) (k3 : Ja) (k4 : Jy) :
  (Kn (Q8 x k1 k2 k3 k4) bigN ((⟨0, 0⟩ : Ja), 0) = some (.inl (⟨0, 0⟩, FS.nil, 1)) ∧ ¬ ∀ t ∈ x.l, VT t) ∨ (Kn (Q8 x k1 k2 k3 k4) bigN ((⟨0, 0⟩ : Ja), 0) = some (.inr ⟨0, 0⟩) ∧ ∀ t ∈ x.l, VT t) := by
 obtain ⟨v, e, h⟩ := Qe (body := Q8 x k1 k2 k3 k4) (fun w => w.1 = ⟨0, 0⟩ ∧ ∃ n : Nat, w.2 = n ∧ n ≤ x.l.length ∧ ∀ (i : Nat) t, i < n → x.l[i]? = some t → VT t)
  (fun w => (x.l.length - w.2).toNat) (fun v => (v = .inl (⟨0, 0⟩, FS.nil, 1) ∧ ¬ ∀ t ∈ x.l, VT t) ∨ (v = .inr ⟨0, 0⟩ ∧ ∀ t ∈ x.l, VT t))
  (by
   rintro ⟨cc, i⟩ ⟨h0, n, h1, h2, h3⟩
   simp only at h0 h1 h2 h3 ⊢
   subst h0 h1
   by_cases hn : n < x.l.length
   ·have c : ilt (n : Int) (flen x) = true := Xg (by rw [Jp]; omega)
    have g := Ku hn
    obtain ⟨b, eb, hb⟩ := Jq3 x.l[n] (hc _ (Ad hn))
    cases b with
    | true =>
     left
     refine ⟨(⟨0, 0⟩, ((n + 1 : Nat) : Int)), by simp only [Jj, Q8, c, if_true, g, eb, Qx, if_false, Ab, zx (i := n) (by omega)], ⟨rfl, n + 1, rfl, hn, fun i t hi ht => ?_⟩, by simp only; omega⟩
     by_cases he : i = n
     ·subst he; rw [Aa hn] at ht; cases ht; exact hb.1 rfl
     ·exact h3 i t (by omega) ht
    | false =>
     right
     refine ⟨.inl (⟨0, 0⟩, FS.nil, 1), by simp only [Jj, Q8, c, if_true, g, eb, Zt], .inl ⟨rfl, fun ha => ?_⟩⟩
     have := hb.2 (ha _ (Ad hn))
     cases this
   ·right
    have c : ilt (n : Int) (flen x) = false := Xe (by rw [Jp]; omega)
    refine ⟨.inr ⟨0, 0⟩, by simp only [Jj, Q8, c, if_false, Ab], .inr ⟨rfl, fun t ht => ?_⟩⟩
    obtain ⟨k, hk⟩ := Aq ht
    exact h3 k t (by have := (As.1 hk).1; omega) hk)
  bigN ((⟨0, 0⟩ : Ja), 0) ⟨rfl, 0, rfl, by omega, fun i t hi => by omega⟩ (Qk (by simp only; omega))
 rcases h with ⟨rfl, h⟩ | ⟨rfl, h⟩
 ·exact .inl ⟨e, h⟩
 ·exact .inr ⟨e, h⟩
end Go.Proofs.YtemehoioeoohmaaGreat
namespace Go.Proofs.YtemehoioeoohmaaGreat
open Go Go.Vv Go.Proofs
set_option linter.unusedSimpArgs false
set_option linter.unusedVariables false
set_option linter.unusedSectionVars false
def dur (o : J1) : Int := if (o.Kind = 2 ∨ o.Kind = 3) ∧ 0 < o.Speed then (o.Cells.l.length * 1000 : Int) / o.Speed + (if (o.Cells.l.length * 1000 : Int) % o.Speed = 0 then 0 else 1) else 0
def tm : List J1 → Int
 | [] => 0
 | o :: l => dur o + tm l
theorem J5w {a s : Int} (h0 : 0 ≤ a) (h1 : a ≤ 100000000000) (hs : 0 < s) : iquo .i64 a s = a / s ∧ irem a s = a % s ∧ 0 ≤ a / s ∧ a / s ≤ 100000000000 ∧ 0 ≤ a % s := by
 have n0 : 0 ≤ a / s := Int.ediv_nonneg h0 (by omega)
 have n1 : a / s ≤ a := Int.ediv_le_self _ h0
 refine ⟨?_, Bc h0, n0, by omega, Int.emod_nonneg _ (by omega)⟩
 unfold iquo
 rw [Int.tdiv_eq_ediv_of_nonneg h0, w64 _ (by omega) (by omega)]
theorem dur_bd {o : J1} (h : o.Cells.l.length ≤ 100000000) : 0 ≤ dur o ∧ dur o ≤ 100000000001 := by
 unfold dur
 split
 ·rename_i hc
  obtain ⟨-, -, q1, q2, -⟩ := J5w (a := (o.Cells.l.length * 1000 : Int)) (by omega) (by omega) hc.2
  split <;> omega
 ·omega
theorem Jv5 {o : J1} (h : o.Cells.l.length ≤ 100000000) : Jcw o = some (dur o) := by
 unfold Jcw dur
 by_cases hc : bor (band (ine o.Kind 2) (ine o.Kind 3)) (ile o.Speed 0) = true
 ·rw [if_pos hc, if_neg]
  rw [Yi, zd, Jgz, Jgz, Je9] at hc
  omega
 ·rw [if_neg hc]
  rw [Yi, zd, Jgz, Jgz, Je9] at hc
  have hk : (o.Kind = 2 ∨ o.Kind = 3) ∧ 0 < o.Speed := by omega
  rw [if_pos hk]
  have hs : ieq o.Speed 0 = false := Jg9 (by omega)
  have em : imul .i64 (flen o.Cells) 1000 = (o.Cells.l.length * 1000 : Int) := by rw [Jp, Jsz (by omega) (by omega)]
  obtain ⟨q1, q2, q3, q4, q5⟩ := J5w (a := (o.Cells.l.length * 1000 : Int)) (by omega) (by omega) (s := o.Speed) (by omega)
  simp only [hs, Ab, if_false, em, q1, q2]
  by_cases hr : (o.Cells.l.length * 1000 : Int) % o.Speed = 0
  ·have c : igt ((o.Cells.l.length * 1000 : Int) % o.Speed) 0 = false := Jhc (by omega)
   rw [if_pos hr, c, Bo]; rfl
  ·have c : igt ((o.Cells.l.length * 1000 : Int) % o.Speed) 0 = true := Jf6 (by omega)
   rw [if_neg hr, c, if_pos rfl, zt (by omega) (by omega)]
theorem J4m {x : FS J1} (hc : ∀ o ∈ x.l, o.Cells.l.length ≤ 100000000) {n : Nat} (hn : n < x.l.length) : tm (x.l.drop n) = dur x.l[n] + tm (x.l.drop (n + 1)) ∧ 0 ≤ dur x.l[n] ∧ dur x.l[n] ≤ 100000000001 := by
 rw [Ah hn]
 exact ⟨rfl, dur_bd (hc _ (Ad hn))⟩
theorem Time_eq (x : FS J1) (hL : x.l.length ≤ 1000000) (hc : ∀ o ∈ x.l, o.Cells.l.length ≤ 100000000) : Jfl x = some (tm x.l) := by
 obtain ⟨r, e, rfl⟩ := Qe (body := Jcb x (flen x)) (fun s => ∃ n : Nat, s.2 = n ∧ n ≤ x.l.length ∧ 0 ≤ s.1 ∧ s.1 ≤ n * 100000000001 ∧ s.1 + tm (x.l.drop n) = tm x.l) (fun s => (x.l.length - s.2).toNat) (fun r => r = tm x.l)
  (by
   rintro ⟨t, i⟩ ⟨n, h2, h3, h4, h5, h6⟩
   simp only at h2 h3 h4 h5 h6 ⊢
   subst h2
   by_cases hn : n < x.l.length
   ·left
    have c : ilt (n : Int) (flen x) = true := Xg (by rw [Jp]; omega)
    obtain ⟨d1, d2, d3⟩ := J4m hc hn
    exact ⟨(t + dur x.l[n], ((n + 1 : Nat) : Int)), by simp only [Jj, Jcb, c, if_true, Ku hn, Jv5 (hc _ (Ad hn)), zx (i := n) (by omega), zt (a := t) (b := dur x.l[n]) (by omega) (by omega)], ⟨n + 1, rfl, hn, by simp only; omega, by simp only; omega, by simp only; omega⟩, by simp only; omega⟩
   ·right
    have c : ilt (n : Int) (flen x) = false := Xe (by rw [Jp]; omega)
    have hn' : n = x.l.length := by omega
    subst hn'
    rw [Be] at h6
    exact ⟨t, by simp only [Jj, Jcb, c, if_false, Ab], by simpa [tm] using h6⟩)
  bigN (0, 0) ⟨0, rfl, by omega, by simp only; omega, by simp only; omega, by simp⟩ (Qk (by simp only; omega))
 unfold Jfl
 rw [e, Jj]
theorem RTime_eq (x : FS J1) (hL : x.l.length ≤ 1000000) (hc : ∀ o ∈ x.l, o.Cells.l.length ≤ 100000000) : Jbo x = some (tm x.l) := by
 obtain ⟨r, e, rfl⟩ := Qe (body := z8 x (flen x)) (fun s => ∃ n : Nat, s.2 = n ∧ n ≤ x.l.length ∧ 0 ≤ s.1 ∧ s.1 ≤ n * 100000000001 ∧ s.1 + tm (x.l.drop n) = tm x.l) (fun s => (x.l.length - s.2).toNat) (fun r => r = tm x.l)
  (by
   rintro ⟨t, i⟩ ⟨n, h2, h3, h4, h5, h6⟩
   simp only at h2 h3 h4 h5 h6 ⊢
   subst h2
   by_cases hn : n < x.l.length
   ·left
    have c : ilt (n : Int) (flen x) = true := Xg (by rw [Jp]; omega)
    obtain ⟨d1, d2, d3⟩ := J4m hc hn
    have hcl := hc _ (Ad hn)
    refine ⟨(t + dur x.l[n], ((n + 1 : Nat) : Int)), ?_, ⟨n + 1, rfl, hn, by simp only; omega, by simp only; omega, by simp only; omega⟩, by simp only; omega⟩
    simp only [Jj, z8, c, if_true, Ku hn, zx (i := n) (by omega)]
    by_cases hk : ((x.l[n]).Kind = 2 ∨ (x.l[n]).Kind = 3) ∧ 0 < (x.l[n]).Speed
    ·have hd : dur x.l[n] = ((x.l[n]).Cells.l.length * 1000 : Int) / (x.l[n]).Speed + (if ((x.l[n]).Cells.l.length * 1000 : Int) % (x.l[n]).Speed = 0 then 0 else 1) := by unfold dur; rw [if_pos hk]
     have hs : ieq (x.l[n]).Speed 0 = false := Jg9 (by omega)
     have em : imul .i64 (flen (x.l[n]).Cells) 1000 = ((x.l[n]).Cells.l.length * 1000 : Int) := by rw [Jp, Jsz (by omega) (by omega)]
     obtain ⟨q1, q2, q3, q4, q5⟩ := J5w (a := ((x.l[n]).Cells.l.length * 1000 : Int)) (by omega) (by omega) hk.2
     rw [if_pos (by rw [zd, Yi, Jdo, Jdo, Jd4]; exact hk)]
     simp only [hs, Ab, if_false, em, q1, q2]
     by_cases hr : ((x.l[n]).Cells.l.length * 1000 : Int) % (x.l[n]).Speed = 0
     ·rw [if_pos hr] at hd
      rw [if_neg (by rw [Jgz]; omega), hd, Bo, zt (by omega) (by omega)]
     ·rw [if_neg hr] at hd
      rw [if_pos (by rw [Jgz]; exact hr), hd, zt (a := t) (by omega) (by omega), zt (by omega) (by omega), Int.add_assoc]
    ·have hd : dur x.l[n] = 0 := by unfold dur; rw [if_neg hk]
     rw [if_neg (by rw [zd, Yi, Jdo, Jdo, Jd4]; exact hk), hd, Bo]
   ·right
    have c : ilt (n : Int) (flen x) = false := Xe (by rw [Jp]; omega)
    have hn' : n = x.l.length := by omega
    subst hn'
    rw [Be] at h6
    exact ⟨t, by simp only [Jj, z8, c, if_false, Ab], by simpa [tm] using h6⟩)
  bigN (0, 0) ⟨0, rfl, by omega, by simp only; omega, by simp only; omega, by simp⟩ (Qk (by simp only; omega))
 unfold Jbo
 rw [e, Jj]
def rlim (v : Int) (o : J1) : J1 := ⟨o.Kind, o.Role, o.Layer, o.Z, if o.Kind = 3 ∧ v < o.Speed then v else o.Speed, .lst o.Cells.l⟩
structure Alike (a b : J1) : Prop where
 k : a.Kind = b.Kind
 r : a.Role = b.Role
 y : a.Layer = b.Layer
 z : a.Z = b.Z
 s : a.Speed = b.Speed
 c : a.Cells.l = b.Cells.l
theorem Juf (v : Int) (o : J1) : Alike (lim v o) (rlim v o) := by
 unfold lim rlim
 by_cases h : o.Kind = 3
 ·rw [if_pos h]
  refine ⟨rfl, rfl, rfl, rfl, ?_, rfl⟩
  simp only [Jvp, h, true_and]
  split <;> omega
 ·rw [if_neg h]
  refine ⟨rfl, rfl, rfl, rfl, ?_, rfl⟩
  simp only [h, false_and, if_false]
theorem Alike.dur {a b : J1} (h : Alike a b) : dur a = dur b := by
 unfold Go.Proofs.YtemehoioeoohmaaGreat.dur
 rw [h.k, h.s, h.c]
theorem Jxt (v : Int) : ∀ l : List J1, tm (l.map (lim v)) = tm (l.map (rlim v))
 | [] => rfl
 | o :: l => by simp only [Bn, tm, (Juf v o).dur, Jxt v l]
theorem Jus (v : Int) (o : J1) : (lim v o).Cells = o.Cells := by unfold lim; split <;> rfl
theorem Jpu (x : FS J1) (hL : x.l.length ≤ 1000000) (hc : ∀ o ∈ x.l, o.Cells.l.length ≤ 100000000) (v : Int) : ∃ y, Z9 x v = some y ∧ y.l = x.l.map (rlim v) := by
 obtain ⟨r, e, hr⟩ := Qe (body := Z1 v x (flen x)) (fun s => ∃ n : Nat, s.2 = n ∧ n ≤ x.l.length ∧ s.1.l = (x.l.take n).map (rlim v)) (fun s => (x.l.length - s.2).toNat) (fun r => r.l = x.l.map (rlim v))
  (by
   rintro ⟨y, i⟩ ⟨n, h2, h3, h1⟩
   simp only at h1 h2 h3 ⊢
   subst h2
   by_cases hn : n < x.l.length
   ·left
    have c : ilt (n : Int) (flen x) = true := Xg (by rw [Jp]; omega)
    have hcl := hc _ (Ad hn)
    have hyl : y.l.length = n := by rw [h1, An, Av]; omega
    have f1 : fits 16 (flen (flit ([] : List Ja)) + flen (x.l[n]).Cells) = true := Xf (by simp only [Jp, Je1]; omega) (by simp only [Jp, Je1, Ay]; omega) (by omega)
    have f2 : fits 64 (flen y + 1) = true := Xf (by rw [Jp]; omega) (by rw [Jp]; omega) (by omega)
    have ec : fapp (flit ([] : List Ja)) (x.l[n]).Cells = .lst (x.l[n]).Cells.l := rfl
    have hm : (x.l.take (n + 1)).map (rlim v) = y.l ++ [rlim v x.l[n]] := by
     rw [h1, Ak hn, Bh]; rfl
    refine ⟨(Yy y (rlim v x.l[n]), ((n + 1 : Nat) : Int)), ?_, ⟨n + 1, rfl, hn, by simp only [jt]; exact hm.symm⟩, by simp only; omega⟩
    simp only [Jj, Z1, c, if_true, Ku hn, f1, f2, ec, zx (i := n) (by omega)]
    by_cases hk : (x.l[n]).Kind = 3 ∧ v < (x.l[n]).Speed
    ·rw [if_pos (by rw [zd, Jdo, Jd4]; omega)]
     unfold rlim; rw [if_pos hk]
    ·rw [if_neg (by rw [zd, Jdo, Jd4]; omega)]
     unfold rlim; rw [if_neg hk]
   ·right
    have hn' : n = x.l.length := by omega
    subst hn'
    have c : ilt ((x.l.length : Nat) : Int) (flen x) = false := Xe (by rw [Jp]; omega)
    exact ⟨y, by simp only [Jj, Z1, c, if_false, Ab], by rw [h1, List.take_length]⟩)
  bigN (FS.nil, 0) ⟨0, rfl, by omega, by simp [FS.l]⟩ (Qk (by simp only; omega))
 unfold Z9
 rw [e, Jj]
 exact ⟨r, rfl, hr⟩
def hb (T : Int → Bool) (w : Int × Int) : Option (LR (Int × Int) Int) :=
 if ilt w.1 w.2 = true then (if T (iquo .i64 (iadd .i64 (iadd .i64 w.1 w.2) 1) 2) = true then some (.nx (iquo .i64 (iadd .i64 (iadd .i64 w.1 w.2) 1) 2, w.2)) else some (.nx (w.1, isub .i64 (iquo .i64 (iadd .i64 (iadd .i64 w.1 w.2) 1) 2) 1))) else some (.dn w.1)
theorem hb_run (T : Int → Bool) {lo hi : Int} (h0 : 1 ≤ lo) (h1 : lo ≤ 2097152) (h2 : hi ≤ 2097152) : ∃ v, Kn (hb T) bigN (lo, hi) = some v := by
 obtain ⟨v, e, -⟩ := Qe (body := hb T) (fun w => 1 ≤ w.1 ∧ w.2 ≤ 2097152) (fun w => (w.2 - w.1).toNat) (fun r => True)
  (by
   rintro ⟨lo, hi⟩ ⟨h1, h2⟩
   simp only at h1 h2 ⊢
   by_cases hlt : lo < hi
   ·left
    have c : ilt lo hi = true := Xg hlt
    obtain ⟨m1, m2, m3⟩ := J22 (by omega) hlt h2
    cases hT : T ((lo + hi + 1) / 2) with
    | true => exact ⟨((lo + hi + 1) / 2, hi), by simp only [hb, c, if_true, m1, hT], ⟨by simp only; omega, h2⟩, by simp only; omega⟩
    | false =>
     refine ⟨(lo, (lo + hi + 1) / 2 - 1), ?_, ⟨h1, by simp only; omega⟩, by simp only; omega⟩
     simp only [hb, c, if_true, m1, hT, if_false, Ab]
     rw [Xc (by omega) (by omega)]
   ·right
    have c : ilt lo hi = false := Xe hlt
    exact ⟨lo, by simp only [hb, c, if_false, Ab], trivial⟩)
  bigN (lo, hi) ⟨h0, h2⟩ (Qk (by simp only; omega))
 exact ⟨v, e⟩
theorem J9c {x x' : FS J1} (ex : x'.l = x.l) {s : Jy} (hv : Q0 s = true) (h0 : 0 < x.l.length) (hL : x.l.length ≤ 1000000) (hc : ∀ o ∈ x.l, Nice o.Cells ∧ o.Cells.l.length ≤ 100000000) :
  ∃ y y' v, Jcl x s = some y ∧ Jag x' s = some y' ∧ y.l = x.l.map (lim v) ∧ y'.l = x.l.map (rlim v) := by
 have sv := Jso hv
 obtain ⟨z, ez, hz⟩ := Jno h0 hL hc
 have hz0 : 0 < z.l.length := by rw [hz]; exact h0
 have hzL : z.l.length ≤ 1000000 := by rw [hz]; exact hL
 have hxc : ∀ o ∈ x'.l, o.Cells.l.length ≤ 100000000 := fun o ho => (hc o (by rw [← ex]; exact ho)).2
 have hxL : x'.l.length ≤ 1000000 := by rw [ex]; exact hL
 have q1 := Jxk sv (u := s.MinFeed) (by have := sv.minfeed; omega) (by have := sv.minfeed; have := sv.feed; omega)
 have q2 := Jxk sv (u := s.Feed) (by have := sv.feed; omega) (by have := sv.feed; omega)
 obtain ⟨T, hT⟩ : ∃ T : Int → Bool, T = fun v => ige (tm (x.l.map (lim v))) s.MinTime := ⟨_, rfl⟩
 have b1 : Jce z s = hb T := by
  funext ⟨lo, hi⟩
  have key : ∀ v, Jd3 v z s = some (T v) := fun v => by
   obtain ⟨y, ey, hy⟩ := Jlw hz0 hzL v
   unfold Jd3
   rw [ey, Jj, Time_eq y (by rw [hy, An]; exact hzL) (fun o ho => by
    rw [hy] at ho
    obtain ⟨o', ho', rfl⟩ := List.mem_map.1 ho
    rw [Jus]
    exact (hc o' (by rw [← hz]; exact ho')).2), Jj, hy, hz, hT]
  simp only [Jce, hb, key, Jj]
 have b2 : Jbk x' s = hb T := by
  funext ⟨lo, hi⟩
  have key : ∀ v, ∃ y, Z9 x' v = some y ∧ Jbo y = some (tm (x.l.map (lim v))) := fun v => by
   obtain ⟨y, ey, hy⟩ := Jpu x' hxL hxc v
   refine ⟨y, ey, ?_⟩
   rw [RTime_eq y (by rw [hy, An]; exact hxL) (fun o ho => by
    rw [hy] at ho
    obtain ⟨o', ho', rfl⟩ := List.mem_map.1 ho
    exact hxc o' ho'), hy, ex, Jxt]
  obtain ⟨y, ey, et⟩ := key (iquo .i64 (iadd .i64 (iadd .i64 lo hi) 1) 2)
  simp only [Jbk, hb, ey, Jj, et, hT]
 have m1 : spd s s.MinFeed = max (s.MinFeed / s.Pitch) 1 := by unfold spd; rw [Jhr, q1.1]
 have m2 : spd s s.Feed = max (s.Feed / s.Pitch) 1 := by unfold spd; rw [Jhr, q2.1]
 obtain ⟨v, ev⟩ := hb_run T (lo := spd s s.MinFeed) (hi := spd s s.Feed) (by rw [m1]; omega) (by rw [m1]; omega) (by rw [m2]; omega)
 obtain ⟨y, ey, hy⟩ := Jlw hz0 hzL v
 obtain ⟨y', ey', hy'⟩ := Jpu x' hxL hxc v
 have p0 := Js2 sv
 refine ⟨y, y', v, ?_, ?_, by rw [hy, hz], by rw [hy', ex]⟩
 ·unfold Jcl
  rw [ez, Jj, b1]
  simp only [hv, Qx, p0, if_false, Ab]
  show J6 (Kn (hb T) bigN (spd s s.MinFeed, spd s s.Feed)) _ = _
  rw [ev, Jj, ey, Jj]
 ·unfold Jag Jc5
  rw [Js5, Jj, b2]
  simp only [hv, Qx, p0, if_false, Ab, rspd, Jj]
  rw [ev, Jj, ey', Jj]
end Go.Proofs.YtemehoioeoohmaaGreat
namespace Go.Proofs.YtemehoioeoohmaaGreat
open Go Go.Vv Go.Proofs
set_option linter.unusedSimpArgs false
set_option linter.unusedVariables false
set_option linter.unusedSectionVars false
theorem Jxp {r : Jl} (hL : Lim r) {s : Jy} (hf : Q0 s = true) {p : Ja} (hp : InR p) (x : FS Jb) (hv : ∀ t ∈ x.l, VT t) (hx : x.l.length ≤ 1000) (hd : FS J1) {i : Int} (hh : hd.l = hdr i s) (k2 : Ja) :
  ∃ w y q ops, ∃ v : Int, Kn (jc x s k2) bigN (⟨⟨hd⟩, r, s, p⟩, 0) = some w ∧ Jcl w.list.ops s = some y ∧ w.nozzle = q ∧ LayR r s p x.l ops q ∧ 1 ≤ v ∧ w.list.ops.l = hdr i s ++ ops := by
 obtain ⟨w, ops, e, hr, ho⟩ := Jvb hp hL (Jso hf) x hv hx hd (by rw [hh]; exact Ao _) k2
 have hlen := hr.len hv
 have hgood := hr.good hL hp hv
 rw [hh] at ho
 have hwl : w.list.ops.l.length = 2 + ops.length := by rw [ho, Ai]; rfl
 obtain ⟨y, v, ey, hv1, hy⟩ := Slow_ok (x := w.list.ops) hf (by omega) (by omega) (fun o h => by
  rw [ho] at h
  rcases List.mem_append.1 h with h | h
  ·exact Jxu i s o h
  ·exact ⟨(hgood o h).nice, (hgood o h).len⟩)
 exact ⟨w, y, _, ops, v, e, ey, rfl, hr, hv1, ho⟩
theorem J4v {r : Jl} (hB : Big r) (x : FS Jb) (hx : x.l.length ≤ 1000) (hc : ∀ t ∈ x.l, t.Cells.l.length ≤ 1000000) (i : Int) (p : Ja) (s : Jy) :
  (Jc9 x r i p s = some (FS.nil, ⟨0, 0⟩, 1) ∧ ¬ LayIn x r i p s) ∨
  ∃ y q ops, ∃ v : Int, Jc9 x r i p s = some (y, q, 0) ∧ LayIn x r i p s ∧ LayR r s p x.l ops q ∧ 1 ≤ v ∧ ∃ w, w.l = hdr i s ++ ops ∧ Jcl w s = some y := by
 obtain ⟨b, eb, hb⟩ := Jku r hB
 unfold Jc9
 cases hf : Q0 s with
 | false =>
  left
  refine ⟨?_, fun h => by have := h.set; rw [hf] at this; cases this⟩
  simp only [Jj, Zt, Qx, jp, Jjm, if_true]
 | true =>
  simp only [Jj, Zt, Qx, eb, Y4, Af, Jgt]
  by_cases hg : bor (bor (bor (bnot b) (ilt i 0)) (ige i 256)) (bnot (Jaw p)) = true
  ·left
   refine ⟨by rw [if_pos hg], fun h => ?_⟩
   have e1 : b = true := hb.2 h.reg
   have e2 : ilt i 0 = false := Xe (by have := h.idx; omega)
   have e3 : ige i 256 = false := by rw [← Ac, Jbg]; have := h.idx; omega
   have e4 : Jaw p = true := (J71 p).2 h.noz
   rw [e1, e2, e3, e4] at hg
   simp [bor, bnot] at hg
  ·rw [if_neg hg]
   rw [Ac] at hg
   simp only [Jj, Juu, Jqi] at hg
   obtain ⟨⟨⟨hb1, hi0⟩, hi1⟩, hp⟩ := hg
   have hreg := hb.1 hb1
   have hL := Jn0 hreg
   have hp := (J71 p).1 hp
   have i0 : 0 ≤ i := by rw [← Ac, Yj] at hi0; omega
   have i1 : i < 256 := by rw [← Ac, Jbg] at hi1; omega
   rcases Jvq x (by omega) hc i r p s with ⟨e, hn⟩ | ⟨e, hv⟩
   ·left
    exact ⟨by simp only [Jj, e], fun h => hn h.trk⟩
   ·right
    rw [e]; try rw [Jj]
    simp only [Jj, Jnk (b := ⟨⟨FS.nil⟩, r, s, p⟩) (o := ⟨1, 0, i, imul .i64 (iadd .i64 i 1) s.Height, 0, FS.nil⟩) (Bk _)]
    by_cases hpos : 0 < i
    ·have c : igt i 0 = true := Jf6 hpos
     obtain ⟨w, y, q, ops, v, el, es, hq, hr, hv1, hy⟩ := Jxp hL hf hp x hv hx (Yy (Yy FS.nil ⟨1, 0, i, imul .i64 (iadd .i64 i 1) s.Height, 0, FS.nil⟩) ⟨6, 0, 0, 0, 255, FS.nil⟩) (i := i) (by simp only [Jj, jt, hdr, if_pos hpos]; rfl) ⟨0, 0⟩
     refine ⟨y, q, ops, v, ?_, ⟨hf, hreg, ⟨i0, i1⟩, hp, hv⟩, hr, hv1, w.list.ops, hy, es⟩
     simp only [Jj, c, if_true, Jnk (b := ⟨⟨Yy FS.nil ⟨1, 0, i, imul .i64 (iadd .i64 i 1) s.Height, 0, FS.nil⟩⟩, r, s, p⟩) (o := ⟨6, 0, 0, 0, 255, FS.nil⟩) (by rw [jt]; exact Nat.le_add_left 1 999999)]
     rw [el]; try rw [Jj]
     simp only [Jj, es, hq]
    ·have c : igt i 0 = false := Jhc hpos
     obtain ⟨w, y, q, ops, v, el, es, hq, hr, hv1, hy⟩ := Jxp hL hf hp x hv hx (Yy (Yy FS.nil ⟨1, 0, i, imul .i64 (iadd .i64 i 1) s.Height, 0, FS.nil⟩) ⟨6, 0, 0, 0, 0, FS.nil⟩) (i := i) (by simp only [Jj, jt, hdr, if_neg hpos]; rfl) ⟨0, 0⟩
     refine ⟨y, q, ops, v, ?_, ⟨hf, hreg, ⟨i0, i1⟩, hp, hv⟩, hr, hv1, w.list.ops, hy, es⟩
     simp only [Jj, c, if_false, Ab, Jnk (b := ⟨⟨Yy FS.nil ⟨1, 0, i, imul .i64 (iadd .i64 i 1) s.Height, 0, FS.nil⟩⟩, r, s, p⟩) (o := ⟨6, 0, 0, 0, 0, FS.nil⟩) (by rw [jt]; exact Nat.le_add_left 1 999999)]
     rw [el]; try rw [Jj]
     simp only [Jj, es, hq]
theorem Jra (c : Ja) : Qr c = true ↔ InR c := by
 simp only [Qr, zd, Jbg, Yj, InR]; omega
theorem J48 {r : Jl} (hB : Big r) (x : FS Jb) (hx : x.l.length ≤ 1000) (hc : ∀ t ∈ x.l, t.Cells.l.length ≤ 1000000) {i : Int} {p : Ja} {s : Jy} (h : ¬ LayIn x r i p s) :
  zj x r i p s = some (FS.nil, ⟨0, 0⟩, 1) := by
 obtain ⟨b, eb, hb⟩ := Jhg r hB
 unfold zj
 rw [Js5, Jj]
 cases hf : Q0 s with
 | false => simp only [Jj, Zt, Qx, jp, Jjm, if_true]
 | true =>
  simp only [Jj, Zt, Qx, eb, Y4, Af, Jgt]
  by_cases hg : bor (bor (bor (bnot b) (ilt i 0)) (ige i 256)) (bnot (Qr p)) = true
  ·rw [if_pos hg]
  ·rw [if_neg hg]
   rw [Ac] at hg
   simp only [Juu, Jqi] at hg
   obtain ⟨⟨⟨hb1, hi0⟩, hi1⟩, hp⟩ := hg
   have i0 : 0 ≤ i := by rw [← Ac, Yj] at hi0; omega
   have i1 : i < 256 := by rw [← Ac, Jbg] at hi1; omega
   rcases J5b x (by omega) hc i r p s with ⟨e, hn⟩ | ⟨e, hv⟩
   ·simp only [e, Jj]
   ·exact (h ⟨hf, hb.1 hb1, ⟨i0, i1⟩, (Jra p).1 hp, hv⟩).elim
theorem Jzs {r : Jl} (hB : Big r) (x : FS Jb) (hx : x.l.length ≤ 1000) (hc : ∀ t ∈ x.l, t.Cells.l.length ≤ 1000000) {i : Int} {p q : Ja} {s : Jy} (h : LayIn x r i p s) {ops : List J1} (hr : LayR r s p x.l ops q) {w : FS J1} (hw : w.l = hdr i s ++ ops) :
  ∃ y y' v, Jcl w s = some y ∧ zj x r i p s = some (y', q, 0) ∧ y.l = w.l.map (lim v) ∧ y'.l = w.l.map (rlim v) ∧ w.l.length ≤ 1000000 ∧ ∀ o ∈ w.l, o.Cells.l.length ≤ 100000000 := by
 obtain ⟨b, eb, hb⟩ := Jhg r hB
 have hL := Jn0 h.reg
 have hs := Jso h.set
 have hlen := hr.len h.trk
 have hgood := hr.good hL h.noz h.trk
 have hwl : w.l.length = 2 + ops.length := by rw [hw, Ai]; rfl
 have hcc : ∀ o ∈ w.l, Nice o.Cells ∧ o.Cells.l.length ≤ 100000000 := fun o ho => by
  rw [hw] at ho
  rcases List.mem_append.1 ho with ho | ho
  ·exact Jxu i s o ho
  ·exact ⟨(hgood o ho).nice, (hgood o ho).len⟩
 have c1 : ilt i 0 = false := Xe (by have := h.idx; omega)
 have c2 : ige i 256 = false := by rw [← Ac, Jbg]; have := h.idx; omega
 have c3 : Qr p = true := (Jra p).2 h.noz
 have c4 : b = true := hb.2 h.reg
 rcases J5b x (by omega) hc i r p s with ⟨e, hn⟩ | ⟨e, -⟩
 ·exact (hn h.trk).elim
 ·have main : ∀ hd : FS J1, hd.l = hdr i s → ∃ z y y' v, Kn (Q7 x r s ⟨0, 0⟩) bigN (hd, p, 0) = some (q, z) ∧ Jcl w s = some y ∧ Jag (flst z) s = some y' ∧ y.l = w.l.map (lim v) ∧ y'.l = w.l.map (rlim v) := fun hd hh => by
   obtain ⟨z, ez, hz⟩ := rgroups hL hs x h.trk hx h.noz hd (by rw [hh]; exact Ao _) hr ⟨0, 0⟩
   obtain ⟨y, y', v, a1, a2, a3, a4⟩ := J9c (x := w) (x' := flst z) (by rw [Jkr, hz, hh, hw]) h.set (by omega) (by omega) hcc
   exact ⟨z, y, y', v, ez, a1, a2, a3, a4⟩
  unfold zj
  rw [Js5, Jj]
  simp only [h.set, Jj, Zt, Qx, eb, Y4, Af, Jgt, c1, c2, c3, c4, if_false, Ab, e]
  by_cases hi : i = 0
  ·obtain ⟨z, y, y', v, a1, a2, a3, a4, a5⟩ := main (flit ([(⟨1, 0, i, (imul .i64 (iadd .i64 i 1) s.Height), 0, FS.nil⟩ : J1), (⟨6, 0, 0, 0, 0, FS.nil⟩ : J1)] : List J1)) (by rw [Je1, hdr, if_neg (by omega)])
   refine ⟨y, y', v, a2, ?_, a4, a5, by omega, fun o ho => (hcc o ho).2⟩
   rw [if_pos (Jdo.2 hi), a1, Jj]
   simp only [a3, Jj]
  ·obtain ⟨z, y, y', v, a1, a2, a3, a4, a5⟩ := main (flit ([(⟨1, 0, i, (imul .i64 (iadd .i64 i 1) s.Height), 0, FS.nil⟩ : J1), (⟨6, 0, 0, 0, 255, FS.nil⟩ : J1)] : List J1)) (by rw [Je1, hdr, if_pos (by have := h.idx; omega)])
   refine ⟨y, y', v, a2, ?_, a4, a5, by omega, fun o ho => (hcc o ho).2⟩
   rw [if_neg (fun g => hi (Jdo.1 g)), a1, Jj]
   simp only [a3, Jj]
theorem Jz8 {a b : J1} (h : a.Cells.l = b.Cells.l) (hl : a.Cells.l.length ≤ 100000000) (k0 k1 : FS J1) (k2 : Int) : Kn (X7 k0 k1 k2 a b) bigN 0 = some (.inr ()) := by
 obtain ⟨r, e, rfl⟩ := Qe (body := X7 k0 k1 k2 a b) (fun s => ∃ n : Nat, s = n ∧ n ≤ a.Cells.l.length) (fun s => (a.Cells.l.length - s).toNat) (fun r => r = .inr ())
  (by
   rintro s ⟨n, rfl, hn⟩
   by_cases hlt : n < a.Cells.l.length
   ·left
    have c : ilt (n : Int) (flen a.Cells) = true := Xg (by rw [Jp]; omega)
    have g1 := Ku hlt
    have g2 := Ku (x := b.Cells) (i := n) (by rw [← h]; exact hlt)
    have he : b.Cells.l[n]'(by rw [← h]; exact hlt) = a.Cells.l[n] := by simp only [h]
    rw [he] at g2
    have cq : band (ieq (a.Cells.l[n]).X (a.Cells.l[n]).X) (band (ieq (a.Cells.l[n]).Y (a.Cells.l[n]).Y) true) = true := (Jrs _ _).2 rfl
    exact ⟨((n + 1 : Nat) : Int), by simp only [X7, c, if_true, g1, g2, Jj, cq, Qx, if_false, Ab, zx (i := n) (by omega)], ⟨n + 1, rfl, hlt⟩, by omega⟩
   ·right
    have c : ilt (n : Int) (flen a.Cells) = false := Xe (by rw [Jp]; omega)
    exact ⟨.inr (), by simp only [X7, c, if_false, Ab], rfl⟩)
  bigN 0 ⟨0, rfl, by omega⟩ (Qk (by omega))
 exact e
theorem Jrz (x y : FS J1) (hlen : x.l.length = y.l.length) (hL : x.l.length ≤ 1000000) (h : ∀ (i : Nat) a b, x.l[i]? = some a → y.l[i]? = some b → Alike a b ∧ a.Cells.l.length ≤ 100000000) : Jbd x y = some true := by
 obtain ⟨r, e, rfl⟩ := Qe (body := Zy x y) (fun s => ∃ n : Nat, s = n ∧ n ≤ x.l.length) (fun s => (x.l.length - s).toNat) (fun r => r = .inr ())
  (by
   rintro s ⟨n, rfl, hn⟩
   by_cases hlt : n < x.l.length
   ·left
    have c : ilt (n : Int) (flen x) = true := Xg (by rw [Jp]; omega)
    have g1 := Ku hlt
    have g2 := Ku (x := y) (i := n) (by omega)
    obtain ⟨ha, hl⟩ := h n _ _ (Aa hlt) (Aa (by omega))
    have ne : ∀ u v : Int, u = v → ine u v = false := fun u v e => by rw [← Ac, Jgz]; exact fun g => g e
    have el := Jz8 ha.c hl x y (n : Int)
    exact ⟨((n + 1 : Nat) : Int), by simp only [Zy, c, if_true, g1, g2, Jj, ne _ _ ha.k, ne _ _ ha.r, ne _ _ ha.y, ne _ _ ha.z, ne _ _ ha.s, ne _ _ (show flen (x.l[n]).Cells = flen (y.l[n]'(by omega)).Cells by rw [Jp, Jp, ha.c]), Jgt, if_false, Ab, el, zx (i := n) (by omega)], ⟨n + 1, rfl, hlt⟩, by omega⟩
   ·right
    have c : ilt (n : Int) (flen x) = false := Xe (by rw [Jp]; omega)
    exact ⟨.inr (), by simp only [Zy, c, if_false, Ab], rfl⟩)
  bigN 0 ⟨0, rfl, by omega⟩ (Qk (by omega))
 have c : ine (flen x) (flen y) = false := by rw [← Ac, Jgz, Jp, Jp]; omega
 unfold Jbd
 rw [c, if_neg (by simp), e, Jj]
theorem Jwa (p : Zk) (s : Jy) (hB : Big p.Region) : Jaj p s = some true := by
 obtain ⟨b, eb, hb⟩ := few_ok p hB
 unfold Jaj
 rw [eb, Jj]
 cases b with
 | false => simp only [Zt, if_true, Ja6]
 | true =>
  obtain ⟨f1, f2⟩ := hb rfl
  have hx : p.Tracks.l.length ≤ 1000 := by omega
  have hc : ∀ t ∈ p.Tracks.l, t.Cells.l.length ≤ 1000000 := fun t ht => by have := f2 t ht; omega
  simp only [Qx, if_false, Ab]
  have qq : ∀ c : Ja, band (ieq c.X c.X) (band (ieq c.Y c.Y) true) = true := fun c => (Jrs _ _).2 rfl
  rcases J4v hB p.Tracks hx hc p.Index p.From s with ⟨e, hn⟩ | ⟨y, q, ops, v, e, hi, hr, -, w, hw, es⟩
  ·have e2 := J48 hB p.Tracks hx hc hn
   have e3 := Jrz FS.nil FS.nil rfl (by simp [FS.l]) (fun i a b ha => by simp [FS.l] at ha)
   rw [e, Jj, e2, Jj]
   simp only [e3, Jj, qq, Jlb (rfl : (1 : Int) = 1), Jlb (rfl : (0 : Int) = 0), Ja6, Jdr]
  ·obtain ⟨y1, y', v, a1, a2, a3, a4, a5, a6⟩ := Jzs hB p.Tracks hx hc hi hr hw
   rw [es] at a1
   cases a1
   have e3 := Jrz y y' (by rw [a3, a4, An, An]) (by rw [a3, An]; exact a5) (fun i a b ha hb => by
    rw [a3, Bd] at ha
    rw [a4, Bd] at hb
    cases ho : w.l[i]? with
    | none => rw [ho] at ha; cases ha
    | some o =>
     rw [ho] at ha hb
     cases ha; cases hb
     exact ⟨Juf v o, by rw [Jus]; exact a6 o (Ag ho)⟩)
   rw [e, Jj, a2, Jj]
   simp only [e3, Jj, qq, Jlb (rfl : (0 : Int) = 0), Ja6, Jdr]
end Go.Proofs.YtemehoioeoohmaaGreat
namespace Go.Proofs.YtemehoioeoohmaaGreat
open Go Go.Vv Go.Proofs
set_option linter.unusedVariables false
set_option linter.unusedSectionVars false
def Jru : List CSh := [.i .i64, .i .i64]
def shRow : List CSh := [.i .i64, .sl Jru]
def Jvd : List CSh := [.i .i64, .b, .sl Jru]
def J9i : List CSh := [.sl Jvd, .sl shRow, .i .i64, .i .i64, .i .i64]
def shSet : List CSh := [.i .i64, .i .i64, .i .i64, .i .i64, .i .i64, .i .i64, .i .i64, .b, .i .i64, .i .i64, .i .i64, .i .i64, .i .i64, .i .i64, .i .i64, .i .i64, .i .i64, .i .i64, .i .i64, .i .i64]
theorem Jnd {y : AV} (h : OfS (.i .i64) y) : ∃ n, y = .int .i64 n := by
 cases h with
 | int _ n _ => exact ⟨n, rfl⟩
theorem Jvm {W : World} {S : Nat → Prop} {L : List AV} {cs : List Value} (h : Reads W S shSet L cs) : ∃ s : Jy, L = Jge s := by
 unfold shSet at h
 rcases h with _ | ⟨⟨_⟩ | ⟨_, n0, w0⟩, -, -, h⟩
 rcases h with _ | ⟨⟨_⟩ | ⟨_, n1, w1⟩, -, -, h⟩
 rcases h with _ | ⟨⟨_⟩ | ⟨_, n2, w2⟩, -, -, h⟩
 rcases h with _ | ⟨⟨_⟩ | ⟨_, n3, w3⟩, -, -, h⟩
 rcases h with _ | ⟨⟨_⟩ | ⟨_, n4, w4⟩, -, -, h⟩
 rcases h with _ | ⟨⟨_⟩ | ⟨_, n5, w5⟩, -, -, h⟩
 rcases h with _ | ⟨⟨_⟩ | ⟨_, n6, w6⟩, -, -, h⟩
 rcases h with _ | ⟨⟨p⟩ | _, -, -, h⟩
 rcases h with _ | ⟨⟨_⟩ | ⟨_, n8, w8⟩, -, -, h⟩
 rcases h with _ | ⟨⟨_⟩ | ⟨_, n9, w9⟩, -, -, h⟩
 rcases h with _ | ⟨⟨_⟩ | ⟨_, n10, w10⟩, -, -, h⟩
 rcases h with _ | ⟨⟨_⟩ | ⟨_, n11, w11⟩, -, -, h⟩
 rcases h with _ | ⟨⟨_⟩ | ⟨_, n12, w12⟩, -, -, h⟩
 rcases h with _ | ⟨⟨_⟩ | ⟨_, n13, w13⟩, -, -, h⟩
 rcases h with _ | ⟨⟨_⟩ | ⟨_, n14, w14⟩, -, -, h⟩
 rcases h with _ | ⟨⟨_⟩ | ⟨_, n15, w15⟩, -, -, h⟩
 rcases h with _ | ⟨⟨_⟩ | ⟨_, n16, w16⟩, -, -, h⟩
 rcases h with _ | ⟨⟨_⟩ | ⟨_, n17, w17⟩, -, -, h⟩
 rcases h with _ | ⟨⟨_⟩ | ⟨_, n18, w18⟩, -, -, h⟩
 rcases h with _ | ⟨⟨_⟩ | ⟨_, n19, w19⟩, -, -, h⟩
 cases h
 exact ⟨⟨n0, n1, n2, n3, n4, n5, n6, p, n8, n9, n10, n11, n12, n13, n14, n15, n16, n17, n18, n19⟩, rfl⟩
theorem Jr1 : ∀ (n : Nat) (L : List AV), L.length = n * 2 → (∀ i j x y, i < n → Jru[j]? = some x → L[i * 2 + j]? = some y → OfS x y) → ∃ l : List Ja, L = Jn Jf l ∧ l.length = n
 | 0, L, hl, _ => by
  rw [Bf] at hl
  exact ⟨[], by rw [Am.1 hl]; rfl, rfl⟩
 | n + 1, L, hl, h => by
  match L, hl, h with
  | a :: b :: R, hl, h =>
   obtain ⟨a', rfl⟩ := Jnd (h 0 0 _ a (by omega) rfl rfl)
   obtain ⟨b', rfl⟩ := Jnd (h 0 1 _ b (by omega) rfl rfl)
   obtain ⟨l, e1, e2⟩ := Jr1 n R (by simp only [Ae] at hl; omega) (fun i j x y hi hx hy => h (i + 1) j x y (by omega) hx (by
    have : (i + 1) * 2 + j = (i * 2 + j) + 2 := by omega
    rw [this]; try rw [Jj]
    exact hy))
   exact ⟨⟨a', b'⟩ :: l, by rw [e1]; rfl, by rw [Ae, e2]⟩
  | [], hl, _ => simp at hl
  | [_], hl, _ => simp at hl; omega
theorem cells_of {y : AV} (h : OfS (.sl Jru) y) : ∃ x : FS Ja, y = encF Jf x := by
 cases h with
 | nils => exact ⟨.nil, rfl⟩
 | lst _ n L hl hn hh =>
  obtain ⟨l, rfl, e2⟩ := Jr1 n L hl hh
  subst e2
  exact ⟨.lst l, rfl⟩
theorem Juv : ∀ (n : Nat) (L : List AV), L.length = n * 2 → (∀ i j x y, i < n → Jru[j]? = some x → L[i * 2 + j]? = some y → OfS x y) → ∃ l : List Kk, L = Jn Xn l ∧ l.length = n
 | 0, L, hl, _ => by
  rw [Bf] at hl
  exact ⟨[], by rw [Am.1 hl]; rfl, rfl⟩
 | n + 1, L, hl, h => by
  match L, hl, h with
  | a :: b :: R, hl, h =>
   obtain ⟨a', rfl⟩ := Jnd (h 0 0 _ a (by omega) rfl rfl)
   obtain ⟨b', rfl⟩ := Jnd (h 0 1 _ b (by omega) rfl rfl)
   obtain ⟨l, e1, e2⟩ := Juv n R (by simp only [Ae] at hl; omega) (fun i j x y hi hx hy => h (i + 1) j x y (by omega) hx (by
    have : (i + 1) * 2 + j = (i * 2 + j) + 2 := by omega
    rw [this]; try rw [Jj]
    exact hy))
   exact ⟨⟨a', b'⟩ :: l, by rw [e1]; rfl, by rw [Ae, e2]⟩
  | [], hl, _ => simp at hl
  | [_], hl, _ => simp at hl; omega
theorem J20 : maxLen = 9223372036854775807 := rfl
theorem runs_of {y : AV} (h : OfS (.sl Jru) y) : ∃ x : FS Kk, y = encF Xn x ∧ x.l.length ≤ 9223372036854775807 := by
 cases h with
 | nils => exact ⟨.nil, rfl, Bk _⟩
 | lst _ n L hl hn hh =>
  obtain ⟨l, rfl, e2⟩ := Juv n L hl hh
  subst e2
  exact ⟨.lst l, rfl, by rw [← J20]; exact hn⟩
theorem Jta : ∀ (n : Nat) (L : List AV), L.length = n * 2 → (∀ i j x y, i < n → shRow[j]? = some x → L[i * 2 + j]? = some y → OfS x y) → ∃ l : List Jaf, L = Jn Jq l ∧ l.length = n ∧ ∀ w ∈ l, w.Runs.l.length ≤ 9223372036854775807
 | 0, L, hl, _ => by
  rw [Bf] at hl
  exact ⟨[], by rw [Am.1 hl]; rfl, rfl, fun w h => by cases h⟩
 | n + 1, L, hl, h => by
  match L, hl, h with
  | a :: b :: R, hl, h =>
   obtain ⟨a', rfl⟩ := Jnd (h 0 0 _ a (by omega) rfl rfl)
   obtain ⟨b', rfl, hb⟩ := runs_of (h 0 1 _ b (by omega) rfl rfl)
   obtain ⟨l, e1, e2, e3⟩ := Jta n R (by simp only [Ae] at hl; omega) (fun i j x y hi hx hy => h (i + 1) j x y (by omega) hx (by
    have : (i + 1) * 2 + j = (i * 2 + j) + 2 := by omega
    rw [this]; try rw [Jj]
    exact hy))
   exact ⟨⟨a', b'⟩ :: l, by rw [e1]; rfl, by rw [Ae, e2], fun w hw => by
    rcases List.mem_cons.1 hw with rfl | hw
    ·exact hb
    ·exact e3 w hw⟩
  | [], hl, _ => simp at hl
  | [_], hl, _ => simp at hl; omega
theorem rows_of {y : AV} (h : OfS (.sl shRow) y) : ∃ x : FS Jaf, y = encF Jq x ∧ Big ⟨x⟩ := by
 cases h with
 | nils => exact ⟨.nil, rfl, Bk _, fun w h => by cases h⟩
 | lst _ n L hl hn hh =>
  obtain ⟨l, rfl, e2, e3⟩ := Jta n L hl hh
  subst e2
  exact ⟨.lst l, rfl, by rw [← J20]; exact hn, e3⟩
theorem bool_of {y : AV} (h : OfS .b y) : ∃ b, y = .bool b := by
 cases h with
 | bool b => exact ⟨b, rfl⟩
theorem Jpz : ∀ (n : Nat) (L : List AV), L.length = n * 3 → (∀ i j x y, i < n → Jvd[j]? = some x → L[i * 3 + j]? = some y → OfS x y) → ∃ l : List Jb, L = Jn Jc l ∧ l.length = n
 | 0, L, hl, _ => by
  rw [Bf] at hl
  exact ⟨[], by rw [Am.1 hl]; rfl, rfl⟩
 | n + 1, L, hl, h => by
  match L, hl, h with
  | a :: b :: c :: R, hl, h =>
   obtain ⟨a', rfl⟩ := Jnd (h 0 0 _ a (by omega) rfl rfl)
   obtain ⟨b', rfl⟩ := bool_of (h 0 1 _ b (by omega) rfl rfl)
   obtain ⟨c', rfl⟩ := cells_of (h 0 2 _ c (by omega) rfl rfl)
   obtain ⟨l, e1, e2⟩ := Jpz n R (by simp only [Ae] at hl; omega) (fun i j x y hi hx hy => h (i + 1) j x y (by omega) hx (by
    have : (i + 1) * 3 + j = (i * 3 + j) + 3 := by omega
    rw [this]; try rw [Jj]
    exact hy))
   exact ⟨⟨a', b', c'⟩ :: l, by rw [e1]; rfl, by rw [Ae, e2]⟩
  | [], hl, _ => simp at hl
  | [_], hl, _ => simp at hl; omega
  | [_, _], hl, _ => simp at hl; omega
theorem J6d {y : AV} (h : OfS (.sl Jvd) y) : ∃ x : FS Jb, y = encF Jc x := by
 cases h with
 | nils => exact ⟨.nil, rfl⟩
 | lst _ n L hl hn hh =>
  obtain ⟨l, rfl, e2⟩ := Jpz n L hl hh
  subst e2
  exact ⟨.lst l, rfl⟩
theorem plan_of {W : World} {S : Nat → Prop} {L : List AV} {cs : List Value} (h : Reads W S J9i L cs) : ∃ p : Zk, L = [encF Jc p.Tracks, encF Jq p.Region.Rows, .int .i64 p.Index, .int .i64 p.From.X, .int .i64 p.From.Y] ∧ Big p.Region := by
 unfold J9i at h
 rcases h with _ | ⟨o0, -, -, h⟩
 rcases h with _ | ⟨o1, -, -, h⟩
 rcases h with _ | ⟨o2, -, -, h⟩
 rcases h with _ | ⟨o3, -, -, h⟩
 rcases h with _ | ⟨o4, -, -, h⟩
 cases h
 obtain ⟨t, rfl⟩ := J6d o0
 obtain ⟨r, rfl, hB⟩ := rows_of o1
 obtain ⟨i, rfl⟩ := Jnd o2
 obtain ⟨x, rfl⟩ := Jnd o3
 obtain ⟨y, rfl⟩ := Jnd o4
 exact ⟨⟨t, ⟨r⟩, i, ⟨x, y⟩⟩, rfl, hB⟩
end Go.Proofs.YtemehoioeoohmaaGreat
