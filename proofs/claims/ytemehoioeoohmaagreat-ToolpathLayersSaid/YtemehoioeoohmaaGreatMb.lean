/- Toolpath: valid tracks, their reversal and rotation, in plain Lean. Conditions: none. -/
import Derived.Test.YtemehoioeoohmaaGreatMa
open List renaming getElem?_eq_getElem → Aa, mem_of_getElem? → Ac, getElem?_eq_some_iff → Ad, length_drop → Ae, getElem_mem → Af, length_take → Ag, length_reverse → Ah, length_map → Ai, getElem?_append_right → Aj, getElem?_append_left → Ak, mem_of_mem_drop → Al, mem_of_mem_take → Am, getElem?_take → Ao, take_append_drop → Ap, length_append → Aq, take_succ_eq_append_getElem → Ar, getElem?_reverse → As, getElem?_drop → At, drop_eq_getElem_cons → Au, reverse_perm → Av, append_assoc → Aw, length_range → Ax, getElem?_set → Az, mem_of_mem_eraseIdx → Ba, mem_append → Bd, take_of_length_le → Be, length_nil → Bf, length_set → Bg, perm_append_comm → Bi, getElem?_of_mem → Bj, flatMap_append → Bk, range → Bl
open Bool renaming false_eq_true → Ab, not_eq_true → An
open Int renaming toNat_natCast → Ay, add_zero → Bc
open Nat renaming mod_eq_of_lt → Bb, le_refl → Bh
namespace Go.Proofs.YtemehoioeoohmaaGreat
open Go Go.Vv Go.Proofs
set_option linter.unusedSimpArgs false
set_option linter.unusedVariables false
set_option linter.unusedSectionVars false
theorem Jxj {x : Int} (h0 : -8191 ≤ x) (h1 : x ≤ 8191) : 0 ≤ x * x ∧ x * x ≤ 67092481 := by
 have h2 : x.natAbs ≤ 8191 := by omega
 have h3 : x * x = ((x.natAbs * x.natAbs : Nat) : Int) := by rw [Int.natCast_mul]; exact Int.natAbs_mul_self.symm
 have h4 : x.natAbs * x.natAbs ≤ 8191 * 8191 := Nat.mul_le_mul h2 h2
 rw [h3]; omega
def nb (a b : Ja) : Prop := Q3 a b = true
theorem Jwx {a b : Ja} (ha : InR a) (hb : InR b) : nb a b ↔ (a.X - b.X) * (a.X - b.X) + (a.Y - b.Y) * (a.Y - b.Y) = 1 := by
 obtain ⟨a1, a2, a3, a4⟩ := ha
 obtain ⟨b1, b2, b3, b4⟩ := hb
 have s1 := Jxj (x := a.X - b.X) (by omega) (by omega)
 have s2 := Jxj (x := a.Y - b.Y) (by omega) (by omega)
 unfold nb Q3
 rw [Xc (a := a.X) (b := b.X) (by omega) (by omega), Xc (a := a.Y) (b := b.Y) (by omega) (by omega), Jsz (a := a.X - b.X) (b := a.X - b.X) (by omega) (by omega), Jsz (a := a.Y - b.Y) (b := a.Y - b.Y) (by omega) (by omega),
  zt (by omega) (by omega), Jdo]
theorem J95 {a b : Ja} (ha : InR a) (hb : InR b) (h : nb a b) : nb b a := by
 rw [Jwx ha hb] at h
 rw [Jwx hb ha, show b.X - a.X = -(a.X - b.X) by omega, show b.Y - a.Y = -(a.Y - b.Y) by omega, Int.neg_mul_neg, Int.neg_mul_neg]
 exact h
theorem Jss (c : Ja) : zu c = true ↔ InR c := by
 unfold InR; simp only [Je, zu, zd, Jbg, Yj]; exact ⟨fun h => ⟨h.1.1.1, h.1.1.2, h.1.2, h.2⟩, fun h => ⟨⟨⟨h.1, h.2.1⟩, h.2.2.1⟩, h.2.2.2⟩⟩
def Chn (l : List Ja) : Prop := ∀ (i : Nat) (a b : Ja), l[i]? = some a → l[i + 1]? = some b → nb a b
structure VT (t : Jb) : Prop where
 role : 1 ≤ t.Role ∧ t.Role ≤ 7
 len : 1 ≤ t.Cells.l.length ∧ t.Cells.l.length ≤ 65536
 inr : ∀ c ∈ t.Cells.l, InR c
 chn : Chn t.Cells.l
 cls : t.Closed = true → t.Cells.l.length ≠ 1 → ∀ a b, t.Cells.l[t.Cells.l.length - 1]? = some a → t.Cells.l[0]? = some b → nb a b
def GoodC (l : List Ja) (i : Nat) : Prop := ∀ c, l[i]? = some c → InR c ∧ ∀ p, 0 < i → l[i - 1]? = some p → nb p c
theorem Jnr {l : List Ja} : (∀ i, i < l.length → GoodC l i) ↔ (∀ c ∈ l, InR c) ∧ Chn l := by
 refine ⟨fun h => ⟨fun c hc => ?_, fun i a b ha hb => ?_⟩, fun ⟨h1, h2⟩ i hi c hc => ⟨h1 c (Ac hc), fun p h0 hp => ?_⟩⟩
 ·obtain ⟨i, hi, e⟩ := List.getElem_of_mem hc
  exact (h i hi c (by rw [Aa hi, e])).1
 ·exact (h (i + 1) (Ad.1 hb).1 b hb).2 a (by omega) (by simpa using ha)
 ·exact h2 (i - 1) p c hp (by rw [show i - 1 + 1 = i by omega]; exact hc)
theorem Jl7 (t : Jb) (hL : t.Cells.l.length ≤ 1000000) : ∃ b, Jcr t = some b ∧ (b = true ↔ VT t) := by
 unfold Jcr
 by_cases hc : bor (bor (bor (ilt t.Role 1) (igt t.Role 7)) (ilt (flen t.Cells) 1)) (igt (flen t.Cells) 65536) = true
 ·refine ⟨false, by rw [if_pos hc], by simp, fun h => ?_⟩
  exfalso
  rw [Yi, Yi, Yi, Yj, Jd4, Yj, Jd4, Jp] at hc
  have h1 := h.role; have h2 := h.len
  omega
 ·rw [if_neg hc]
  rw [Yi, Yi, Yi, Yj, Jd4, Yj, Jd4, Jp] at hc
  obtain ⟨x, e, hr⟩ := Jgf (Jbu t (flen t.Cells) t.Cells (flen t.Cells)) t.Cells.l.length (by omega) (fun i => GoodC t.Cells.l i) (fun _ => .inl false) (.inr ())
   (fun i hi hg => by
    have g1 := Ku hi
    have c1 : ilt (i : Int) (flen t.Cells) = true := Xg (by rw [Jp]; omega)
    by_cases h0 : 0 < i
    ·have g2 := Jia h0 hi (by omega)
     have c2 : igt (i : Int) 0 = true := Jf6 (by omega)
     by_cases hgr : zu t.Cells.l[i] = true
     ·refine jd (bnot (Q3 (t.Cells.l[i - 1]'(by omega)) t.Cells.l[i])) ?_ ?_
      ·rw [Jbj]; try rw [Je]
       refine ⟨fun h1 h2 => h1 ((h2 _ (Aa hi)).2 _ h0 (Aa (by omega))), fun h1 h2 => h1 fun c hc => ?_⟩
       rw [Aa hi] at hc
       cases hc
       refine ⟨(Jss _).1 hgr, fun p _ hp => ?_⟩
       rw [Aa (by omega)] at hp
       cases hp
       exact h2
      ·simp only [Je, Jbu, c1, if_true, g1, hgr, Qx, Zt, Jdr, c2, g2, Y4, Option.getD_some, Jgt, zx (i := i) (by omega)]
     ·rw [An] at hgr
      refine jd true ⟨fun _ h2 => ?_, fun _ => rfl⟩ ?_
      ·have := (Jss _).2 (h2 _ (Aa hi)).1
       rw [hgr] at this; cases this
      ·simp only [Je, Jbu, c1, if_true, g1, hgr, Zt, Qx, Jd5, jp, Jjm, c2]
    ·have c2 : igt (i : Int) 0 = false := Jhc (by omega)
     refine jd (bnot (zu t.Cells.l[i])) ?_ ?_
     ·rw [Jbj, Jss]
      refine ⟨fun h1 h2 => h1 (h2 _ (Aa hi)).1, fun h1 h2 => h1 fun c hc => ?_⟩
      rw [Aa hi] at hc
      cases hc
      exact ⟨h2, fun p h3 => (h0 h3).elim⟩
     ·have hb : ∀ x y, bor x (band false y) = x := fun x y => by cases x <;> rfl
      simp only [Je, Jbu, c1, if_true, g1, c2, Jfy, jp, hb, zx (i := i) (by omega)])
   (fun _ => by
    have c1 : ilt ((t.Cells.l.length : Nat) : Int) (flen t.Cells) = false := Xe (by rw [Jp]; omega)
    simp only [Je, Jbu, c1, if_false, Ab])
  rw [e]; try rw [Je]
  rcases hr with ⟨rfl, hall⟩ | ⟨i, hi, rfl, hn, -⟩
  ·obtain ⟨k1, k2⟩ := Jnr.1 hall
   have hpos : 0 < t.Cells.l.length := by omega
   have gl : fget t.Cells (isub .i64 (flen t.Cells) 1) = some (t.Cells.l[t.Cells.l.length - 1]'(by omega)) := by
    rw [Xc (by rw [Jp]; omega) (by rw [Jp]; omega), Jp, show (t.Cells.l.length : Int) - 1 = ((t.Cells.l.length - 1 : Nat) : Int) by omega]
    exact Ku (by omega)
   have gf : fget t.Cells 0 = some (t.Cells.l[0]) := Ku (i := 0) hpos
   simp only [Je, gl, gf]
   have base : ∀ b, (b = true ↔ (t.Closed = true → t.Cells.l.length ≠ 1 → nb (t.Cells.l[t.Cells.l.length - 1]'(by omega)) t.Cells.l[0])) → (b = true ↔ VT t) := fun b hb => by
    rw [hb]; try rw [Je]
    refine ⟨fun h => ⟨by omega, by omega, k1, k2, fun c1 c2 a b ha hb => ?_⟩, fun h c1 c2 => h.cls c1 c2 _ _ (Aa (by omega)) (Aa hpos)⟩
    rw [Aa (by omega)] at ha hb
    cases ha; cases hb
    exact h c1 c2
   by_cases hcl : t.Closed = true
   ·by_cases h1 : t.Cells.l.length = 1
    ·have e1 : ieq (flen t.Cells) 1 = true := Jlb (by rw [Jp]; omega)
     refine ⟨true, by simp only [Je, hcl, e1, Qx, Jgt, Qx, jp, Jjm], base true ⟨fun _ _ h => (h h1).elim, fun _ => rfl⟩⟩
    ·have e1 : ieq (flen t.Cells) 1 = false := Jg9 (by rw [Jp]; omega)
     refine ⟨Q3 (t.Cells.l[t.Cells.l.length - 1]'(by omega)) t.Cells.l[0], by simp only [Je, hcl, e1, Qx, Jgt, Zt, Y4, Option.getD_some], base _ ⟨fun h _ _ => h, fun h => h hcl h1⟩⟩
   ·rw [An] at hcl
    refine ⟨true, by simp only [Je, hcl, Zt, Jjm, Qx, jp], base true ⟨fun _ h => (by rw [hcl] at h; cases h), fun _ => rfl⟩⟩
  ·refine ⟨false, rfl, by simp, fun h => ?_⟩
   exact (hn (Jnr.2 ⟨h.inr, h.chn⟩ i hi)).elim
theorem VT.valid {t : Jb} (h : VT t) : Jcr t = some true := by
 obtain ⟨b, e, hb⟩ := Jl7 t (by have := h.len; omega)
 rw [e, hb.2 h]
theorem Chn.reverse {l : List Ja} (hi : ∀ c ∈ l, InR c) (h : Chn l) : Chn l.reverse := by
 intro i a b ha hb
 have h1 := (Ad.1 hb).1
 rw [Ah] at h1
 rw [As (by omega)] at ha hb
 have hb' : l[l.length - 1 - (i + 1)]? = some b := hb
 exact J95 (hi b (Ac hb)) (hi a (Ac ha)) (h _ b a hb' (by rw [show l.length - 1 - (i + 1) + 1 = l.length - 1 - i by omega]; exact ha))
theorem VT.rev {t : Jb} (h : VT t) {x : FS Ja} (hx : x.l = t.Cells.l.reverse) : VT ⟨t.Role, t.Closed, x⟩ := by
 refine ⟨h.role, by simp only [Je, hx, Ah]; exact h.len, fun c hc => h.inr c (by simpa [hx] using hc), by simp only [Je, hx]; exact h.chn.reverse h.inr, fun c1 c2 a b ha hb => ?_⟩
 simp only [Je, hx, Ah] at c2 ha hb
 have hl := h.len
 rw [As (by omega)] at ha hb
 have ha' : t.Cells.l[0]? = some a := by rw [← ha]; congr 1; omega
 exact J95 (h.inr b (Ac hb)) (h.inr a (Ac ha)) (h.cls c1 c2 b a (by rw [← hb]; congr 1) ha')
theorem VT.copy {t : Jb} (h : VT t) {x : FS Ja} (hx : x.l = t.Cells.l) : VT ⟨t.Role, t.Closed, x⟩ :=
 ⟨h.role, by simp only [Je, hx]; exact h.len, by simp only [Je, hx]; exact h.inr, by simp only [Je, hx]; exact h.chn, by simp only [Je, hx]; exact h.cls⟩
theorem VT.rot {t : Jb} (h : VT t) (hc : t.Closed = true) {k : Nat} (hk : k < t.Cells.l.length) {x : FS Ja} (hx : x.l = t.Cells.l.drop k ++ t.Cells.l.take k) : VT ⟨t.Role, t.Closed, x⟩ := by
 have hl := h.len
 have hlen : x.l.length = t.Cells.l.length := by rw [hx, Aq, Ae, Ag]; omega
 have get : ∀ i, i < t.Cells.l.length → x.l[i]? = t.Cells.l[(i + k) % t.Cells.l.length]? := by
  intro i hi
  rw [hx]; try rw [Je]
  by_cases h1 : i + k < t.Cells.l.length
  ·rw [Ak (by rw [Ae]; omega), At, Bb h1, Nat.add_comm k i]
  ·rw [Aj (by rw [Ae]; omega), Ae, Ao, if_pos (by omega)]
   congr 1
   rw [Nat.mod_eq_sub_mod (by omega), Bb (by omega)]
   omega
 have step : t.Cells.l.length ≠ 1 → ∀ (j : Nat) (a b : Ja), j < t.Cells.l.length → t.Cells.l[j]? = some a → t.Cells.l[(j + 1) % t.Cells.l.length]? = some b → nb a b := by
  intro h1 j a b hj ha hb
  by_cases h2 : j + 1 < t.Cells.l.length
  ·rw [Bb h2] at hb; exact h.chn j a b ha hb
  ·have : j + 1 = t.Cells.l.length := by omega
   rw [this, Nat.mod_self] at hb
   exact h.cls hc h1 a b (by rw [← ha]; congr 1; omega) hb
 refine ⟨h.role, by simp only [Je, hlen]; exact h.len, fun c hcm => h.inr c ?_, fun i a b ha hb => ?_, fun c1 c2 a b ha hb => ?_⟩
 ·simp only [Je, hx, Bd] at hcm
  rcases hcm with hcm | hcm
  ·exact Al hcm
  ·exact Am hcm
 ·have hi := (Ad.1 hb).1
  simp only [Je, hlen] at hi
  simp only at ha hb
  rw [get i (by omega)] at ha
  rw [get (i + 1) hi] at hb
  refine step (by omega) _ a b (Nat.mod_lt _ (by omega)) ha ?_
  rw [Nat.mod_add_mod, show i + k + 1 = i + 1 + k by omega]
  exact hb
 ·simp only [Je, hlen] at c2 ha hb
  rw [get _ (by omega)] at ha
  rw [get 0 (by omega)] at hb
  refine step c2 _ a b (Nat.mod_lt _ (by omega)) ha ?_
  rw [Nat.mod_add_mod, show t.Cells.l.length - 1 + k + 1 = k + t.Cells.l.length by omega, Nat.add_mod_right]
  rw [Nat.zero_add] at hb
  exact hb
end Go.Proofs.YtemehoioeoohmaaGreat
namespace Go.Proofs.YtemehoioeoohmaaGreat
open Go Go.Vv Go.Proofs
set_option linter.unusedSimpArgs false
set_option linter.unusedVariables false
set_option linter.unusedSectionVars false
theorem Jhu {α : Type} {x : FS α} (h : 0 < x.l.length) : x = .lst x.l := by
 cases x with
 | nil => simp [FS.l] at h
 | lst l => rfl
theorem Jry {bytes : Nat} {n : Int} (h0 : 0 ≤ n) (h1 : n ≤ 1000000) (hb : bytes ≤ 64) : mkOK bytes 0 n = true := by
 unfold mkOK
 have h2 : n * (bytes : Int) ≤ 1000000 * 64 := Int.mul_le_mul h1 (by omega) (by omega) (by omega)
 simp only [Je, room]
 simp
 omega
theorem Jt5 {α : Type} (z : α) : frep z 0 = .lst [] := rfl
theorem Ju8 (x : FS Ja) (hL : x.l.length ≤ 1000000) : Jaq x = some (.lst x.l.reverse) := by
 obtain ⟨r, e, hr⟩ := Qe (body := Ys x) (fun s => ∃ n : Nat, s.2 = (n : Int) - 1 ∧ n ≤ x.l.length ∧ s.1.l = (x.l.drop n).reverse) (fun s => (s.2 + 1).toNat) (fun r => r.l = x.l.reverse)
  (by
   rintro ⟨acc, i⟩ ⟨n, h1, h2, h3⟩
   simp only at h1 h2 h3 ⊢
   subst h1
   cases n with
   | zero =>
    right
    refine ⟨acc, ?_, by rw [h3]; rfl⟩
    have c : ige ((0 : Nat) - 1 : Int) 0 = false := by rw [← An, Jbg]; omega
    simp only [Je, Ys, c, if_false, Ab]
   | succ n =>
    left
    have c : ige (((n + 1 : Nat) : Int) - 1) 0 = true := by rw [Jbg]; omega
    have e0 : ((n + 1 : Nat) : Int) - 1 = (n : Int) := by omega
    have g := Ku (x := x) (i := n) (by omega)
    have hlen : acc.l.length ≤ 1000000 := by rw [h3, Ah, Ae]; omega
    have f : fits 16 (flen acc + 1) = true := Xf (by rw [Jp]; omega) (by rw [Jp]; omega) (by omega)
    refine ⟨(Yy acc x.l[n], (n : Int) - 1), ?_, ⟨n, rfl, by omega, ?_⟩, by simp only; omega⟩
    ·rw [e0] at c ⊢
     simp only [Je, Ys, c, if_true, g, f]
     rw [Xc (by omega) (by omega)]
    ·simp only [Je, jt, h3]
     rw [Au (by omega : n < x.l.length), List.reverse_cons])
  bigN (.lst [], (x.l.length : Int) - 1) ⟨x.l.length, rfl, Bh _, by simp [FS.l]⟩ (Qk (by simp only; omega))
 unfold Jaq
 rw [if_pos (Jry (by rw [Jp]; omega) (by rw [Jp]; omega) (by omega)), Jt5, Xc (by rw [Jp]; omega) (by rw [Jp]; omega), Jp, e]; try simp only [Je]
 simp [flst, hr]
theorem Jle {α : Type} {l : List α} {a b : Nat} (h1 : a ≤ b) (h2 : b ≤ l.length) : fsl (.lst l) (a : Int) (b : Int) = some (.lst ((l.drop a).take (b - a))) := by
 show (if 0 ≤ (a : Int) ∧ (a : Int) ≤ b ∧ (b : Int) ≤ l.length then some (FS.lst ((l.drop (a : Int).toNat).take ((b : Int) - a).toNat)) else none) = _
 rw [if_pos ⟨by omega, by omega, by omega⟩]
 have : ((b : Int) - a).toNat = b - a := by omega
 rw [this]; rfl
theorem Jyz (x : FS Ja) (hp : 0 < x.l.length) (hL : x.l.length ≤ 1000000) (k : Nat) (hk : k ≤ x.l.length) : ju x k = some (.lst (x.l.drop k ++ x.l.take k)) := by
 obtain ⟨l, rfl⟩ : ∃ l, x = .lst l := ⟨_, Jhu hp⟩
 simp only [Je, FS.l_lst] at *
 have s1 : fsl (.lst l) (k : Int) (flen (.lst l)) = some (.lst (l.drop k)) := by
  show fsl (.lst l) (k : Int) ((l.length : Nat) : Int) = _
  rw [Jle hk (Bh _), Be (by rw [Ae]; omega)]
 have s2 : fsl (.lst l) 0 (k : Int) = some (.lst (l.take k)) := by
  show fsl (.lst l) ((0 : Nat) : Int) (k : Int) = _
  rw [Jle (by omega) hk]; rfl
 have d : (l.drop k).length ≤ 1000000 := by rw [Ae]; omega
 have tk : (l.take k).length ≤ 1000000 := by rw [Ag]; omega
 unfold ju
 rw [s1, Je, s2, Je]
 rw [Jt5, if_pos (Jry (by rw [Jp]; omega) (by rw [Jp, FS.l_lst]; omega) (by omega)),
  if_pos (Xf (by simp only [Je, Jp, FS.l_lst]; omega) (by simp only [Je, Jp, FS.l_lst, Bf]; omega) (by omega)),
  if_pos (Xf (by simp only [Je, Jp]; omega) (by simp only [Je, Jp, Jhb, FS.l_lst, List.nil_append]; omega) (by omega))]
 rfl
theorem Jrw {t : Jb} (h : VT t) : Jdv t = some ⟨t.Role, t.Closed, .lst t.Cells.l.reverse⟩ := by
 have hl := h.len
 unfold Jdv
 rw [h.valid]; try simp only [Je]
 simp only [Je, Qx, if_false, Ab, Ju8 t.Cells (by omega)]
theorem J5c {t : Jb} (h : VT t) (hc : t.Closed = true) (k : Nat) (hk : k < t.Cells.l.length) : Jfb t k = some ⟨t.Role, true, .lst (t.Cells.l.drop k ++ t.Cells.l.take k)⟩ := by
 have hl := h.len
 have e0 : ieq (flen t.Cells) 0 = false := Jg9 (by rw [Jp]; omega)
 have m1 : irem (k : Int) (flen t.Cells) = k := by unfold irem; rw [Jp]; exact Int.tmod_eq_of_lt (by omega) (by omega)
 have m2 : irem (iadd .i64 (k : Int) (flen t.Cells)) (flen t.Cells) = k := by
  rw [zt (by rw [Jp]; omega) (by rw [Jp]; omega)]
  unfold irem
  rw [Jp, Int.tmod_eq_emod_of_nonneg (by omega), Int.add_emod_right]
  exact Int.emod_eq_of_lt (by omega) (by omega)
 unfold Jfb
 rw [h.valid]; try simp only [Je]
 simp only [Je, Qx, if_false, Ab, hc, if_true, e0, m1, m2, Jyz t.Cells (by omega) (by omega) k (by omega)]
theorem J8r {t : Jb} (h : VT t) : Jfa t = some ⟨t.Role, t.Closed, .lst t.Cells.l⟩ := by
 have hl := h.len
 unfold Jfa
 rw [if_pos (Xf (by simp only [Je, Jp, Je1]; omega) (by simp only [Je, Jp, Je1, Bf]; omega) (by omega))]; try simp only [Je]
 rfl
def cp (t : Jb) : Jb := ⟨t.Role, t.Closed, .lst t.Cells.l⟩
theorem VT.cp {t : Jb} (h : VT t) : VT (cp t) := h.copy rfl
theorem cp_of {t : Jb} (h : VT t) : cp t = t := by
 have := Jhu (x := t.Cells) (by have := h.len; omega)
 cases t; simp only [Je, cp] at *; rw [← this]
theorem Jx5 (x : FS Jb) (hv : ∀ t ∈ x.l, VT t) (hL : x.l.length ≤ 1000000) : ∃ y, Jey x = some y ∧ y.l = x.l := by
 obtain ⟨r, e, hr⟩ := Qe (body := Jdb x (flen x)) (fun s => ∃ n : Nat, s.2 = n ∧ n ≤ x.l.length ∧ s.1.l = x.l.take n) (fun s => (x.l.length - s.2).toNat) (fun r => r.l = x.l)
  (by
   rintro ⟨acc, i⟩ ⟨n, h1, h2, h3⟩
   simp only at h1 h2 h3 ⊢
   subst h1
   by_cases hn : n < x.l.length
   ·left
    have c : ilt (n : Int) (flen x) = true := Xg (by rw [Jp]; omega)
    have g := Ku hn
    have hvt := hv _ (Af hn)
    have f : fits 40 (flen acc + 1) = true := Xf (by rw [Jp]; omega) (by rw [Jp, h3, Ag]; omega) (by omega)
    refine ⟨(Yy acc (cp x.l[n]), ((n + 1 : Nat) : Int)), ?_, ⟨n + 1, rfl, hn, ?_⟩, by simp only; omega⟩
    ·simp only [Je, Jdb, c, if_true, g, hvt.valid, J8r hvt, f, zx (i := n) (by omega)]; rfl
    ·simp only [Je, jt, h3, cp_of hvt]; rw [Ar hn]
   ·right
    have hn' : n = x.l.length := by omega
    subst hn'
    have c : ilt ((x.l.length : Nat) : Int) (flen x) = false := Xe (by rw [Jp]; omega)
    exact ⟨acc, by simp only [Je, Jdb, c, if_false, Ab], by rw [h3, List.take_length]⟩)
  bigN (.nil, 0) ⟨0, rfl, by omega, rfl⟩ (Qk (by simp only; omega))
 unfold Jey
 exact ⟨r, by rw [e]; rfl, hr⟩
theorem Jvw {t : Jb} (h : VT t) : ∃ a b, Jde t = some ⟨a, b⟩ ∧ t.Cells.l[0]? = some a ∧ t.Cells.l[t.Cells.l.length - 1]? = some b ∧ InR a ∧ InR b := by
 have hl := h.len
 have g1 : fget t.Cells 0 = some (t.Cells.l[0]'(by omega)) := Ku (i := 0) (by omega)
 have g2 : fget t.Cells (isub .i64 (flen t.Cells) 1) = some (t.Cells.l[t.Cells.l.length - 1]'(by omega)) := by
  rw [Xc (by rw [Jp]; omega) (by rw [Jp]; omega), Jp, show (t.Cells.l.length : Int) - 1 = ((t.Cells.l.length - 1 : Nat) : Int) by omega]
  exact Ku (by omega)
 refine ⟨_, _, ?_, Aa (by omega), Aa (by omega), h.inr _ (Af _), h.inr _ (Af _)⟩
 unfold Jde
 rw [g1, g2]; try simp only [Je]
structure Best (p : Ja) (l : List Ja) (k : Nat) (d : Int) : Prop where
 here : ∃ c, l[k]? = some c ∧ d = J9 p c
 le : ∀ (i : Nat) (c : Ja), l[i]? = some c → d ≤ J9 p c
 lt : ∀ (i : Nat) (c : Ja), i < k → l[i]? = some c → d < J9 p c
theorem Jue (p : Ja) (x : FS Ja) (h0 : 0 < x.l.length) (hL : x.l.length ≤ 1000000) : ∃ (k : Nat) (d : Int), Kn (Jbe p x (flen x)) bigN (0, J9 p x.l[0], 0) = some (((k : Nat) : Int), d) ∧ Best p x.l k d := by
 obtain ⟨r, e, k, d, rfl, hr⟩ := Qe (body := Jbe p x (flen x)) (fun s => ∃ n k : Nat, s.2.2 = n ∧ n ≤ x.l.length ∧ s.1 = k ∧ (∃ c, x.l[k]? = some c ∧ s.2.1 = J9 p c) ∧ (∀ (i : Nat) c, i < n → x.l[i]? = some c → s.2.1 ≤ J9 p c) ∧ (∀ (i : Nat) c, i < k → x.l[i]? = some c → s.2.1 < J9 p c) ∧ (k < n ∨ k = 0))
  (fun s => (x.l.length - s.2.2).toNat) (fun r => ∃ (k : Nat) (d : Int), r = ((k : Int), d) ∧ Best p x.l k d)
  (by
   rintro ⟨kk, d, i⟩ ⟨n, k, h1, h2, h3, h4, h5, h6, h7⟩
   simp only at h1 h2 h3 h4 h5 h6 ⊢
   subst h1 h3
   by_cases hn : n < x.l.length
   ·left
    have c : ilt (n : Int) (flen x) = true := Xg (by rw [Jp]; omega)
    have g := Ku hn
    by_cases hlt : J9 p x.l[n] < d
    ·refine ⟨((n : Int), J9 p x.l[n], ((n + 1 : Nat) : Int)), by simp only [Je, Jbe, c, if_true, g, Xg hlt, zx (i := n) (by omega)], ⟨n + 1, n, rfl, hn, rfl, ⟨_, Aa hn, rfl⟩, fun j c hj hc => ?_, fun j c hj hc => ?_, .inl (by omega)⟩, by simp only; omega⟩
     ·by_cases hjn : j = n
      ·subst hjn; rw [Aa hn] at hc; cases hc; exact Int.le_refl _
      ·have := h5 j c (by omega) hc; simp only; omega
     ·have := h5 j c hj hc; simp only; omega
    ·refine ⟨((k : Int), d, ((n + 1 : Nat) : Int)), by simp only [Je, Jbe, c, if_true, g, Xe hlt, if_false, Ab, zx (i := n) (by omega)], ⟨n + 1, k, rfl, hn, rfl, h4, fun j c hj hc => ?_, h6, by omega⟩, by simp only; omega⟩
     by_cases hjn : j = n
     ·subst hjn; rw [Aa hn] at hc; cases hc; simp only; omega
     ·exact h5 j c (by omega) hc
   ·right
    have c : ilt (n : Int) (flen x) = false := Xe (by rw [Jp]; omega)
    exact ⟨((k : Int), d), by simp only [Je, Jbe, c, if_false, Ab], k, d, rfl, h4, fun j c hc => h5 j c (by have := (Ad.1 hc).1; omega) hc, h6⟩)
  bigN (0, J9 p x.l[0], 0) ⟨0, 0, rfl, by omega, rfl, ⟨_, Aa h0, rfl⟩, fun i c hi => by omega, fun i c hi => by omega, .inr rfl⟩ (Qk (by simp only; omega))
 exact ⟨k, d, e, hr⟩
def j7 (t : Jb) : List Ja := if t.Closed = true then t.Cells.l else match t.Cells.l[0]?, t.Cells.l[t.Cells.l.length - 1]? with
 | some a, some b => [a, b]
 | _, _ => []
theorem best_ok {t : Jb} (h : VT t) (p : Ja) : ∃ (k : Nat) (d : Int), Jfo p t = some ((k : Int), d) ∧ Best p (j7 t) k d ∧ k < (j7 t).length := by
 have hl := h.len
 have fin : ∀ {l : List Ja} {k : Nat} {d : Int}, Best p l k d → k < l.length := fun hb => by
  obtain ⟨c, hc, _⟩ := hb.here; exact (Ad.1 hc).1
 by_cases hc : t.Closed = true
 ·obtain ⟨k, d, e, hb⟩ := Jue p t.Cells (by omega) (by omega)
  have g1 : fget t.Cells 0 = some (t.Cells.l[0]'(by omega)) := Ku (i := 0) (by omega)
  have hf : j7 t = t.Cells.l := by unfold j7; rw [if_pos hc]
  refine ⟨k, d, ?_, by rw [hf]; exact hb, by rw [hf]; exact fin hb⟩
  unfold Jfo
  rw [if_pos hc, g1]; try simp only [Je]
  simp only [Je, e]
 ·obtain ⟨a, b, e1, ha, hb, -, -⟩ := Jvw h
  have hf : j7 t = [a, b] := by unfold j7; rw [if_neg hc, ha, hb]
  obtain ⟨k, d, e, hbb⟩ := Jue p (flit [a, b]) (by simp [Je1]) (by simp [Je1])
  refine ⟨k, d, ?_, by rw [hf]; exact hbb, by rw [hf]; exact fin hbb⟩
  have g1 : fget (flit [a, b]) 0 = some a := rfl
  unfold Jfo
  rw [if_neg hc, e1]; try simp only [Je]
  simp only [Je, g1]
  simp only [Je, Je1, List.getElem_cons_zero] at e
  simp only [Je, e]
def vr (t : Jb) (k : Nat) : Jb :=
 if t.Closed = true then ⟨t.Role, true, .lst (t.Cells.l.drop k ++ t.Cells.l.take k)⟩ else if k = 1 then ⟨t.Role, t.Closed, .lst t.Cells.l.reverse⟩ else t
theorem J0h {t : Jb} (h : VT t) {k : Nat} (hk : k < (j7 t).length) : Jeq t k = some (vr t k) := by
 unfold Jeq vr
 by_cases hc : t.Closed = true
 ·have hk' : k < t.Cells.l.length := by unfold j7 at hk; rwa [if_pos hc] at hk
  simp only [Je, hc, if_true, J5c h hc k hk']
 ·simp only [Je, hc, if_false, Ab]
  by_cases h1 : k = 1
  ·subst h1
   have c : ieq ((1 : Nat) : Int) 1 = true := rfl
   have hf : t.Closed = false := by simpa using hc
   simp only [Je, c, if_true, Jrw h, hf]
  ·have c : ieq (k : Int) 1 = false := Jg9 (by omega)
   simp only [Je, c, if_false, Ab, h1]
theorem vr_ok {t : Jb} (h : VT t) {k : Nat} (hk : k < (j7 t).length) : VT (vr t k) ∧ (vr t k).Role = t.Role ∧ (vr t k).Closed = t.Closed ∧ (vr t k).Cells.l.Perm t.Cells.l := by
 unfold vr
 by_cases hc : t.Closed = true
 ·have hk' : k < t.Cells.l.length := by unfold j7 at hk; rwa [if_pos hc] at hk
  rw [if_pos hc]
  refine ⟨?_, rfl, hc.symm, ?_⟩
  ·have := h.rot hc hk' (x := .lst (t.Cells.l.drop k ++ t.Cells.l.take k)) rfl
   rwa [hc] at this
  ·exact Bi.trans (by rw [Ap])
 ·rw [if_neg hc]
  by_cases h1 : k = 1
  ·rw [if_pos h1]
   exact ⟨h.rev rfl, rfl, rfl, Av _⟩
  ·rw [if_neg h1]
   exact ⟨h, rfl, rfl, .refl _⟩
end Go.Proofs.YtemehoioeoohmaaGreat
namespace Go.Proofs.YtemehoioeoohmaaGreat
open Go Go.Vv Go.Proofs
set_option linter.unusedSimpArgs false
set_option linter.unusedVariables false
set_option linter.unusedSectionVars false
theorem Jl9 {a b : Ja} (ha : InR a) (hb : InR b) : J9 a b = ((dist a b : Nat) : Int) := by
 unfold InR at ha hb
 unfold J9 dist
 rw [Xc (a := a.X) (b := b.X) (by omega) (by omega), Xc (a := b.X) (b := a.X) (by omega) (by omega), Xc (a := a.Y) (b := b.Y) (by omega) (by omega), Xc (a := b.Y) (b := a.Y) (by omega) (by omega), Jhr, Jhr,
  zt (by omega) (by omega)]
 omega
theorem far_nn {a b : Ja} (ha : InR a) (hb : InR b) : 0 ≤ J9 a b := by rw [Jl9 ha hb]; omega
theorem Jrp {t : Jb} (h : VT t) : ∀ c ∈ j7 t, InR c := by
 intro c hc
 unfold j7 at hc
 split at hc
 ·exact h.inr c hc
 ·split at hc
  ·rename_i a b ha hb
   simp only [Je, List.mem_cons, List.not_mem_nil, or_false] at hc
   rcases hc with rfl | rfl
   ·exact h.inr _ (Ac ha)
   ·exact h.inr _ (Ac hb)
  ·cases hc
structure PickN (p : Ja) (l : List Jb) (n at_ k : Nat) (d : Int) : Prop where
 lt : at_ < n
 here : ∃ t, l[at_]? = some t ∧ Best p (j7 t) k d ∧ k < (j7 t).length
 le : ∀ (i : Nat) (t : Jb), i < n → l[i]? = some t → ∀ c ∈ j7 t, d ≤ J9 p c
 sm : ∀ (i : Nat) (t : Jb), i < at_ → l[i]? = some t → ∀ c ∈ j7 t, d < J9 p c
theorem J2w {p : Ja} (hp : InR p) (x out : FS Jb) (hv : ∀ t ∈ x.l, VT t) (hL : x.l.length ≤ 1000000) (h0 : 0 < x.l.length) :
  ∃ (a k : Nat) (d : Int), Kn (Ja1 p (flen x)) bigN (x, out, 0, 0, (-1), 0) = some (x, out, (a : Int), (k : Int)) ∧ PickN p x.l x.l.length a k d := by
 obtain ⟨r, e, a, k, d, rfl, hr⟩ := Qe (body := Ja1 p (flen x))
  (fun s => s.1 = x ∧ s.2.1 = out ∧ ∃ n : Nat, s.2.2.2.2.2 = n ∧ n ≤ x.l.length ∧ ((n = 0 ∧ s.2.2.2.2.1 = -1) ∨ ∃ (a k : Nat), s.2.2.1 = a ∧ s.2.2.2.1 = k ∧ 0 ≤ s.2.2.2.2.1 ∧ PickN p x.l n a k s.2.2.2.2.1))
  (fun s => (x.l.length - s.2.2.2.2.2).toNat) (fun r => ∃ (a k : Nat) (d : Int), r = (x, out, (a : Int), (k : Int)) ∧ PickN p x.l x.l.length a k d)
  (by
   rintro ⟨xx, oo, a0, k0, d, i⟩ ⟨h1, h2, n, h3, h4, h5⟩
   simp only at h1 h2 h3 h4 h5 ⊢
   subst h1 h2 h3
   by_cases hn : n < xx.l.length
   ·left
    have c : ilt (n : Int) (flen xx) = true := Xg (by rw [Jp]; omega)
    have g := Ku hn
    have hvt := hv _ (Af hn)
    obtain ⟨j, m, eb, hb, hj⟩ := best_ok hvt p
    have hbin := Jrp hvt
    have hm0 : 0 ≤ m := by
     obtain ⟨c, hc, rfl⟩ := hb.here
     exact far_nn hp (hbin c (Ac hc))
    have hle : ∀ c ∈ j7 xx.l[n], m ≤ J9 p c := fun c hc => by
     obtain ⟨q, hq⟩ := Bj hc
     exact hb.le q c hq
    by_cases hnew : bor (ilt d 0) (ilt m d) = true
    ·refine ⟨(xx, oo, (n : Int), (j : Int), m, ((n + 1 : Nat) : Int)), by simp only [Je, Ja1, c, if_true, g, eb, hnew, zx (i := n) (by omega)], ⟨rfl, rfl, n + 1, rfl, hn, .inr ⟨n, j, rfl, rfl, hm0, by omega, ⟨_, Aa hn, hb, hj⟩, fun i t hi ht c hc => ?_, fun i t hi ht c hc => ?_⟩⟩, by simp only; omega⟩
     ·rw [Yi, Yj, Yj] at hnew
      by_cases hin : i = n
      ·subst hin; rw [Aa hn] at ht; cases ht; exact hle _ hc
      ·rcases h5 with ⟨rfl, _⟩ | ⟨a, k, _, _, hd, hpk⟩
       ·omega
       ·have := hpk.le i t (by omega) ht c hc
        simp only at *; omega
     ·rw [Yi, Yj, Yj] at hnew
      rcases h5 with ⟨rfl, _⟩ | ⟨a, k, _, _, hd, hpk⟩
      ·omega
      ·have := hpk.le i t hi ht c hc
       simp only at *; omega
    ·rw [An] at hnew
     have hnew' : ¬ (d < 0 ∨ m < d) := by rw [← An, Yi, Yj, Yj] at hnew; exact hnew
     rcases h5 with ⟨rfl, hd⟩ | ⟨a, k, rfl, rfl, hd, hpk⟩
     ·omega
     ·refine ⟨(xx, oo, (a : Int), (k : Int), d, ((n + 1 : Nat) : Int)), by simp only [Je, Ja1, c, if_true, g, eb, hnew, if_false, Ab, zx (i := n) (by omega)], ⟨rfl, rfl, n + 1, rfl, hn, .inr ⟨a, k, rfl, rfl, hd, by have := hpk.lt; omega, hpk.here, fun i t hi ht c hc => ?_, hpk.sm⟩⟩, by simp only; omega⟩
      by_cases hin : i = n
      ·subst hin; rw [Aa hn] at ht; cases ht
       have := hle _ hc; simp only at *; omega
      ·exact hpk.le i t (by omega) ht c hc
   ·right
    have hn' : n = xx.l.length := by omega
    subst hn'
    have c : ilt ((xx.l.length : Nat) : Int) (flen xx) = false := Xe (by rw [Jp]; omega)
    rcases h5 with ⟨h, _⟩ | ⟨a, k, rfl, rfl, hd, hpk⟩
    ·omega
    ·exact ⟨(xx, oo, (a : Int), (k : Int)), by simp only [Je, Ja1, c, if_false, Ab], a, k, d, rfl, hpk⟩)
  bigN (x, out, 0, 0, (-1), 0) ⟨rfl, rfl, 0, rfl, by omega, .inl ⟨rfl, rfl⟩⟩ (Qk (by simp only; omega))
 exact ⟨a, k, d, e, hr⟩
inductive Gre : Ja → List Jb → List Jb → Prop where
 | nil (p : Ja) : Gre p [] []
 | cons (p q : Ja) (l r : List Jb) (a k : Nat) (d : Int) (t : Jb) (hp : PickN p l l.length a k d) (ht : l[a]? = some t) (hq : (vr t k).Cells.l[(vr t k).Cells.l.length - 1]? = some q) (hr : Gre q (l.eraseIdx a) r) : Gre p l (vr t k :: r)
theorem Jml {α : Type} (l : List α) (a : Nat) : l.eraseIdx a = l.take a ++ l.drop (a + 1) := by
 rw [List.eraseIdx_eq_take_drop_succ]
theorem Jwl {p : Ja} (hp : InR p) (x : FS Jb) (hv : ∀ t ∈ x.l, VT t) (hL : x.l.length ≤ 1000000) : ∃ out, Kn Jb8 bigN (p, x, FS.nil) = some out ∧ Gre p x.l out.l := by
 refine Qe (body := Jb8) (fun s => InR s.1 ∧ (∀ t ∈ s.2.1.l, VT t) ∧ s.2.2.l.length + s.2.1.l.length ≤ 1000000 ∧ ∀ r, Gre s.1 s.2.1.l r → Gre p x.l (s.2.2.l ++ r)) (fun s => s.2.1.l.length) (fun out => Gre p x.l out.l) ?_ bigN (p, x, FS.nil) ⟨hp, hv, by simp [FS.l]; exact hL, fun r hr => hr⟩ (Qk (by simp only; omega))
 rintro ⟨q, y, out⟩ ⟨h1, h2, h3, h4⟩
 simp only at h1 h2 h3 h4 ⊢
 by_cases h0 : 0 < y.l.length
 ·left
  have c : igt (flen y) 0 = true := Jf6 (by rw [Jp]; omega)
  obtain ⟨a, k, d, el, hpk⟩ := J2w h1 y out h2 (by omega) h0
  obtain ⟨t, ht, hb, hk⟩ := hpk.here
  have ha : a < y.l.length := hpk.lt
  have hvt : VT t := h2 t (Ac ht)
  have g := Ku ha
  have hte : y.l[a] = t := by rw [Aa ha] at ht; exact Option.some.inj ht
  obtain ⟨vt, -, -, -⟩ := vr_ok hvt hk
  obtain ⟨e0, e1, ee, -, hq, -, hqr⟩ := Jvw vt
  obtain ⟨l, rfl⟩ : ∃ l, y = .lst l := ⟨_, Jhu h0⟩
  have ha2 : a < l.length := ha
  simp only [Je, FS.l_lst] at *
  have s1 : fsl (.lst l) 0 (a : Int) = some (.lst (l.take a)) := by
   show fsl (.lst l) ((0 : Nat) : Int) (a : Int) = _
   rw [Jle (by omega) (by omega)]; rfl
  have s2 : fsl (.lst l) (iadd .i64 (a : Int) 1) (flen (.lst l)) = some (.lst (l.drop (a + 1))) := by
   rw [zx (i := a) (by omega)]
   show fsl (.lst l) ((a + 1 : Nat) : Int) ((l.length : Nat) : Int) = _
   rw [Jle (by omega) (Bh _), Be (by rw [Ae]; omega)]
  have l1 : (l.take a).length = a := by rw [Ag]; omega
  have l2 : (l.drop (a + 1)).length = l.length - (a + 1) := by rw [Ae]
  have f1 : fits 40 (flen (FS.lst (l.take a)) + flen (FS.lst (l.drop (a + 1)))) = true := Xf (by simp only [Je, Jp, FS.l_lst]; omega) (by simp only [Je, Jp, FS.l_lst]; omega) (by omega)
  have f2 : fits 40 (flen out + 1) = true := Xf (by rw [Jp]; omega) (by rw [Jp]; omega) (by omega)
  refine ⟨(e1, fapp (.lst (l.take a)) (.lst (l.drop (a + 1))), Yy out (vr t k)), ?_, ⟨hqr, fun u hu => ?_, ?_, fun r hr => ?_⟩, ?_⟩
  ·simp only [Je, Jb8, c, if_true, el, g, hte, J0h hvt hk, s1, s2, f1, f2, ee]
  ·simp only [Je, Jhb, FS.l_lst, Bd] at hu
   rcases hu with hu | hu
   ·exact h2 u (Am hu)
   ·exact h2 u (Al hu)
  ·simp only [Je, Jhb, jt, FS.l_lst, Aq, List.length_cons, Bf]; omega
  ·simp only [Je, Jhb, jt, FS.l_lst] at hr ⊢
   rw [Aw]
   refine h4 _ (.cons q e1 l r a k d t hpk ht hq ?_)
   rw [Jml]; exact hr
  ·simp only [Je, Jhb, FS.l_lst, Aq]; omega
 ·right
  have c : igt (flen y) 0 = false := Jhc (by rw [Jp]; omega)
  have hy : y.l = [] := List.length_eq_zero_iff.1 (by omega)
  refine ⟨out, by simp only [Je, Jb8, c, if_false, Ab], ?_⟩
  have := h4 [] (by rw [hy]; exact .nil _)
  rwa [List.append_nil] at this
theorem Juq (c : Ja) : Xj c = true ↔ InR c := by
 unfold InR; simp only [Je, Xj, zd, Jbg, Yj]; exact ⟨fun h => ⟨h.1.1.1, h.1.1.2, h.1.2, h.2⟩, fun h => ⟨⟨⟨h.1, h.2.1⟩, h.2.2.1⟩, h.2.2.2⟩⟩
theorem J3r {p : Ja} (hp : InR p) (x : FS Jb) (hv : ∀ t ∈ x.l, VT t) (hL : x.l.length ≤ 1000000) : ∃ out, Jfc p x = some out ∧ Gre p x.l out.l := by
 obtain ⟨y, ey, hy⟩ := Jx5 x hv hL
 obtain ⟨out, eo, ho⟩ := Jwl hp y (by rw [hy]; exact hv) (by rw [hy]; exact hL)
 refine ⟨out, ?_, by rw [hy] at ho; exact ho⟩
 unfold Jfc
 rw [if_neg (by rw [Jbj, Juq]; exact fun h => h hp), ey]; try simp only [Je]
 simp only [Je, eo]
theorem Gre.len {p : Ja} {l r : List Jb} (h : Gre p l r) : r.length = l.length := by
 induction h with
 | nil => rfl
 | cons p q l r a k d t hp ht hq hr ih =>
  have := (Ad.1 ht).1
  rw [List.length_cons, ih, List.length_eraseIdx]; split <;> omega
theorem Gre.valid {p : Ja} {l r : List Jb} (h : Gre p l r) : (∀ t ∈ l, VT t) → ∀ t ∈ r, VT t := by
 induction h with
 | nil => exact fun _ t ht => by cases ht
 | cons p q l r a k d t hp ht hq hr ih =>
  intro hv u hu
  obtain ⟨t', ht', hb, hk⟩ := hp.here
  rw [ht] at ht'
  cases ht'
  rcases List.mem_cons.1 hu with rfl | hu
  ·exact (vr_ok (hv t (Ac ht)) hk).1
  ·exact ih (fun v hv' => hv v (Ba hv')) u hu
def Jh1 (l : List Jb) : List Ja := l.flatMap fun t => t.Cells.l
theorem Js8 {l : List Jb} {a : Nat} {t : Jb} (ht : l[a]? = some t) : (Jh1 l).Perm (t.Cells.l ++ Jh1 (l.eraseIdx a)) := by
 have ha := (Ad.1 ht).1
 have h1 : l = l.take a ++ t :: l.drop (a + 1) := by
  have : l[a] = t := (Ad.1 ht).2
  rw [← this, ← Au ha, Ap]
 rw [Jml]; try rw [Je]
 conv => lhs; rw [h1]
 simp only [Je, Jh1, Bk, List.flatMap_cons]
 rw [← Aw, ← Aw]
 exact (Bi).append_right _
theorem Gre.cells {p : Ja} {l r : List Jb} (h : Gre p l r) : (∀ t ∈ l, VT t) → (Jh1 r).Perm (Jh1 l) := by
 induction h with
 | nil => exact fun _ => .refl _
 | cons p q l r a k d t hp ht hq hr ih =>
  intro hv
  obtain ⟨t', ht', hb, hk⟩ := hp.here
  rw [ht] at ht'
  cases ht'
  have h1 := (vr_ok (hv t (Ac ht)) hk).2.2.2
  have h2 := ih fun v hv' => hv v (Ba hv')
  refine List.Perm.trans ?_ (Js8 ht).symm
  exact h1.append h2
end Go.Proofs.YtemehoioeoohmaaGreat
namespace Go.Proofs.YtemehoioeoohmaaGreat
open Go Go.Vv Go.Proofs
set_option linter.unusedSimpArgs false
set_option linter.unusedVariables false
set_option linter.unusedSectionVars false
def c00 : Ja := ⟨0, 0⟩
def fstC (t : Jb) : Ja := (t.Cells.l[0]?).getD c00
def lstC (t : Jb) : Ja := (t.Cells.l[t.Cells.l.length - 1]?).getD c00
def fstB (t : Jb) : Ja := if t.Closed = true then fstC t else lstC t
def lstB (t : Jb) : Ja := if t.Closed = true then lstC t else fstC t
theorem Jdc {t : Jb} (h : VT t) : Jde t = some ⟨fstC t, lstC t⟩ ∧ InR (fstC t) ∧ InR (lstC t) := by
 obtain ⟨a, b, e, ha, hb, ia, ib⟩ := Jvw h
 have h1 : fstC t = a := by unfold fstC; rw [ha]; rfl
 have h2 : lstC t = b := by unfold lstC; rw [hb]; rfl
 rw [h1, h2]; exact ⟨e, ia, ib⟩
theorem Jhz {t : Jb} (h : VT t) : Jdi t = some ⟨fstB t, lstB t⟩ ∧ InR (fstB t) ∧ InR (lstB t) := by
 obtain ⟨e, ia, ib⟩ := Jdc h
 unfold Jdi fstB lstB
 rw [e]; try rw [Je]; try simp only [Je]
 by_cases hc : t.Closed = true
 ·simp only [Je, hc, Qx, if_true, if_false, Ab]; exact ⟨trivial, ia, ib⟩
 ·have hf : t.Closed = false := by simpa using hc
  simp only [Je, hf, Zt, if_true, if_false, Ab]; exact ⟨trivial, ib, ia⟩
def t00 : Jb := ⟨0, false, .nil⟩
def at_ (l : List Jb) (m : Nat) : Jb := (l[m]?).getD t00
theorem Jk1 {l : List Jb} {m : Nat} (h : m < l.length) : at_ l m = l[m] := by unfold at_; rw [Aa h]; rfl
def sumA (l : List Jb) : Nat → Nat
 | 0 => 0
 | i + 1 => sumA l i + dist (lstC (at_ l i)) (fstC (at_ l (i + 1)))
def sumB (l : List Jb) : Nat → Nat
 | 0 => 0
 | i + 1 => sumB l i + dist (lstB (at_ l (i + 1))) (fstB (at_ l i))
theorem Jsm {l : List Jb} (hv : ∀ t ∈ l, VT t) : ∀ i, i < l.length → sumA l i ≤ i * 16384
 | 0, _ => by simp [sumA]
 | i + 1, h => by
  have h1 := Jsm hv i (by omega)
  have a1 := (Jdc (hv _ (Af (by omega : i < l.length)))).2.2
  have a2 := (Jdc (hv _ (Af h))).2.1
  rw [← Jk1] at a1 a2
  have := Jfj a1 a2
  simp only [Je, sumA]; omega
theorem Jsq {l : List Jb} (hv : ∀ t ∈ l, VT t) : ∀ i, i < l.length → sumB l i ≤ i * 16384
 | 0, _ => by simp [sumB]
 | i + 1, h => by
  have h1 := Jsq hv i (by omega)
  have a1 := (Jhz (hv _ (Af (by omega : i < l.length)))).2.1
  have a2 := (Jhz (hv _ (Af h))).2.2
  rw [← Jk1] at a1 a2
  have := Jfj a2 a1
  simp only [Je, sumB]; omega
def mkF {α : Type} : List α → FS α
 | [] => .nil
 | a :: l => .lst (a :: l)
theorem Jn6 {α : Type} (l : List α) : (mkF l).l = l := by cases l <;> rfl
theorem mkF_snoc {α : Type} (l : List α) (a : α) : Yy (mkF l) a = mkF (l ++ [a]) := by cases l <;> rfl
theorem fnl_mkF {α : Type} (l : List α) : fnl (mkF l) = decide (l.length = 0) := by cases l <;> simp [mkF, fnl]
def eA (t : Jb) : A2 Ja := ⟨fstC t, lstC t⟩
def eB (t : Jb) : A2 Ja := ⟨fstB t, lstB t⟩
def Jbv (p : Ja) (l : List Jb) (n : Nat) : X2 :=
 ⟨p, mkF ((l.take n).map eA), mkF ((l.take n).map eB), mkF ((Bl n).map fun i => ((sumA l i : Nat) : Int)), mkF ((Bl n).map fun i => ((sumB l i : Nat) : Int))⟩
theorem Jsf {α β : Type} (f : α → β) {l : List α} {n : Nat} (h : n < l.length) : (l.take (n + 1)).map f = (l.take n).map f ++ [f l[n]] := by
 rw [Ar h, List.map_append]; rfl
theorem Jq2 {β : Type} (f : Nat → β) (n : Nat) : (Bl (n + 1)).map f = (Bl n).map f ++ [f n] := by
 rw [List.range_succ, List.map_append]; rfl
theorem Jzc {p : Ja} {l : List Jb} {n : Nat} (h : n < l.length) : Jbv p l (n + 1) = ⟨p, Yy (Jbv p l n).a (eA l[n]), Yy (Jbv p l n).b (eB l[n]), Yy (Jbv p l n).ahead (sumA l n : Nat), Yy (Jbv p l n).aback (sumB l n : Nat)⟩ := by
 simp only [Je, Jbv, mkF_snoc, Jsf _ h, Jq2]
theorem Jwz (p : Ja) (l : List Jb) (n : Nat) (hn : n ≤ l.length) : band (beqB (fnl (Jbv p l n).a) (fnl (Jbv p l n).b)) (band (beqB (fnl (Jbv p l n).a) (fnl (Jbv p l n).ahead)) (beqB (fnl (Jbv p l n).a) (fnl (Jbv p l n).aback))) = true := by
 simp only [Je, zd, Jsj, Jbv, fnl_mkF, Ai, Ag, Ax, Nat.min_eq_left hn, and_self]
theorem Jxc {α : Type} {x : FS α} {a : α} {n : Nat} (hn : n = x.l.length) : fget (Yy x a) (n : Int) = some a := Jcj (by rw [jt, Aj (by omega)]; simp [hn])
theorem Jpt {α : Type} {x : FS α} {a b : α} {n : Nat} (h : x.l[n]? = some b) : fget (Yy x a) (n : Int) = some b := Jcj (by rw [jt, Ak (Ad.1 h).1]; exact h)
theorem Jny {α : Type} {bytes : Nat} {x : FS α} (h : x.l.length ≤ 1000000) (hb : bytes ≤ 64) : fits bytes (flen x + 1) = true := Xf (by rw [Jp]; omega) (by rw [Jp]; omega) (by omega)
theorem J0a (p : Ja) (x : FS Jb) (hv : ∀ t ∈ x.l, VT t) (hL : x.l.length ≤ 100000) : Jc4 p x = some (Jbv p x.l x.l.length, x) := by
 obtain ⟨r, e, rfl⟩ := Qe (body := Jbf x ⟨⟨0, 0⟩, .nil, .nil, .nil, .nil⟩ (flen x)) (fun s => ∃ n : Nat, s.2 = n ∧ n ≤ x.l.length ∧ s.1 = Jbv p x.l n) (fun s => (x.l.length - s.2).toNat) (fun r => r = Jbv p x.l x.l.length)
  (by
   rintro ⟨v, i⟩ ⟨n, h1, h2, h3⟩
   simp only at h1 h2 h3 ⊢
   subst h1 h3
   have ag := Jwz p x.l n h2
   by_cases hn : n < x.l.length
   ·left
    have c : ilt (n : Int) (flen x) = true := Xg (by rw [Jp]; omega)
    have g := Ku hn
    have hvt := hv _ (Af hn)
    have e1 := (Jdc hvt).1
    have e2 := (Jhz hvt).1
    have l1 : (Jbv p x.l n).a.l.length = n := by simp only [Je, Jbv, Jn6, Ai, Ag]; omega
    have l2 : (Jbv p x.l n).b.l.length = n := by simp only [Je, Jbv, Jn6, Ai, Ag]; omega
    have l3 : (Jbv p x.l n).ahead.l.length = n := by simp only [Je, Jbv, Jn6, Ai, Ax]
    have l4 : (Jbv p x.l n).aback.l.length = n := by simp only [Je, Jbv, Jn6, Ai, Ax]
    have f1 : fits 32 (flen (Jbv p x.l n).a + 1) = true := Jny (by omega) (by omega)
    have f2 : fits 32 (flen (Jbv p x.l n).b + 1) = true := Jny (by omega) (by omega)
    have f3 : fits 8 (flen (Jbv p x.l n).ahead + 1) = true := Jny (by omega) (by omega)
    have f4 : fits 8 (flen (Jbv p x.l n).aback + 1) = true := Jny (by omega) (by omega)
    refine ⟨(Jbv p x.l (n + 1), ((n + 1 : Nat) : Int)), ?_, ⟨n + 1, rfl, hn, rfl⟩, by simp only; omega⟩
    rw [Jzc hn]
    cases n with
    | zero =>
     have c0 : igt ((0 : Nat) : Int) 0 = false := rfl
     have s0 : iadd .i64 ((0 : Nat) : Int) 1 = ((0 + 1 : Nat) : Int) := rfl
     simp only [Je, Jbf, ag, if_true, c, g, e1, f1, e2, f2, c0, if_false, Ab, f3, f4, s0]
     rfl
    | succ m =>
     have c0 : igt ((m + 1 : Nat) : Int) 0 = true := Jf6 (by omega)
     have sm : isub .i64 ((m + 1 : Nat) : Int) 1 = ((m : Nat) : Int) := by rw [Xc (by omega) (by omega)]; omega
     have hm : m < x.l.length := by omega
     have hvm := hv _ (Af hm)
     have a1 : fget (Jbv p x.l (m + 1)).ahead ((m : Nat) : Int) = some ((sumA x.l m : Nat) : Int) := Jcj (by simp only [Je, Jbv, Jn6]; simp)
     have a2 : fget (Jbv p x.l (m + 1)).aback ((m : Nat) : Int) = some ((sumB x.l m : Nat) : Int) := Jcj (by simp only [Je, Jbv, Jn6]; simp)
     have b1 : fget (Yy (Jbv p x.l (m + 1)).a ⟨fstC x.l[m + 1], lstC x.l[m + 1]⟩) ((m : Nat) : Int) = some (eA x.l[m]) := Jpt (by simp only [Je, Jbv, Jn6]; simp [Ao, hm])
     have b2 : fget (Yy (Jbv p x.l (m + 1)).a ⟨fstC x.l[m + 1], lstC x.l[m + 1]⟩) ((m + 1 : Nat) : Int) = some ⟨fstC x.l[m + 1], lstC x.l[m + 1]⟩ := Jxc l1.symm
     have b3 : fget (Yy (Jbv p x.l (m + 1)).b ⟨fstB x.l[m + 1], lstB x.l[m + 1]⟩) ((m : Nat) : Int) = some (eB x.l[m]) := Jpt (by simp only [Je, Jbv, Jn6]; simp [Ao, hm])
     have b4 : fget (Yy (Jbv p x.l (m + 1)).b ⟨fstB x.l[m + 1], lstB x.l[m + 1]⟩) ((m + 1 : Nat) : Int) = some ⟨fstB x.l[m + 1], lstB x.l[m + 1]⟩ := Jxc l2.symm
     have r1 := (Jdc hvm).2
     have r2 := (Jdc hvt).2
     have r3 := (Jhz hvm).2
     have r4 := (Jhz hvt).2
     have d1 := Jl9 r1.2 r2.1
     have d2 := Jl9 r4.2 r3.1
     have q1 := Jsm hv m hm
     have q2 := Jsq hv m hm
     have q3 := Jfj r1.2 r2.1
     have q4 := Jfj r4.2 r3.1
     have u1 : iadd .i64 ((sumA x.l m : Nat) : Int) (J9 (lstC x.l[m]) (fstC x.l[m + 1])) = ((sumA x.l (m + 1) : Nat) : Int) := by
      rw [d1, zt (by omega) (by omega)]
      simp only [Je, sumA, Jk1 hm, Jk1 hn]; omega
     have u2 : iadd .i64 ((sumB x.l m : Nat) : Int) (J9 (lstB x.l[m + 1]) (fstB x.l[m])) = ((sumB x.l (m + 1) : Nat) : Int) := by
      rw [d2, zt (by omega) (by omega)]
      simp only [Je, sumB, Jk1 hm, Jk1 hn]; omega
     simp only [Je, Jbf, ag, if_true, c, g, e1, f1, e2, f2, c0, sm, a1, a2, b1, b2, b3, b4, f3, f4, eA, eB, u1, u2, zx (i := m + 1) (by omega)]
     rfl
   ·right
    have hn' : n = x.l.length := by omega
    subst hn'
    have c : ilt ((x.l.length : Nat) : Int) (flen x) = false := Xe (by rw [Jp]; omega)
    exact ⟨Jbv p x.l x.l.length, by simp only [Je, Jbf, ag, if_true, c, if_false, Ab], rfl⟩)
  bigN (⟨p, .nil, .nil, .nil, .nil⟩, 0) ⟨0, rfl, by omega, rfl⟩ (Qk (by simp only; omega))
 unfold Jc4
 rw [e]; try rw [Je]; try simp only [Je]
 simp only [Je, Jwz p x.l x.l.length (Bh _), if_true]
end Go.Proofs.YtemehoioeoohmaaGreat
namespace Go.Proofs.YtemehoioeoohmaaGreat
open Go Go.Vv Go.Proofs
set_option linter.unusedSimpArgs false
set_option linter.unusedVariables false
set_option linter.unusedSectionVars false
section
variable {p : Ja} {l : List Jb} {m : Nat}
theorem getA (h : m < l.length) : fget (Jbv p l l.length).a (m : Int) = some (eA (at_ l m)) := Jcj (by simp only [Je, Jbv, Jn6, Jk1 h]; simp [h])
theorem getB (h : m < l.length) : fget (Jbv p l l.length).b (m : Int) = some (eB (at_ l m)) := Jcj (by simp only [Je, Jbv, Jn6, Jk1 h]; simp [h])
theorem getAh (h : m < l.length) : fget (Jbv p l l.length).ahead (m : Int) = some ((sumA l m : Nat) : Int) := Jcj (by simp only [Je, Jbv, Jn6]; simp [h])
theorem getAb (h : m < l.length) : fget (Jbv p l l.length).aback (m : Int) = some ((sumB l m : Nat) : Int) := Jcj (by simp only [Je, Jbv, Jn6]; simp [h])
theorem Jjj : flen (Jbv p l l.length).a = (l.length : Int) := by simp only [Je, Jp, Jbv, Jn6]; simp
end
def Jk9 (p : Ja) (l : List Jb) (i : Nat) : Ja := if 0 < i then lstC (at_ l (i - 1)) else p
def Jka (p : Ja) (l : List Jb) (i j : Nat) : Int :=
 (dist (Jk9 p l i) (fstC (at_ l i)) : Int) + sumA l j - sumA l i + (if j + 1 < l.length then (dist (lstC (at_ l j)) (fstC (at_ l (j + 1))) : Int) else 0)
def Jns (p : Ja) (l : List Jb) (i j : Nat) : Int :=
 (dist (Jk9 p l i) (fstB (at_ l j)) : Int) + sumB l j - sumB l i + (if j + 1 < l.length then (dist (lstB (at_ l i)) (fstC (at_ l (j + 1))) : Int) else 0)
theorem gains_ok {p : Ja} (hp : InR p) {l : List Jb} (hv : ∀ t ∈ l, VT t) (hL : l.length ≤ 100000) {i j : Nat} (hij : i ≤ j) (hj : j < l.length) :
  Jdd (Jbv p l l.length) i j = some (ilt (Jns p l i j) (Jka p l i j)) := by
 have hi : i < l.length := by omega
 have vt : ∀ k, k < l.length → VT (at_ l k) := fun k hk => by rw [Jk1 hk]; exact hv _ (Af hk)
 have ia := (Jdc (vt i hi)).2
 have ja := (Jdc (vt j hj)).2
 have ib := (Jhz (vt i hi)).2
 have jb := (Jhz (vt j hj)).2
 have pr : InR (Jk9 p l i) := by
  unfold Jk9; split
  ·exact (Jdc (vt (i - 1) (by omega))).2.2
  ·exact hp
 have q1 := Jsm hv i hi
 have q2 := Jsm hv j hj
 have q3 := Jsq hv i hi
 have q4 := Jsq hv j hj
 have d1 := Jfj pr ia.1
 have d2 := Jfj pr jb.1
 have f1 := Jl9 pr ia.1
 have f2 := Jl9 pr jb.1
 have s1 : isub .i64 (iadd .i64 (J9 (Jk9 p l i) (fstC (at_ l i))) ((sumA l j : Nat) : Int)) ((sumA l i : Nat) : Int) = (dist (Jk9 p l i) (fstC (at_ l i)) : Int) + sumA l j - sumA l i := by
  rw [f1, zt (by omega) (by omega), Xc (by omega) (by omega)]
 have s2 : isub .i64 (iadd .i64 (J9 (Jk9 p l i) (fstB (at_ l j))) ((sumB l j : Nat) : Int)) ((sumB l i : Nat) : Int) = (dist (Jk9 p l i) (fstB (at_ l j)) : Int) + sumB l j - sumB l i := by
  rw [f2, zt (by omega) (by omega), Xc (by omega) (by omega)]
 have nx : iadd .i64 (j : Int) 1 = ((j + 1 : Nat) : Int) := zx (by omega)
 unfold Jdd
 by_cases h0 : 0 < i
 ·have c0 : igt (i : Int) 0 = true := Jf6 (by omega)
  have sm : isub .i64 (i : Int) 1 = ((i - 1 : Nat) : Int) := by rw [Xc (by omega) (by omega)]; omega
  have hpv : lstC (at_ l (i - 1)) = Jk9 p l i := by unfold Jk9; rw [if_pos h0]
  simp only [Je, c0, if_true, sm, getA (by omega : i - 1 < l.length), getA hi, getA hj, getAh hj, getAh hi, getB hj, getB hi, getAb hj, getAb hi, nx, Jjj]
  by_cases hn : j + 1 < l.length
  ·have c1 : ilt ((j + 1 : Nat) : Int) (l.length : Int) = true := Xg (by omega)
   have na := (Jdc (vt (j + 1) hn)).2
   have d3 := Jfj ja.2 na.1
   have d4 := Jfj ib.2 na.1
   have f3 := Jl9 ja.2 na.1
   have f4 := Jl9 ib.2 na.1
   simp only [Je, c1, if_true, getA hn, hpv, eA, eB]
   rw [s1, s2, f3, f4, zt (by omega) (by omega), zt (by omega) (by omega)]
   unfold Jka Jns
   rw [if_pos hn, if_pos hn]
  ·have c1 : ilt ((j + 1 : Nat) : Int) (l.length : Int) = false := Xe (by omega)
   simp only [Je, c1, if_false, Ab, hpv, eA, eB]
   rw [s1, s2]
   unfold Jka Jns
   rw [if_neg hn, if_neg hn, Bc, Bc]
 ·have c0 : igt (i : Int) 0 = false := Jhc (by omega)
  have hpv : (Jbv p l l.length).from_ = Jk9 p l i := by unfold Jk9; rw [if_neg h0]; rfl
  simp only [Je, c0, if_false, Ab, getA hi, getA hj, getAh hj, getAh hi, getB hj, getB hi, getAb hj, getAb hi, nx, Jjj]
  by_cases hn : j + 1 < l.length
  ·have c1 : ilt ((j + 1 : Nat) : Int) (l.length : Int) = true := Xg (by omega)
   have na := (Jdc (vt (j + 1) hn)).2
   have d3 := Jfj ja.2 na.1
   have d4 := Jfj ib.2 na.1
   have f3 := Jl9 ja.2 na.1
   have f4 := Jl9 ib.2 na.1
   simp only [Je, c1, if_true, getA hn, hpv, eA, eB]
   rw [s1, s2, f3, f4, zt (by omega) (by omega), zt (by omega) (by omega)]
   unfold Jka Jns
   rw [if_pos hn, if_pos hn]
  ·have c1 : ilt ((j + 1 : Nat) : Int) (l.length : Int) = false := Xe (by omega)
   simp only [Je, c1, if_false, Ab, hpv, eA, eB]
   rw [s1, s2]
   unfold Jka Jns
   rw [if_neg hn, if_neg hn, Bc, Bc]
def Low (p : Ja) (l : List Jb) (i j : Nat) : Prop := Jns p l i j < Jka p l i j
theorem step0_ok {p : Ja} (hp : InR p) {l : List Jb} (hv : ∀ t ∈ l, VT t) (hL : l.length ≤ 100000) {i : Nat} (hi : i < l.length) (k2 k3 : Int) :
  ∃ r, Kn (jm (Jbv p l l.length) (i : Int) k2 k3) bigN (i : Int) = some r ∧ ((∃ j : Nat, r = .inl ((i : Int), (j : Int), true) ∧ i ≤ j ∧ j < l.length ∧ Low p l i j ∧ ∀ j', i ≤ j' → j' < j → ¬ Low p l i j') ∨ (r = .inr () ∧ ∀ j', i ≤ j' → j' < l.length → ¬ Low p l i j')) := by
 refine Qe (body := jm (Jbv p l l.length) (i : Int) k2 k3) (fun s => ∃ j : Nat, s = j ∧ i ≤ j ∧ j ≤ l.length ∧ ∀ j', i ≤ j' → j' < j → ¬ Low p l i j') (fun s => (l.length - s).toNat) _ ?_ bigN (i : Int) ⟨i, rfl, by omega, by omega, fun j' h1 h2 => by omega⟩ (Qk (by omega))
 rintro s ⟨j, rfl, h1, h2, h3⟩
 by_cases hj : j < l.length
 ·have c : ilt (j : Int) (l.length : Int) = true := Xg (by omega)
  have g := gains_ok hp hv hL h1 hj
  by_cases hlow : Low p l i j
  ·right
   have c2 : ilt (Jns p l i j) (Jka p l i j) = true := Xg hlow
   exact ⟨_, by simp only [Je, jm, Jjj, c, if_true, g, c2], .inl ⟨j, rfl, h1, hj, hlow, h3⟩⟩
  ·left
   have c2 : ilt (Jns p l i j) (Jka p l i j) = false := Xe hlow
   refine ⟨((j + 1 : Nat) : Int), by simp only [Je, jm, Jjj, c, if_true, g, c2, if_false, Ab, zx (i := j) (by omega)], ⟨j + 1, rfl, by omega, hj, fun j' h4 h5 => ?_⟩, by omega⟩
   by_cases hjj : j' = j
   ·rw [hjj]; exact hlow
   ·exact h3 j' h4 (by omega)
 ·right
  have c : ilt (j : Int) (l.length : Int) = false := Xe (by omega)
  exact ⟨_, by simp only [Je, jm, Jjj, c, if_false, Ab], .inr ⟨rfl, fun j' h4 h5 => h3 j' h4 (by omega)⟩⟩
structure FirstLow (p : Ja) (l : List Jb) (i j : Nat) : Prop where
 le : i ≤ j
 lt : j < l.length
 low : Low p l i j
 row : ∀ j', i ≤ j' → j' < j → ¬ Low p l i j'
 pre : ∀ i' j', i' < i → i' ≤ j' → j' < l.length → ¬ Low p l i' j'
def J3d (p : Ja) (l : List Jb) : Prop := ∀ i' j', i' ≤ j' → j' < l.length → ¬ Low p l i' j'
theorem step_ok {p : Ja} (hp : InR p) {l : List Jb} (hv : ∀ t ∈ l, VT t) (hL : l.length ≤ 100000) :
  (∃ i j : Nat, Jcv (Jbv p l l.length) = some ((i : Int), (j : Int), true) ∧ FirstLow p l i j) ∨ (Jcv (Jbv p l l.length) = some (0, 0, false) ∧ J3d p l) := by
 obtain ⟨r, e, hr⟩ := Qe (body := Jah (Jbv p l l.length) (l.length : Int)) (fun s => ∃ i : Nat, s = i ∧ i ≤ l.length ∧ ∀ i' j', i' < i → i' ≤ j' → j' < l.length → ¬ Low p l i' j') (fun s => (l.length - s).toNat)
  (fun r => (∃ i j : Nat, r = .inl ((i : Int), (j : Int), true) ∧ FirstLow p l i j) ∨ (r = .inr () ∧ J3d p l))
  (by
   rintro s ⟨i, rfl, h2, h3⟩
   by_cases hi : i < l.length
   ·have c : ilt (i : Int) (l.length : Int) = true := Xg (by omega)
    obtain ⟨x, ex, hx⟩ := step0_ok hp hv hL hi (l.length : Int) (i : Int)
    rcases hx with ⟨j, rfl, h4, h5, h6, h7⟩ | ⟨rfl, h4⟩
    ·right
     exact ⟨_, by simp only [Je, Jah, c, if_true, ex], .inl ⟨i, j, rfl, h4, h5, h6, h7, h3⟩⟩
    ·left
     refine ⟨((i + 1 : Nat) : Int), by simp only [Je, Jah, c, if_true, ex, zx (i := i) (by omega)], ⟨i + 1, rfl, hi, fun i' j' h5 h6 h7 => ?_⟩, by omega⟩
     by_cases hii : i' = i
     ·rw [hii] at h6 ⊢; exact h4 j' h6 h7
     ·exact h3 i' j' (by omega) h6 h7
   ·right
    have c : ilt (i : Int) (l.length : Int) = false := Xe (by omega)
    exact ⟨_, by simp only [Je, Jah, c, if_false, Ab], .inr ⟨rfl, fun i' j' h4 h5 => h3 i' j' (by omega) h4 h5⟩⟩)
  bigN 0 ⟨0, rfl, by omega, fun i' j' h => by omega⟩ (Qk (by omega))
 unfold Jcv
 rw [Jjj, e]; try simp only [Je]
 rcases hr with ⟨i, j, rfl, h⟩ | ⟨rfl, h⟩
 ·exact .inl ⟨i, j, rfl, h⟩
 ·exact .inr ⟨rfl, h⟩
def tr (t : Jb) : Jb := if t.Closed = true then t else ⟨t.Role, t.Closed, .lst t.Cells.l.reverse⟩
theorem tr_ok {t : Jb} (h : VT t) : VT (tr t) ∧ (tr t).Cells.l.Perm t.Cells.l := by
 unfold tr; split
 ·exact ⟨h, .refl _⟩
 ·exact ⟨h.rev rfl, Av _⟩
theorem swap_ok {x : FS Jb} (hL : x.l.length ≤ 100000) {i j : Nat} (hij : i ≤ j) (hj : j < x.l.length) (k0 : Ja) (k1 k2 k3 : Int) :
  ∃ y, Kn (Jbi k0 k1 k2 k3) bigN (x, (i : Int), (j : Int)) = some y ∧ y.l.length = x.l.length ∧ ∀ q : Nat, y.l[q]? = if i ≤ q ∧ q ≤ j then x.l[i + j - q]? else x.l[q]? := by
 refine Qe (body := Jbi k0 k1 k2 k3) (fun s => ∃ m : Nat, s.2.1 = ((i + m : Nat) : Int) ∧ s.2.2 = (j : Int) - m ∧ 2 * m ≤ j - i + 1 ∧ s.1.l.length = x.l.length ∧ ∀ q : Nat, s.1.l[q]? = if (i ≤ q ∧ q < i + m) ∨ (j < q + m ∧ q ≤ j) then x.l[i + j - q]? else x.l[q]?)
  (fun s => (s.2.2 - s.2.1 + 1).toNat) _ ?_ bigN (x, (i : Int), (j : Int)) ⟨0, rfl, by simp, by omega, rfl, fun q => by rw [if_neg (by omega)]⟩ (Qk (by simp only; omega))
 rintro ⟨y, a, b⟩ ⟨m, h1, h2, h3, h4, h5⟩
 simp only at h1 h2 h4 h5 ⊢
 subst h1 h2
 by_cases hlt : i + m < j - m
 ·left
  have hb : (j : Int) - m = ((j - m : Nat) : Int) := by omega
  rw [hb]; try rw [Je]
  have c : ilt ((i + m : Nat) : Int) ((j - m : Nat) : Int) = true := Xg (by omega)
  have la : i + m < y.l.length := by omega
  have lb : j - m < y.l.length := by omega
  have ga := Ku la
  have gb := Ku lb
  have gc : fget (fset y ((i + m : Nat) : Int) y.l[j - m]) ((j - m : Nat) : Int) = some y.l[j - m] := Jcj (by rw [Jjp, List.getElem?_set_ne (by simp only [Je, Ay]; omega)]; exact Aa lb)
  refine ⟨(fset (fset y ((i + m : Nat) : Int) y.l[j - m]) ((j - m : Nat) : Int) y.l[i + m], ((i + m + 1 : Nat) : Int), (j : Int) - (m + 1 : Nat)), ?_, ⟨m + 1, by simp only; omega, rfl, by omega, ?_, fun q => ?_⟩, by simp only; omega⟩
  ·simp only [Je, Jbi, c, if_true, ga, gb, gc, zx (i := i + m) (by omega)]
   rw [Xc (by omega) (by omega), show ((j - m : Nat) : Int) - 1 = (j : Int) - ((m + 1 : Nat) : Int) by omega]
  ·simp only [Je, Jjp, Bg]; exact h4
  ·simp only [Je, Jjp, Ay]
   have va : y.l[i + m]? = x.l[i + m]? := by rw [h5]; rw [if_neg (by omega)]
   have vb : y.l[j - m]? = x.l[j - m]? := by rw [h5]; rw [if_neg (by omega)]
   rw [Aa la] at va
   rw [Aa lb] at vb
   rw [Az]
   by_cases hq1 : j - m = q
   ·subst hq1
    rw [if_pos rfl, if_pos (by rw [Bg]; omega), if_pos (by omega), show i + j - (j - m) = i + m by omega, ← va]
   ·rw [if_neg hq1, Az]
    by_cases hq2 : i + m = q
    ·subst hq2
     rw [if_pos rfl, if_pos la, if_pos (by omega), show i + j - (i + m) = j - m by omega, ← vb]
    ·rw [if_neg hq2, h5 q]
     by_cases hc : (i ≤ q ∧ q < i + m) ∨ (j < q + m ∧ q ≤ j)
     ·rw [if_pos hc, if_pos (by omega)]
     ·rw [if_neg hc, if_neg (by omega)]
 ·right
  have c : ilt ((i + m : Nat) : Int) ((j : Int) - m) = false := Xe (by omega)
  refine ⟨y, by simp only [Je, Jbi, c, if_false, Ab], h4, fun q => ?_⟩
  rw [h5 q]
  by_cases hc : (i ≤ q ∧ q < i + m) ∨ (j < q + m ∧ q ≤ j)
  ·rw [if_pos hc, if_pos (by omega)]
  ·rw [if_neg hc]
   by_cases hq : i ≤ q ∧ q ≤ j
   ·rw [if_pos hq, show i + j - q = q by omega]
   ·rw [if_neg hq]
theorem flip_ok {x : FS Jb} (hv : ∀ t ∈ x.l, VT t) (hL : x.l.length ≤ 100000) {i j : Nat} (hij : i ≤ j) (hj : j < x.l.length) (k0 : Ja) (k1 : Int) :
  ∃ y, Kn (Jal k0 k1 (j : Int)) bigN (x, (i : Int)) = some y ∧ y.l.length = x.l.length ∧ ∀ q : Nat, y.l[q]? = if i ≤ q ∧ q ≤ j then (x.l[q]?).map tr else x.l[q]? := by
 refine Qe (body := Jal k0 k1 (j : Int)) (fun s => ∃ m : Nat, s.2 = ((i + m : Nat) : Int) ∧ i + m ≤ j + 1 ∧ s.1.l.length = x.l.length ∧ ∀ q : Nat, s.1.l[q]? = if i ≤ q ∧ q < i + m then (x.l[q]?).map tr else x.l[q]?)
  (fun s => ((j : Int) + 1 - s.2).toNat) _ ?_ bigN (x, (i : Int)) ⟨0, rfl, by omega, rfl, fun q => by rw [if_neg (by omega)]⟩ (Qk (by simp only; omega))
 rintro ⟨y, a⟩ ⟨m, h1, h3, h4, h5⟩
 simp only at h1 h4 h5 ⊢
 subst h1
 by_cases hle : i + m ≤ j
 ·left
  have c : ile ((i + m : Nat) : Int) (j : Int) = true := by rw [Je9]; omega
  have la : i + m < y.l.length := by omega
  have ga := Ku la
  have va : y.l[i + m]? = x.l[i + m]? := by rw [h5]; rw [if_neg (by omega)]
  have hvt : VT y.l[i + m] := by
   rw [Aa la] at va
   exact hv _ (Ac va.symm)
  by_cases hc : y.l[i + m].Closed = true
  ·refine ⟨(y, ((i + m + 1 : Nat) : Int)), by simp only [Je, Jal, c, if_true, ga, hc, Qx, if_false, Ab, zx (i := i + m) (by omega)], ⟨m + 1, rfl, by omega, h4, fun q => ?_⟩, by simp only; omega⟩
   rw [h5 q]
   by_cases hq : q = i + m
   ·subst hq
    rw [if_neg (by omega), if_pos (by omega), ← va, Aa la, Option.map_some, tr, if_pos hc]
   ·by_cases hc2 : i ≤ q ∧ q < i + m
    ·rw [if_pos hc2, if_pos (by omega)]
    ·rw [if_neg hc2, if_neg (by omega)]
  ·have hf : bnot y.l[i + m].Closed = true := by rw [Jbj]; exact hc
   refine ⟨(fset y ((i + m : Nat) : Int) (tr y.l[i + m]), ((i + m + 1 : Nat) : Int)), ?_, ⟨m + 1, rfl, by omega, by simp only [Je, Jjp, Bg]; exact h4, fun q => ?_⟩, by simp only; omega⟩
   ·simp only [Je, Jal, c, if_true, ga, hf, Jrw hvt, zx (i := i + m) (by omega)]
    rw [tr, if_neg hc]
   ·simp only [Je, Jjp, Ay]
    rw [Az]
    by_cases hq : i + m = q
    ·subst hq
     rw [if_pos rfl, if_pos la, if_pos (by omega), ← va, Aa la, Option.map_some]
    ·rw [if_neg hq, h5 q]
     by_cases hc2 : i ≤ q ∧ q < i + m
     ·rw [if_pos hc2, if_pos (by omega)]
     ·rw [if_neg hc2, if_neg (by omega)]
 ·right
  have c : ile ((i + m : Nat) : Int) (j : Int) = false := by rw [← An, Je9]; omega
  refine ⟨y, by simp only [Je, Jal, c, if_false, Ab], h4, fun q => ?_⟩
  rw [h5 q]
  by_cases hc : i ≤ q ∧ q < i + m
  ·rw [if_pos hc, if_pos (by omega)]
  ·rw [if_neg hc, if_neg (by omega)]
def revP (l : List Jb) (i j : Nat) : List Jb := l.take i ++ (((l.drop i).take (j + 1 - i)).reverse.map tr ++ l.drop (j + 1))
theorem Jxd {l : List Jb} {i j : Nat} (hij : i ≤ j) (hj : j < l.length) (q : Nat) : (revP l i j)[q]? = if i ≤ q ∧ q ≤ j then (l[i + j - q]?).map tr else l[q]? := by
 unfold revP
 have l1 : (l.take i).length = i := by rw [Ag]; omega
 have l2 : ((l.drop i).take (j + 1 - i)).length = j + 1 - i := by rw [Ag, Ae]; omega
 by_cases h1 : q < i
 ·rw [Ak (by omega), Ao, if_pos h1, if_neg (by omega)]
 ·rw [Aj (by omega), l1]
  by_cases h2 : q ≤ j
  ·rw [Ak (by rw [Ai, Ah]; omega), List.getElem?_map, As (by omega), l2, Ao, if_pos (by omega), At, if_pos (by omega)]
   congr 2; omega
  ·rw [Aj (by rw [Ai, Ah]; omega), Ai, Ah, l2, At, if_neg (by omega)]
   congr 1; omega
theorem Jlu {l : List Jb} {i j : Nat} (hv : ∀ t ∈ l, VT t) : ∀ t ∈ revP l i j, VT t := by
 intro t ht
 simp only [Je, revP, Bd, List.mem_map, List.mem_reverse] at ht
 rcases ht with ht | ⟨u, hu, rfl⟩ | ht
 ·exact hv t (Am ht)
 ·exact (tr_ok (hv u (Al (Am hu)))).1
 ·exact hv t (Al ht)
theorem Jo2 {l : List Jb} {i j : Nat} (hij : i ≤ j) (hj : j < l.length) : (revP l i j).length = l.length := by
 unfold revP
 simp only [Je, Aq, Ai, Ah, Ag, Ae]
 omega
theorem Jtu : ∀ {l : List Jb}, (∀ t ∈ l, VT t) → (Jh1 (l.map tr)).Perm (Jh1 l)
 | [], _ => .refl _
 | t :: l, hv => by
  simp only [Je, Jh1, List.map_cons, List.flatMap_cons]
  exact (tr_ok (hv t (List.mem_cons_self ..))).2.append (Jtu fun u hu => hv u (List.mem_cons_of_mem _ hu))
theorem Jvk {l m : List Jb} (h : l.Perm m) : (Jh1 l).Perm (Jh1 m) := h.flatMap_right _
theorem Jzm {l : List Jb} {i j : Nat} (hij : i ≤ j) (hv : ∀ t ∈ l, VT t) : (Jh1 (revP l i j)).Perm (Jh1 l) := by
 have hl : l = l.take i ++ ((l.drop i).take (j + 1 - i) ++ l.drop (j + 1)) := by
  have h1 : l.drop (j + 1) = (l.drop i).drop (j + 1 - i) := by rw [List.drop_drop]; congr 1; omega
  rw [h1, Ap, Ap]
 conv => rhs; rw [hl]
 unfold revP
 simp only [Je, Jh1, Bk]
 refine List.Perm.append_left _ (List.Perm.append_right _ ?_)
 rw [List.map_reverse]
 refine (Jvk (Av _)).trans (Jtu fun t ht => hv t (Al (Am ht)))
inductive Imp (p : Ja) : Nat → List Jb → List Jb → Prop where
 | zero (l : List Jb) : Imp p 0 l l
 | stop (n : Nat) (l : List Jb) (h : J3d p l) : Imp p (n + 1) l l
 | go (n i j : Nat) (l r : List Jb) (h : FirstLow p l i j) (hr : Imp p n (revP l i j) r) : Imp p (n + 1) l r
theorem Jty {p : Ja} (hp : InR p) (x : FS Jb) (hv : ∀ t ∈ x.l, VT t) (hL : x.l.length ≤ 100000) (n : Nat) (hn : n ≤ 64) : ∃ out, Kn (Jam p) bigN (x, (n : Int)) = some out ∧ Imp p n x.l out.l := by
 refine Qe (body := Jam p) (fun s => ∃ m : Nat, s.2 = m ∧ m ≤ 64 ∧ (∀ t ∈ s.1.l, VT t) ∧ s.1.l.length ≤ 100000 ∧ ∀ r, Imp p m s.1.l r → Imp p n x.l r) (fun s => s.2.toNat) (fun out => Imp p n x.l out.l) ?_ bigN (x, (n : Int)) ⟨n, rfl, hn, hv, hL, fun r hr => hr⟩ (Qk (by simp only; omega))
 rintro ⟨y, b⟩ ⟨m, h1, h2, h3, h4, h5⟩
 simp only at h1 h3 h4 h5 ⊢
 subst h1
 cases m with
 | zero =>
  right
  have c : igt ((0 : Nat) : Int) 0 = false := rfl
  exact ⟨y, by simp only [Je, Jam, c, if_false, Ab], h5 _ (.zero _)⟩
 | succ m =>
  have c : igt ((m + 1 : Nat) : Int) 0 = true := Jf6 (by omega)
  have ep := J0a p y h3 h4
  have eq0 : ieq (flen y) (flen y) = true := Jlb rfl
  rcases step_ok hp h3 h4 with ⟨i, j, es, hf⟩ | ⟨es, hno⟩
  ·left
   obtain ⟨z, ez, zl, hz⟩ := swap_ok h4 hf.le hf.lt p ((m + 1 : Nat) : Int) (i : Int) (j : Int)
   have hzv : ∀ t ∈ z.l, VT t := fun t ht => by
    obtain ⟨q, hq⟩ := Bj ht
    rw [hz q] at hq
    split at hq
    ·exact h3 t (Ac hq)
    ·exact h3 t (Ac hq)
   obtain ⟨w, ew, wl, hw⟩ := flip_ok hzv (by omega) hf.le (by rw [zl]; exact hf.lt) p ((m + 1 : Nat) : Int)
   have hwr : w.l = revP y.l i j := by
    apply List.ext_getElem?
    intro q
    rw [hw q, Jxd hf.le hf.lt q]
    by_cases hq : i ≤ q ∧ q ≤ j
    ·rw [if_pos hq, if_pos hq, hz q, if_pos hq]
    ·rw [if_neg hq, if_neg hq, hz q, if_neg hq]
   have sm : isub .i64 ((m + 1 : Nat) : Int) 1 = ((m : Nat) : Int) := by rw [Xc (by omega) (by omega)]; omega
   refine ⟨(w, ((m : Nat) : Int)), by simp only [Je, Jam, c, if_true, ep, eq0, es, Qx, if_false, Ab, ez, ew, sm], ⟨m, rfl, by omega, ?_, ?_, fun r hr => h5 r (.go m i j _ r hf ?_)⟩, by simp only; omega⟩
   ·simp only [Je, hwr]; exact Jlu h3
   ·simp only [Je, hwr, Jo2 hf.le hf.lt]; exact h4
   ·simp only [Je, hwr] at hr; exact hr
  ·right
   exact ⟨y, by simp only [Je, Jam, c, if_true, ep, eq0, es, Zt], h5 _ (.stop m _ hno)⟩
theorem Jzd {p : Ja} (hp : InR p) (x : FS Jb) (hv : ∀ t ∈ x.l, VT t) (hL : x.l.length ≤ 100000) (n : Nat) (hn : n ≤ 64) : ∃ out, Jdw p x (n : Int) = some out ∧ Imp p n x.l out.l := by
 obtain ⟨y, ey, hy⟩ := Jx5 x hv (by omega)
 obtain ⟨out, eo, ho⟩ := Jty hp y (by rw [hy]; exact hv) (by rw [hy]; exact hL) n hn
 refine ⟨out, ?_, by rw [hy] at ho; exact ho⟩
 have hm : imin (n : Int) 64 = n := by rw [Jvp]; omega
 unfold Jdw
 rw [if_neg (by rw [Jbj, Juq]; exact fun h => h hp), ey, hm]; try simp only [Je]
 simp only [Je, eo]
theorem Imp.props {p : Ja} {n : Nat} {l r : List Jb} (h : Imp p n l r) : (∀ t ∈ l, VT t) → (∀ t ∈ r, VT t) ∧ r.length = l.length ∧ (Jh1 r).Perm (Jh1 l) := by
 induction h with
 | zero l => exact fun hv => ⟨hv, rfl, .refl _⟩
 | stop n l h => exact fun hv => ⟨hv, rfl, .refl _⟩
 | go n i j l r h hr ih =>
  intro hv
  obtain ⟨h1, h2, h3⟩ := ih (Jlu hv)
  exact ⟨h1, by rw [h2, Jo2 h.le h.lt], h3.trans (Jzm h.le hv)⟩
end Go.Proofs.YtemehoioeoohmaaGreat
