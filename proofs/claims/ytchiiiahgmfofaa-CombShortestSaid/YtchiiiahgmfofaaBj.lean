/- comb: the levels of the law, in plain Lean. Conditions: none. -/
import Derived.Test.YtchiiiahgmfofaaBi
namespace Go.Proofs.Ytchiiiahgmfofaa
open Go Go.Vv Go.Proofs
set_option linter.unusedSimpArgs false
set_option linter.unusedVariables false
set_option linter.unusedSectionVars false
theorem adj_iff (p q : api_Cell) : Adj p q ↔ (p.X - q.X).natAbs + (p.Y - q.Y).natAbs = 1 := by
  constructor
  · rintro ⟨k, hk, rfl⟩
    have : k = 0 ∨ k = 1 ∨ k = 2 ∨ k = 3 := by omega
    rcases this with rfl | rfl | rfl | rfl <;> simp only [nbr] <;> omega
  · intro h
    have : (q.X = p.X + 1 ∧ q.Y = p.Y) ∨ (q.X = p.X - 1 ∧ q.Y = p.Y) ∨ (q.X = p.X ∧ q.Y = p.Y + 1) ∨ (q.X = p.X ∧ q.Y = p.Y - 1) := by omega
    rcases this with h | h | h | h
    · exact ⟨0, by omega, Cell.ext' h.1 h.2⟩
    · exact ⟨1, by omega, Cell.ext' h.1 h.2⟩
    · exact ⟨2, by omega, Cell.ext' h.1 h.2⟩
    · exact ⟨3, by omega, Cell.ext' h.1 h.2⟩
theorem sq_abs (x : Int) : x * x = ((x.natAbs * x.natAbs : Nat) : Int) := by rw [Int.natAbs_mul_self' x |>.symm]; simp
theorem step_iff {p q : api_Cell} (hp : InR p) (hq : InR q) : u_additivelaw34_step p q = true ↔ Adj p q := by
  rw [adj_iff]
  unfold InR at hp hq
  have e1 : isub .i64 p.X q.X = p.X - q.X := isub_eq (by omega) (by omega)
  have e2 : isub .i64 p.Y q.Y = p.Y - q.Y := isub_eq (by omega) (by omega)
  have s1 := sq_abs (p.X - q.X)
  have s2 := sq_abs (p.Y - q.Y)
  have b1 : (p.X - q.X).natAbs * (p.X - q.X).natAbs ≤ 8192 * 8192 := Nat.mul_le_mul (by omega) (by omega)
  have b2 : (p.Y - q.Y).natAbs * (p.Y - q.Y).natAbs ≤ 8192 * 8192 := Nat.mul_le_mul (by omega) (by omega)
  have n1 := Nat.le_mul_self (p.X - q.X).natAbs
  have n2 := Nat.le_mul_self (p.Y - q.Y).natAbs
  unfold u_additivelaw34_step
  rw [e1, e2, ieq_iff, imul_eq (by omega) (by omega), imul_eq (by omega) (by omega), iadd_eq (by omega) (by omega), s1, s2]
  constructor
  · intro h
    have h' : (p.X - q.X).natAbs * (p.X - q.X).natAbs + (p.Y - q.Y).natAbs * (p.Y - q.Y).natAbs = 1 := by omega
    by_cases h0 : (p.X - q.X).natAbs = 0
    · by_cases h1 : (p.Y - q.Y).natAbs = 0
      · rw [h0, h1] at h'; omega
      · omega
    · omega
  · intro h
    have : ((p.X - q.X).natAbs = 0 ∧ (p.Y - q.Y).natAbs = 1) ∨ ((p.X - q.X).natAbs = 1 ∧ (p.Y - q.Y).natAbs = 0) := by omega
    rcases this with ⟨h1, h2⟩ | ⟨h1, h2⟩ <;> rw [h1, h2] <;> decide
def gI (d : FS Int) (j : Nat) : Int := (d.l[j]?).getD 0
def gC (x : FS api_Cell) (j : Nat) : api_Cell := (x.l[j]?).getD ⟨0, 0⟩
theorem fget_gI {d : FS Int} {j : Nat} (h : j < d.l.length) : fget d (j : Int) = some (gI d j) := by
  rw [fget_at h, gI, List.getElem?_eq_getElem h]; rfl
theorem fget_gC {x : FS api_Cell} {j : Nat} (h : j < x.l.length) : fget x (j : Int) = some (gC x j) := by
  rw [fget_at h, gC, List.getElem?_eq_getElem h]; rfl
theorem gI_set {d : FS Int} {k : Nat} (h : k < d.l.length) (v : Int) (j : Nat) : gI (fset d (k : Int) v) j = if j = k then v else gI d j := by
  unfold gI
  rw [fset_l, Int.toNat_natCast, List.getElem?_set]
  by_cases e : k = j
  · subst e; rw [if_pos rfl, if_pos h, if_pos rfl]; rfl
  · rw [if_neg e, if_neg (fun h => e h.symm)]
/-- Within a round. -/
structure Rnd (x : FS api_Cell) (n : Nat) (d0 : FS Int) (P : Nat → Nat → Prop) (d : FS Int) (more : Bool) : Prop where
  len : d.l.length = x.l.length
  val : ∀ j, j < x.l.length → gI d j = gI d0 j ∨ (gI d0 j = -1 ∧ gI d j = n + 1 ∧ ∃ i, i < x.l.length ∧ gI d0 i = n ∧ Adj (gC x i) (gC x j))
  did : ∀ i j, i < x.l.length → j < x.l.length → P i j → gI d0 i = n → Adj (gC x i) (gC x j) → gI d0 j = -1 → gI d j = n + 1
  no : more = false → ∀ j, j < x.l.length → gI d j = gI d0 j
  yes : more = true → ∃ j, j < x.l.length ∧ gI d0 j = -1 ∧ gI d j = n + 1
section
variable {x : FS api_Cell} (hin : ∀ j, j < x.l.length → InR (gC x j)) (hx : x.l.length ≤ 100000000) {n : Nat} (hn : n ≤ 100000000) {d0 : FS Int} (hd0 : ∀ j, j < x.l.length → -1 ≤ gI d0 j ∧ gI d0 j ≤ n)
include hin hx hn hd0
theorem round_inner (i : Nat) (hi : i < x.l.length) {d : FS Int} {m : Bool} (h : Rnd x n d0 (fun i' _ => i' < i) d m) :
    ∃ y, loopT (t_additivelaw34_levels_L1 x (n : Int) (i : Int)) bigN (d, m, 0) = some y ∧ Rnd x n d0 (fun i' _ => i' < i + 1) y.1 y.2 := by
  refine loop_ok (body := t_additivelaw34_levels_L1 x (n : Int) (i : Int)) (fun s => ∃ k : Nat, s.2.2 = k ∧ k ≤ x.l.length ∧ Rnd x n d0 (fun i' j => i' < i ∨ (i' = i ∧ j < k)) s.1 s.2.1) (fun s => (x.l.length - s.2.2).toNat) (fun y => Rnd x n d0 (fun i' _ => i' < i + 1) y.1 y.2) ?_ bigN _ ⟨0, rfl, by omega, h.len, h.val, fun i' j hi' hj hP => h.did i' j hi' hj (by omega), h.no, h.yes⟩ (bigN_gt (by simp only; omega))
  rintro ⟨d, m, c⟩ ⟨k, hc, hk, R⟩
  simp only at hc R
  subst hc
  have gdi := fget_gI (d := d) (j := i) (by rw [R.len]; exact hi)
  have hvi := R.val i hi
  by_cases hlt : k < x.l.length
  · have c1 : ilt (k : Int) (flen x) = true := ilt_tt (by rw [flen_eq]; omega)
    by_cases hdi : gI d i = n
    · left
      have hd0i : gI d0 i = n := by rcases hvi with h | ⟨h1, h2, -⟩ <;> omega
      have c2 : ieq (gI d i) (n : Int) = true := ieq_iff.2 hdi
      have gdk := fget_gI (d := d) (j := k) (by rw [R.len]; exact hlt)
      have gxi := fget_gC (x := x) hi
      have gxk := fget_gC (x := x) hlt
      have b0 := hd0 k hlt
      by_cases hneg : gI d k < 0
      · have c3 := ilt_tt hneg
        have hk0 : gI d0 k = -1 := by
          rcases R.val k hlt with h | ⟨h1, h2, -⟩ <;> omega
        by_cases hs : u_additivelaw34_step (gC x i) (gC x k) = true
        · have hadj := (step_iff (hin i hi) (hin k hlt)).1 hs
          have ea : iadd .i64 (n : Int) 1 = (n : Int) + 1 := iadd_eq (by omega) (by omega)
          have hkl : k < d.l.length := by rw [R.len]; exact hlt
          refine ⟨(fset d (k : Int) ((n : Int) + 1), true, ((k + 1 : Nat) : Int)), ?_, ⟨k + 1, rfl, by omega, ?_⟩, by simp only; omega⟩
          · simp only [t_additivelaw34_levels_L1, c1, gdi, gOpt_tt, Option.getD_some, c2, band_t, if_true, gdk, c3, gxi, gxk, hs, ea, isucc (i := k) (by omega)]
          · refine ⟨by rw [fset_len]; exact R.len, fun j hj => ?_, fun i' j hi' hj hP h0 ha hj0 => ?_, fun h => (by simp at h), fun _ => ⟨k, hlt, hk0, by rw [gI_set hkl, if_pos rfl]⟩⟩
            · rw [gI_set hkl]
              by_cases e : j = k
              · subst e; rw [if_pos rfl]; exact .inr ⟨hk0, rfl, i, hi, hd0i, hadj⟩
              · rw [if_neg e]; exact R.val j hj
            · rw [gI_set hkl]
              by_cases e : j = k
              · rw [if_pos e]
              · rw [if_neg e]; exact R.did i' j hi' hj (by omega) h0 ha hj0
        · have hs' := hs
          rw [Bool.not_eq_true] at hs
          refine ⟨(d, m, ((k + 1 : Nat) : Int)), ?_, ⟨k + 1, rfl, by omega, R.len, R.val, fun i' j hi' hj hP h0 ha hj0 => ?_, R.no, R.yes⟩, by simp only; omega⟩
          · simp only [t_additivelaw34_levels_L1, c1, gdi, gOpt_tt, Option.getD_some, c2, band_t, if_true, gdk, c3, gxi, gxk, hs, Bool.false_eq_true, if_false, isucc (i := k) (by omega)]
          · by_cases e : i' = i ∧ j = k
            · obtain ⟨rfl, rfl⟩ := e
              exact absurd ((step_iff (hin _ hi') (hin _ hj)).2 ha) hs'
            · exact R.did i' j hi' hj (by omega) h0 ha hj0
      · have c3 := ilt_ff hneg
        refine ⟨(d, m, ((k + 1 : Nat) : Int)), ?_, ⟨k + 1, rfl, by omega, R.len, R.val, fun i' j hi' hj hP h0 ha hj0 => ?_, R.no, R.yes⟩, by simp only; omega⟩
        · simp only [t_additivelaw34_levels_L1, c1, gdi, gOpt_tt, gOpt_ff, Option.getD_some, c2, band_t, if_true, gdk, c3, band_f, Bool.false_eq_true, if_false, isucc (i := k) (by omega)]
        · by_cases e : j = k
          · subst e
            rcases R.val j hj with h | ⟨h1, h2, -⟩
            · omega
            · exact h2
          · exact R.did i' j hi' hj (by omega) h0 ha hj0
    · right
      have c2 : ieq (gI d i) (n : Int) = false := by rw [← Bool.not_eq_true, ieq_iff]; exact hdi
      refine ⟨(d, m), ?_, R.len, R.val, fun i' j hi' hj hP h0 ha hj0 => ?_, R.no, R.yes⟩
      · simp only [t_additivelaw34_levels_L1, c1, gdi, gOpt_tt, Option.getD_some, c2, band_t, Bool.false_eq_true, if_false]
      · by_cases e : i' = i
        · subst e
          rcases hvi with h | ⟨h1, h2, -⟩ <;> omega
        · exact R.did i' j hi' hj (by omega) h0 ha hj0
  · right
    have c1 : ilt (k : Int) (flen x) = false := ilt_ff (by rw [flen_eq]; omega)
    refine ⟨(d, m), ?_, R.len, R.val, fun i' j hi' hj hP h0 ha hj0 => R.did i' j hi' hj (by omega) h0 ha hj0, R.no, R.yes⟩
    simp only [t_additivelaw34_levels_L1, c1, gOpt_ff, band_f, Bool.false_eq_true, if_false]
theorem round_ok (hl : d0.l.length = x.l.length) : ∃ y, loopT (t_additivelaw34_levels_L2 x (n : Int)) bigN (d0, false, 0) = some y ∧ Rnd x n d0 (fun _ _ => True) y.1 y.2 := by
  refine loop_ok (body := t_additivelaw34_levels_L2 x (n : Int)) (fun s => ∃ i : Nat, s.2.2 = i ∧ i ≤ x.l.length ∧ Rnd x n d0 (fun i' _ => i' < i) s.1 s.2.1) (fun s => (x.l.length - s.2.2).toNat) (fun y => Rnd x n d0 (fun _ _ => True) y.1 y.2) ?_ bigN _ ⟨0, rfl, by omega, hl, fun j hj => .inl rfl, fun i' j hi' hj hP => absurd hP (by omega), fun _ j hj => rfl, fun h => (by simp at h)⟩ (bigN_gt (by simp only; omega))
  rintro ⟨d, m, c⟩ ⟨i, hc, hi, R⟩
  simp only at hc R
  subst hc
  by_cases hlt : i < x.l.length
  · left
    have c1 : ilt (i : Int) (flen x) = true := ilt_tt (by rw [flen_eq]; omega)
    obtain ⟨y, ey, hy⟩ := round_inner hin hx hn hd0 i hlt R
    exact ⟨(y.1, y.2, ((i + 1 : Nat) : Int)), by simp only [t_additivelaw34_levels_L2, c1, if_true, ey, isucc (i := i) (by omega)], ⟨i + 1, rfl, by omega, hy⟩, by simp only; omega⟩
  · right
    have c1 : ilt (i : Int) (flen x) = false := ilt_ff (by rw [flen_eq]; omega)
    exact ⟨(d, m), by simp only [t_additivelaw34_levels_L2, c1, Bool.false_eq_true, if_false], R.len, R.val, fun i' j hi' hj hP h0 ha hj0 => R.did i' j hi' hj (by omega) h0 ha hj0, R.no, R.yes⟩
end
end Go.Proofs.Ytchiiiahgmfofaa
