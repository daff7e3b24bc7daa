/- Toolpath: Improve, in plain Lean. Conditions: none. -/
import Derived.Test.YtemehoioeoohmaaGw
namespace Go.Proofs.Ytemehoioeoohmaa
open Go Go.Vv Go.Proofs
set_option linter.unusedSimpArgs false
set_option linter.unusedVariables false
set_option linter.unusedSectionVars false
section
variable {p : Ja} {l : List Jc} {m : Nat}
theorem getA (h : m < l.length) : fget (jj p l l.length).a (m : Int) = some (eA (at_ l m)) := Ja3 (by simp only [jj, Jib, Jm7 h]; simp [h])
theorem getB (h : m < l.length) : fget (jj p l l.length).b (m : Int) = some (eB (at_ l m)) := Ja3 (by simp only [jj, Jib, Jm7 h]; simp [h])
theorem getAh (h : m < l.length) : fget (jj p l l.length).ahead (m : Int) = some ((sumA l m : Nat) : Int) := Ja3 (by simp only [jj, Jib]; simp [h])
theorem getAb (h : m < l.length) : fget (jj p l l.length).aback (m : Int) = some ((sumB l m : Nat) : Int) := Ja3 (by simp only [jj, Jib]; simp [h])
theorem Jdz : flen (jj p l l.length).a = (l.length : Int) := by simp only [Ka, jj, Jib]; simp
end
def Jjb (p : Ja) (l : List Jc) (i : Nat) : Ja := if 0 < i then lstC (at_ l (i - 1)) else p
def Jfw (p : Ja) (l : List Jc) (i j : Nat) : Int :=
  (dist (Jjb p l i) (fstC (at_ l i)) : Int) + sumA l j - sumA l i + (if j + 1 < l.length then (dist (lstC (at_ l j)) (fstC (at_ l (j + 1))) : Int) else 0)
def Ji1 (p : Ja) (l : List Jc) (i j : Nat) : Int :=
  (dist (Jjb p l i) (fstB (at_ l j)) : Int) + sumB l j - sumB l i + (if j + 1 < l.length then (dist (lstB (at_ l i)) (fstC (at_ l (j + 1))) : Int) else 0)
theorem gains_ok {p : Ja} (hp : InR p) {l : List Jc} (hv : ∀ t ∈ l, VT t) (hL : l.length ≤ 100000) {i j : Nat} (hij : i ≤ j) (hj : j < l.length) :
    jz (jj p l l.length) i j = some (ilt (Ji1 p l i j) (Jfw p l i j)) := by
  have hi : i < l.length := by omega
  have vt : ∀ k, k < l.length → VT (at_ l k) := fun k hk => by rw [Jm7 hk]; exact hv _ (List.getElem_mem hk)
  have ia := (Jam (vt i hi)).2
  have ja := (Jam (vt j hj)).2
  have ib := (Jcs (vt i hi)).2
  have jb := (Jcs (vt j hj)).2
  have pr : InR (Jjb p l i) := by
    unfold Jjb; split
    · exact (Jam (vt (i - 1) (by omega))).2.2
    · exact hp
  have q1 := Jne hv i hi
  have q2 := Jne hv j hj
  have q3 := Jnn hv i hi
  have q4 := Jnn hv j hj
  have d1 := Jbs pr ia.1
  have d2 := Jbs pr jb.1
  have f1 := Jhl pr ia.1
  have f2 := Jhl pr jb.1
  -- the two sums without what comes behind
  have s1 : isub .i64 (iadd .i64 (Ki (Jjb p l i) (fstC (at_ l i))) ((sumA l j : Nat) : Int)) ((sumA l i : Nat) : Int) = (dist (Jjb p l i) (fstC (at_ l i)) : Int) + sumA l j - sumA l i := by
    rw [f1, Jan (by omega) (by omega), jr (by omega) (by omega)]
  have s2 : isub .i64 (iadd .i64 (Ki (Jjb p l i) (fstB (at_ l j))) ((sumB l j : Nat) : Int)) ((sumB l i : Nat) : Int) = (dist (Jjb p l i) (fstB (at_ l j)) : Int) + sumB l j - sumB l i := by
    rw [f2, Jan (by omega) (by omega), jr (by omega) (by omega)]
  have nx : iadd .i64 (j : Int) 1 = ((j + 1 : Nat) : Int) := z8 (by omega)
  unfold jz
  by_cases h0 : 0 < i
  · have c0 : igt (i : Int) 0 = true := Jdh (by omega)
    have sm : isub .i64 (i : Int) 1 = ((i - 1 : Nat) : Int) := by rw [jr (by omega) (by omega)]; omega
    have hpv : lstC (at_ l (i - 1)) = Jjb p l i := by unfold Jjb; rw [if_pos h0]
    simp only [c0, if_true, sm, getA (by omega : i - 1 < l.length), getA hi, getA hj, getAh hj, getAh hi, getB hj, getB hi, getAb hj, getAb hi, nx, Jdz]
    by_cases hn : j + 1 < l.length
    · have c1 : ilt ((j + 1 : Nat) : Int) (l.length : Int) = true := jf (by omega)
      have na := (Jam (vt (j + 1) hn)).2
      have d3 := Jbs ja.2 na.1
      have d4 := Jbs ib.2 na.1
      have f3 := Jhl ja.2 na.1
      have f4 := Jhl ib.2 na.1
      simp only [c1, if_true, getA hn, hpv, eA, eB]
      rw [s1, s2, f3, f4, Jan (by omega) (by omega), Jan (by omega) (by omega)]
      unfold Jfw Ji1
      rw [if_pos hn, if_pos hn]
    · have c1 : ilt ((j + 1 : Nat) : Int) (l.length : Int) = false := Zs (by omega)
      simp only [c1, if_false, Bool.false_eq_true, hpv, eA, eB]
      rw [s1, s2]
      unfold Jfw Ji1
      rw [if_neg hn, if_neg hn, Int.add_zero, Int.add_zero]
  · have c0 : igt (i : Int) 0 = false := Jd2 (by omega)
    have hpv : (jj p l l.length).from_ = Jjb p l i := by unfold Jjb; rw [if_neg h0]; rfl
    simp only [c0, if_false, Bool.false_eq_true, getA hi, getA hj, getAh hj, getAh hi, getB hj, getB hi, getAb hj, getAb hi, nx, Jdz]
    by_cases hn : j + 1 < l.length
    · have c1 : ilt ((j + 1 : Nat) : Int) (l.length : Int) = true := jf (by omega)
      have na := (Jam (vt (j + 1) hn)).2
      have d3 := Jbs ja.2 na.1
      have d4 := Jbs ib.2 na.1
      have f3 := Jhl ja.2 na.1
      have f4 := Jhl ib.2 na.1
      simp only [c1, if_true, getA hn, hpv, eA, eB]
      rw [s1, s2, f3, f4, Jan (by omega) (by omega), Jan (by omega) (by omega)]
      unfold Jfw Ji1
      rw [if_pos hn, if_pos hn]
    · have c1 : ilt ((j + 1 : Nat) : Int) (l.length : Int) = false := Zs (by omega)
      simp only [c1, if_false, Bool.false_eq_true, hpv, eA, eB]
      rw [s1, s2]
      unfold Jfw Ji1
      rw [if_neg hn, if_neg hn, Int.add_zero, Int.add_zero]
/-- Does it lower the cost? -/
def Low (p : Ja) (l : List Jc) (i j : Nat) : Prop := Ji1 p l i j < Jfw p l i j
theorem step0_ok {p : Ja} (hp : InR p) {l : List Jc} (hv : ∀ t ∈ l, VT t) (hL : l.length ≤ 100000) {i : Nat} (hi : i < l.length) (k2 k3 : Int) :
    ∃ r, Ku (X7 (jj p l l.length) (i : Int) k2 k3) bigN (i : Int) = some r ∧ ((∃ j : Nat, r = .inl ((i : Int), (j : Int), true) ∧ i ≤ j ∧ j < l.length ∧ Low p l i j ∧ ∀ j', i ≤ j' → j' < j → ¬ Low p l i j') ∨ (r = .inr () ∧ ∀ j', i ≤ j' → j' < l.length → ¬ Low p l i j')) := by
  refine Zp (body := X7 (jj p l l.length) (i : Int) k2 k3) (fun s => ∃ j : Nat, s = j ∧ i ≤ j ∧ j ≤ l.length ∧ ∀ j', i ≤ j' → j' < j → ¬ Low p l i j') (fun s => (l.length - s).toNat) _ ?_ bigN (i : Int) ⟨i, rfl, by omega, by omega, fun j' h1 h2 => by omega⟩ (Zz (by omega))
  rintro s ⟨j, rfl, h1, h2, h3⟩
  by_cases hj : j < l.length
  · have c : ilt (j : Int) (l.length : Int) = true := jf (by omega)
    have g := gains_ok hp hv hL h1 hj
    by_cases hlow : Low p l i j
    · right
      have c2 : ilt (Ji1 p l i j) (Jfw p l i j) = true := jf hlow
      exact ⟨_, by simp only [X7, Jdz, c, if_true, g, c2], .inl ⟨j, rfl, h1, hj, hlow, h3⟩⟩
    · left
      have c2 : ilt (Ji1 p l i j) (Jfw p l i j) = false := Zs hlow
      refine ⟨((j + 1 : Nat) : Int), by simp only [X7, Jdz, c, if_true, g, c2, if_false, Bool.false_eq_true, z8 (i := j) (by omega)], ⟨j + 1, rfl, by omega, hj, fun j' h4 h5 => ?_⟩, by omega⟩
      by_cases hjj : j' = j
      · rw [hjj]; exact hlow
      · exact h3 j' h4 (by omega)
  · right
    have c : ilt (j : Int) (l.length : Int) = false := Zs (by omega)
    exact ⟨_, by simp only [X7, Jdz, c, if_false, Bool.false_eq_true], .inr ⟨rfl, fun j' h4 h5 => h3 j' h4 (by omega)⟩⟩
/-- The first pair that lowers the cost. -/
structure Jmx (p : Ja) (l : List Jc) (i j : Nat) : Prop where
  le : i ≤ j
  lt : j < l.length
  low : Low p l i j
  row : ∀ j', i ≤ j' → j' < j → ¬ Low p l i j'
  pre : ∀ i' j', i' < i → i' ≤ j' → j' < l.length → ¬ Low p l i' j'
def NoLow (p : Ja) (l : List Jc) : Prop := ∀ i' j', i' ≤ j' → j' < l.length → ¬ Low p l i' j'
theorem step_ok {p : Ja} (hp : InR p) {l : List Jc} (hv : ∀ t ∈ l, VT t) (hL : l.length ≤ 100000) :
    (∃ i j : Nat, Zx (jj p l l.length) = some ((i : Int), (j : Int), true) ∧ Jmx p l i j) ∨ (Zx (jj p l l.length) = some (0, 0, false) ∧ NoLow p l) := by
  obtain ⟨r, e, hr⟩ := Zp (body := Yu (jj p l l.length) (l.length : Int)) (fun s => ∃ i : Nat, s = i ∧ i ≤ l.length ∧ ∀ i' j', i' < i → i' ≤ j' → j' < l.length → ¬ Low p l i' j') (fun s => (l.length - s).toNat)
    (fun r => (∃ i j : Nat, r = .inl ((i : Int), (j : Int), true) ∧ Jmx p l i j) ∨ (r = .inr () ∧ NoLow p l))
    (by
      rintro s ⟨i, rfl, h2, h3⟩
      by_cases hi : i < l.length
      · have c : ilt (i : Int) (l.length : Int) = true := jf (by omega)
        obtain ⟨x, ex, hx⟩ := step0_ok hp hv hL hi (l.length : Int) (i : Int)
        rcases hx with ⟨j, rfl, h4, h5, h6, h7⟩ | ⟨rfl, h4⟩
        · right
          exact ⟨_, by simp only [Yu, c, if_true, ex], .inl ⟨i, j, rfl, h4, h5, h6, h7, h3⟩⟩
        · left
          refine ⟨((i + 1 : Nat) : Int), by simp only [Yu, c, if_true, ex, z8 (i := i) (by omega)], ⟨i + 1, rfl, hi, fun i' j' h5 h6 h7 => ?_⟩, by omega⟩
          by_cases hii : i' = i
          · rw [hii] at h6 ⊢; exact h4 j' h6 h7
          · exact h3 i' j' (by omega) h6 h7
      · right
        have c : ilt (i : Int) (l.length : Int) = false := Zs (by omega)
        exact ⟨_, by simp only [Yu, c, if_false, Bool.false_eq_true], .inr ⟨rfl, fun i' j' h4 h5 => h3 i' j' (by omega) h4 h5⟩⟩)
    bigN 0 ⟨0, rfl, by omega, fun i' j' h => by omega⟩ (Zz (by omega))
  unfold Zx
  rw [Jdz, e]
  rcases hr with ⟨i, j, rfl, h⟩ | ⟨rfl, h⟩
  · exact .inl ⟨i, j, rfl, h⟩
  · exact .inr ⟨rfl, h⟩
/-- A track in a reversed part. -/
def tr (t : Jc) : Jc := if t.Closed = true then t else ⟨t.Role, t.Closed, .lst t.Cells.l.reverse⟩
theorem tr_ok {t : Jc} (h : VT t) : VT (tr t) ∧ (tr t).Cells.l.Perm t.Cells.l := by
  unfold tr; split
  · exact ⟨h, .refl _⟩
  · exact ⟨h.rev rfl, List.reverse_perm _⟩
theorem swap_ok {x : FS Jc} (hL : x.l.length ≤ 100000) {i j : Nat} (hij : i ≤ j) (hj : j < x.l.length) (k0 : Ja) (k1 k2 k3 : Int) :
    ∃ y, Ku (Y1 k0 k1 k2 k3) bigN (x, (i : Int), (j : Int)) = some y ∧ y.l.length = x.l.length ∧ ∀ q : Nat, y.l[q]? = if i ≤ q ∧ q ≤ j then x.l[i + j - q]? else x.l[q]? := by
  refine Zp (body := Y1 k0 k1 k2 k3) (fun s => ∃ m : Nat, s.2.1 = ((i + m : Nat) : Int) ∧ s.2.2 = (j : Int) - m ∧ 2 * m ≤ j - i + 1 ∧ s.1.l.length = x.l.length ∧ ∀ q : Nat, s.1.l[q]? = if (i ≤ q ∧ q < i + m) ∨ (j < q + m ∧ q ≤ j) then x.l[i + j - q]? else x.l[q]?)
    (fun s => (s.2.2 - s.2.1 + 1).toNat) _ ?_ bigN (x, (i : Int), (j : Int)) ⟨0, rfl, by simp, by omega, rfl, fun q => by rw [if_neg (by omega)]⟩ (Zz (by simp only; omega))
  rintro ⟨y, a, b⟩ ⟨m, h1, h2, h3, h4, h5⟩
  simp only at h1 h2 h4 h5 ⊢
  subst h1 h2
  by_cases hlt : i + m < j - m
  · left
    have hb : (j : Int) - m = ((j - m : Nat) : Int) := by omega
    rw [hb]
    have c : ilt ((i + m : Nat) : Int) ((j - m : Nat) : Int) = true := jf (by omega)
    have la : i + m < y.l.length := by omega
    have lb : j - m < y.l.length := by omega
    have ga := Xz la
    have gb := Xz lb
    have gc : fget (fset y ((i + m : Nat) : Int) y.l[j - m]) ((j - m : Nat) : Int) = some y.l[j - m] := Ja3 (by rw [Jfq, List.getElem?_set_ne (by simp only [Int.toNat_natCast]; omega)]; exact List.getElem?_eq_getElem lb)
    refine ⟨(fset (fset y ((i + m : Nat) : Int) y.l[j - m]) ((j - m : Nat) : Int) y.l[i + m], ((i + m + 1 : Nat) : Int), (j : Int) - (m + 1 : Nat)), ?_, ⟨m + 1, by simp only; omega, rfl, by omega, ?_, fun q => ?_⟩, by simp only; omega⟩
    · simp only [Y1, c, if_true, ga, gb, gc, z8 (i := i + m) (by omega)]
      rw [jr (by omega) (by omega), show ((j - m : Nat) : Int) - 1 = (j : Int) - ((m + 1 : Nat) : Int) by omega]
    · simp only [Jfq, List.length_set]; exact h4
    · simp only [Jfq, Int.toNat_natCast]
      have va : y.l[i + m]? = x.l[i + m]? := by rw [h5]; rw [if_neg (by omega)]
      have vb : y.l[j - m]? = x.l[j - m]? := by rw [h5]; rw [if_neg (by omega)]
      rw [List.getElem?_eq_getElem la] at va
      rw [List.getElem?_eq_getElem lb] at vb
      rw [List.getElem?_set]
      by_cases hq1 : j - m = q
      · subst hq1
        rw [if_pos rfl, if_pos (by rw [List.length_set]; omega), if_pos (by omega), show i + j - (j - m) = i + m by omega, ← va]
      · rw [if_neg hq1, List.getElem?_set]
        by_cases hq2 : i + m = q
        · subst hq2
          rw [if_pos rfl, if_pos la, if_pos (by omega), show i + j - (i + m) = j - m by omega, ← vb]
        · rw [if_neg hq2, h5 q]
          by_cases hc : (i ≤ q ∧ q < i + m) ∨ (j < q + m ∧ q ≤ j)
          · rw [if_pos hc, if_pos (by omega)]
          · rw [if_neg hc, if_neg (by omega)]
  · right
    have c : ilt ((i + m : Nat) : Int) ((j : Int) - m) = false := Zs (by omega)
    refine ⟨y, by simp only [Y1, c, if_false, Bool.false_eq_true], h4, fun q => ?_⟩
    rw [h5 q]
    by_cases hc : (i ≤ q ∧ q < i + m) ∨ (j < q + m ∧ q ≤ j)
    · rw [if_pos hc, if_pos (by omega)]
    · rw [if_neg hc]
      by_cases hq : i ≤ q ∧ q ≤ j
      · rw [if_pos hq, show i + j - q = q by omega]
      · rw [if_neg hq]
theorem flip_ok {x : FS Jc} (hv : ∀ t ∈ x.l, VT t) (hL : x.l.length ≤ 100000) {i j : Nat} (hij : i ≤ j) (hj : j < x.l.length) (k0 : Ja) (k1 : Int) :
    ∃ y, Ku (Xk k0 k1 (j : Int)) bigN (x, (i : Int)) = some y ∧ y.l.length = x.l.length ∧ ∀ q : Nat, y.l[q]? = if i ≤ q ∧ q ≤ j then (x.l[q]?).map tr else x.l[q]? := by
  refine Zp (body := Xk k0 k1 (j : Int)) (fun s => ∃ m : Nat, s.2 = ((i + m : Nat) : Int) ∧ i + m ≤ j + 1 ∧ s.1.l.length = x.l.length ∧ ∀ q : Nat, s.1.l[q]? = if i ≤ q ∧ q < i + m then (x.l[q]?).map tr else x.l[q]?)
    (fun s => ((j : Int) + 1 - s.2).toNat) _ ?_ bigN (x, (i : Int)) ⟨0, rfl, by omega, rfl, fun q => by rw [if_neg (by omega)]⟩ (Zz (by simp only; omega))
  rintro ⟨y, a⟩ ⟨m, h1, h3, h4, h5⟩
  simp only at h1 h4 h5 ⊢
  subst h1
  by_cases hle : i + m ≤ j
  · left
    have c : ile ((i + m : Nat) : Int) (j : Int) = true := by rw [Jcr]; omega
    have la : i + m < y.l.length := by omega
    have ga := Xz la
    have va : y.l[i + m]? = x.l[i + m]? := by rw [h5]; rw [if_neg (by omega)]
    have hvt : VT y.l[i + m] := by
      rw [List.getElem?_eq_getElem la] at va
      exact hv _ (List.mem_of_getElem? va.symm)
    by_cases hc : y.l[i + m].Closed = true
    · refine ⟨(y, ((i + m + 1 : Nat) : Int)), by simp only [Xk, c, if_true, ga, hc, Zi, if_false, Bool.false_eq_true, z8 (i := i + m) (by omega)], ⟨m + 1, rfl, by omega, h4, fun q => ?_⟩, by simp only; omega⟩
      rw [h5 q]
      by_cases hq : q = i + m
      · subst hq
        rw [if_neg (by omega), if_pos (by omega), ← va, List.getElem?_eq_getElem la, Option.map_some, tr, if_pos hc]
      · by_cases hc2 : i ≤ q ∧ q < i + m
        · rw [if_pos hc2, if_pos (by omega)]
        · rw [if_neg hc2, if_neg (by omega)]
    · have hf : bnot y.l[i + m].Closed = true := by rw [Jao]; exact hc
      refine ⟨(fset y ((i + m : Nat) : Int) (tr y.l[i + m]), ((i + m + 1 : Nat) : Int)), ?_, ⟨m + 1, rfl, by omega, by simp only [Jfq, List.length_set]; exact h4, fun q => ?_⟩, by simp only; omega⟩
      · simp only [Xk, c, if_true, ga, hf, Jmi hvt, z8 (i := i + m) (by omega)]
        rw [tr, if_neg hc]
      · simp only [Jfq, Int.toNat_natCast]
        rw [List.getElem?_set]
        by_cases hq : i + m = q
        · subst hq
          rw [if_pos rfl, if_pos la, if_pos (by omega), ← va, List.getElem?_eq_getElem la, Option.map_some]
        · rw [if_neg hq, h5 q]
          by_cases hc2 : i ≤ q ∧ q < i + m
          · rw [if_pos hc2, if_pos (by omega)]
          · rw [if_neg hc2, if_neg (by omega)]
  · right
    have c : ile ((i + m : Nat) : Int) (j : Int) = false := by rw [← Bool.not_eq_true, Jcr]; omega
    refine ⟨y, by simp only [Xk, c, if_false, Bool.false_eq_true], h4, fun q => ?_⟩
    rw [h5 q]
    by_cases hc : i ≤ q ∧ q < i + m
    · rw [if_pos hc, if_pos (by omega)]
    · rw [if_neg hc, if_neg (by omega)]
/-- The part from i to j in the opposite order. -/
def revP (l : List Jc) (i j : Nat) : List Jc := l.take i ++ (((l.drop i).take (j + 1 - i)).reverse.map tr ++ l.drop (j + 1))
theorem revP_get {l : List Jc} {i j : Nat} (hij : i ≤ j) (hj : j < l.length) (q : Nat) : (revP l i j)[q]? = if i ≤ q ∧ q ≤ j then (l[i + j - q]?).map tr else l[q]? := by
  unfold revP
  have l1 : (l.take i).length = i := by rw [List.length_take]; omega
  have l2 : ((l.drop i).take (j + 1 - i)).length = j + 1 - i := by rw [List.length_take, List.length_drop]; omega
  by_cases h1 : q < i
  · rw [List.getElem?_append_left (by omega), List.getElem?_take, if_pos h1, if_neg (by omega)]
  · rw [List.getElem?_append_right (by omega), l1]
    by_cases h2 : q ≤ j
    · rw [List.getElem?_append_left (by rw [List.length_map, List.length_reverse]; omega), List.getElem?_map, List.getElem?_reverse (by omega), l2, List.getElem?_take, if_pos (by omega), List.getElem?_drop, if_pos (by omega)]
      congr 2; omega
    · rw [List.getElem?_append_right (by rw [List.length_map, List.length_reverse]; omega), List.length_map, List.length_reverse, l2, List.getElem?_drop, if_neg (by omega)]
      congr 1; omega
theorem Jl6 {l : List Jc} {i j : Nat} (hv : ∀ t ∈ l, VT t) : ∀ t ∈ revP l i j, VT t := by
  intro t ht
  simp only [revP, List.mem_append, List.mem_map, List.mem_reverse] at ht
  rcases ht with ht | ⟨u, hu, rfl⟩ | ht
  · exact hv t (List.mem_of_mem_take ht)
  · exact (tr_ok (hv u (List.mem_of_mem_drop (List.mem_of_mem_take hu)))).1
  · exact hv t (List.mem_of_mem_drop ht)
theorem Jq9 {l : List Jc} {i j : Nat} (hij : i ≤ j) (hj : j < l.length) : (revP l i j).length = l.length := by
  unfold revP
  simp only [List.length_append, List.length_map, List.length_reverse, List.length_take, List.length_drop]
  omega
theorem Joe : ∀ {l : List Jc}, (∀ t ∈ l, VT t) → (Jc3 (l.map tr)).Perm (Jc3 l)
  | [], _ => .refl _
  | t :: l, hv => by
    simp only [Jc3, List.map_cons, List.flatMap_cons]
    exact (tr_ok (hv t (List.mem_cons_self ..))).2.append (Joe fun u hu => hv u (List.mem_cons_of_mem _ hu))
theorem Jp0 {l m : List Jc} (h : l.Perm m) : (Jc3 l).Perm (Jc3 m) := h.flatMap_right _
theorem Jtl {l : List Jc} {i j : Nat} (hij : i ≤ j) (hv : ∀ t ∈ l, VT t) : (Jc3 (revP l i j)).Perm (Jc3 l) := by
  have hl : l = l.take i ++ ((l.drop i).take (j + 1 - i) ++ l.drop (j + 1)) := by
    have h1 : l.drop (j + 1) = (l.drop i).drop (j + 1 - i) := by rw [List.drop_drop]; congr 1; omega
    rw [h1, List.take_append_drop, List.take_append_drop]
  conv => rhs; rw [hl]
  unfold revP
  simp only [Jc3, List.flatMap_append]
  refine List.Perm.append_left _ (List.Perm.append_right _ ?_)
  rw [List.map_reverse]
  refine (Jp0 (List.reverse_perm _)).trans (Joe fun t ht => hv t (List.mem_of_mem_drop (List.mem_of_mem_take ht)))
/-- What Improve makes, in so many rounds at the most. -/
inductive Imp (p : Ja) : Nat → List Jc → List Jc → Prop where
  | zero (l : List Jc) : Imp p 0 l l
  | stop (n : Nat) (l : List Jc) (h : NoLow p l) : Imp p (n + 1) l l
  | go (n i j : Nat) (l r : List Jc) (h : Jmx p l i j) (hr : Imp p n (revP l i j) r) : Imp p (n + 1) l r
theorem Jn2 {p : Ja} (hp : InR p) (x : FS Jc) (hv : ∀ t ∈ x.l, VT t) (hL : x.l.length ≤ 100000) (n : Nat) (hn : n ≤ 64) : ∃ out, Ku (Yf p) bigN (x, (n : Int)) = some out ∧ Imp p n x.l out.l := by
  refine Zp (body := Yf p) (fun s => ∃ m : Nat, s.2 = m ∧ m ≤ 64 ∧ (∀ t ∈ s.1.l, VT t) ∧ s.1.l.length ≤ 100000 ∧ ∀ r, Imp p m s.1.l r → Imp p n x.l r) (fun s => s.2.toNat) (fun out => Imp p n x.l out.l) ?_ bigN (x, (n : Int)) ⟨n, rfl, hn, hv, hL, fun r hr => hr⟩ (Zz (by simp only; omega))
  rintro ⟨y, b⟩ ⟨m, h1, h2, h3, h4, h5⟩
  simp only at h1 h3 h4 h5 ⊢
  subst h1
  cases m with
  | zero =>
    right
    have c : igt ((0 : Nat) : Int) 0 = false := rfl
    exact ⟨y, by simp only [Yf, c, if_false, Bool.false_eq_true], h5 _ (.zero _)⟩
  | succ m =>
    have c : igt ((m + 1 : Nat) : Int) 0 = true := Jdh (by omega)
    have ep := Jth p y h3 h4
    have eq0 : ieq (flen y) (flen y) = true := Jlx rfl
    rcases step_ok hp h3 h4 with ⟨i, j, es, hf⟩ | ⟨es, hno⟩
    · left
      obtain ⟨z, ez, zl, hz⟩ := swap_ok h4 hf.le hf.lt p ((m + 1 : Nat) : Int) (i : Int) (j : Int)
      have hzv : ∀ t ∈ z.l, VT t := fun t ht => by
        obtain ⟨q, hq⟩ := List.getElem?_of_mem ht
        rw [hz q] at hq
        split at hq
        · exact h3 t (List.mem_of_getElem? hq)
        · exact h3 t (List.mem_of_getElem? hq)
      obtain ⟨w, ew, wl, hw⟩ := flip_ok hzv (by omega) hf.le (by rw [zl]; exact hf.lt) p ((m + 1 : Nat) : Int)
      have hwr : w.l = revP y.l i j := by
        apply List.ext_getElem?
        intro q
        rw [hw q, revP_get hf.le hf.lt q]
        by_cases hq : i ≤ q ∧ q ≤ j
        · rw [if_pos hq, if_pos hq, hz q, if_pos hq]
        · rw [if_neg hq, if_neg hq, hz q, if_neg hq]
      have sm : isub .i64 ((m + 1 : Nat) : Int) 1 = ((m : Nat) : Int) := by rw [jr (by omega) (by omega)]; omega
      refine ⟨(w, ((m : Nat) : Int)), by simp only [Yf, c, if_true, ep, eq0, es, Zi, if_false, Bool.false_eq_true, ez, ew, sm], ⟨m, rfl, by omega, ?_, ?_, fun r hr => h5 r (.go m i j _ r hf ?_)⟩, by simp only; omega⟩
      · simp only [hwr]; exact Jl6 h3
      · simp only [hwr, Jq9 hf.le hf.lt]; exact h4
      · simp only [hwr] at hr; exact hr
    · right
      exact ⟨y, by simp only [Yf, c, if_true, ep, eq0, es, je], h5 _ (.stop m _ hno)⟩
theorem Jtt {p : Ja} (hp : InR p) (x : FS Jc) (hv : ∀ t ∈ x.l, VT t) (hL : x.l.length ≤ 100000) (n : Nat) (hn : n ≤ 64) : ∃ out, ju p x (n : Int) = some out ∧ Imp p n x.l out.l := by
  obtain ⟨y, ey, hy⟩ := Jqx x hv (by omega)
  obtain ⟨out, eo, ho⟩ := Jn2 hp y (by rw [hy]; exact hv) (by rw [hy]; exact hL) n hn
  refine ⟨out, ?_, by rw [hy] at ho; exact ho⟩
  have hm : imin (n : Int) 64 = n := by rw [Jqi]; omega
  unfold ju
  rw [if_neg (by rw [Jao, Jo6]; exact fun h => h hp), ey, hm]
  simp only [eo]
theorem Imp.props {p : Ja} {n : Nat} {l r : List Jc} (h : Imp p n l r) : (∀ t ∈ l, VT t) → (∀ t ∈ r, VT t) ∧ r.length = l.length ∧ (Jc3 r).Perm (Jc3 l) := by
  induction h with
  | zero l => exact fun hv => ⟨hv, rfl, .refl _⟩
  | stop n l h => exact fun hv => ⟨hv, rfl, .refl _⟩
  | go n i j l r h hr ih =>
    intro hv
    obtain ⟨h1, h2, h3⟩ := ih (Jl6 hv)
    exact ⟨h1, by rw [h2, Jq9 h.le h.lt], h3.trans (Jtl h.le hv)⟩
end Go.Proofs.Ytemehoioeoohmaa
