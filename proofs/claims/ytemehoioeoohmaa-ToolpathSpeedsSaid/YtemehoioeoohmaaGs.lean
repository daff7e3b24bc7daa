/- region: the program's Contains and the reference's say whether a cell is in a region. Conditions: none. -/
import Derived.Test.YtemehoioeoohmaaGr
namespace Go.Proofs.Ytemehoioeoohmaa
open Go Go.Vv Go.Proofs
set_option linter.unusedSimpArgs false
set_option linter.unusedVariables false
set_option linter.unusedSectionVars false
def HasX (l : List Kg) (x : Int) : Prop := ∃ q ∈ l, q.From ≤ x ∧ x < q.To
/-- A cell is in a valid region. -/
def In (r : Jk) (c : Ja) : Prop := Jcx r ∧ ∃ w ∈ r.Rows.l, w.Y = c.Y ∧ HasX w.Runs.l c.X
theorem u64w (x : Int) (h0 : 0 ≤ x) (h1 : x ≤ 9223372036854775807) : IntKind.wrap .u64 x = x := by
  have : IntKind.wrap .u64 x = x % 18446744073709551616 := rfl
  rw [this]
  omega
theorem mid_eq {a : Int} (h0 : 0 ≤ a) (h1 : a ≤ 4611686018427387904) : icnv .i64 (ishr .u64 (icnv .u64 a) 1) = a / 2 := by
  unfold icnv ishr
  rw [u64w a h0 (by omega)]
  have e1 : (2 : Int) ^ (min (1 : Int).toNat IntKind.u64.bits) = 2 := by decide
  have e2 : a.fdiv 2 = a / 2 := by rw [Int.fdiv_eq_ediv_of_nonneg _ (by omega)]
  rw [e1, e2, w64 _ (by omega) (by omega)]
theorem cmp_ok (a b : Int) : Ja4 a b = some (if a < b then -1 else if b < a then 1 else 0) := by
  have n : ∀ x : Int, zj x = false := fun x => by simp [zj, ine]
  unfold Ja4
  rw [n, n]
  simp only [Bool.false_eq_true, if_false]
  by_cases h1 : a < b
  · rw [jf h1, if_pos rfl, if_pos h1]
  · rw [Zs h1, if_neg (by simp), if_neg h1]
    by_cases h2 : b < a
    · rw [Jdh h2, if_pos rfl, if_pos h2]
    · rw [Jd2 h2, if_neg (by simp), if_neg h2]
theorem Jpd (w : X9) (y : Int) : zf w y = some (if w.Y < y then -1 else if y < w.Y then 1 else 0) := by
  unfold zf
  rw [cmp_ok]
theorem Jji {r : Jk} (h : Jcx r) : ∀ (k i : Nat) (hk : i + k < r.Rows.l.length), 0 < k → (r.Rows.l[i]'(by omega)).Y < (r.Rows.l[i + k]).Y
  | 0, i, hk, h0 => by omega
  | k + 1, i, hk, _ => by
    have a := ((Jd1 (i := i + (k + 1)) hk).1 (h _ hk)).2.2.2.2 (by omega)
    have e : i + (k + 1) - 1 = i + k := by omega
    simp only [e] at a
    by_cases h1 : 0 < k
    · have := Jji h k i (by omega) h1
      omega
    · have : k = 0 := by omega
      subst this
      simpa using a
theorem Jni {r : Jk} (h : Jcx r) {i j : Nat} (hij : i ≤ j) (hj : j < r.Rows.l.length) : (r.Rows.l[i]'(by omega)).Y ≤ (r.Rows.l[j]).Y := by
  by_cases e : i = j
  · subst e; omega
  · have := Jji h (j - i) i (by omega) (by omega)
    have e2 : i + (j - i) = j := by omega
    simp only [e2] at this
    omega
theorem Jti (r : Jk) (hL : Lim r) (hv : Jcx r) (y : Int) : ∃ i : Nat, i ≤ r.Rows.l.length ∧ Kh r.Rows y = some ((i : Int), if h : i < r.Rows.l.length then decide ((r.Rows.l[i]).Y = y) else false) ∧
    (∀ k (hk : k < r.Rows.l.length), k < i → (r.Rows.l[k]).Y < y) ∧ (∀ k (hk : k < r.Rows.l.length), i ≤ k → y ≤ (r.Rows.l[k]).Y) := by
  obtain ⟨hL1, -⟩ := hL
  obtain ⟨x, e, i, rfl, hi, ha, hb⟩ := Zp (body := J6 r.Rows y (flen r.Rows))
    (fun s => ∃ i j : Nat, s = ((i : Int), (j : Int)) ∧ i ≤ j ∧ j ≤ r.Rows.l.length ∧ (∀ k (hk : k < r.Rows.l.length), k < i → (r.Rows.l[k]).Y < y) ∧ (∀ k (hk : k < r.Rows.l.length), j ≤ k → y ≤ (r.Rows.l[k]).Y))
    (fun s => (s.2 - s.1).toNat) (fun x => ∃ i : Nat, x = (i : Int) ∧ i ≤ r.Rows.l.length ∧ (∀ k (hk : k < r.Rows.l.length), k < i → (r.Rows.l[k]).Y < y) ∧ (∀ k (hk : k < r.Rows.l.length), i ≤ k → y ≤ (r.Rows.l[k]).Y))
    (by
      rintro s ⟨i, j, rfl, hij, hj, ha, hb⟩
      by_cases hlt : i < j
      · left
        have em : icnv .i64 (ishr .u64 (icnv .u64 (iadd .i64 (i : Int) (j : Int))) 1) = (((i + j) / 2 : Nat) : Int) := by
          rw [Jan (by omega) (by omega), mid_eq (by omega) (by omega)]; omega
        have hm : (i + j) / 2 < r.Rows.l.length := by omega
        have g := Xz hm
        have c1 : ilt (i : Int) (j : Int) = true := jf (by omega)
        by_cases hy : (r.Rows.l[(i + j) / 2]).Y < y
        · refine ⟨((((i + j) / 2 + 1 : Nat) : Int), (j : Int)), ?_, ⟨(i + j) / 2 + 1, j, rfl, by omega, hj, fun k hk hki => ?_, hb⟩, by simp only; omega⟩
          · have : ilt (-1) 0 = true := rfl
            simp only [J6, c1, if_true, em, g, Jpd, if_pos hy, this, z8 (i := (i + j) / 2) (by omega)]
          · have := Jni hv (i := k) (j := (i + j) / 2) (by omega) hm
            omega
        · refine ⟨((i : Int), (((i + j) / 2 : Nat) : Int)), ?_, ⟨i, (i + j) / 2, rfl, by omega, by omega, ha, fun k hk hki => ?_⟩, by simp only; omega⟩
          · have c3 : ilt (if y < (r.Rows.l[(i + j) / 2]).Y then (1 : Int) else 0) 0 = false := by split <;> rfl
            simp only [J6, c1, if_true, em, g, Jpd, if_neg hy, c3, Bool.false_eq_true, if_false]
          · have := Jni hv (i := (i + j) / 2) (j := k) (by omega) hk
            omega
      · right
        have : i = j := by omega
        subst this
        have c1 : ilt (i : Int) (i : Int) = false := Zs (by omega)
        exact ⟨(i : Int), by simp only [J6, c1, Bool.false_eq_true, if_false], i, rfl, hj, ha, hb⟩)
    bigN (0, flen r.Rows) ⟨0, r.Rows.l.length, rfl, by omega, by omega, fun k hk hki => by omega, fun k hk hki => by omega⟩ (Zz (by simp only [Ka]; omega))
  refine ⟨i, hi, ?_, ha, hb⟩
  unfold Kh
  rw [e]
  by_cases hin : i < r.Rows.l.length
  · have c1 : ilt (i : Int) (flen r.Rows) = true := jf (by rw [Ka]; omega)
    have g := Xz hin
    rw [dif_pos hin]
    have hge := hb i hin (by omega)
    simp only [c1, g, Z3, Option.getD_some, Jpd, Jbf]
    by_cases hy : (r.Rows.l[i]).Y = y
    · rw [if_neg (by omega), if_neg (by omega)]
      simp [hy, ieq]
    · rw [if_neg (by omega), if_pos (by omega)]
      simp [hy, ieq]
  · have c1 : ilt (i : Int) (flen r.Rows) = false := Zs (by rw [Ka]; omega)
    rw [dif_neg hin]
    simp only [c1, jh, Jbb]
/-- The row of a valid region. -/
theorem row_ok (r : Jk) (hL : Lim r) (hv : Jcx r) (y : Int) : ∃ s, Jbh r y = some s ∧ ((∃ w ∈ r.Rows.l, w.Y = y ∧ s = w.Runs) ∨ (s = .nil ∧ ∀ w ∈ r.Rows.l, w.Y ≠ y)) := by
  obtain ⟨i, hi, e, ha, hb⟩ := Jti r hL hv y
  unfold Jbh
  rw [e]
  by_cases hin : i < r.Rows.l.length
  · by_cases hy : (r.Rows.l[i]).Y = y
    · refine ⟨(r.Rows.l[i]).Runs, ?_, .inl ⟨_, List.getElem_mem hin, hy, rfl⟩⟩
      simp only [dif_pos hin, hy, decide_true, Zi, Bool.false_eq_true, if_false, Xz hin]
    · refine ⟨.nil, ?_, .inr ⟨rfl, fun w hw => ?_⟩⟩
      · simp only [dif_pos hin, hy, decide_false, je, if_true]
      · obtain ⟨k, hk, rfl⟩ := List.getElem_of_mem hw
        by_cases hki : k < i
        · have := ha k hk hki; omega
        · have h1 := hb i hin (by omega)
          have h2 := Jni hv (i := i) (j := k) (by omega) hk
          omega
  · refine ⟨.nil, ?_, .inr ⟨rfl, fun w hw => ?_⟩⟩
    · simp only [dif_neg hin, je, if_true]
    · obtain ⟨k, hk, rfl⟩ := List.getElem_of_mem hw
      have := ha k hk (by omega)
      omega
theorem Jir (x : FS Kg) (hL : x.l.length ≤ 1000000) (hv : Jh4 (-1048576) 1048576 x.l) (n : Int) : ∃ b, Jad x n = some b ∧ (b = true ↔ HasX x.l n) := by
  obtain ⟨bv, ev, hbv⟩ := Jhj x (by omega)
  rw [hbv.2 hv] at ev
  obtain ⟨r, e, hr⟩ := Jf9 (Kd x n (flen x)) x.l.length (by omega) (fun i => ∀ q, x.l[i]? = some q → ¬ (q.From ≤ n ∧ n < q.To)) (fun i => .inl (i : Int)) (.inr ())
    (fun i hi _ => by
      have g1 := Xz hi
      have c1 : ilt (i : Int) (flen x) = true := jf (by rw [Ka]; omega)
      have hiff : Zv x.l[i] n = true ↔ ¬ ∀ q, x.l[i]? = some q → ¬ (q.From ≤ n ∧ n < q.To) := by
        simp only [Zv, Jbc, Jcr, zb]
        constructor
        · exact fun h h2 => h2 _ (List.getElem?_eq_getElem hi) h
        · intro h
          by_cases h2 : (x.l[i]).From ≤ n ∧ n < (x.l[i]).To
          · exact h2
          · exact absurd (fun q hq => by rw [List.getElem?_eq_getElem hi] at hq; cases hq; exact h2) h
      refine jm (Zv x.l[i] n) hiff ?_
      simp only [Kd, c1, if_true, g1, z8 (i := i) (by omega)])
    (fun _ => by simp only [Kd, Ka, Zs (a := (x.l.length : Int)) (b := x.l.length) (by omega), Bool.false_eq_true, if_false])
  unfold Jad Kw K0
  rw [ev, e]
  rcases hr with ⟨rfl, hr⟩ | ⟨i, hi, rfl, hr, -⟩
  · refine ⟨false, rfl, ?_⟩
    simp only [Bool.false_eq_true, false_iff]
    rintro ⟨q, hq, h⟩
    obtain ⟨k, hk, rfl⟩ := List.getElem_of_mem hq
    exact hr k hk _ (List.getElem?_eq_getElem hk) h
  · refine ⟨true, ?_, fun _ => ?_, fun _ => rfl⟩
    · have : ige (i : Int) 0 = true := z9.2 (by omega)
      simp only [Zi, Bool.false_eq_true, if_false, this]
    · by_cases h2 : (x.l[i]).From ≤ n ∧ n < (x.l[i]).To
      · exact ⟨_, List.getElem_mem hi, h2⟩
      · exact absurd (fun q hq => by rw [List.getElem?_eq_getElem hi] at hq; cases hq; exact h2) hr
theorem Jlu {r : Jk} (hv : Jcx r) {w : X9} (hw : w ∈ r.Rows.l) : Jh4 (-4096) 4096 w.Runs.l := by
  obtain ⟨k, hk, rfl⟩ := List.getElem_of_mem hw
  exact ((Jd1 hk).1 (hv k hk)).2.2.2.1
theorem Jsz {l : List Kg} (h : Jh4 (-4096) 4096 l) : Jh4 (-1048576) 1048576 l := fun i hi r hr => by
  have := h i hi r hr
  exact ⟨by omega, this.2.1, by omega, this.2.2.2⟩
theorem Jnq {r : Jk} (hv : Jcx r) {v w : X9} (h1 : v ∈ r.Rows.l) (h2 : w ∈ r.Rows.l) (e : v.Y = w.Y) : v = w := by
  obtain ⟨i, hi, rfl⟩ := List.getElem_of_mem h1
  obtain ⟨j, hj, rfl⟩ := List.getElem_of_mem h2
  by_cases hij : i = j
  · subst hij; rfl
  · by_cases hlt : i < j
    · have := Jji hv (j - i) i (by omega) (by omega)
      have e2 : i + (j - i) = j := by omega
      simp only [e2] at this
      omega
    · have := Jji hv (i - j) j (by omega) (by omega)
      have e2 : j + (i - j) = i := by omega
      simp only [e2] at this
      omega
/-- The program's Contains. -/
theorem Jlc (r : Jk) (hL : Lim r) (c : Ja) : ∃ b, Xt r c = some b ∧ (b = true ↔ In r c) := by
  obtain ⟨bv, ev, hbv⟩ := Jjo r hL
  unfold Xt
  rw [ev]
  by_cases hv : Jcx r
  · rw [hbv.2 hv]
    obtain ⟨s, es, hs⟩ := row_ok r hL hv c.Y
    simp only [es, Z3, Option.getD_some, Jbf]
    rcases hs with ⟨w, hw, hy, rfl⟩ | ⟨rfl, hn⟩
    · obtain ⟨b, eb, hb⟩ := Jir w.Runs (hL.2 w hw) (Jsz (Jlu hv hw)) c.X
      simp only [eb, Z3, Option.getD_some]
      refine ⟨b, rfl, ?_⟩
      rw [hb]
      constructor
      · exact fun h => ⟨hv, w, hw, hy, h⟩
      · rintro ⟨-, v, hv2, hy2, h⟩
        rw [Jnq hv hw hv2 (by omega)]
        exact h
    · obtain ⟨b, eb, hb⟩ := Jir .nil (by simp [FS.l]) (fun i hi => absurd hi (by simp [FS.l])) c.X
      simp only [eb, Z3, Option.getD_some]
      refine ⟨b, rfl, ?_⟩
      rw [hb]
      constructor
      · rintro ⟨q, hq, -⟩
        simp [FS.l] at hq
      · rintro ⟨-, v, hv2, hy2, h⟩
        exact absurd hy2 (hn v hv2)
  · have : bv = false := by rw [← Bool.not_eq_true]; exact fun h => hv (hbv.1 h)
    rw [this]
    simp only [jh, Jbb]
    exact ⟨false, rfl, by simp only [Bool.false_eq_true, false_iff]; exact fun h => hv h.1⟩
/-! The reference. -/
end Go.Proofs.Ytemehoioeoohmaa
