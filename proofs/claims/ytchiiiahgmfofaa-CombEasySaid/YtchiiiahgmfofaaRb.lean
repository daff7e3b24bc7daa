/- region: the program's Contains and the reference's say whether a cell is in a region. Conditions: none. -/
import Derived.Test.YtchiiiahgmfofaaRa
namespace Go.Proofs.Ytchiiiahgmfofaa
open Go Go.Vv Go.Proofs
set_option linter.unusedSimpArgs false
set_option linter.unusedVariables false
set_option linter.unusedSectionVars false
def HasX (l : List api_Run) (x : Int) : Prop := ∃ q ∈ l, q.From ≤ x ∧ x < q.To
/-- A cell is in a valid region. -/
def In (r : api_Region) (c : api_Cell) : Prop := ValidR r ∧ ∃ w ∈ r.Rows.l, w.Y = c.Y ∧ HasX w.Runs.l c.X
theorem u64w (x : Int) (h0 : 0 ≤ x) (h1 : x ≤ 9223372036854775807) : IntKind.wrap .u64 x = x := by
  have : IntKind.wrap .u64 x = x % 18446744073709551616 := rfl
  rw [this]
  omega
theorem mid_eq {a : Int} (h0 : 0 ≤ a) (h1 : a ≤ 4611686018427387904) : icnv .i64 (ishr .u64 (icnv .u64 a) 1) = a / 2 := by
  unfold icnv ishr
  rw [u64w a h0 (by omega)]
  have e1 : (2 : Int) ^ (min (1 : Int).toNat IntKind.u64.bits) = 2 := by decide
  have e2 : a.fdiv 2 = a / 2 := by rw [Int.fdiv_eq_ediv_of_nonneg _ (by omega)]
  rw [e1, e2, w64 _ (by omega) (by omega)]
theorem cmp_ok (a b : Int) : t_cmp_Compare a b = some (if a < b then -1 else if b < a then 1 else 0) := by
  have n : ∀ x : Int, u_cmp_isNaN x = false := fun x => by simp [u_cmp_isNaN, ine]
  unfold t_cmp_Compare
  rw [n, n]
  simp only [Bool.false_eq_true, if_false]
  by_cases h1 : a < b
  · rw [ilt_tt h1, if_pos rfl, if_pos h1]
  · rw [ilt_ff h1, if_neg (by simp), if_neg h1]
    by_cases h2 : b < a
    · rw [igt_tt h2, if_pos rfl, if_pos h2]
    · rw [igt_ff h2, if_neg (by simp), if_neg h2]
theorem row1_ok (w : api_Row) (y : Int) : t_region_row_1 w y = some (if w.Y < y then -1 else if y < w.Y then 1 else 0) := by
  unfold t_region_row_1
  rw [cmp_ok]
theorem valid_lt {r : api_Region} (h : ValidR r) : ∀ (k i : Nat) (hk : i + k < r.Rows.l.length), 0 < k → (r.Rows.l[i]'(by omega)).Y < (r.Rows.l[i + k]).Y
  | 0, i, hk, h0 => by omega
  | k + 1, i, hk, _ => by
    have a := ((goodRow_at (i := i + (k + 1)) hk).1 (h _ hk)).2.2.2.2 (by omega)
    have e : i + (k + 1) - 1 = i + k := by omega
    simp only [e] at a
    by_cases h1 : 0 < k
    · have := valid_lt h k i (by omega) h1
      omega
    · have : k = 0 := by omega
      subst this
      simpa using a
theorem valid_le {r : api_Region} (h : ValidR r) {i j : Nat} (hij : i ≤ j) (hj : j < r.Rows.l.length) : (r.Rows.l[i]'(by omega)).Y ≤ (r.Rows.l[j]).Y := by
  by_cases e : i = j
  · subst e; omega
  · have := valid_lt h (j - i) i (by omega) (by omega)
    have e2 : i + (j - i) = j := by omega
    simp only [e2] at this
    omega
theorem bsearch_ok (r : api_Region) (hL : Lim r) (hv : ValidR r) (y : Int) : ∃ i : Nat, i ≤ r.Rows.l.length ∧ t_slices_BinarySearchFunc_api_Row_api_Row_int_region_row_1 r.Rows y = some ((i : Int), if h : i < r.Rows.l.length then decide ((r.Rows.l[i]).Y = y) else false) ∧
    (∀ k (hk : k < r.Rows.l.length), k < i → (r.Rows.l[k]).Y < y) ∧ (∀ k (hk : k < r.Rows.l.length), i ≤ k → y ≤ (r.Rows.l[k]).Y) := by
  obtain ⟨hL1, -⟩ := hL
  obtain ⟨x, e, i, rfl, hi, ha, hb⟩ := loop_ok (body := t_slices_BinarySearchFunc_api_Row_api_Row_int_region_row_1_L0 r.Rows y (flen r.Rows))
    (fun s => ∃ i j : Nat, s = ((i : Int), (j : Int)) ∧ i ≤ j ∧ j ≤ r.Rows.l.length ∧ (∀ k (hk : k < r.Rows.l.length), k < i → (r.Rows.l[k]).Y < y) ∧ (∀ k (hk : k < r.Rows.l.length), j ≤ k → y ≤ (r.Rows.l[k]).Y))
    (fun s => (s.2 - s.1).toNat) (fun x => ∃ i : Nat, x = (i : Int) ∧ i ≤ r.Rows.l.length ∧ (∀ k (hk : k < r.Rows.l.length), k < i → (r.Rows.l[k]).Y < y) ∧ (∀ k (hk : k < r.Rows.l.length), i ≤ k → y ≤ (r.Rows.l[k]).Y))
    (by
      rintro s ⟨i, j, rfl, hij, hj, ha, hb⟩
      by_cases hlt : i < j
      · left
        have em : icnv .i64 (ishr .u64 (icnv .u64 (iadd .i64 (i : Int) (j : Int))) 1) = (((i + j) / 2 : Nat) : Int) := by
          rw [iadd_eq (by omega) (by omega), mid_eq (by omega) (by omega)]; omega
        have hm : (i + j) / 2 < r.Rows.l.length := by omega
        have g := fget_at hm
        have c1 : ilt (i : Int) (j : Int) = true := ilt_tt (by omega)
        by_cases hy : (r.Rows.l[(i + j) / 2]).Y < y
        · refine ⟨((((i + j) / 2 + 1 : Nat) : Int), (j : Int)), ?_, ⟨(i + j) / 2 + 1, j, rfl, by omega, hj, fun k hk hki => ?_, hb⟩, by simp only; omega⟩
          · have : ilt (-1) 0 = true := rfl
            simp only [t_slices_BinarySearchFunc_api_Row_api_Row_int_region_row_1_L0, c1, if_true, em, g, row1_ok, if_pos hy, this, isucc (i := (i + j) / 2) (by omega)]
          · have := valid_le hv (i := k) (j := (i + j) / 2) (by omega) hm
            omega
        · refine ⟨((i : Int), (((i + j) / 2 : Nat) : Int)), ?_, ⟨i, (i + j) / 2, rfl, by omega, by omega, ha, fun k hk hki => ?_⟩, by simp only; omega⟩
          · have c3 : ilt (if y < (r.Rows.l[(i + j) / 2]).Y then (1 : Int) else 0) 0 = false := by split <;> rfl
            simp only [t_slices_BinarySearchFunc_api_Row_api_Row_int_region_row_1_L0, c1, if_true, em, g, row1_ok, if_neg hy, c3, Bool.false_eq_true, if_false]
          · have := valid_le hv (i := (i + j) / 2) (j := k) (by omega) hk
            omega
      · right
        have : i = j := by omega
        subst this
        have c1 : ilt (i : Int) (i : Int) = false := ilt_ff (by omega)
        exact ⟨(i : Int), by simp only [t_slices_BinarySearchFunc_api_Row_api_Row_int_region_row_1_L0, c1, Bool.false_eq_true, if_false], i, rfl, hj, ha, hb⟩)
    bigN (0, flen r.Rows) ⟨0, r.Rows.l.length, rfl, by omega, by omega, fun k hk hki => by omega, fun k hk hki => by omega⟩ (bigN_gt (by simp only [flen_eq]; omega))
  refine ⟨i, hi, ?_, ha, hb⟩
  unfold t_slices_BinarySearchFunc_api_Row_api_Row_int_region_row_1
  rw [e]
  by_cases hin : i < r.Rows.l.length
  · have c1 : ilt (i : Int) (flen r.Rows) = true := ilt_tt (by rw [flen_eq]; omega)
    have g := fget_at hin
    rw [dif_pos hin]
    have hge := hb i hin (by omega)
    simp only [c1, g, gOpt_tt, Option.getD_some, row1_ok, band_t]
    by_cases hy : (r.Rows.l[i]).Y = y
    · rw [if_neg (by omega), if_neg (by omega)]
      simp [hy, ieq]
    · rw [if_neg (by omega), if_pos (by omega)]
      simp [hy, ieq]
  · have c1 : ilt (i : Int) (flen r.Rows) = false := ilt_ff (by rw [flen_eq]; omega)
    rw [dif_neg hin]
    simp only [c1, gOpt_ff, band_f]
/-- The row of a valid region. -/
theorem row_ok (r : api_Region) (hL : Lim r) (hv : ValidR r) (y : Int) : ∃ s, t_region_row r y = some s ∧ ((∃ w ∈ r.Rows.l, w.Y = y ∧ s = w.Runs) ∨ (s = .nil ∧ ∀ w ∈ r.Rows.l, w.Y ≠ y)) := by
  obtain ⟨i, hi, e, ha, hb⟩ := bsearch_ok r hL hv y
  unfold t_region_row
  rw [e]
  by_cases hin : i < r.Rows.l.length
  · by_cases hy : (r.Rows.l[i]).Y = y
    · refine ⟨(r.Rows.l[i]).Runs, ?_, .inl ⟨_, List.getElem_mem hin, hy, rfl⟩⟩
      simp only [dif_pos hin, hy, decide_true, bnot_t, Bool.false_eq_true, if_false, fget_at hin]
    · refine ⟨.nil, ?_, .inr ⟨rfl, fun w hw => ?_⟩⟩
      · simp only [dif_pos hin, hy, decide_false, bnot_f, if_true]
      · obtain ⟨k, hk, rfl⟩ := List.getElem_of_mem hw
        by_cases hki : k < i
        · have := ha k hk hki; omega
        · have h1 := hb i hin (by omega)
          have h2 := valid_le hv (i := i) (j := k) (by omega) hk
          omega
  · refine ⟨.nil, ?_, .inr ⟨rfl, fun w hw => ?_⟩⟩
    · simp only [dif_neg hin, bnot_f, if_true]
    · obtain ⟨k, hk, rfl⟩ := List.getElem_of_mem hw
      have := ha k hk (by omega)
      omega
theorem rcontains_ok (x : FS api_Run) (hL : x.l.length ≤ 1000000) (hv : RunsV (-1048576) 1048576 x.l) (n : Int) : ∃ b, t_runs_Contains x n = some b ∧ (b = true ↔ HasX x.l n) := by
  obtain ⟨bv, ev, hbv⟩ := runs_Valid_ok x hL
  rw [hbv.2 hv] at ev
  obtain ⟨r, e, hr⟩ := loop_all (t_slices_IndexFunc_api_Run_api_Run_runs_Contains_1_L0 x n (flen x)) x.l.length (by omega) (fun i => ∀ q, x.l[i]? = some q → ¬ (q.From ≤ n ∧ n < q.To)) (fun i => .inl (i : Int)) (.inr ())
    (fun i hi _ => by
      have g1 := fget_at hi
      have c1 : ilt (i : Int) (flen x) = true := ilt_tt (by rw [flen_eq]; omega)
      have hiff : u_runs_Contains_1 x.l[i] n = true ↔ ¬ ∀ q, x.l[i]? = some q → ¬ (q.From ≤ n ∧ n < q.To) := by
        simp only [u_runs_Contains_1, band_iff, ile_iff, ilt_iff]
        constructor
        · exact fun h h2 => h2 _ (List.getElem?_eq_getElem hi) h
        · intro h
          by_cases h2 : (x.l[i]).From ≤ n ∧ n < (x.l[i]).To
          · exact h2
          · exact absurd (fun q hq => by rw [List.getElem?_eq_getElem hi] at hq; cases hq; exact h2) h
      refine choose_loop (u_runs_Contains_1 x.l[i] n) hiff ?_
      simp only [t_slices_IndexFunc_api_Run_api_Run_runs_Contains_1_L0, c1, if_true, g1, isucc (i := i) (by omega)])
    (fun _ => by simp only [t_slices_IndexFunc_api_Run_api_Run_runs_Contains_1_L0, flen_eq, ilt_ff (a := (x.l.length : Int)) (b := x.l.length) (by omega), Bool.false_eq_true, if_false])
  unfold t_runs_Contains t_slices_ContainsFunc_api_Run_api_Run_runs_Contains_1 t_slices_IndexFunc_api_Run_api_Run_runs_Contains_1
  rw [ev, e]
  rcases hr with ⟨rfl, hr⟩ | ⟨i, hi, rfl, hr, -⟩
  · refine ⟨false, rfl, ?_⟩
    simp only [Bool.false_eq_true, false_iff]
    rintro ⟨q, hq, h⟩
    obtain ⟨k, hk, rfl⟩ := List.getElem_of_mem hq
    exact hr k hk _ (List.getElem?_eq_getElem hk) h
  · refine ⟨true, ?_, fun _ => ?_, fun _ => rfl⟩
    · have : ige (i : Int) 0 = true := ige_iff.2 (by omega)
      simp only [bnot_t, Bool.false_eq_true, if_false, this]
    · by_cases h2 : (x.l[i]).From ≤ n ∧ n < (x.l[i]).To
      · exact ⟨_, List.getElem_mem hi, h2⟩
      · exact absurd (fun q hq => by rw [List.getElem?_eq_getElem hi] at hq; cases hq; exact h2) hr
theorem valid_runs {r : api_Region} (hv : ValidR r) {w : api_Row} (hw : w ∈ r.Rows.l) : RunsV (-4096) 4096 w.Runs.l := by
  obtain ⟨k, hk, rfl⟩ := List.getElem_of_mem hw
  exact ((goodRow_at hk).1 (hv k hk)).2.2.2.1
theorem runsV_wide {l : List api_Run} (h : RunsV (-4096) 4096 l) : RunsV (-1048576) 1048576 l := fun i hi r hr => by
  have := h i hi r hr
  exact ⟨by omega, this.2.1, by omega, this.2.2.2⟩
theorem valid_row_inj {r : api_Region} (hv : ValidR r) {v w : api_Row} (h1 : v ∈ r.Rows.l) (h2 : w ∈ r.Rows.l) (e : v.Y = w.Y) : v = w := by
  obtain ⟨i, hi, rfl⟩ := List.getElem_of_mem h1
  obtain ⟨j, hj, rfl⟩ := List.getElem_of_mem h2
  by_cases hij : i = j
  · subst hij; rfl
  · by_cases hlt : i < j
    · have := valid_lt hv (j - i) i (by omega) (by omega)
      have e2 : i + (j - i) = j := by omega
      simp only [e2] at this
      omega
    · have := valid_lt hv (i - j) j (by omega) (by omega)
      have e2 : j + (i - j) = i := by omega
      simp only [e2] at this
      omega
/-- The program's Contains. -/
theorem contains_ok (r : api_Region) (hL : Lim r) (c : api_Cell) : ∃ b, t_region_Contains r c = some b ∧ (b = true ↔ In r c) := by
  obtain ⟨bv, ev, hbv⟩ := region_Valid_ok r hL
  unfold t_region_Contains
  rw [ev]
  by_cases hv : ValidR r
  · rw [hbv.2 hv]
    obtain ⟨s, es, hs⟩ := row_ok r hL hv c.Y
    simp only [es, gOpt_tt, Option.getD_some, band_t]
    rcases hs with ⟨w, hw, hy, rfl⟩ | ⟨rfl, hn⟩
    · obtain ⟨b, eb, hb⟩ := rcontains_ok w.Runs (hL.2 w hw) (runsV_wide (valid_runs hv hw)) c.X
      simp only [eb, gOpt_tt, Option.getD_some]
      refine ⟨b, rfl, ?_⟩
      rw [hb]
      constructor
      · exact fun h => ⟨hv, w, hw, hy, h⟩
      · rintro ⟨-, v, hv2, hy2, h⟩
        rw [valid_row_inj hv hw hv2 (by omega)]
        exact h
    · obtain ⟨b, eb, hb⟩ := rcontains_ok .nil (by simp [FS.l]) (fun i hi => absurd hi (by simp [FS.l])) c.X
      simp only [eb, gOpt_tt, Option.getD_some]
      refine ⟨b, rfl, ?_⟩
      rw [hb]
      constructor
      · rintro ⟨q, hq, -⟩
        simp [FS.l] at hq
      · rintro ⟨-, v, hv2, hy2, h⟩
        exact absurd hy2 (hn v hv2)
  · have : bv = false := by rw [← Bool.not_eq_true]; exact fun h => hv (hbv.1 h)
    rw [this]
    simp only [gOpt_ff, band_f]
    exact ⟨false, rfl, by simp only [Bool.false_eq_true, false_iff]; exact fun h => hv h.1⟩
/-! The reference. -/
theorem ref_row_ok (r : api_Region) (hL : Lim r) (y : Int) : ∃ s, t_additiveref18_Row r y = some s ∧ ((∃ w ∈ r.Rows.l, w.Y = y ∧ s = w.Runs) ∨ (s = .nil ∧ ∀ w ∈ r.Rows.l, w.Y ≠ y)) := by
  obtain ⟨hL1, -⟩ := hL
  obtain ⟨x, e, hr⟩ := loop_all (t_additiveref18_Row_L0 y r) r.Rows.l.length (by omega) (fun i => ∀ w, r.Rows.l[i]? = some w → w.Y ≠ y) (fun i => .inl ((r.Rows.l[i]?.map api_Row.Runs).getD .nil)) (.inr ())
    (fun i hi _ => by
      have g1 := fget_at hi
      have c1 : ilt (i : Int) (flen r.Rows) = true := ilt_tt (by rw [flen_eq]; omega)
      refine choose_loop (ieq (r.Rows.l[i]).Y y) ?_ ?_
      · rw [ieq_iff]
        constructor
        · exact fun h h2 => h2 _ (List.getElem?_eq_getElem hi) h
        · intro h
          by_cases h2 : (r.Rows.l[i]).Y = y
          · exact h2
          · exact absurd (fun w hw => by rw [List.getElem?_eq_getElem hi] at hw; cases hw; exact h2) h
      · simp only [t_additiveref18_Row_L0, c1, if_true, g1, isucc (i := i) (by omega), List.getElem?_eq_getElem hi, Option.map_some, Option.getD_some])
    (fun _ => by simp only [t_additiveref18_Row_L0, flen_eq, ilt_ff (a := (r.Rows.l.length : Int)) (b := r.Rows.l.length) (by omega), Bool.false_eq_true, if_false])
  unfold t_additiveref18_Row
  rw [e]
  rcases hr with ⟨rfl, hr⟩ | ⟨i, hi, rfl, hr, -⟩
  · refine ⟨.nil, rfl, .inr ⟨rfl, fun w hw => ?_⟩⟩
    obtain ⟨k, hk, rfl⟩ := List.getElem_of_mem hw
    exact hr k hk _ (List.getElem?_eq_getElem hk)
  · refine ⟨_, rfl, .inl ⟨r.Rows.l[i], List.getElem_mem hi, ?_, by rw [List.getElem?_eq_getElem hi]; rfl⟩⟩
    by_cases h2 : (r.Rows.l[i]).Y = y
    · exact h2
    · exact absurd (fun w hw => by rw [List.getElem?_eq_getElem hi] at hw; cases hw; exact h2) hr
theorem inside_ok (x : FS api_Run) (hL : x.l.length ≤ 1000000) (n : Int) : ∃ b, t_additiveref18_inside x n = some b ∧ (b = true ↔ HasX x.l n) := by
  obtain ⟨r, e, hr⟩ := loop_all (t_additiveref18_inside_L0 x n) x.l.length (by omega) (fun i => ∀ q, x.l[i]? = some q → ¬ (q.From ≤ n ∧ n < q.To)) (fun _ => .inl true) (.inr ())
    (fun i hi _ => by
      have g1 := fget_at hi
      have c1 : ilt (i : Int) (flen x) = true := ilt_tt (by rw [flen_eq]; omega)
      refine choose_loop (band (ile (x.l[i]).From n) (ilt n (x.l[i]).To)) ?_ ?_
      · simp only [band_iff, ile_iff, ilt_iff]
        constructor
        · exact fun h h2 => h2 _ (List.getElem?_eq_getElem hi) h
        · intro h
          by_cases h2 : (x.l[i]).From ≤ n ∧ n < (x.l[i]).To
          · exact h2
          · exact absurd (fun q hq => by rw [List.getElem?_eq_getElem hi] at hq; cases hq; exact h2) h
      · simp only [t_additiveref18_inside_L0, c1, if_true, g1, isucc (i := i) (by omega)])
    (fun _ => by simp only [t_additiveref18_inside_L0, flen_eq, ilt_ff (a := (x.l.length : Int)) (b := x.l.length) (by omega), Bool.false_eq_true, if_false])
  unfold t_additiveref18_inside
  rw [e]
  rcases hr with ⟨rfl, hr⟩ | ⟨i, hi, rfl, hr, -⟩
  · refine ⟨false, rfl, ?_⟩
    simp only [Bool.false_eq_true, false_iff]
    rintro ⟨q, hq, h⟩
    obtain ⟨k, hk, rfl⟩ := List.getElem_of_mem hq
    exact hr k hk _ (List.getElem?_eq_getElem hk) h
  · refine ⟨true, rfl, fun _ => ?_, fun _ => rfl⟩
    by_cases h2 : (x.l[i]).From ≤ n ∧ n < (x.l[i]).To
    · exact ⟨_, List.getElem_mem hi, h2⟩
    · exact absurd (fun q hq => by rw [List.getElem?_eq_getElem hi] at hq; cases hq; exact h2) hr
theorem ref_contains_ok (r : api_Region) (hL : Lim r) (c : api_Cell) : ∃ b, t_additiveref18_Contains r c = some b ∧ (b = true ↔ In r c) := by
  obtain ⟨bv, ev, hbv⟩ := ref_Valid_ok r hL
  unfold t_additiveref18_Contains
  rw [ev]
  by_cases hv : ValidR r
  · rw [hbv.2 hv]
    obtain ⟨s, es, hs⟩ := ref_row_ok r hL c.Y
    simp only [es, gOpt_tt, Option.getD_some, band_t]
    rcases hs with ⟨w, hw, hy, rfl⟩ | ⟨rfl, hn⟩
    · obtain ⟨b, eb, hb⟩ := inside_ok w.Runs (hL.2 w hw) c.X
      simp only [eb, gOpt_tt, Option.getD_some]
      refine ⟨b, rfl, ?_⟩
      rw [hb]
      constructor
      · exact fun h => ⟨hv, w, hw, hy, h⟩
      · rintro ⟨-, v, hv2, hy2, h⟩
        rw [valid_row_inj hv hw hv2 (by omega)]
        exact h
    · obtain ⟨b, eb, hb⟩ := inside_ok .nil (by simp [FS.l]) c.X
      simp only [eb, gOpt_tt, Option.getD_some]
      refine ⟨b, rfl, ?_⟩
      rw [hb]
      constructor
      · rintro ⟨q, hq, -⟩
        simp [FS.l] at hq
      · rintro ⟨-, v, hv2, hy2, h⟩
        exact absurd hy2 (hn v hv2)
  · have : bv = false := by rw [← Bool.not_eq_true]; exact fun h => hv (hbv.1 h)
    rw [this]
    simp only [gOpt_ff, band_f]
    exact ⟨false, rfl, by simp only [Bool.false_eq_true, false_iff]; exact fun h => hv h.1⟩
/-- Both say the same. -/
theorem contains_same (r : api_Region) (hL : Lim r) (c : api_Cell) : t_region_Contains r c = t_additiveref18_Contains r c := by
  obtain ⟨a, ea, ha⟩ := contains_ok r hL c
  obtain ⟨b, eb, hb⟩ := ref_contains_ok r hL c
  rw [ea, eb]
  have : a = b := by
    cases a <;> cases b <;> simp_all
  rw [this]
end Go.Proofs.Ytchiiiahgmfofaa
