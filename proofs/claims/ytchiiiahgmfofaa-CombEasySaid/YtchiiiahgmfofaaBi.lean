/- comb: the list of a region's cells, in plain Lean. Conditions: none. -/
import Derived.Test.YtchiiiahgmfofaaBp
import Derived.Test.YtchiiiahgmfofaaTf
namespace Go.Proofs.Ytchiiiahgmfofaa
open Go Go.Vv Go.Proofs
set_option linter.unusedSimpArgs false
set_option linter.unusedVariables false
set_option linter.unusedSectionVars false
/-- The first cells of a run. -/
def runN (y : Int) (q : api_Run) (n : Nat) : List api_Cell := (List.range n).map fun t : Nat => (⟨q.From + (t : Int), y⟩ : api_Cell)
def runL (y : Int) (q : api_Run) : List api_Cell := runN y q (q.To - q.From).toNat
def rowL (w : api_Row) : List api_Cell := w.Runs.l.flatMap (runL w.Y)
def cellsL (r : api_Region) : List api_Cell := r.Rows.l.flatMap rowL
theorem runN_succ (y : Int) (q : api_Run) (n : Nat) : runN y q (n + 1) = runN y q n ++ [⟨q.From + n, y⟩] := by
  simp [runN, List.range_succ]
theorem runN_len (y : Int) (q : api_Run) (n : Nat) : (runN y q n).length = n := by simp [runN]
theorem flat_take {α β : Type} (f : α → List β) (l : List α) {i : Nat} (h : i < l.length) : (l.take (i + 1)).flatMap f = (l.take i).flatMap f ++ f l[i] := by
  rw [List.take_add_one, List.getElem?_eq_getElem h, List.flatMap_append]
  simp
theorem flat_len {α β : Type} (f : α → List β) (m : Nat) : ∀ (l : List α), (∀ x ∈ l, (f x).length ≤ m) → (l.flatMap f).length ≤ l.length * m
  | [], _ => by simp
  | x :: l, h => by
    have h1 := h x (by simp)
    have h2 := flat_len f m l (fun y hy => h y (by simp [hy]))
    rw [List.flatMap_cons, List.length_append, List.length_cons, Nat.succ_mul]
    omega
section
variable {r : api_Region} (h4 : Lim4 r) (hv : ValidR r)
include h4 hv
theorem runs_in {w : api_Row} (hw : w ∈ r.Rows.l) {q : api_Run} (hq : q ∈ w.Runs.l) : -4096 ≤ q.From ∧ q.From < q.To ∧ q.To ≤ 4096 := by
  obtain ⟨k, hk, rfl⟩ := List.getElem_of_mem hw
  have a := (goodRow_at hk).1 (hv k hk)
  obtain ⟨j, hj, rfl⟩ := List.getElem_of_mem hq
  have b := a.2.2.2.1 j hj _ (List.getElem?_eq_getElem hj)
  exact ⟨b.1, b.2.1, b.2.2.1⟩
theorem rowL_len {w : api_Row} (hw : w ∈ r.Rows.l) (n : Nat) : ((w.Runs.l.take n).flatMap (runL w.Y)).length ≤ 327680 := by
  have h1 := flat_len (runL w.Y) 8192 (w.Runs.l.take n) (fun q hq => by
    have := runs_in h4 hv hw (List.mem_of_mem_take hq)
    rw [runL, runN_len]
    omega)
  have h2 := h4.2 w hw
  have h3 := List.length_take_le n w.Runs.l
  have : (w.Runs.l.take n).length ≤ 40 := by rw [List.length_take]; omega
  omega
theorem cellsL_len (n : Nat) : ((r.Rows.l.take n).flatMap rowL).length ≤ 13107200 := by
  have h1 := flat_len rowL 327680 (r.Rows.l.take n) (fun w hw => by
    have := rowL_len h4 hv (List.mem_of_mem_take hw) w.Runs.l.length
    rw [List.take_length] at this
    exact this)
  have : (r.Rows.l.take n).length ≤ 40 := by rw [List.length_take]; have := h4.1; omega
  omega
theorem cells_run (i j : Nat) (hi : i < r.Rows.l.length) (hj : j < (r.Rows.l[i]).Runs.l.length) (x : FS api_Cell) (hx : x.l.length ≤ 100000000) :
    ∃ y, loopT (t_additiveref18_Cells_L0 r (i : Int) (j : Int)) bigN (x, ((r.Rows.l[i]).Runs.l[j]).From) = some y ∧ y.l = x.l ++ runL (r.Rows.l[i]).Y ((r.Rows.l[i]).Runs.l[j]) := by
  have hq := runs_in h4 hv (List.getElem_mem hi) (List.getElem_mem hj)
  have g1 := fget_at hi
  have g2 := fget_at hj
  refine loop_ok (body := t_additiveref18_Cells_L0 r (i : Int) (j : Int)) (fun s => ∃ n : Nat, s.2 = ((r.Rows.l[i]).Runs.l[j]).From + n ∧ ((r.Rows.l[i]).Runs.l[j]).From + n ≤ ((r.Rows.l[i]).Runs.l[j]).To ∧ s.1.l = x.l ++ runN (r.Rows.l[i]).Y ((r.Rows.l[i]).Runs.l[j]) n) (fun s => (((r.Rows.l[i]).Runs.l[j]).To - s.2).toNat) (fun y => y.l = x.l ++ runL (r.Rows.l[i]).Y ((r.Rows.l[i]).Runs.l[j])) ?_ bigN _ ⟨0, by simp, by omega, by simp [runN]⟩ (bigN_gt (by simp only; omega))
  rintro ⟨o, c⟩ ⟨n, hc, hn, ho⟩
  simp only at hc ho
  subst hc
  by_cases hlt : ((r.Rows.l[i]).Runs.l[j]).From + (n : Int) < ((r.Rows.l[i]).Runs.l[j]).To
  · left
    have c1 := ilt_tt hlt
    have hol : o.l.length ≤ 200000000 := by rw [ho, List.length_append, runN_len]; omega
    have hfit : fits 16 (flen o + 1) = true := fits_len (l := o.l) (by omega) (by omega)
    refine ⟨(fsnoc o ⟨((r.Rows.l[i]).Runs.l[j]).From + n, (r.Rows.l[i]).Y⟩, ((r.Rows.l[i]).Runs.l[j]).From + ((n + 1 : Nat) : Int)), ?_, ⟨n + 1, rfl, by omega, ?_⟩, by simp only; omega⟩
    · have e : iadd .i64 (((r.Rows.l[i]).Runs.l[j]).From + (n : Int)) 1 = ((r.Rows.l[i]).Runs.l[j]).From + ((n + 1 : Nat) : Int) := by rw [iadd_eq (by omega) (by omega)]; omega
      simp only [t_additiveref18_Cells_L0, g1, g2, c1, if_true, hfit, e]
    · simp only [fsnoc_l]
      rw [ho, runN_succ, List.append_assoc]
  · right
    have c1 := ilt_ff hlt
    refine ⟨o, by simp only [t_additiveref18_Cells_L0, g1, g2, c1, Bool.false_eq_true, if_false], ?_⟩
    rw [ho, runL]
    have : (((r.Rows.l[i]).Runs.l[j]).To - ((r.Rows.l[i]).Runs.l[j]).From).toNat = n := by omega
    rw [this]
theorem cells_row (i : Nat) (hi : i < r.Rows.l.length) (x : FS api_Cell) (hx : x.l.length ≤ 50000000) :
    ∃ y, loopT (t_additiveref18_Cells_L1 r (i : Int)) bigN (x, 0) = some y ∧ y.l = x.l ++ rowL (r.Rows.l[i]) := by
  have g1 := fget_at hi
  have hr := h4.2 _ (List.getElem_mem hi)
  refine loop_ok (body := t_additiveref18_Cells_L1 r (i : Int)) (fun s => ∃ n : Nat, s.2 = n ∧ n ≤ (r.Rows.l[i]).Runs.l.length ∧ s.1.l = x.l ++ ((r.Rows.l[i]).Runs.l.take n).flatMap (runL (r.Rows.l[i]).Y)) (fun s => ((r.Rows.l[i]).Runs.l.length - s.2).toNat) (fun y => y.l = x.l ++ rowL (r.Rows.l[i])) ?_ bigN _ ⟨0, rfl, by omega, by simp⟩ (bigN_gt (by simp only; omega))
  rintro ⟨o, c⟩ ⟨n, hc, hn, ho⟩
  simp only at hc ho
  subst hc
  by_cases hlt : n < (r.Rows.l[i]).Runs.l.length
  · left
    have c1 : ilt (n : Int) (flen (r.Rows.l[i]).Runs) = true := ilt_tt (by rw [flen_eq]; omega)
    have g2 := fget_at hlt
    have hol := rowL_len h4 hv (List.getElem_mem hi) n
    obtain ⟨y, ey, hy⟩ := cells_run h4 hv i n hi hlt o (by rw [ho, List.length_append]; omega)
    refine ⟨(y, ((n + 1 : Nat) : Int)), by simp only [t_additiveref18_Cells_L1, g1, c1, if_true, g2, ey, isucc (i := n) (by omega)], ⟨n + 1, rfl, by omega, ?_⟩, by simp only; omega⟩
    simp only
    rw [hy, ho, flat_take _ _ hlt, List.append_assoc]
  · right
    have c1 : ilt (n : Int) (flen (r.Rows.l[i]).Runs) = false := ilt_ff (by rw [flen_eq]; omega)
    refine ⟨o, by simp only [t_additiveref18_Cells_L1, g1, c1, Bool.false_eq_true, if_false], ?_⟩
    rw [ho, List.take_of_length_le (by omega)]
    rfl
theorem cells_all : ∃ y, loopT (t_additiveref18_Cells_L2 r) bigN ((FS.nil : FS api_Cell), 0) = some y ∧ y.l = cellsL r := by
  have hr := h4.1
  refine loop_ok (body := t_additiveref18_Cells_L2 r) (fun s => ∃ n : Nat, s.2 = n ∧ n ≤ r.Rows.l.length ∧ s.1.l = (r.Rows.l.take n).flatMap rowL) (fun s => (r.Rows.l.length - s.2).toNat) (fun y => y.l = cellsL r) ?_ bigN _ ⟨0, rfl, by omega, by simp [FS.l]⟩ (bigN_gt (by simp only; omega))
  rintro ⟨o, c⟩ ⟨n, hc, hn, ho⟩
  simp only at hc ho
  subst hc
  by_cases hlt : n < r.Rows.l.length
  · left
    have c1 : ilt (n : Int) (flen r.Rows) = true := ilt_tt (by rw [flen_eq]; omega)
    have hol := cellsL_len h4 hv n
    obtain ⟨y, ey, hy⟩ := cells_row h4 hv n hlt o (by rw [ho]; omega)
    refine ⟨(y, ((n + 1 : Nat) : Int)), by simp only [t_additiveref18_Cells_L2, c1, if_true, ey, isucc (i := n) (by omega)], ⟨n + 1, rfl, by omega, ?_⟩, by simp only; omega⟩
    simp only
    rw [hy, ho, flat_take _ _ hlt]
  · right
    have c1 : ilt (n : Int) (flen r.Rows) = false := ilt_ff (by rw [flen_eq]; omega)
    refine ⟨o, by simp only [t_additiveref18_Cells_L2, c1, Bool.false_eq_true, if_false], ?_⟩
    rw [ho, List.take_of_length_le (by omega)]
    rfl
end
theorem mem_cellsL {r : api_Region} (hv : ValidR r) (c : api_Cell) : c ∈ cellsL r ↔ In r c := by
  unfold cellsL In HasX
  simp only [List.mem_flatMap, rowL, runL, runN, List.mem_map, List.mem_range]
  constructor
  · rintro ⟨w, hw, q, hq, t, ht, rfl⟩
    exact ⟨hv, w, hw, rfl, q, hq, by simp only; omega, by simp only; omega⟩
  · rintro ⟨-, w, hw, hy, q, hq, h1, h2⟩
    exact ⟨w, hw, q, hq, (c.X - q.From).toNat, by omega, Cell.ext' (by simp only; omega) hy⟩
/-- The list of a region's cells. -/
theorem cells_ok {r : api_Region} (h4 : Lim4 r) : ∃ x, t_additiveref18_Cells r = some x ∧ (∀ c, c ∈ x.l ↔ In r c) ∧ x.l.length ≤ 13107200 := by
  obtain ⟨b, e, hb⟩ := ref_Valid_ok r h4.lim
  unfold t_additiveref18_Cells
  rw [e]
  cases b with
  | false => exact ⟨.nil, rfl, fun c => ⟨fun h => by simp [FS.l] at h, fun h => absurd (hb.2 h.1) (by simp)⟩, by simp [FS.l]⟩
  | true =>
    have hv := hb.1 rfl
    obtain ⟨y, ey, hy⟩ := cells_all h4 hv
    refine ⟨y, ?_, fun c => by rw [hy]; exact mem_cellsL hv c, ?_⟩
    · simp only [bnot_t, Bool.false_eq_true, if_false, ey]
    · have := cellsL_len h4 hv r.Rows.l.length
      rw [List.take_length] at this
      rw [hy]
      exact this
end Go.Proofs.Ytchiiiahgmfofaa
