/- comb: regions that came in. Conditions: none. -/
import Derived.Test.YtchiiiahgmfofaaTe
import Derived.Test.YtchiiiahgmfofaaVq
namespace Go.Proofs.Ytchiiiahgmfofaa
open Go Go.Vv Go.Proofs
set_option linter.unusedVariables false
def shCell : List CSh := [.i .i64, .i .i64]
def shRow : List CSh := [.i .i64, .sl shCell]
def shRegion : List CSh := [.sl shRow]
theorem int_of {y : AV} (h : OfS (.i .i64) y) : ∃ n, y = .int .i64 n := by
  cases h with
  | int _ n _ => exact ⟨n, rfl⟩
/-- A cell that came in. -/
theorem cell_of {W : World} {S : Nat → Prop} {L : List AV} {cs : List Value} (h : Reads W S shCell L cs) : ∃ p : api_Cell, L = [.int .i64 p.X, .int .i64 p.Y] := by
  unfold shCell at h
  rcases h with _ | ⟨⟨_⟩ | ⟨_, n0, w0⟩, -, -, h⟩
  rcases h with _ | ⟨⟨_⟩ | ⟨_, n1, w1⟩, -, -, h⟩
  cases h
  exact ⟨⟨n0, n1⟩, rfl⟩
theorem runs_list : ∀ (n : Nat) (L : List AV), L.length = n * 2 → (∀ i j x y, i < n → shCell[j]? = some x → L[i * 2 + j]? = some y → OfS x y) → ∃ l : List api_Run, L = cellsE e_api_Run l ∧ l.length = n
  | 0, L, hl, _ => by
    rw [Nat.zero_mul] at hl
    exact ⟨[], by rw [List.length_eq_zero_iff.1 hl]; rfl, rfl⟩
  | n + 1, L, hl, h => by
    match L, hl, h with
    | a :: b :: R, hl, h =>
      obtain ⟨a', rfl⟩ := int_of (h 0 0 _ a (by omega) rfl rfl)
      obtain ⟨b', rfl⟩ := int_of (h 0 1 _ b (by omega) rfl rfl)
      obtain ⟨l, e1, e2⟩ := runs_list n R (by simp only [List.length_cons] at hl; omega) (fun i j x y hi hx hy => h (i + 1) j x y (by omega) hx (by
        have : (i + 1) * 2 + j = (i * 2 + j) + 2 := by omega
        rw [this]
        exact hy))
      exact ⟨⟨a', b'⟩ :: l, by rw [e1]; rfl, by rw [List.length_cons, e2]⟩
    | [], hl, _ => simp at hl
    | [_], hl, _ => simp at hl; omega
/-- A row of runs that came in. -/
theorem runs_of {y : AV} (h : OfS (.sl shCell) y) : ∃ x : FS api_Run, y = encF e_api_Run x := by
  cases h with
  | nils => exact ⟨.nil, rfl⟩
  | lst _ n L hl hn hh =>
    obtain ⟨l, rfl, e2⟩ := runs_list n L hl hh
    subst e2
    exact ⟨.lst l, rfl⟩
theorem rows_list : ∀ (n : Nat) (L : List AV), L.length = n * 2 → (∀ i j x y, i < n → shRow[j]? = some x → L[i * 2 + j]? = some y → OfS x y) → ∃ l : List api_Row, L = cellsE e_api_Row l ∧ l.length = n
  | 0, L, hl, _ => by
    rw [Nat.zero_mul] at hl
    exact ⟨[], by rw [List.length_eq_zero_iff.1 hl]; rfl, rfl⟩
  | n + 1, L, hl, h => by
    match L, hl, h with
    | a :: b :: R, hl, h =>
      obtain ⟨a', rfl⟩ := int_of (h 0 0 _ a (by omega) rfl rfl)
      obtain ⟨b', rfl⟩ := runs_of (h 0 1 _ b (by omega) rfl rfl)
      obtain ⟨l, e1, e2⟩ := rows_list n R (by simp only [List.length_cons] at hl; omega) (fun i j x y hi hx hy => h (i + 1) j x y (by omega) hx (by
        have : (i + 1) * 2 + j = (i * 2 + j) + 2 := by omega
        rw [this]
        exact hy))
      exact ⟨⟨a', b'⟩ :: l, by rw [e1]; rfl, by rw [List.length_cons, e2]⟩
    | [], hl, _ => simp at hl
    | [_], hl, _ => simp at hl; omega
/-- A region that came in. -/
theorem region_of {W : World} {S : Nat → Prop} {L : List AV} {cs : List Value} (h : Reads W S shRegion L cs) : ∃ p : api_Region, L = [encF e_api_Row p.Rows] := by
  unfold shRegion at h
  rcases h with _ | ⟨o, -, -, h⟩
  cases h
  cases o with
  | nils => exact ⟨⟨.nil⟩, rfl⟩
  | lst _ n L hl hn hh =>
    obtain ⟨l, rfl, e2⟩ := rows_list n L hl hh
    subst e2
    exact ⟨⟨.lst l⟩, rfl⟩
end Go.Proofs.Ytchiiiahgmfofaa
