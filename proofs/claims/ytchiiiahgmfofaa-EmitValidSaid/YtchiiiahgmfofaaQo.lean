/- emit: settings and operations that came in. Conditions: none. -/
import Derived.Test.YtchiiiahgmfofaaTe
import Derived.Test.YtchiiiahgmfofaaVq
namespace Go.Proofs.Ytchiiiahgmfofaa
open Go Go.Vv Go.Proofs
set_option linter.unusedVariables false
def shCell : List CSh := [.i .i64, .i .i64]
def shOp : List CSh := [.i .i64, .i .i64, .i .i64, .i .i64, .i .i64, .sl shCell]
def shSet : List CSh := [.i .i64, .i .i64, .i .i64, .i .i64, .i .i64, .i .i64, .i .i64, .b, .i .i64, .i .i64, .i .i64, .i .i64, .i .i64, .i .i64, .i .i64, .i .i64, .i .i64, .i .i64, .i .i64, .i .i64]
theorem int_of {y : AV} (h : OfS (.i .i64) y) : ∃ n, y = .int .i64 n := by
  cases h with
  | int _ n _ => exact ⟨n, rfl⟩
/-- Settings that came in. -/
theorem settings_of {W : World} {S : Nat → Prop} {L : List AV} {cs : List Value} (h : Reads W S shSet L cs) : ∃ s : api_Settings, L = e_api_Settings s := by
  unfold shSet at h
  rcases h with _ | ⟨⟨_⟩ | ⟨_, n0, w0⟩, -, -, h⟩
  rcases h with _ | ⟨⟨_⟩ | ⟨_, n1, w1⟩, -, -, h⟩
  rcases h with _ | ⟨⟨_⟩ | ⟨_, n2, w2⟩, -, -, h⟩
  rcases h with _ | ⟨⟨_⟩ | ⟨_, n3, w3⟩, -, -, h⟩
  rcases h with _ | ⟨⟨_⟩ | ⟨_, n4, w4⟩, -, -, h⟩
  rcases h with _ | ⟨⟨_⟩ | ⟨_, n5, w5⟩, -, -, h⟩
  rcases h with _ | ⟨⟨_⟩ | ⟨_, n6, w6⟩, -, -, h⟩
  rcases h with _ | ⟨⟨p⟩ | _, -, -, h⟩
  rcases h with _ | ⟨⟨_⟩ | ⟨_, n8, w8⟩, -, -, h⟩
  rcases h with _ | ⟨⟨_⟩ | ⟨_, n9, w9⟩, -, -, h⟩
  rcases h with _ | ⟨⟨_⟩ | ⟨_, n10, w10⟩, -, -, h⟩
  rcases h with _ | ⟨⟨_⟩ | ⟨_, n11, w11⟩, -, -, h⟩
  rcases h with _ | ⟨⟨_⟩ | ⟨_, n12, w12⟩, -, -, h⟩
  rcases h with _ | ⟨⟨_⟩ | ⟨_, n13, w13⟩, -, -, h⟩
  rcases h with _ | ⟨⟨_⟩ | ⟨_, n14, w14⟩, -, -, h⟩
  rcases h with _ | ⟨⟨_⟩ | ⟨_, n15, w15⟩, -, -, h⟩
  rcases h with _ | ⟨⟨_⟩ | ⟨_, n16, w16⟩, -, -, h⟩
  rcases h with _ | ⟨⟨_⟩ | ⟨_, n17, w17⟩, -, -, h⟩
  rcases h with _ | ⟨⟨_⟩ | ⟨_, n18, w18⟩, -, -, h⟩
  rcases h with _ | ⟨⟨_⟩ | ⟨_, n19, w19⟩, -, -, h⟩
  cases h
  exact ⟨⟨n0, n1, n2, n3, n4, n5, n6, p, n8, n9, n10, n11, n12, n13, n14, n15, n16, n17, n18, n19⟩, rfl⟩
theorem cells_list : ∀ (n : Nat) (L : List AV), L.length = n * 2 → (∀ i j x y, i < n → shCell[j]? = some x → L[i * 2 + j]? = some y → OfS x y) → ∃ l : List api_Cell, L = cellsE e_api_Cell l ∧ l.length = n
  | 0, L, hl, _ => by
    rw [Nat.zero_mul] at hl
    exact ⟨[], by rw [List.length_eq_zero_iff.1 hl]; rfl, rfl⟩
  | n + 1, L, hl, h => by
    match L, hl, h with
    | a :: b :: R, hl, h =>
      obtain ⟨a', rfl⟩ := int_of (h 0 0 _ a (by omega) rfl rfl)
      obtain ⟨b', rfl⟩ := int_of (h 0 1 _ b (by omega) rfl rfl)
      obtain ⟨l, e1, e2⟩ := cells_list n R (by simp only [List.length_cons] at hl; omega) (fun i j x y hi hx hy => h (i + 1) j x y (by omega) hx (by
        have : (i + 1) * 2 + j = (i * 2 + j) + 2 := by omega
        rw [this]
        exact hy))
      exact ⟨⟨a', b'⟩ :: l, by rw [e1]; rfl, by rw [List.length_cons, e2]⟩
    | [], hl, _ => simp at hl
    | [_], hl, _ => simp at hl; omega
/-- A row of cells that came in. -/
theorem cells_of {y : AV} (h : OfS (.sl shCell) y) : ∃ x : FS api_Cell, y = encF e_api_Cell x := by
  cases h with
  | nils => exact ⟨.nil, rfl⟩
  | lst _ n L hl hn hh =>
    obtain ⟨l, rfl, e2⟩ := cells_list n L hl hh
    subst e2
    exact ⟨.lst l, rfl⟩
theorem ops_list : ∀ (n : Nat) (L : List AV), L.length = n * 6 → (∀ i j x y, i < n → shOp[j]? = some x → L[i * 6 + j]? = some y → OfS x y) → ∃ l : List api_Op, L = cellsE e_api_Op l ∧ l.length = n
  | 0, L, hl, _ => by
    rw [Nat.zero_mul] at hl
    exact ⟨[], by rw [List.length_eq_zero_iff.1 hl]; rfl, rfl⟩
  | n + 1, L, hl, h => by
    match L, hl, h with
    | a :: b :: c :: d :: e :: f :: R, hl, h =>
      obtain ⟨a', rfl⟩ := int_of (h 0 0 _ a (by omega) rfl rfl)
      obtain ⟨b', rfl⟩ := int_of (h 0 1 _ b (by omega) rfl rfl)
      obtain ⟨c', rfl⟩ := int_of (h 0 2 _ c (by omega) rfl rfl)
      obtain ⟨d', rfl⟩ := int_of (h 0 3 _ d (by omega) rfl rfl)
      obtain ⟨e', rfl⟩ := int_of (h 0 4 _ e (by omega) rfl rfl)
      obtain ⟨f', rfl⟩ := cells_of (h 0 5 _ f (by omega) rfl rfl)
      obtain ⟨l, e1, e2⟩ := ops_list n R (by simp only [List.length_cons] at hl; omega) (fun i j x y hi hx hy => h (i + 1) j x y (by omega) hx (by
        have : (i + 1) * 6 + j = (i * 6 + j) + 6 := by omega
        rw [this]
        exact hy))
      exact ⟨⟨a', b', c', d', e', f'⟩ :: l, by rw [e1]; rfl, by rw [List.length_cons, e2]⟩
    | [], hl, _ => simp at hl
    | [_], hl, _ => simp at hl; omega
    | [_, _], hl, _ => simp at hl; omega
    | [_, _, _], hl, _ => simp at hl; omega
    | [_, _, _, _], hl, _ => simp at hl; omega
    | [_, _, _, _, _], hl, _ => simp at hl; omega
/-- Operations that came in. -/
theorem ops_of {y : AV} (h : OfS (.sl shOp) y) : ∃ x : FS api_Op, y = encF e_api_Op x := by
  cases h with
  | nils => exact ⟨.nil, rfl⟩
  | lst _ n L hl hn hh =>
    obtain ⟨l, rfl, e2⟩ := ops_list n L hl hh
    subst e2
    exact ⟨.lst l, rfl⟩
end Go.Proofs.Ytchiiiahgmfofaa
