/- flow: settings and operations that came in. -/
import Derived.Test.YtldcbmkfkbnmbaaWc
import Derived.Test.YtldcbmkfkbnmbaaVq
namespace Go.Proofs.Ytldcbmkfkbnmbaa
open Go Go.Vv Go.Proofs
set_option linter.unusedVariables false
def shSet : List CSh := [.i .i64, .i .i64, .i .i64, .i .i64, .i .i64, .i .i64, .i .i64, .b, .i .i64, .i .i64, .i .i64, .i .i64, .i .i64, .i .i64, .i .i64, .i .i64, .i .i64, .i .i64, .i .i64, .i .i64]
def shOp : List CSh := [.i .i64, .i .i64, .i .i64, .i .i64, .i .i64, .sl [.i .i64, .i .i64]]
/-- Settings that came in. -/
theorem settings_of {W : World} {S : Nat → Prop} {L : List AV} {cs : List Value} (h : Reads W S shSet L cs) :
    ∃ (s : Nat → Int) (p : Bool), L = setC s p := by
  unfold shSet at h
  rcases h with _ | ⟨⟨_⟩ | ⟨_, n0, w0⟩, -, -, h⟩
  rcases h with _ | ⟨⟨_⟩ | ⟨_, n1, w1⟩, -, -, h⟩
  rcases h with _ | ⟨⟨_⟩ | ⟨_, n2, w2⟩, -, -, h⟩
  rcases h with _ | ⟨⟨_⟩ | ⟨_, n3, w3⟩, -, -, h⟩
  rcases h with _ | ⟨⟨_⟩ | ⟨_, n4, w4⟩, -, -, h⟩
  rcases h with _ | ⟨⟨_⟩ | ⟨_, n5, w5⟩, -, -, h⟩
  rcases h with _ | ⟨⟨_⟩ | ⟨_, n6, w6⟩, -, -, h⟩
  rcases h with _ | ⟨⟨p⟩ | _, -, -, h⟩
  rcases h with _ | ⟨⟨_⟩ | ⟨_, n8, w8⟩, -, -, h⟩
  rcases h with _ | ⟨⟨_⟩ | ⟨_, n9, w9⟩, -, -, h⟩
  rcases h with _ | ⟨⟨_⟩ | ⟨_, n10, w10⟩, -, -, h⟩
  rcases h with _ | ⟨⟨_⟩ | ⟨_, n11, w11⟩, -, -, h⟩
  rcases h with _ | ⟨⟨_⟩ | ⟨_, n12, w12⟩, -, -, h⟩
  rcases h with _ | ⟨⟨_⟩ | ⟨_, n13, w13⟩, -, -, h⟩
  rcases h with _ | ⟨⟨_⟩ | ⟨_, n14, w14⟩, -, -, h⟩
  rcases h with _ | ⟨⟨_⟩ | ⟨_, n15, w15⟩, -, -, h⟩
  rcases h with _ | ⟨⟨_⟩ | ⟨_, n16, w16⟩, -, -, h⟩
  rcases h with _ | ⟨⟨_⟩ | ⟨_, n17, w17⟩, -, -, h⟩
  rcases h with _ | ⟨⟨_⟩ | ⟨_, n18, w18⟩, -, -, h⟩
  rcases h with _ | ⟨⟨_⟩ | ⟨_, n19, w19⟩, -, -, h⟩
  cases h
  exact ⟨fun i => [n0, n1, n2, n3, n4, n5, n6, 0, n8, n9, n10, n11, n12, n13, n14, n15, n16, n17, n18, n19].getD i 0, p, rfl⟩

theorem int_of {y : AV} (h : OfS (.i .i64) y) : ∃ n, y = .int .i64 n := by
  cases h with
  | int _ n _ => exact ⟨n, rfl⟩
theorem cell_of {y : AV} (h : OfS (.sl [.i .i64, .i .i64]) y) : ∃ L, IsL 2 y (nC y) L := by
  cases h with
  | nils => exact ⟨[], .inl ⟨rfl, rfl, rfl⟩⟩
  | lst _ n L hl hn hh =>
    refine ⟨L, .inr ⟨rfl, hl, ?_⟩⟩
    rw [List.all_eq_true]
    intro x hx
    obtain ⟨p, hp⟩ := List.getElem?_of_mem hx
    have hlt : p < L.length := (List.getElem?_eq_some_iff.1 hp).1
    simp only [List.length_cons, List.length_nil, Nat.zero_add, Nat.reduceAdd] at hl hh
    have e : p / 2 * 2 + p % 2 = p := by omega
    have hj : p % 2 = 0 ∨ p % 2 = 1 := by omega
    have := hh (p / 2) (p % 2) (.i .i64) x (by omega) (by rcases hj with h | h <;> rw [h] <;> rfl) (by rw [e]; exact hp)
    obtain ⟨v, rfl⟩ := int_of this
    rfl
theorem ops_of_list : ∀ (n : Nat) (L : List AV), L.length = n * 6 → (∀ i j x y, i < n → shOp[j]? = some x → L[i * 6 + j]? = some y → OfS x y) → ∃ ops : List Oper, L = cellsOf ops ∧ ops.length = n ∧ ∀ o ∈ ops, okOp o
  | 0, L, hl, _ => by
    rw [Nat.zero_mul] at hl
    exact ⟨[], by rw [List.length_eq_zero_iff.1 hl]; rfl, rfl, by simp⟩
  | n + 1, L, hl, h => by
    match L, hl, h with
    | a :: b :: c :: d :: e :: f :: R, hl, h =>
      obtain ⟨a', rfl⟩ := int_of (h 0 0 _ a (by omega) rfl rfl)
      obtain ⟨b', rfl⟩ := int_of (h 0 1 _ b (by omega) rfl rfl)
      obtain ⟨c', rfl⟩ := int_of (h 0 2 _ c (by omega) rfl rfl)
      obtain ⟨d', rfl⟩ := int_of (h 0 3 _ d (by omega) rfl rfl)
      obtain ⟨e', rfl⟩ := int_of (h 0 4 _ e (by omega) rfl rfl)
      have hf := cell_of (h 0 5 _ f (by omega) rfl rfl)
      obtain ⟨ops, e1, e2, e3⟩ := ops_of_list n R (by simp only [List.length_cons] at hl; omega) (fun i j x y hi hx hy => h (i + 1) j x y (by omega) hx (by
        have : (i + 1) * 6 + j = (i * 6 + j) + 6 := by omega
        rw [this]
        exact hy))
      exact ⟨⟨a', b', c', d', e', f⟩ :: ops, by rw [cells_cons, e1], by rw [List.length_cons, e2], by
        intro o ho
        rcases List.mem_cons.1 ho with rfl | ho
        · exact hf
        · exact e3 o ho⟩
    | [], hl, _ => simp at hl
    | [_], hl, _ => simp at hl; omega
    | [_, _], hl, _ => simp at hl; omega
    | [_, _, _], hl, _ => simp at hl; omega
    | [_, _, _, _], hl, _ => simp at hl; omega
    | [_, _, _, _, _], hl, _ => simp at hl; omega
theorem ops_of {y : AV} (h : OfS (.sl shOp) y) : ∃ ops : List Oper, IsL 6 y ops.length (cellsOf ops) ∧ ∀ o ∈ ops, okOp o := by
  cases h with
  | nils => exact ⟨[], .inl ⟨rfl, rfl, rfl⟩, by simp⟩
  | lst _ n L hl hn hh =>
    obtain ⟨ops, rfl, e2, e3⟩ := ops_of_list n L hl hh
    subst e2
    refine ⟨ops, .inr ⟨rfl, hl, ?_⟩, e3⟩
    have : ∀ (l : List Oper), (∀ o ∈ l, okOp o) → (cellsOf l).all AV.flat = true := by
      intro l
      induction l with
      | nil => intro _; rfl
      | cons o r ih =>
        intro ho
        obtain ⟨M, hM⟩ := ho o (by simp)
        rw [cells_cons]
        simp only [List.all_cons, flat_int, hM.flat, ih (fun o h => ho o (by simp [h])), Bool.and_self]
    exact this ops e3
end Go.Proofs.Ytldcbmkfkbnmbaa
