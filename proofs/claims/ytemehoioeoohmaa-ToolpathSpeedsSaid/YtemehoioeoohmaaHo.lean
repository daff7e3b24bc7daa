/- Toolpath: plans and settings that came in. Conditions: none. -/
import Derived.Test.YtemehoioeoohmaaHd
import Derived.Test.YtemehoioeoohmaaVq
namespace Go.Proofs.Ytemehoioeoohmaa
open Go Go.Vv Go.Proofs
set_option linter.unusedVariables false
set_option linter.unusedSectionVars false
def Jmh : List CSh := [.i .i64, .i .i64]
def shRow : List CSh := [.i .i64, .sl Jmh]
def Jps : List CSh := [.i .i64, .b, .sl Jmh]
def Jx5 : List CSh := [.sl Jps, .sl shRow, .i .i64, .i .i64, .i .i64]
def shSet : List CSh := [.i .i64, .i .i64, .i .i64, .i .i64, .i .i64, .i .i64, .i .i64, .b, .i .i64, .i .i64, .i .i64, .i .i64, .i .i64, .i .i64, .i .i64, .i .i64, .i .i64, .i .i64, .i .i64, .i .i64]
theorem Jhm {y : AV} (h : OfS (.i .i64) y) : ∃ n, y = .int .i64 n := by
  cases h with
  | int _ n _ => exact ⟨n, rfl⟩
/-- Settings that came in. -/
theorem Jpt {W : World} {S : Nat → Prop} {L : List AV} {cs : List Value} (h : Reads W S shSet L cs) : ∃ s : Jy, L = Jbv s := by
  unfold shSet at h
  rcases h with _ | ⟨⟨_⟩ | ⟨_, n0, w0⟩, -, -, h⟩
  rcases h with _ | ⟨⟨_⟩ | ⟨_, n1, w1⟩, -, -, h⟩
  rcases h with _ | ⟨⟨_⟩ | ⟨_, n2, w2⟩, -, -, h⟩
  rcases h with _ | ⟨⟨_⟩ | ⟨_, n3, w3⟩, -, -, h⟩
  rcases h with _ | ⟨⟨_⟩ | ⟨_, n4, w4⟩, -, -, h⟩
  rcases h with _ | ⟨⟨_⟩ | ⟨_, n5, w5⟩, -, -, h⟩
  rcases h with _ | ⟨⟨_⟩ | ⟨_, n6, w6⟩, -, -, h⟩
  rcases h with _ | ⟨⟨p⟩ | _, -, -, h⟩
  rcases h with _ | ⟨⟨_⟩ | ⟨_, n8, w8⟩, -, -, h⟩
  rcases h with _ | ⟨⟨_⟩ | ⟨_, n9, w9⟩, -, -, h⟩
  rcases h with _ | ⟨⟨_⟩ | ⟨_, n10, w10⟩, -, -, h⟩
  rcases h with _ | ⟨⟨_⟩ | ⟨_, n11, w11⟩, -, -, h⟩
  rcases h with _ | ⟨⟨_⟩ | ⟨_, n12, w12⟩, -, -, h⟩
  rcases h with _ | ⟨⟨_⟩ | ⟨_, n13, w13⟩, -, -, h⟩
  rcases h with _ | ⟨⟨_⟩ | ⟨_, n14, w14⟩, -, -, h⟩
  rcases h with _ | ⟨⟨_⟩ | ⟨_, n15, w15⟩, -, -, h⟩
  rcases h with _ | ⟨⟨_⟩ | ⟨_, n16, w16⟩, -, -, h⟩
  rcases h with _ | ⟨⟨_⟩ | ⟨_, n17, w17⟩, -, -, h⟩
  rcases h with _ | ⟨⟨_⟩ | ⟨_, n18, w18⟩, -, -, h⟩
  rcases h with _ | ⟨⟨_⟩ | ⟨_, n19, w19⟩, -, -, h⟩
  cases h
  exact ⟨⟨n0, n1, n2, n3, n4, n5, n6, p, n8, n9, n10, n11, n12, n13, n14, n15, n16, n17, n18, n19⟩, rfl⟩
theorem Jlv : ∀ (n : Nat) (L : List AV), L.length = n * 2 → (∀ i j x y, i < n → Jmh[j]? = some x → L[i * 2 + j]? = some y → OfS x y) → ∃ l : List Ja, L = Jn Jh l ∧ l.length = n
  | 0, L, hl, _ => by
    rw [Nat.zero_mul] at hl
    exact ⟨[], by rw [List.length_eq_zero_iff.1 hl]; rfl, rfl⟩
  | n + 1, L, hl, h => by
    match L, hl, h with
    | a :: b :: R, hl, h =>
      obtain ⟨a', rfl⟩ := Jhm (h 0 0 _ a (by omega) rfl rfl)
      obtain ⟨b', rfl⟩ := Jhm (h 0 1 _ b (by omega) rfl rfl)
      obtain ⟨l, e1, e2⟩ := Jlv n R (by simp only [List.length_cons] at hl; omega) (fun i j x y hi hx hy => h (i + 1) j x y (by omega) hx (by
        have : (i + 1) * 2 + j = (i * 2 + j) + 2 := by omega
        rw [this]
        exact hy))
      exact ⟨⟨a', b'⟩ :: l, by rw [e1]; rfl, by rw [List.length_cons, e2]⟩
    | [], hl, _ => simp at hl
    | [_], hl, _ => simp at hl; omega
/-- A row of cells that came in. -/
theorem cells_of {y : AV} (h : OfS (.sl Jmh) y) : ∃ x : FS Ja, y = encF Jh x := by
  cases h with
  | nils => exact ⟨.nil, rfl⟩
  | lst _ n L hl hn hh =>
    obtain ⟨l, rfl, e2⟩ := Jlv n L hl hh
    subst e2
    exact ⟨.lst l, rfl⟩
theorem Jog : ∀ (n : Nat) (L : List AV), L.length = n * 2 → (∀ i j x y, i < n → Jmh[j]? = some x → L[i * 2 + j]? = some y → OfS x y) → ∃ l : List Kg, L = Jn Yc l ∧ l.length = n
  | 0, L, hl, _ => by
    rw [Nat.zero_mul] at hl
    exact ⟨[], by rw [List.length_eq_zero_iff.1 hl]; rfl, rfl⟩
  | n + 1, L, hl, h => by
    match L, hl, h with
    | a :: b :: R, hl, h =>
      obtain ⟨a', rfl⟩ := Jhm (h 0 0 _ a (by omega) rfl rfl)
      obtain ⟨b', rfl⟩ := Jhm (h 0 1 _ b (by omega) rfl rfl)
      obtain ⟨l, e1, e2⟩ := Jog n R (by simp only [List.length_cons] at hl; omega) (fun i j x y hi hx hy => h (i + 1) j x y (by omega) hx (by
        have : (i + 1) * 2 + j = (i * 2 + j) + 2 := by omega
        rw [this]
        exact hy))
      exact ⟨⟨a', b'⟩ :: l, by rw [e1]; rfl, by rw [List.length_cons, e2]⟩
    | [], hl, _ => simp at hl
    | [_], hl, _ => simp at hl; omega
theorem Jvb : maxLen = 9223372036854775807 := rfl
/-- A row of runs that came in. -/
theorem runs_of {y : AV} (h : OfS (.sl Jmh) y) : ∃ x : FS Kg, y = encF Yc x ∧ x.l.length ≤ 9223372036854775807 := by
  cases h with
  | nils => exact ⟨.nil, rfl, Nat.zero_le _⟩
  | lst _ n L hl hn hh =>
    obtain ⟨l, rfl, e2⟩ := Jog n L hl hh
    subst e2
    exact ⟨.lst l, rfl, by rw [← Jvb]; exact hn⟩
theorem Jnx : ∀ (n : Nat) (L : List AV), L.length = n * 2 → (∀ i j x y, i < n → shRow[j]? = some x → L[i * 2 + j]? = some y → OfS x y) → ∃ l : List X9, L = Jn Jl l ∧ l.length = n ∧ ∀ w ∈ l, w.Runs.l.length ≤ 9223372036854775807
  | 0, L, hl, _ => by
    rw [Nat.zero_mul] at hl
    exact ⟨[], by rw [List.length_eq_zero_iff.1 hl]; rfl, rfl, fun w h => by cases h⟩
  | n + 1, L, hl, h => by
    match L, hl, h with
    | a :: b :: R, hl, h =>
      obtain ⟨a', rfl⟩ := Jhm (h 0 0 _ a (by omega) rfl rfl)
      obtain ⟨b', rfl, hb⟩ := runs_of (h 0 1 _ b (by omega) rfl rfl)
      obtain ⟨l, e1, e2, e3⟩ := Jnx n R (by simp only [List.length_cons] at hl; omega) (fun i j x y hi hx hy => h (i + 1) j x y (by omega) hx (by
        have : (i + 1) * 2 + j = (i * 2 + j) + 2 := by omega
        rw [this]
        exact hy))
      exact ⟨⟨a', b'⟩ :: l, by rw [e1]; rfl, by rw [List.length_cons, e2], fun w hw => by
        rcases List.mem_cons.1 hw with rfl | hw
        · exact hb
        · exact e3 w hw⟩
    | [], hl, _ => simp at hl
    | [_], hl, _ => simp at hl; omega
theorem rows_of {y : AV} (h : OfS (.sl shRow) y) : ∃ x : FS X9, y = encF Jl x ∧ Big ⟨x⟩ := by
  cases h with
  | nils => exact ⟨.nil, rfl, Nat.zero_le _, fun w h => by cases h⟩
  | lst _ n L hl hn hh =>
    obtain ⟨l, rfl, e2, e3⟩ := Jnx n L hl hh
    subst e2
    exact ⟨.lst l, rfl, by rw [← Jvb]; exact hn, e3⟩
theorem bool_of {y : AV} (h : OfS .b y) : ∃ b, y = .bool b := by
  cases h with
  | bool b => exact ⟨b, rfl⟩
theorem Jle : ∀ (n : Nat) (L : List AV), L.length = n * 3 → (∀ i j x y, i < n → Jps[j]? = some x → L[i * 3 + j]? = some y → OfS x y) → ∃ l : List Jc, L = Jn Jg l ∧ l.length = n
  | 0, L, hl, _ => by
    rw [Nat.zero_mul] at hl
    exact ⟨[], by rw [List.length_eq_zero_iff.1 hl]; rfl, rfl⟩
  | n + 1, L, hl, h => by
    match L, hl, h with
    | a :: b :: c :: R, hl, h =>
      obtain ⟨a', rfl⟩ := Jhm (h 0 0 _ a (by omega) rfl rfl)
      obtain ⟨b', rfl⟩ := bool_of (h 0 1 _ b (by omega) rfl rfl)
      obtain ⟨c', rfl⟩ := cells_of (h 0 2 _ c (by omega) rfl rfl)
      obtain ⟨l, e1, e2⟩ := Jle n R (by simp only [List.length_cons] at hl; omega) (fun i j x y hi hx hy => h (i + 1) j x y (by omega) hx (by
        have : (i + 1) * 3 + j = (i * 3 + j) + 3 := by omega
        rw [this]
        exact hy))
      exact ⟨⟨a', b', c'⟩ :: l, by rw [e1]; rfl, by rw [List.length_cons, e2]⟩
    | [], hl, _ => simp at hl
    | [_], hl, _ => simp at hl; omega
    | [_, _], hl, _ => simp at hl; omega
theorem Jut {y : AV} (h : OfS (.sl Jps) y) : ∃ x : FS Jc, y = encF Jg x := by
  cases h with
  | nils => exact ⟨.nil, rfl⟩
  | lst _ n L hl hn hh =>
    obtain ⟨l, rfl, e2⟩ := Jle n L hl hh
    subst e2
    exact ⟨.lst l, rfl⟩
/-- A plan that came in. -/
theorem plan_of {W : World} {S : Nat → Prop} {L : List AV} {cs : List Value} (h : Reads W S Jx5 L cs) : ∃ p : Q6, L = [encF Jg p.Tracks, encF Jl p.Region.Rows, .int .i64 p.Index, .int .i64 p.From.X, .int .i64 p.From.Y] ∧ Big p.Region := by
  unfold Jx5 at h
  rcases h with _ | ⟨o0, -, -, h⟩
  rcases h with _ | ⟨o1, -, -, h⟩
  rcases h with _ | ⟨o2, -, -, h⟩
  rcases h with _ | ⟨o3, -, -, h⟩
  rcases h with _ | ⟨o4, -, -, h⟩
  cases h
  obtain ⟨t, rfl⟩ := Jut o0
  obtain ⟨r, rfl, hB⟩ := rows_of o1
  obtain ⟨i, rfl⟩ := Jhm o2
  obtain ⟨x, rfl⟩ := Jhm o3
  obtain ⟨y, rfl⟩ := Jhm o4
  exact ⟨⟨t, ⟨r⟩, i, ⟨x, y⟩⟩, rfl, hB⟩
end Go.Proofs.Ytemehoioeoohmaa
