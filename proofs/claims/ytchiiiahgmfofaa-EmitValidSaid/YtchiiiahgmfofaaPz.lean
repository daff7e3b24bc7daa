/- Plain tools for typed functions: small numbers, lists, loops. Conditions: none. -/
import Derived.Test.YtchiiiahgmfofaaVr
namespace Go.Vv
open Go
theorem w64 (x : Int) (h0 : -9223372036854775808 ≤ x) (h1 : x ≤ 9223372036854775807) : IntKind.wrap .i64 x = x := by
  rw [IntKind.wrap_i64]
  omega
theorem iadd_eq {a b : Int} (h0 : -9223372036854775808 ≤ a + b) (h1 : a + b ≤ 9223372036854775807) : iadd .i64 a b = a + b := w64 _ h0 h1
theorem isub_eq {a b : Int} (h0 : -9223372036854775808 ≤ a - b) (h1 : a - b ≤ 9223372036854775807) : isub .i64 a b = a - b := w64 _ h0 h1
theorem imul_eq {a b : Int} (h0 : -9223372036854775808 ≤ a * b) (h1 : a * b ≤ 9223372036854775807) : imul .i64 a b = a * b := w64 _ h0 h1
theorem ilt_iff {a b : Int} : ilt a b = true ↔ a < b := by simp [ilt]
theorem ile_iff {a b : Int} : ile a b = true ↔ a ≤ b := by simp [ile]
theorem igt_iff {a b : Int} : igt a b = true ↔ b < a := by simp [igt]
theorem ige_iff {a b : Int} : ige a b = true ↔ b ≤ a := by simp [ige]
theorem ieq_iff {a b : Int} : ieq a b = true ↔ a = b := by simp [ieq]
theorem ine_iff {a b : Int} : ine a b = true ↔ a ≠ b := by simp [ine]
theorem ilt_tt {a b : Int} (h : a < b) : ilt a b = true := ilt_iff.2 h
theorem ilt_ff {a b : Int} (h : ¬ a < b) : ilt a b = false := by simp [ilt]; omega
theorem ieq_tt {a b : Int} (h : a = b) : ieq a b = true := ieq_iff.2 h
theorem ieq_ff {a b : Int} (h : ¬ a = b) : ieq a b = false := by simp [ieq, h]
theorem igt_tt {a b : Int} (h : b < a) : igt a b = true := igt_iff.2 h
theorem igt_ff {a b : Int} (h : ¬ b < a) : igt a b = false := by simp [igt]; omega
theorem fits_small {bytes : Nat} {n : Int} (h0 : 0 ≤ n) (h1 : n ≤ 1073741824) (hb : bytes ≤ 65536) : fits bytes n = true := by
  have h2 : n * bytes ≤ 1073741824 * 65536 := Int.mul_le_mul h1 (by omega) (by omega) (by omega)
  unfold fits
  rw [Bool.and_eq_true]
  exact ⟨decide_eq_true (by show n * bytes ≤ ((140737488355328 : Nat) : Int); omega), decide_eq_true (by omega)⟩
section
variable {α : Type}
theorem fget_nat {x : FS α} {i : Nat} {v : α} (h : x.l[i]? = some v) : fget x (i : Int) = some v := by
  have hlt := (List.getElem?_eq_some_iff.1 h).1
  unfold fget getL
  rw [if_pos ⟨by omega, by omega⟩, Int.toNat_natCast, h]
theorem getL_nat {l : List α} {i : Nat} {v : α} (h : l[i]? = some v) : getL l (i : Int) = some v := fget_nat (x := .lst l) h
theorem get_drop {l r : List α} {i : Nat} {v : α} (h : l.drop i = v :: r) : l[i]? = some v ∧ l.drop (i + 1) = r ∧ i < l.length ∧ r.length + (i + 1) = l.length := by
  have h0 : (l.drop i)[0]? = some v := by rw [h]; rfl
  rw [List.getElem?_drop, Nat.add_zero] at h0
  have hlt := (List.getElem?_eq_some_iff.1 h0).1
  refine ⟨h0, by rw [← List.drop_drop, h]; rfl, hlt, ?_⟩
  have := congrArg List.length h
  rw [List.length_drop, List.length_cons] at this
  omega
theorem flen_eq (x : FS α) : flen x = (x.l.length : Int) := rfl
/-- A list as a row of the call's own that was nil at first. -/
def osL : List α → OS α
  | [] => .nil
  | a :: r => .own (a :: r)
def fsL : List α → FS α
  | [] => .nil
  | a :: r => .lst (a :: r)
theorem osL_snoc (l : List α) (x : α) : osL (l ++ [x]) = .own (l ++ [x]) := by cases l <;> rfl
theorem fsL_l (l : List α) : (fsL l).l = l := by cases l <;> rfl
end
section
variable {S R : Type} {body : S → Option (LR S R)}
theorem loop_nx {n : Nat} {s s' : S} (h : body s = some (.nx s')) : loopT body (n + 1) s = loopT body n s' := by simp only [loopT, h]
theorem loop_dn {n : Nat} {s : S} {r : R} (h : body s = some (.dn r)) : loopT body (n + 1) s = some r := by simp only [loopT, h]
end
theorem bigN_eq : bigN = 18446744073709551615 + 1 := rfl
theorem bigN_gt {k : Nat} (h : k ≤ 4611686018427387904) : k < bigN := by
  have : bigN = 18446744073709551616 := rfl
  omega
end Go.Vv
