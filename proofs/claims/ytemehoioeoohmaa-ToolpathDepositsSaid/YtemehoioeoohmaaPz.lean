/- Plain tools for typed functions: small numbers, lists, loops. Conditions: none. -/
import Derived.Test.YtemehoioeoohmaaVr
namespace Go.Vv
open Go
theorem w64 (x : Int) (h0 : -9223372036854775808 ≤ x) (h1 : x ≤ 9223372036854775807) : IntKind.wrap .i64 x = x := by
 rw [IntKind.wrap_i64]
 omega
theorem Jbb {a b : Int} (h0 : -9223372036854775808 ≤ a + b) (h1 : a + b ≤ 9223372036854775807) : iadd .i64 a b = a + b := w64 _ h0 h1
theorem Zj {a b : Int} (h0 : -9223372036854775808 ≤ a - b) (h1 : a - b ≤ 9223372036854775807) : isub .i64 a b = a - b := w64 _ h0 h1
theorem Jyz {a b : Int} (h0 : -9223372036854775808 ≤ a * b) (h1 : a * b ≤ 9223372036854775807) : imul .i64 a b = a * b := w64 _ h0 h1
theorem jv {a b : Int} : ilt a b = true ↔ a < b := by simp [ilt]
theorem Jdp {a b : Int} : ile a b = true ↔ a ≤ b := by simp [ile]
theorem Jew {a b : Int} : igt a b = true ↔ b < a := by simp [igt]
theorem Jbc {a b : Int} : ige a b = true ↔ b ≤ a := by simp [ige]
theorem Jif {a b : Int} : ieq a b = true ↔ a = b := by simp [ieq]
theorem Jm2 {a b : Int} : ine a b = true ↔ a ≠ b := by simp [ine]
theorem Ye {a b : Int} (h : a < b) : ilt a b = true := jv.2 h
theorem Yf {a b : Int} (h : ¬ a < b) : ilt a b = false := by simp [ilt]; omega
theorem Jhh {a b : Int} (h : a = b) : ieq a b = true := Jif.2 h
theorem Jem {a b : Int} (h : ¬ a = b) : ieq a b = false := by simp [ieq, h]
theorem Jea {a b : Int} (h : b < a) : igt a b = true := Jew.2 h
theorem Jgc {a b : Int} (h : ¬ b < a) : igt a b = false := by simp [igt]; omega
theorem Xx {bytes : Nat} {n : Int} (h0 : 0 ≤ n) (h1 : n ≤ 1073741824) (hb : bytes ≤ 65536) : fits bytes n = true := by
 have h2 : n * bytes ≤ 1073741824 * 65536 := Int.mul_le_mul h1 (by omega) (by omega) (by omega)
 unfold fits
 rw [Bool.and_eq_true]
 exact ⟨decide_eq_true (by show n * bytes ≤ ((140737488355328 : Nat) : Int); omega), decide_eq_true (by omega)⟩
section
variable {α : Type}
theorem Jam {x : FS α} {i : Nat} {v : α} (h : x.l[i]? = some v) : fget x (i : Int) = some v := by
 have hlt := (List.getElem?_eq_some_iff.1 h).1
 unfold fget getL
 rw [if_pos ⟨by omega, by omega⟩, Int.toNat_natCast, h]
theorem Js (x : FS α) : flen x = (x.l.length : Int) := rfl
def osL : List α → OS α
 | [] => .nil
 | a :: r => .own (a :: r)
def fsL : List α → FS α
 | [] => .nil
 | a :: r => .lst (a :: r)
end
section
variable {S R : Type} {body : S → Option (LR S R)}
theorem loop_nx {n : Nat} {s s' : S} (h : body s = some (.nx s')) : Ky body (n + 1) s = Ky body n s' := by simp only [Ky, h]
theorem loop_dn {n : Nat} {s : S} {r : R} (h : body s = some (.dn r)) : Ky body (n + 1) s = some r := by simp only [Ky, h]
end
theorem bigN_eq : bigN = 18446744073709551615 + 1 := rfl
theorem Xn {k : Nat} (h : k ≤ 4611686018427387904) : k < bigN := by
 have : bigN = 18446744073709551616 := rfl
 omega
end Go.Vv
