/- Plain tools for typed functions: small numbers, lists, loops. Conditions: none. -/
import Derived.Test.YtemehoioeoohmaaGreatVr
namespace Go.Vv
open Go
theorem w64 (x : Int) (h0 : -9223372036854775808 ≤ x) (h1 : x ≤ 9223372036854775807) : IntKind.wrap .i64 x = x := by
 rw [IntKind.wrap_i64]
 omega
theorem zt {a b : Int} (h0 : -9223372036854775808 ≤ a + b) (h1 : a + b ≤ 9223372036854775807) : iadd .i64 a b = a + b := w64 _ h0 h1
theorem Xc {a b : Int} (h0 : -9223372036854775808 ≤ a - b) (h1 : a - b ≤ 9223372036854775807) : isub .i64 a b = a - b := w64 _ h0 h1
theorem Jsz {a b : Int} (h0 : -9223372036854775808 ≤ a * b) (h1 : a * b ≤ 9223372036854775807) : imul .i64 a b = a * b := w64 _ h0 h1
theorem Yj {a b : Int} : ilt a b = true ↔ a < b := by simp [ilt]
theorem Je9 {a b : Int} : ile a b = true ↔ a ≤ b := by simp [ile]
theorem Jd4 {a b : Int} : igt a b = true ↔ b < a := by simp [igt]
theorem Jbg {a b : Int} : ige a b = true ↔ b ≤ a := by simp [ige]
theorem Jdo {a b : Int} : ieq a b = true ↔ a = b := by simp [ieq]
theorem Jgz {a b : Int} : ine a b = true ↔ a ≠ b := by simp [ine]
theorem Xg {a b : Int} (h : a < b) : ilt a b = true := Yj.2 h
theorem Xe {a b : Int} (h : ¬ a < b) : ilt a b = false := by simp [ilt]; omega
theorem Jlb {a b : Int} (h : a = b) : ieq a b = true := Jdo.2 h
theorem Jg9 {a b : Int} (h : ¬ a = b) : ieq a b = false := by simp [ieq, h]
theorem Jf6 {a b : Int} (h : b < a) : igt a b = true := Jd4.2 h
theorem Jhc {a b : Int} (h : ¬ b < a) : igt a b = false := by simp [igt]; omega
theorem Xf {bytes : Nat} {n : Int} (h0 : 0 ≤ n) (h1 : n ≤ 1073741824) (hb : bytes ≤ 65536) : fits bytes n = true := by
 have h2 : n * bytes ≤ 1073741824 * 65536 := Int.mul_le_mul h1 (by omega) (by omega) (by omega)
 unfold fits
 rw [Bool.and_eq_true]
 exact ⟨decide_eq_true (by show n * bytes ≤ ((140737488355328 : Nat) : Int); omega), decide_eq_true (by omega)⟩
section
variable {α : Type}
theorem Jcj {x : FS α} {i : Nat} {v : α} (h : x.l[i]? = some v) : fget x (i : Int) = some v := by
 have hlt := (List.getElem?_eq_some_iff.1 h).1
 unfold fget getL
 rw [if_pos ⟨by omega, by omega⟩, Int.toNat_natCast, h]
theorem Jp (x : FS α) : flen x = (x.l.length : Int) := rfl
def osL : List α → OS α
 | [] => .nil
 | a :: r => .own (a :: r)
def fsL : List α → FS α
 | [] => .nil
 | a :: r => .lst (a :: r)
end
section
variable {S R : Type} {body : S → Option (LR S R)}
theorem loop_nx {n : Nat} {s s' : S} (h : body s = some (.nx s')) : Kn body (n + 1) s = Kn body n s' := by simp only [Kn, h]
theorem loop_dn {n : Nat} {s : S} {r : R} (h : body s = some (.dn r)) : Kn body (n + 1) s = some r := by simp only [Kn, h]
end
theorem bigN_eq : bigN = 18446744073709551615 + 1 := rfl
theorem Qk {k : Nat} (h : k ≤ 4611686018427387904) : k < bigN := by
 have : bigN = 18446744073709551616 := rfl
 omega
end Go.Vv
