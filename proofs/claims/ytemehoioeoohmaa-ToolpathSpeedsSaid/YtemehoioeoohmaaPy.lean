/- Plain tools for typed functions: loops by what they keep. Conditions: none. -/
import Derived.Test.YtemehoioeoohmaaPz
namespace Go.Vv
open Go
section
variable {S R : Type} {body : S → Option (LR S R)}
/-- A loop by an invariant, a measure and what it leaves. -/
theorem Zp (I : S → Prop) (m : S → Nat) (P : R → Prop) (hb : ∀ s, I s → (∃ s', body s = some (.nx s') ∧ I s' ∧ m s' < m s) ∨ ∃ r, body s = some (.dn r) ∧ P r) :
    ∀ (n : Nat) (s : S), I s → m s < n → ∃ r, Ku body n s = some r ∧ P r
  | 0, s, _, hm => absurd hm (Nat.not_lt_zero _)
  | n + 1, s, hi, hm => by
    rcases hb s hi with ⟨s', e, hi', hm'⟩ | ⟨r, e, hr⟩
    · obtain ⟨r, e2, hr⟩ := Zp I m P hb n s' hi' (by omega)
      exact ⟨r, by rw [loop_nx e, e2], hr⟩
    · exact ⟨r, loop_dn e, hr⟩
end
theorem Jao {a : Bool} : bnot a = true ↔ ¬ a = true := by cases a <;> simp [bnot]
theorem Jbc {a b : Bool} : band a b = true ↔ a = true ∧ b = true := by cases a <;> cases b <;> simp [band]
theorem z3 {a b : Bool} : bor a b = true ↔ a = true ∨ b = true := by cases a <;> cases b <;> simp [bor]
theorem Jq0 {a b : Bool} : beqB a b = true ↔ a = b := by simp [beqB]
section
variable {α : Type}
theorem Jyd (l : List α) : olen l = (l.length : Int) := rfl
theorem Jrr {bytes : Nat} {l : List α} (h1 : l.length ≤ 1073741823) (hb : bytes ≤ 65536) : fits bytes (olen l + 1) = true := j5 (by rw [Jyd]; omega) (by rw [Jyd]; omega) hb
theorem fget_int {x : FS α} {i : Int} {v : α} (h0 : 0 ≤ i) (h : x.l[i.toNat]? = some v) : fget x i = some v := by
  have := Ja3 h
  rwa [Int.toNat_of_nonneg h0] at this
theorem FS.l_lst (l : List α) : FS.l (.lst l) = l := rfl
theorem Z3 (v : α) : gOpt true (some v) = some (some v) := rfl
theorem jh (o : Option α) : gOpt false o = some none := rfl
end
theorem Jfr (a b : Int) : imax a b = max a b := by
  unfold imax mmV
  simp only [Int.max_def]
  split <;> split <;> first | rfl | omega | simp_all
theorem Jqi (a b : Int) : imin a b = min a b := by
  unfold imin mmV
  simp only [Int.min_def]
  split <;> split <;> first | rfl | omega | simp_all
end Go.Vv
