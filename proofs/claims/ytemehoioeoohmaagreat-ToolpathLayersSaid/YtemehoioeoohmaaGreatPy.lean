/- Plain tools for typed functions: loops by what they keep. Conditions: none. -/
import Derived.Test.YtemehoioeoohmaaGreatPz
namespace Go.Vv
open Go
section
variable {S R : Type} {body : S → Option (LR S R)}
theorem Qe (I : S → Prop) (m : S → Nat) (P : R → Prop) (hb : ∀ s, I s → (∃ s', body s = some (.nx s') ∧ I s' ∧ m s' < m s) ∨ ∃ r, body s = some (.dn r) ∧ P r) :
  ∀ (n : Nat) (s : S), I s → m s < n → ∃ r, Kn body n s = some r ∧ P r
 | 0, s, _, hm => absurd hm (Nat.not_lt_zero _)
 | n + 1, s, hi, hm => by
  rcases hb s hi with ⟨s', e, hi', hm'⟩ | ⟨r, e, hr⟩
  ·obtain ⟨r, e2, hr⟩ := Qe I m P hb n s' hi' (by omega)
   exact ⟨r, by rw [loop_nx e, e2], hr⟩
  ·exact ⟨r, loop_dn e, hr⟩
end
theorem Jbj {a : Bool} : bnot a = true ↔ ¬ a = true := by cases a <;> simp [bnot]
theorem zd {a b : Bool} : band a b = true ↔ a = true ∧ b = true := by cases a <;> cases b <;> simp [band]
theorem Yi {a b : Bool} : bor a b = true ↔ a = true ∨ b = true := by cases a <;> cases b <;> simp [bor]
theorem Jsj {a b : Bool} : beqB a b = true ↔ a = b := by simp [beqB]
section
variable {α : Type}
theorem J15 (l : List α) : olen l = (l.length : Int) := rfl
theorem Jnm {bytes : Nat} {l : List α} (h1 : l.length ≤ 1073741823) (hb : bytes ≤ 65536) : fits bytes (olen l + 1) = true := Xf (by rw [J15]; omega) (by rw [J15]; omega) hb
theorem fget_int {x : FS α} {i : Int} {v : α} (h0 : 0 ≤ i) (h : x.l[i.toNat]? = some v) : fget x i = some v := by
 have := Jcj h
 rwa [Int.toNat_of_nonneg h0] at this
theorem FS.l_lst (l : List α) : FS.l (.lst l) = l := rfl
theorem Y4 (v : α) : gOpt true (some v) = some (some v) := rfl
theorem jp (o : Option α) : gOpt false o = some none := rfl
end
theorem Jhr (a b : Int) : imax a b = max a b := by
 unfold imax mmV
 simp only [Int.max_def]
 split <;> split <;> first | rfl | omega | simp_all
theorem Jvp (a b : Int) : imin a b = min a b := by
 unfold imin mmV
 simp only [Int.min_def]
 split <;> split <;> first | rfl | omega | simp_all
end Go.Vv
