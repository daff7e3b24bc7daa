/- Plain tools for typed functions: loops by what they keep. Conditions: none. -/
import Derived.Test.YtchiiiahgmfofaaPz
namespace Go.Vv
open Go
section
variable {S R : Type} {body : S → Option (LR S R)}
/-- A loop by an invariant, a measure and what it leaves. -/
theorem loop_ok (I : S → Prop) (m : S → Nat) (P : R → Prop) (hb : ∀ s, I s → (∃ s', body s = some (.nx s') ∧ I s' ∧ m s' < m s) ∨ ∃ r, body s = some (.dn r) ∧ P r) :
    ∀ (n : Nat) (s : S), I s → m s < n → ∃ r, loopT body n s = some r ∧ P r
  | 0, s, _, hm => absurd hm (Nat.not_lt_zero _)
  | n + 1, s, hi, hm => by
    rcases hb s hi with ⟨s', e, hi', hm'⟩ | ⟨r, e, hr⟩
    · obtain ⟨r, e2, hr⟩ := loop_ok I m P hb n s' hi' (by omega)
      exact ⟨r, by rw [loop_nx e, e2], hr⟩
    · exact ⟨r, loop_dn e, hr⟩
end
theorem bnot_iff {a : Bool} : bnot a = true ↔ ¬ a = true := by cases a <;> simp [bnot]
theorem band_iff {a b : Bool} : band a b = true ↔ a = true ∧ b = true := by cases a <;> cases b <;> simp [band]
theorem bor_iff {a b : Bool} : bor a b = true ↔ a = true ∨ b = true := by cases a <;> cases b <;> simp [bor]
theorem beqB_iff {a b : Bool} : beqB a b = true ↔ a = b := by simp [beqB]
section
variable {α : Type}
theorem olen_eq (l : List α) : olen l = (l.length : Int) := rfl
theorem osnoc_eq (l : List α) (x : α) : osnoc l x = l ++ [x] := rfl
theorem oapp_eq (l m : List α) : oapp l m = l ++ m := rfl
theorem olit_eq (l : List α) : olit l = l := rfl
theorem fits_len {bytes : Nat} {l : List α} (h1 : l.length ≤ 1073741823) (hb : bytes ≤ 65536) : fits bytes (olen l + 1) = true := fits_small (by rw [olen_eq]; omega) (by rw [olen_eq]; omega) hb
theorem fget_int {x : FS α} {i : Int} {v : α} (h0 : 0 ≤ i) (h : x.l[i.toNat]? = some v) : fget x i = some v := by
  have := fget_nat h
  rwa [Int.toNat_of_nonneg h0] at this
theorem getL_int {l : List α} {i : Int} {v : α} (h0 : 0 ≤ i) (h : l[i.toNat]? = some v) : getL l i = some v := fget_int (x := .lst l) h0 h
/-- A read within bounds. -/
theorem fget_in {x : FS α} {i : Int} (h0 : 0 ≤ i) (h1 : i < x.l.length) : ∃ (h : i.toNat < x.l.length), fget x i = some x.l[i.toNat] :=
  ⟨by omega, fget_int h0 (List.getElem?_eq_getElem (by omega))⟩
theorem getL_in {l : List α} {i : Int} (h0 : 0 ≤ i) (h1 : i < l.length) : ∃ (h : i.toNat < l.length), getL l i = some l[i.toNat] :=
  ⟨by omega, getL_int h0 (List.getElem?_eq_getElem (by omega))⟩
theorem FS.l_lst (l : List α) : FS.l (.lst l) = l := rfl
theorem FS.l_nil : FS.l (.nil : FS α) = [] := rfl
theorem gOpt_t {o : Option α} {v : α} {c : Bool} (hc : c = true) (ho : o = some v) : gOpt c o = some (some v) := by subst hc; subst ho; rfl
theorem gOpt_tt (v : α) : gOpt true (some v) = some (some v) := rfl
theorem gOpt_ff (o : Option α) : gOpt false o = some none := rfl
theorem gOpt_f {o : Option α} {c : Bool} (hc : c = false) : gOpt c o = some none := by subst hc; rfl
end
theorem imax_eq (a b : Int) : imax a b = max a b := by
  unfold imax mmV
  simp only [Int.max_def]
  split <;> split <;> first | rfl | omega | simp_all
theorem imin_eq (a b : Int) : imin a b = min a b := by
  unfold imin mmV
  simp only [Int.min_def]
  split <;> split <;> first | rfl | omega | simp_all
end Go.Vv
