/- emit: which commands are valid, in plain Lean. Conditions: none. -/
import Derived.Test.YtchiiiahgmfofaaQa
namespace Go.Proofs.Ytchiiiahgmfofaa
open Go Go.Vv Go.Proofs
set_option linter.unusedSimpArgs false
set_option linter.unusedVariables false
set_option linter.unusedSectionVars false
set_option maxRecDepth 10000
def fld (c : api_Cmd) : Nat → Int
  | 0 => c.X
  | 1 => c.Y
  | 2 => c.Z
  | 3 => c.E
  | 4 => c.F
  | _ => c.S
def lo (i : Nat) : Int := if i < 4 then -1073741824 else if i = 4 then 1 else 0
def hi (code : Int) (i : Nat) : Int := if i < 4 then 1073741824 else if i = 4 then 1048576 else if code = 1106 then 255 else 400000
def bitI (h : Int) (i : Nat) : Bool := decide ((h / 2 ^ i) % 2 = 1)
/-- Is the number of a word in range? -/
def gw (c : api_Cmd) (i : Nat) : Prop := (bitI c.Has i = true → lo i ≤ fld c i ∧ fld c i ≤ hi c.Code i) ∧ (bitI c.Has i = false → fld c i = 0)
def Vld (c : api_Cmd) : Prop := ∀ i, i < 6 → gw c i
def kinds : List (Int × Int) := [(0, 4), (0, 20), (0, 3), (0, 19), (1, 8), (1, 24), (1, 11), (1, 27), (1107, 0), (1106, 32)]
/-- The commands that are made have one of these codes and words. -/
def Pair (c : api_Cmd) : Prop := (c.Code, c.Has) ∈ kinds
theorem bit_tbl : ∀ p ∈ kinds, ∀ i, i < 6 → ieq (iand .i64 (ishr .i64 p.2 ((i : Nat) : Int)) 1) 0 = !bitI p.2 i := by decide
theorem words_tbl : ∀ p ∈ kinds, ∃ m a, t_gcode_words p.1 = some (m, a, true) ∧ ine (iandn .i64 p.2 m) 0 = false ∧ band a (ine p.2 m) = false := by
  intro p hp
  simp only [kinds, List.mem_cons, List.not_mem_nil, or_false] at hp
  rcases hp with rfl | rfl | rfl | rfl | rfl | rfl | rfl | rfl | rfl | rfl <;> exact ⟨_, _, rfl, by decide, by decide⟩
theorem code_tbl : ∀ p ∈ kinds, p.1 ≠ 4 := by decide
theorem field_ok (c : api_Cmd) {i : Nat} (hi : i < 6) : t_gcode_field c (i : Int) = some (2 + i, c) := by
  have : i = 0 ∨ i = 1 ∨ i = 2 ∨ i = 3 ∨ i = 4 ∨ i = 5 := by omega
  rcases this with rfl | rfl | rfl | rfl | rfl | rfl <;> rfl
theorem span_ok (code : Int) (hc : code ≠ 4) {i : Nat} (h6 : i < 6) : t_gcode_span code (i : Int) = some (lo i, hi code i) := by
  have h4 : ieq code 4 = false := ieq_ff hc
  have : i = 0 ∨ i = 1 ∨ i = 2 ∨ i = 3 ∨ i = 4 ∨ i = 5 := by omega
  rcases this with rfl | rfl | rfl | rfl | rfl | rfl
  · rfl
  · rfl
  · rfl
  · rfl
  · rfl
  · unfold t_gcode_span
    have e1 : ieq ((5 : Nat) : Int) 4 = false := rfl
    have e2 : ine ((5 : Nat) : Int) 5 = false := rfl
    rw [e1, e2, h4]
    by_cases h : code = 1106
    · rw [ieq_tt h]; simp [lo, hi, h]
    · rw [ieq_ff h]; simp [lo, hi, h]
theorem sel_ok (c : api_Cmd) {i : Nat} (hi : i < 6) : (if 2 + i = 2 then c.X else if 2 + i = 3 then c.Y else if 2 + i = 4 then c.Z else if 2 + i = 5 then c.E else if 2 + i = 6 then c.F else c.S) = fld c i := by
  have : i = 0 ∨ i = 1 ∨ i = 2 ∨ i = 3 ∨ i = 4 ∨ i = 5 := by omega
  rcases this with rfl | rfl | rfl | rfl | rfl | rfl <;> rfl
theorem two_ok {i : Nat} (hi : i < 6) : (2 + i == 2 || 2 + i == 3 || 2 + i == 4 || 2 + i == 5 || 2 + i == 6 || 2 + i == 7) = true := by
  have : i = 0 ∨ i = 1 ∨ i = 2 ∨ i = 3 ∨ i = 4 ∨ i = 5 := by omega
  rcases this with rfl | rfl | rfl | rfl | rfl | rfl <;> rfl
theorem rng_ff {a l h : Int} (h1 : l ≤ a) (h2 : a ≤ h) : bor (ilt a l) (igt a h) = false := by rw [← Bool.not_eq_true, bor_iff, ilt_iff, igt_iff]; omega
theorem rng_tt {a l h : Int} (h1 : ¬ (l ≤ a ∧ a ≤ h)) : bor (ilt a l) (igt a h) = true := by rw [bor_iff, ilt_iff, igt_iff]; omega
theorem gv_body {c : api_Cmd} (hP : Pair c) {i : Nat} (h6 : i < 6) : (gw c i → t_gcode_Valid_L0 (c, (i : Int)) = some (.nx (c, ((i + 1 : Nat) : Int)))) ∧ (¬ gw c i → t_gcode_Valid_L0 (c, (i : Int)) = some (.dn (.inl false))) := by
  have hb := bit_tbl _ hP i h6
  have hc := code_tbl _ hP
  simp only at hb hc
  have c1 : ilt (i : Int) 6 = true := ilt_tt (by omega)
  have c2 : ilt (i : Int) 0 = false := ilt_ff (by omega)
  unfold gw
  cases hbit : bitI c.Has i with
  | true =>
    rw [hbit] at hb
    simp only [Bool.not_true] at hb
    constructor
    · rintro ⟨h, -⟩
      have h := h rfl
      simp only [t_gcode_Valid_L0, c1, if_true, field_ok c h6, two_ok h6, span_ok _ hc h6, c2, hb, Bool.false_eq_true, if_false, sel_ok c h6, rng_ff h.1 h.2, isucc (i := i) (by omega)]
    · intro h
      have h : ¬ (lo i ≤ fld c i ∧ fld c i ≤ hi c.Code i) := fun hh => h ⟨fun _ => hh, fun e => (by cases e)⟩
      simp only [t_gcode_Valid_L0, c1, if_true, field_ok c h6, two_ok h6, span_ok _ hc h6, c2, hb, Bool.false_eq_true, if_false, sel_ok c h6, rng_tt h]
  | false =>
    rw [hbit] at hb
    simp only [Bool.not_false] at hb
    constructor
    · rintro ⟨-, h⟩
      have h := h rfl
      simp only [t_gcode_Valid_L0, c1, if_true, field_ok c h6, two_ok h6, span_ok _ hc h6, c2, hb, Bool.false_eq_true, if_false, sel_ok c h6, rng_ff (a := fld c i) (l := 0) (h := 0) (by omega) (by omega), isucc (i := i) (by omega)]
    · intro h
      have h : ¬ (0 ≤ fld c i ∧ fld c i ≤ 0) := fun hh => h ⟨fun e => (by cases e), fun _ => (by omega)⟩
      simp only [t_gcode_Valid_L0, c1, if_true, field_ok c h6, two_ok h6, span_ok _ hc h6, c2, hb, Bool.false_eq_true, if_false, sel_ok c h6, rng_tt h]
theorem Valid_ok {c : api_Cmd} (hP : Pair c) : ∃ v, t_gcode_Valid c = some v ∧ (v = true ↔ Vld c) := by
  obtain ⟨m, a, e1, e2, e3⟩ := words_tbl _ hP
  simp only at e1 e2 e3
  obtain ⟨v, e, hv⟩ := loop_ok (body := t_gcode_Valid_L0) (fun s => ∃ i : Nat, s = (c, (i : Int)) ∧ i ≤ 6 ∧ ∀ j, j < i → gw c j) (fun s => (6 - s.2).toNat)
    (fun v => (v = .inr () ∧ Vld c) ∨ (v = .inl false ∧ ¬ Vld c))
    (by
      rintro _ ⟨i, rfl, hi, hj⟩
      by_cases h : i < 6
      · obtain ⟨b1, b2⟩ := gv_body hP h
        by_cases hg : gw c i
        · left
          refine ⟨_, b1 hg, ⟨i + 1, rfl, by omega, fun j hj' => ?_⟩, by simp only; omega⟩
          by_cases hji : j = i
          · rw [hji]; exact hg
          · exact hj j (by omega)
        · exact .inr ⟨_, b2 hg, .inr ⟨rfl, fun hh => hg (hh i h)⟩⟩
      · right
        have : i = 6 := by omega
        subst this
        have c1 : ilt ((6 : Nat) : Int) 6 = false := rfl
        exact ⟨.inr (), by simp only [t_gcode_Valid_L0, c1, Bool.false_eq_true, if_false], .inl ⟨rfl, hj⟩⟩)
    bigN (c, 0) ⟨0, rfl, by omega, fun j hj => by omega⟩ (bigN_gt (by simp only; omega))
  unfold t_gcode_Valid
  rw [e1]
  simp only [bnot_t, e2, e3, show bor (bor false false) false = false from rfl, Bool.false_eq_true, if_false, e]
  rcases hv with ⟨rfl, h⟩ | ⟨rfl, h⟩
  · exact ⟨true, rfl, by simpa using h⟩
  · exact ⟨false, rfl, by simpa using h⟩
end Go.Proofs.Ytchiiiahgmfofaa
