/- comb: the search, step by step, in plain Lean. Conditions: none. -/
import Derived.Test.YtchiiiahgmfofaaRb
namespace Go.Vv
/-- Different numbers below a bound are not more than the bound. -/
theorem nodup_lt : ∀ (n : Nat) (l : List Nat), l.Nodup → (∀ x ∈ l, x < n) → l.length ≤ n
  | 0, l, _, h => by
    cases l with
    | nil => simp
    | cons a r => exact absurd (h a (by simp)) (by omega)
  | n + 1, l, hd, h => by
    by_cases hm : n ∈ l
    · have h1 : (l.erase n).length = l.length - 1 := List.length_erase_of_mem hm
      have h2 := nodup_lt n (l.erase n) (hd.erase n) (fun x hx => by
        have hx2 := (List.Nodup.mem_erase_iff hd).1 hx
        have := h x hx2.2
        omega)
      omega
    · have := nodup_lt n l hd (fun x hx => by
        have h1 := h x hx
        have h2 : x ≠ n := fun e => hm (e ▸ hx)
        omega)
      omega
end Go.Vv
namespace Go.Proofs.Ytchiiiahgmfofaa
open Go Go.Vv Go.Proofs
set_option linter.unusedSimpArgs false
set_option linter.unusedVariables false
set_option linter.unusedSectionVars false
def InR (c : api_Cell) : Prop := -4096 ≤ c.X ∧ c.X < 4096 ∧ -4096 ≤ c.Y ∧ c.Y < 4096
theorem Cell.ext' {a b : api_Cell} (h1 : a.X = b.X) (h2 : a.Y = b.Y) : a = b := by cases a; cases b; simp_all
theorem q_iff (a b : api_Cell) : q_api_Cell a b = true ↔ a = b := by
  simp only [q_api_Cell, band_iff, ieq_iff]
  constructor
  · exact fun h => Cell.ext' h.1 h.2.1
  · rintro rfl; exact ⟨rfl, rfl, trivial⟩
theorem q_eq (a b : api_Cell) : band (ieq a.X b.X) (band (ieq a.Y b.Y) true) = q_api_Cell a b := rfl
theorem in_range {r : api_Region} {c : api_Cell} (h : In r c) : InR c := by
  obtain ⟨hv, w, hw, hy, q, hq, h1, h2⟩ := h
  obtain ⟨k, hk, rfl⟩ := List.getElem_of_mem hw
  have a := (goodRow_at hk).1 (hv k hk)
  obtain ⟨j, hj, rfl⟩ := List.getElem_of_mem hq
  have b := a.2.2.2.1 j hj _ (List.getElem?_eq_getElem hj)
  exact ⟨by omega, by omega, by omega, by omega⟩
/-- Does a region contain a cell? -/
def cb (r : api_Region) (c : api_Cell) : Bool := (t_additiveref18_Contains r c).getD false
section
variable {r : api_Region} (hL : Lim r)
include hL
theorem cb_ref (c : api_Cell) : t_additiveref18_Contains r c = some (cb r c) := by
  obtain ⟨b, e, -⟩ := ref_contains_ok r hL c
  unfold cb; rw [e]; rfl
theorem cb_prog (c : api_Cell) : t_region_Contains r c = some (cb r c) := by rw [contains_same r hL, cb_ref hL]
theorem cb_iff (c : api_Cell) : cb r c = true ↔ In r c := by
  obtain ⟨b, e, hb⟩ := ref_contains_ok r hL c
  unfold cb; rw [e]; exact hb
end
abbrev Seen := additiveref34_seen
def nbr (c : api_Cell) : Nat → api_Cell
  | 0 => ⟨c.X + 1, c.Y⟩
  | 1 => ⟨c.X - 1, c.Y⟩
  | 2 => ⟨c.X, c.Y + 1⟩
  | _ => ⟨c.X, c.Y - 1⟩
def fnd (Q : List Seen) (c : api_Cell) : Bool := Q.any fun x => q_api_Cell x.cell c
def visit (r : api_Region) (Q : List Seen) (i k : Nat) : List Seen :=
  match Q[i]? with
  | none => Q
  | some s => if cb r (nbr s.cell k) = true ∧ fnd Q (nbr s.cell k) = false then Q ++ [⟨nbr s.cell k, (i : Int)⟩] else Q
/-- The queue after so many looks at neighbors. -/
def S (r : api_Region) (a : api_Cell) : Nat → List Seen
  | 0 => [⟨a, -1⟩]
  | t + 1 => visit r (S r a t) (t / 4) (t % 4)
theorem fnd_iff (Q : List Seen) (c : api_Cell) : fnd Q c = true ↔ ∃ x ∈ Q, x.cell = c := by
  simp only [fnd, List.any_eq_true, q_iff]
theorem visit_pre (r : api_Region) (Q : List Seen) (i k : Nat) : Q <+: visit r Q i k := by
  unfold visit
  split
  · exact List.prefix_refl Q
  · split
    · exact List.prefix_append Q _
    · exact List.prefix_refl Q
theorem S_mono (r : api_Region) (a : api_Cell) {t u : Nat} (h : t ≤ u) : S r a t <+: S r a u := by
  induction u with
  | zero => have : t = 0 := by omega
            subst this; exact List.prefix_refl _
  | succ u ih =>
    by_cases e : t = u + 1
    · subst e; exact List.prefix_refl _
    · exact (ih (by omega)).trans (visit_pre r _ _ _)
theorem pre_get {α : Type} {l m : List α} (h : l <+: m) {i : Nat} {x : α} (hi : l[i]? = some x) : m[i]? = some x := by
  obtain ⟨n, rfl⟩ := h
  rw [List.getElem?_append_left (List.getElem?_eq_some_iff.1 hi).1]
  exact hi
/-- What is so of every queue. -/
structure QOK (r : api_Region) (a : api_Cell) (Q : List Seen) : Prop where
  first : Q[0]? = some ⟨a, -1⟩
  back : ∀ (j : Nat) (s : Seen), Q[j]? = some s → 0 < j → ∃ p : Nat, s.before = p ∧ p < j
  nodup : (Q.map (·.cell)).Nodup
  inr : ∀ s ∈ Q, In r s.cell
theorem QOK.ne {r : api_Region} {a : api_Cell} {Q : List Seen} (h : QOK r a Q) : 0 < Q.length := (List.getElem?_eq_some_iff.1 h.first).1
theorem QOK.inj {r : api_Region} {a : api_Cell} {Q : List Seen} (h : QOK r a Q) {i j : Nat} {x y : Seen} (hi : Q[i]? = some x) (hj : Q[j]? = some y) (e : x.cell = y.cell) : i = j := by
  have h1 : (Q.map (·.cell))[i]? = some x.cell := by rw [List.getElem?_map, hi]; rfl
  have h2 : (Q.map (·.cell))[j]? = some x.cell := by rw [List.getElem?_map, hj, e]; rfl
  have l1 := (List.getElem?_eq_some_iff.1 h1).1
  exact (List.getElem?_inj l1 h.nodup).1 (h1.trans h2.symm)
theorem visit_ok {r : api_Region} (hL : Lim r) {a : api_Cell} {Q : List Seen} (h : QOK r a Q) (i k : Nat) : QOK r a (visit r Q i k) := by
  unfold visit
  split
  · exact h
  · rename_i s hs
    split
    · rename_i hc
      have hi := (List.getElem?_eq_some_iff.1 hs).1
      refine ⟨?_, fun j x hx h0 => ?_, ?_, fun x hx => ?_⟩
      · rw [List.getElem?_append_left h.ne]; exact h.first
      · by_cases hj : j < Q.length
        · rw [List.getElem?_append_left hj] at hx; exact h.back j x hx h0
        · rw [List.getElem?_append_right (by omega)] at hx
          have : j - Q.length = 0 := by
            have := (List.getElem?_eq_some_iff.1 hx).1
            simp at this
            omega
          rw [this] at hx
          simp at hx
          subst hx
          exact ⟨i, rfl, by omega⟩
      · rw [List.map_append, List.nodup_append]
        refine ⟨h.nodup, by simp, fun x hx y hy => ?_⟩
        simp only [List.map_cons, List.map_nil, List.mem_singleton] at hy
        subst hy
        rintro rfl
        obtain ⟨z, hz, e⟩ := List.mem_map.1 hx
        have := (fnd_iff Q (nbr s.cell k)).2 ⟨z, hz, e⟩
        rw [hc.2] at this
        cases this
      · rw [List.mem_append, List.mem_singleton] at hx
        rcases hx with hx | rfl
        · exact h.inr x hx
        · exact (cb_iff hL _).1 hc.1
    · exact h
theorem S_ok {r : api_Region} (hL : Lim r) {a : api_Cell} (ha : In r a) : ∀ t, QOK r a (S r a t)
  | 0 => ⟨rfl, fun j s hs h0 => by
      have := (List.getElem?_eq_some_iff.1 hs).1
      simp [S] at this
      omega, by simp [S], fun s hs => by simp [S] at hs; subst hs; exact ha⟩
  | t + 1 => visit_ok hL (S_ok hL ha t) _ _
def code (c : api_Cell) : Nat := ((c.X + 4096) * 8192 + (c.Y + 4096)).toNat
theorem QOK.len {r : api_Region} {a : api_Cell} {Q : List Seen} (h : QOK r a Q) : Q.length ≤ 67108864 := by
  have hd : (Q.map fun s => code s.cell).Nodup := by
    have e : (Q.map fun s => code s.cell) = (Q.map (·.cell)).map code := by rw [List.map_map]; rfl
    rw [e]
    refine List.pairwise_map.2 (List.Pairwise.imp_of_mem (fun {x y} hx hy hne => ?_) h.nodup)
    obtain ⟨s, hs, rfl⟩ := List.mem_map.1 hx
    obtain ⟨u, hu, rfl⟩ := List.mem_map.1 hy
    have p := in_range (h.inr s hs)
    have q := in_range (h.inr u hu)
    unfold InR at p q
    intro e
    refine hne (Cell.ext' ?_ ?_)
    · unfold code at e; omega
    · unfold code at e; omega
  have h1 := nodup_lt 67108864 _ hd (fun x hx => by
    obtain ⟨s, hs, rfl⟩ := List.mem_map.1 hx
    have p := in_range (h.inr s hs)
    unfold InR at p
    unfold code
    omega)
  simpa using h1
end Go.Proofs.Ytchiiiahgmfofaa
