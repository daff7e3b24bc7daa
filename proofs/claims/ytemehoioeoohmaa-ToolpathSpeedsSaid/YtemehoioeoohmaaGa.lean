/- comb: the search, step by step, in plain Lean. Conditions: none. -/
import Derived.Test.YtemehoioeoohmaaGs
namespace Go.Vv
/-- Different numbers below a bound are not more than the bound. -/
theorem Jno : ∀ (n : Nat) (l : List Nat), l.Nodup → (∀ x ∈ l, x < n) → l.length ≤ n
  | 0, l, _, h => by
    cases l with
    | nil => simp
    | cons a r => exact absurd (h a (by simp)) (by omega)
  | n + 1, l, hd, h => by
    by_cases hm : n ∈ l
    · have h1 : (l.erase n).length = l.length - 1 := List.length_erase_of_mem hm
      have h2 := Jno n (l.erase n) (hd.erase n) (fun x hx => by
        have hx2 := (List.Nodup.mem_erase_iff hd).1 hx
        have := h x hx2.2
        omega)
      omega
    · have := Jno n l hd (fun x hx => by
        have h1 := h x hx
        have h2 : x ≠ n := fun e => hm (e ▸ hx)
        omega)
      omega
end Go.Vv
namespace Go.Proofs.Ytemehoioeoohmaa
open Go Go.Vv Go.Proofs
set_option linter.unusedSimpArgs false
set_option linter.unusedVariables false
set_option linter.unusedSectionVars false
def InR (c : Ja) : Prop := -4096 ≤ c.X ∧ c.X < 4096 ∧ -4096 ≤ c.Y ∧ c.Y < 4096
theorem Cell.ext' {a b : Ja} (h1 : a.X = b.X) (h2 : a.Y = b.Y) : a = b := by cases a; cases b; simp_all
theorem Jnk (a b : Ja) : Kv a b = true ↔ a = b := by
  simp only [Kv, Jbc, Jh3]
  constructor
  · exact fun h => Cell.ext' h.1 h.2.1
  · rintro rfl; exact ⟨rfl, rfl, trivial⟩
theorem q_eq (a b : Ja) : band (ieq a.X b.X) (band (ieq a.Y b.Y) true) = Kv a b := rfl
theorem Jjl {r : Jk} {c : Ja} (h : In r c) : InR c := by
  obtain ⟨hv, w, hw, hy, q, hq, h1, h2⟩ := h
  obtain ⟨k, hk, rfl⟩ := List.getElem_of_mem hw
  have a := (Jd1 hk).1 (hv k hk)
  obtain ⟨j, hj, rfl⟩ := List.getElem_of_mem hq
  have b := a.2.2.2.1 j hj _ (List.getElem?_eq_getElem hj)
  exact ⟨by omega, by omega, by omega, by omega⟩
/-- Does a region contain a cell? -/
def cb (r : Jk) (c : Ja) : Bool := (Xt r c).getD false
section
variable {r : Jk} (hL : Lim r)
include hL
theorem Jqd (c : Ja) : Xt r c = some (cb r c) := by
  obtain ⟨b, e, -⟩ := Jlc r hL c
  unfold cb; rw [e]; rfl
theorem Jos (c : Ja) : cb r c = true ↔ In r c := by
  obtain ⟨b, e, hb⟩ := Jlc r hL c
  unfold cb; rw [e]; exact hb
end
structure Seen where
  cell : Ja
  before : Int
def nbr (c : Ja) : Nat → Ja
  | 0 => ⟨c.X + 1, c.Y⟩
  | 1 => ⟨c.X - 1, c.Y⟩
  | 2 => ⟨c.X, c.Y + 1⟩
  | _ => ⟨c.X, c.Y - 1⟩
def fnd (Q : List Seen) (c : Ja) : Bool := Q.any fun x => Kv x.cell c
def Jgc (r : Jk) (Q : List Seen) (i k : Nat) : List Seen :=
  match Q[i]? with
  | none => Q
  | some s => if cb r (nbr s.cell k) = true ∧ fnd Q (nbr s.cell k) = false then Q ++ [⟨nbr s.cell k, (i : Int)⟩] else Q
/-- The queue after so many looks at neighbors. -/
def S (r : Jk) (a : Ja) : Nat → List Seen
  | 0 => [⟨a, -1⟩]
  | t + 1 => Jgc r (S r a t) (t / 4) (t % 4)
theorem Jfv (Q : List Seen) (c : Ja) : fnd Q c = true ↔ ∃ x ∈ Q, x.cell = c := by
  simp only [fnd, List.any_eq_true, Jnk]
theorem Jz9 (r : Jk) (Q : List Seen) (i k : Nat) : Q <+: Jgc r Q i k := by
  unfold Jgc
  split
  · exact List.prefix_refl Q
  · split
    · exact List.prefix_append Q _
    · exact List.prefix_refl Q
theorem Jq2 (r : Jk) (a : Ja) {t u : Nat} (h : t ≤ u) : S r a t <+: S r a u := by
  induction u with
  | zero => have : t = 0 := by omega
            subst this; exact List.prefix_refl _
  | succ u ih =>
    by_cases e : t = u + 1
    · subst e; exact List.prefix_refl _
    · exact (ih (by omega)).trans (Jz9 r _ _ _)
theorem Jet {α : Type} {l m : List α} (h : l <+: m) {i : Nat} {x : α} (hi : l[i]? = some x) : m[i]? = some x := by
  obtain ⟨n, rfl⟩ := h
  rw [List.getElem?_append_left (List.getElem?_eq_some_iff.1 hi).1]
  exact hi
/-- What is so of every queue. -/
structure QOK (r : Jk) (a : Ja) (Q : List Seen) : Prop where
  first : Q[0]? = some ⟨a, -1⟩
  back : ∀ (j : Nat) (s : Seen), Q[j]? = some s → 0 < j → ∃ p : Nat, s.before = p ∧ p < j
  nodup : (Q.map (·.cell)).Nodup
  inr : ∀ s ∈ Q, In r s.cell
theorem QOK.ne {r : Jk} {a : Ja} {Q : List Seen} (h : QOK r a Q) : 0 < Q.length := (List.getElem?_eq_some_iff.1 h.first).1
theorem QOK.inj {r : Jk} {a : Ja} {Q : List Seen} (h : QOK r a Q) {i j : Nat} {x y : Seen} (hi : Q[i]? = some x) (hj : Q[j]? = some y) (e : x.cell = y.cell) : i = j := by
  have h1 : (Q.map (·.cell))[i]? = some x.cell := by rw [List.getElem?_map, hi]; rfl
  have h2 : (Q.map (·.cell))[j]? = some x.cell := by rw [List.getElem?_map, hj, e]; rfl
  have l1 := (List.getElem?_eq_some_iff.1 h1).1
  exact (List.getElem?_inj l1 h.nodup).1 (h1.trans h2.symm)
theorem visit_ok {r : Jk} (hL : Lim r) {a : Ja} {Q : List Seen} (h : QOK r a Q) (i k : Nat) : QOK r a (Jgc r Q i k) := by
  unfold Jgc
  split
  · exact h
  · rename_i s hs
    split
    · rename_i hc
      have hi := (List.getElem?_eq_some_iff.1 hs).1
      refine ⟨?_, fun j x hx h0 => ?_, ?_, fun x hx => ?_⟩
      · rw [List.getElem?_append_left h.ne]; exact h.first
      · by_cases hj : j < Q.length
        · rw [List.getElem?_append_left hj] at hx; exact h.back j x hx h0
        · rw [List.getElem?_append_right (by omega)] at hx
          have : j - Q.length = 0 := by
            have := (List.getElem?_eq_some_iff.1 hx).1
            simp at this
            omega
          rw [this] at hx
          simp at hx
          subst hx
          exact ⟨i, rfl, by omega⟩
      · rw [List.map_append, List.nodup_append]
        refine ⟨h.nodup, by simp, fun x hx y hy => ?_⟩
        simp only [List.map_cons, List.map_nil, List.mem_singleton] at hy
        subst hy
        rintro rfl
        obtain ⟨z, hz, e⟩ := List.mem_map.1 hx
        have := (Jfv Q (nbr s.cell k)).2 ⟨z, hz, e⟩
        rw [hc.2] at this
        cases this
      · rw [List.mem_append, List.mem_singleton] at hx
        rcases hx with hx | rfl
        · exact h.inr x hx
        · exact (Jos hL _).1 hc.1
    · exact h
theorem S_ok {r : Jk} (hL : Lim r) {a : Ja} (ha : In r a) : ∀ t, QOK r a (S r a t)
  | 0 => ⟨rfl, fun j s hs h0 => by
      have := (List.getElem?_eq_some_iff.1 hs).1
      simp [S] at this
      omega, by simp [S], fun s hs => by simp [S] at hs; subst hs; exact ha⟩
  | t + 1 => visit_ok hL (S_ok hL ha t) _ _
def code (c : Ja) : Nat := ((c.X + 4096) * 8192 + (c.Y + 4096)).toNat
theorem QOK.len {r : Jk} {a : Ja} {Q : List Seen} (h : QOK r a Q) : Q.length ≤ 67108864 := by
  have hd : (Q.map fun s => code s.cell).Nodup := by
    have e : (Q.map fun s => code s.cell) = (Q.map (·.cell)).map code := by rw [List.map_map]; rfl
    rw [e]
    refine List.pairwise_map.2 (List.Pairwise.imp_of_mem (fun {x y} hx hy hne => ?_) h.nodup)
    obtain ⟨s, hs, rfl⟩ := List.mem_map.1 hx
    obtain ⟨u, hu, rfl⟩ := List.mem_map.1 hy
    have p := Jjl (h.inr s hs)
    have q := Jjl (h.inr u hu)
    unfold InR at p q
    intro e
    refine hne (Cell.ext' ?_ ?_)
    · unfold code at e; omega
    · unfold code at e; omega
  have h1 := Jno 67108864 _ hd (fun x hx => by
    obtain ⟨s, hs, rfl⟩ := List.mem_map.1 hx
    have p := Jjl (h.inr s hs)
    unfold InR at p
    unfold code
    omega)
  simpa using h1
end Go.Proofs.Ytemehoioeoohmaa
