/- comb: the search finds shortest ways, in plain Lean. Conditions: none. -/
import Derived.Test.YtemehoioeoohmaaGe
namespace Go.Proofs.Ytemehoioeoohmaa
open Go Go.Vv Go.Proofs
set_option linter.unusedSimpArgs false
set_option linter.unusedVariables false
set_option linter.unusedSectionVars false
def Adj (c d : Ja) : Prop := ∃ k, k < 4 ∧ d = nbr c k
theorem Adj.symm {c d : Ja} (h : Adj c d) : Adj d c := by
  obtain ⟨k, hk, rfl⟩ := h
  have : k = 0 ∨ k = 1 ∨ k = 2 ∨ k = 3 := by omega
  rcases this with rfl | rfl | rfl | rfl
  · exact ⟨1, by omega, Cell.ext' (by simp only [nbr]; omega) rfl⟩
  · exact ⟨0, by omega, Cell.ext' (by simp only [nbr]; omega) rfl⟩
  · exact ⟨3, by omega, Cell.ext' rfl (by simp only [nbr]; omega)⟩
  · exact ⟨2, by omega, Cell.ext' rfl (by simp only [nbr]; omega)⟩
/-- A way of so many Jha inside of a region. -/
inductive Wk (r : Jk) (a : Ja) : Nat → Ja → Prop
  | here : In r a → Wk r a 0 a
  | step {n : Nat} {c d : Ja} : Wk r a n c → In r d → Adj c d → Wk r a (n + 1) d
theorem Wk.inr {r : Jk} {a c : Ja} {n : Nat} (h : Wk r a n c) : In r c := by
  cases h with
  | here h => exact h
  | step _ h _ => exact h
theorem Wk.ina {r : Jk} {a c : Ja} {n : Nat} (h : Wk r a n c) : In r a := by
  induction h with
  | here h => exact h
  | step _ _ _ ih => exact ih
theorem Wk.front {r : Jk} {a b c : Ja} {n : Nat} (h : Wk r b n c) (ha : In r a) (hab : Adj a b) : Wk r a (n + 1) c := by
  induction h with
  | here h => exact .step (.here ha) h hab
  | step _ h2 h3 ih => exact .step ih h2 h3
theorem Wk.symm {r : Jk} {a c : Ja} {n : Nat} (h : Wk r a n c) : Wk r c n a := by
  induction h with
  | here h => exact .here h
  | step h1 h2 h3 ih => exact ih.front h2 h3.symm
/-- What else is so of every queue after t looks. -/
structure QB (r : Jk) (t : Nat) (Q : List Seen) : Prop where
  low : ∀ s ∈ Q, 4 * s.before < t
  mono : ∀ (j k : Nat) (x y : Seen), j ≤ k → Q[j]? = some x → Q[k]? = some y → x.before ≤ y.before
  adj : ∀ (j p : Nat) (s : Seen), Q[j]? = some s → s.before = p → ∃ u, Q[p]? = some u ∧ Adj u.cell s.cell
theorem S_qb (r : Jk) (a : Ja) : ∀ t, QB r t (S r a t)
  | 0 => ⟨fun s hs => by simp [S] at hs; subst hs; simp, fun j k x y hjk hx hy => by
      have h1 := (List.getElem?_eq_some_iff.1 hx).1
      have h2 := (List.getElem?_eq_some_iff.1 hy).1
      simp [S] at h1 h2
      subst h1 h2
      rw [hx] at hy
      cases hy
      omega, fun j p s hs hp => by
      have h1 := (List.getElem?_eq_some_iff.1 hs).1
      simp [S] at h1
      subst h1
      simp [S] at hs
      subst hs
      simp at hp⟩
  | t + 1 => by
    have ih := S_qb r a t
    show QB r (t + 1) (Jgc r (S r a t) (t / 4) (t % 4))
    have hsame : QB r (t + 1) (S r a t) := ⟨fun s hs => by have := ih.low s hs; omega, ih.mono, ih.adj⟩
    unfold Jgc
    split
    · exact hsame
    · rename_i s hs
      split
      · rename_i hc
        have hi := (List.getElem?_eq_some_iff.1 hs).1
        have hlast : ∀ (j : Nat) (x : Seen), (S r a t ++ [⟨nbr s.cell (t % 4), ((t / 4 : Nat) : Int)⟩])[j]? = some x → (S r a t)[j]? = some x ∨ (j = (S r a t).length ∧ x = ⟨nbr s.cell (t % 4), ((t / 4 : Nat) : Int)⟩) := by
          intro j x hx
          by_cases hj : j < (S r a t).length
          · rw [List.getElem?_append_left hj] at hx; exact .inl hx
          · rw [List.getElem?_append_right (by omega)] at hx
            have h1 := (List.getElem?_eq_some_iff.1 hx).1
            simp at h1
            have : j - (S r a t).length = 0 := by omega
            rw [this] at hx
            simp at hx
            exact .inr ⟨by omega, hx.symm⟩
        refine ⟨fun x hx => ?_, fun j k x y hjk hx hy => ?_, fun j p x hx hp => ?_⟩
        · rw [List.mem_append, List.mem_singleton] at hx
          rcases hx with hx | rfl
          · have := ih.low x hx; omega
          · simp only; omega
        · rcases hlast j x hx with hx | ⟨hj, rfl⟩
          · rcases hlast k y hy with hy | ⟨hk, rfl⟩
            · exact ih.mono j k x y hjk hx hy
            · have := ih.low x (List.mem_of_getElem? hx)
              simp only; omega
          · rcases hlast k y hy with hy | ⟨hk, rfl⟩
            · have := (List.getElem?_eq_some_iff.1 hy).1
              omega
            · exact Int.le_refl _
        · rcases hlast j x hx with hx | ⟨hj, rfl⟩
          · obtain ⟨u, hu, ha⟩ := ih.adj j p x hx hp
            exact ⟨u, Jet (List.prefix_append _ _) hu, ha⟩
          · simp only at hp
            have : t / 4 = p := Int.ofNat_inj.1 hp
            subst this
            exact ⟨s, Jet (List.prefix_append _ _) hs, t % 4, by omega, rfl⟩
      · exact hsame
/-- The whole queue. -/
def Qc (r : Jk) (a : Ja) : List Seen := S r a (4 * 67108864)
theorem Ch.le {r : Jk} {a : Ja} {Q : List Seen} {t : Nat} (qb : QB r t Q) {j : Nat} {l : List Ja} (h : Ch Q j l) : ∀ {k : Nat} {m : List Ja}, Ch Q k m → j ≤ k → l.length ≤ m.length := by
  induction h with
  | base hs =>
    intro k m h2 _
    obtain ⟨_, _, _, rfl⟩ := h2.head
    simp
  | step hs h0 hp hc ih =>
    intro k m h2 hjk
    cases h2 with
    | base _ => omega
    | step hs2 h02 hp2 hc2 =>
      have := qb.mono _ _ _ _ hjk hs hs2
      have := ih hc2 (by omega)
      simp only [List.length_cons]
      omega
section
variable {r : Jk} (hL : Lim r) {a b : Ja} (ha : In r a)
include hL ha
theorem Jyo : QOK r a (Qc r a) := S_ok hL ha _
theorem Qc_qb : QB r (4 * 67108864) (Qc r a) := S_qb r a _
theorem Qc_len : (Qc r a).length ≤ 67108864 := (Jyo hL ha).len
theorem S_Qc (t : Nat) : S r a t <+: Qc r a := by
  by_cases h : t ≤ 4 * 67108864
  · exact Jq2 r a h
  · have := Jqj r a (n := 67108864) (Qc_len hL ha) t (by omega)
    rw [this]
    exact List.prefix_refl _
/-- The neighbors of the whole queue's cells are in it, not much deeper. -/
theorem Jvy {i : Nat} {s : Seen} (hs : (Qc r a)[i]? = some s) {d : Ja} (hd : In r d) (had : Adj s.cell d) : ∃ (m : Nat) (u : Seen), (Qc r a)[m]? = some u ∧ u.cell = d ∧ u.before ≤ i := by
  obtain ⟨k, hk, rfl⟩ := had
  have hi := (List.getElem?_eq_some_iff.1 hs).1
  have hl := Qc_len hL ha
  have hlen : i < (S r a (4 * i)).length := by
    by_cases h : i < (S r a (4 * i)).length
    · exact h
    · have := Jqj r a (n := i) (by omega) (4 * 67108864) (by omega)
      have e : (Qc r a).length = (S r a (4 * i)).length := by unfold Qc; rw [this]
      omega
  have hpre := S_Qc hL ha (4 * i + k)
  have hm := Jq2 r a (t := 4 * i) (u := 4 * i + k) (by omega)
  have hsi : (S r a (4 * i + k))[i]? = some s := by
    have h1 := Jet hm (List.getElem?_eq_getElem hlen)
    have h2 := Jet hpre h1
    rw [hs] at h2
    rw [h1, ← h2]
  have e : S r a (4 * i + k + 1) = Jgc r (S r a (4 * i + k)) i k := by
    show Jgc r (S r a (4 * i + k)) ((4 * i + k) / 4) ((4 * i + k) % 4) = _
    have e1 : (4 * i + k) / 4 = i := by omega
    have e2 : (4 * i + k) % 4 = k := by omega
    rw [e1, e2]
  have hf : fnd (S r a (4 * i + k + 1)) (nbr s.cell k) = true := by
    rw [e]
    unfold Jgc
    rw [hsi]
    simp only
    split
    · exact (Jfv _ _).2 ⟨_, List.mem_append_right _ (List.mem_singleton.2 rfl), rfl⟩
    · rename_i hn
      by_cases hf : fnd (S r a (4 * i + k)) (nbr s.cell k) = true
      · exact hf
      · exact absurd ⟨(Jos hL _).2 hd, by simpa using hf⟩ hn
  obtain ⟨u, hu, hc⟩ := (Jfv _ _).1 hf
  obtain ⟨m, hm2, rfl⟩ := List.getElem_of_mem hu
  have hlow := (S_qb r a (4 * i + k + 1)).low _ hu
  exact ⟨m, _, Jet (S_Qc hL ha _) (List.getElem?_eq_getElem hm2), hc, by omega⟩
/-- No way is shorter than the queue's. -/
theorem Qc_short {n : Nat} {c : Ja} (h : Wk r a n c) : ∃ (m : Nat) (u : Seen) (l : List Ja), (Qc r a)[m]? = some u ∧ u.cell = c ∧ Ch (Qc r a) m l ∧ l.length ≤ n + 1 := by
  induction h with
  | here h => exact ⟨0, _, _, (Jyo hL ha).first, rfl, .base (Jyo hL ha).first, by simp⟩
  | step h1 h2 h3 ih =>
    obtain ⟨m, u, l, hu, rfl, hc, hl⟩ := ih
    obtain ⟨m', u', hu', hc', hb⟩ := Jvy hL ha hu h2 h3
    have hm' := (List.getElem?_eq_some_iff.1 hu').1
    obtain ⟨l', hch, -⟩ := Ch.ex (Jyo hL ha) _ _ (Nat.le_refl _) hm'
    refine ⟨m', u', l', hu', hc', hch, ?_⟩
    cases hch with
    | base _ => simp
    | step hs h0 hp hc2 =>
      rw [hu'] at hs
      cases hs
      have := Ch.le (r := r) (a := a) (Qc_qb hL ha) hc2 hc (by omega)
      simp only [List.length_cons]
      omega
end
end Go.Proofs.Ytemehoioeoohmaa
