/- Toolpath: what travels and prints append: kinds, speeds and cells, in plain Lean. Conditions: none. -/
import Derived.Test.YtemehoioeoohmaaGz
namespace Go.Proofs.Ytemehoioeoohmaa
open Go Go.Vv Go.Proofs
set_option linter.unusedSimpArgs false
set_option linter.unusedVariables false
set_option linter.unusedSectionVars false
structure Jis (s : Jy) (o : Jr) : Prop where
  kind : (o.Kind = 2 ∧ o.Speed = spd s s.Travel) ∨ (o.Kind = 3 ∧ o.Speed = spd s s.Feed) ∨ o.Kind = 4 ∨ o.Kind = 5
  nice : Nice o.Cells
  len : o.Cells.l.length ≤ 100000000
theorem Jrq {α : Type} {l : List α} (h : 0 < l.length) : Nice (FS.lst l) := by
  cases l with
  | nil => simp at h
  | cons a l => exact Or.inr ⟨a, l, rfl⟩
theorem dist_pos {p q : Ja} (h : p ≠ q) : 0 < dist p q := by
  apply Nat.pos_of_ne_zero
  intro h0
  apply h
  unfold dist at h0
  exact Cell.ext' (by omega) (by omega)
theorem way_good {r : Jk} (hL : Lim r) {p q : Ja} (hp : InR p) (hq : InR q) (h : p ≠ q) : 0 < (way r p q).1.length ∧ (way r p q).1.length ≤ 100000000 := by
  obtain ⟨x, o, e, hx⟩ := way_in hL (p := p) (q := q)
  unfold way; rw [e]
  cases o with
  | true =>
    obtain ⟨h1, h2, -⟩ := hx rfl
    have := h2 h
    simp only [List.length_drop]; omega
  | false =>
    have hd := dist_pos h
    have := Jbs hp hq
    simp only [Jh1]; omega
theorem op2_good {s : Jy} {l : List Ja} (h : 0 < l.length ∧ l.length ≤ 100000000) : Jis s (op2 s l) := ⟨Or.inl ⟨rfl, rfl⟩, Jrq h.1, h.2⟩
theorem op4_good (s : Jy) : Jis s op4 := ⟨Or.inr (Or.inr (Or.inl rfl)), Or.inl rfl, Nat.zero_le _⟩
theorem op5_good (s : Jy) : Jis s op5 := ⟨Or.inr (Or.inr (Or.inr rfl)), Or.inl rfl, Nat.zero_le _⟩
theorem op3_good (s : Jy) {t : Jc} (h : VT t) : Jis s (op3 s t) := ⟨Or.inr (Or.inl ⟨rfl, rfl⟩), Jrq h.len.1, by have := h.len.2; show t.Cells.l.length ≤ _; omega⟩
theorem Joz {r : Jk} (hL : Lim r) (s : Jy) {p q : Ja} (hp : InR p) (hq : InR q) : ∀ o ∈ Je8 r s p q, Jis s o := by
  intro o ho
  unfold Je8 at ho
  split at ho
  · cases ho
  · rename_i h
    have hw := op2_good (s := s) (way_good hL hp hq h)
    split at ho
    · rw [List.mem_singleton.1 ho]; exact hw
    · split at ho
      · rw [List.mem_singleton.1 ho]; exact hw
      · simp only [List.mem_cons, List.not_mem_nil, or_false] at ho
        rcases ho with rfl | rfl | rfl
        · exact op4_good s
        · exact hw
        · exact op5_good s
theorem Jjq {r : Jk} (hL : Lim r) (s : Jy) : ∀ (ts : List Jc) (p : Ja), InR p → (∀ t ∈ ts, VT t) → ∀ o ∈ Jde r s p ts, Jis s o
  | [], _, _, _, o, ho => by cases ho
  | t :: ts, p, hp, hv, o, ho => by
    have ht := hv t (List.mem_cons_self ..)
    have he := Jam ht
    simp only [Jde, List.mem_append, List.mem_singleton] at ho
    rcases ho with (ho | rfl) | ho
    · exact Joz hL s hp he.2.1 o ho
    · exact op3_good s ht
    · exact Jjq hL s ts _ he.2.2 (fun u hu => hv u (List.mem_cons_of_mem _ hu)) o ho
/-- The tracks of a layer are printed by runs of equal roles. -/
def HeadNe (k : Int) (l : List Jc) : Prop := ∀ t, l[0]? = some t → t.Role ≠ k
inductive LayR (r : Jk) (s : Jy) : Ja → List Jc → List Jr → Ja → Prop
  | done (p : Ja) : LayR r s p [] [] p
  | group {p : Ja} {t : Jc} {g' rest g ts : List Jc} {ops : List Jr} {q : Ja} (same : ∀ u ∈ g', u.Role = t.Role) (diff : HeadNe t.Role rest) (gre : Gre p (t :: g') g) (imp : Imp p 8 g ts) (next : LayR r s (endC p ts) rest ops q) :
      LayR r s p ((t :: g') ++ rest) (Jde r s p ts ++ ops) q
theorem LayR.good {r : Jk} (hL : Lim r) {s : Jy} {p q : Ja} {l : List Jc} {ops : List Jr} (h : LayR r s p l ops q) : InR p → (∀ t ∈ l, VT t) → ∀ o ∈ ops, Jis s o := by
  induction h with
  | done p => intro _ _ o ho; cases ho
  | @group p t g' rest g ts ops q same diff gre imp next ih =>
    intro hp hv o ho
    have hg : ∀ u ∈ t :: g', VT u := fun u hu => hv u (List.mem_append_left _ hu)
    have hts := (imp.props (gre.valid hg)).1
    rcases List.mem_append.1 ho with ho | ho
    · exact Jjq hL s ts p hp hts o ho
    · exact ih (Jnc hp hts) (fun u hu => hv u (List.mem_append_right _ hu)) o ho
theorem LayR.len {r : Jk} {s : Jy} {p q : Ja} {l : List Jc} {ops : List Jr} (h : LayR r s p l ops q) : (∀ t ∈ l, VT t) → ops.length ≤ 4 * l.length := by
  induction h with
  | done p => intro _; simp
  | @group p t g' rest g ts ops q same diff gre imp next ih =>
    intro hv
    have hg : ∀ u ∈ t :: g', VT u := fun u hu => hv u (List.mem_append_left _ hu)
    have h1 := Jin r s ts p
    have h2 := (imp.props (gre.valid hg)).2.1
    have h3 := gre.len
    have h4 := ih (fun u hu => hv u (List.mem_append_right _ hu))
    simp only [List.length_append] at *
    omega
end Go.Proofs.Ytemehoioeoohmaa
