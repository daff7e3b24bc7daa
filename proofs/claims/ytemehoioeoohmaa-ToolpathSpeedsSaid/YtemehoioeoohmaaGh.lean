/- comb: the straight way, in plain Lean. Conditions: none. -/
import Derived.Test.YtemehoioeoohmaaGp
namespace Go.Proofs.Ytemehoioeoohmaa
open Go Go.Vv Go.Proofs
set_option linter.unusedSimpArgs false
set_option linter.unusedVariables false
theorem ok_iff (c : Ja) : zn c = true ↔ InR c := by
  simp only [zn, Jbc, z9, zb, InR]; omega
def dist (a b : Ja) : Nat := (a.X - b.X).natAbs + (a.Y - b.Y).natAbs
/-- The next cell of the straight way. -/
def nxt (b c : Ja) : Ja :=
  if c.X < b.X then ⟨c.X + 1, c.Y⟩ else if b.X < c.X then ⟨c.X - 1, c.Y⟩ else if c.Y < b.Y then ⟨c.X, c.Y + 1⟩ else ⟨c.X, c.Y - 1⟩
def Jha (b : Ja) : Nat → Ja → List Ja
  | 0, _ => []
  | n + 1, c => nxt b c :: Jha b n (nxt b c)
theorem Jh1 (b : Ja) : ∀ (n : Nat) (c : Ja), (Jha b n c).length = n
  | 0, _ => rfl
  | n + 1, c => by rw [Jha, List.length_cons, Jh1 b n]
theorem nxt_ok {b c : Ja} (hb : InR b) (hc : InR c) (h : 0 < dist c b) : InR (nxt b c) ∧ dist (nxt b c) b + 1 = dist c b := by
  unfold InR dist nxt at *
  split
  · exact ⟨by simp only; omega, by simp only; omega⟩
  · split
    · exact ⟨by simp only; omega, by simp only; omega⟩
    · split
      · exact ⟨by simp only; omega, by simp only; omega⟩
      · exact ⟨by simp only; omega, by simp only; omega⟩
theorem Jbs {a b : Ja} (ha : InR a) (hb : InR b) : dist a b ≤ 16384 := by
  unfold InR dist at *; omega
theorem Jqe {a b : Ja} (ha : InR a) (hb : InR b) : zi a b = some (.lst (a :: Jha b (dist a b) a)) := by
  have h := Zp (body := Z7 b) (fun s => InR s.1 ∧ s.2.l ++ Jha b (dist s.1 b) s.1 = a :: Jha b (dist a b) a) (fun s => dist s.1 b) (fun r => r.l = a :: Jha b (dist a b) a)
    (fun ⟨c, out⟩ ⟨hc, ho⟩ => by
      simp only at hc ho ⊢
      have hlen : out.l.length + dist c b = 1 + dist a b := by
        have := congrArg List.length ho
        simp only [List.length_append, Jh1, List.length_cons] at this
        omega
      have hd := Jbs ha hb
      have hf : fits 16 (flen out + 1) = true := j5 (by rw [Ka]; omega) (by rw [Ka]; omega) (by omega)
      by_cases h0 : dist c b = 0
      · right
        refine ⟨out, ?_, by rw [h0] at ho; simpa [Jha] using ho⟩
        have e1 : c.X = b.X := by unfold dist at h0; omega
        have e2 : c.Y = b.Y := by unfold dist at h0; omega
        simp [Z7, e1, e2, ieq]
      · left
        obtain ⟨n1, n2⟩ := nxt_ok hb hc (by omega)
        refine ⟨(nxt b c, Zy out (nxt b c)), ?_, ⟨n1, ?_⟩, by show dist (nxt b c) b < dist c b; omega⟩
        · have ne : bnot (band (ieq c.X b.X) (band (ieq c.Y b.Y) true)) = true := by
            rw [Jao, Jbc, Jbc, Jh3, Jh3]
            unfold dist at h0; omega
          unfold InR at hc hb
          simp only [Z7, ne, if_true, hf]
          unfold nxt
          by_cases c1 : c.X < b.X
          · simp only [jf c1, if_true, c1, Jan (a := c.X) (b := 1) (by omega) (by omega)]
          · simp only [Zs c1, if_false, c1, Bool.false_eq_true]
            by_cases c2 : b.X < c.X
            · simp only [Jdh c2, if_true, c2, jr (a := c.X) (b := 1) (by omega) (by omega)]
            · simp only [Jd2 c2, if_false, c2, Bool.false_eq_true]
              by_cases c3 : c.Y < b.Y
              · simp only [jf c3, if_true, c3, Jan (a := c.Y) (b := 1) (by omega) (by omega)]
              · simp only [Zs c3, if_false, c3, Bool.false_eq_true, jr (a := c.Y) (b := 1) (by omega) (by omega)]
        · simp only [Jag]; rw [← ho, ← n2, Jha, List.append_assoc]; rfl) bigN (a, flit [a]) ⟨ha, rfl⟩ (Zz (by have := Jbs ha hb; simp only; omega))
  obtain ⟨r, e, hr⟩ := h
  have c0 : bor (bnot (zn a)) (bnot (zn b)) = false := by
    rw [← Bool.not_eq_true, z3, Jao, Jao, ok_iff, ok_iff]; simp [ha, hb]
  unfold zi
  rw [c0, e]
  simp [flst, hr]
end Go.Proofs.Ytemehoioeoohmaa
