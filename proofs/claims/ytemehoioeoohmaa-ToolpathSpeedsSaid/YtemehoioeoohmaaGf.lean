/- comb: the law of the ways, in plain Lean. Conditions: none. -/
import Derived.Test.YtemehoioeoohmaaGe
namespace Go.Proofs.Ytemehoioeoohmaa
open Go Go.Vv Go.Proofs
set_option linter.unusedSimpArgs false
set_option linter.unusedVariables false
set_option linter.unusedSectionVars false
theorem count_ok (r : Jk) (hL : Lim r) : ∃ v, Yh r = some v := by
  obtain ⟨b, e, -⟩ := Jor r hL
  unfold Yh
  rw [e]
  cases b with
  | false => exact ⟨_, rfl⟩
  | true =>
    obtain ⟨v, ev, -⟩ := Zp (body := X8 r) (fun s => 0 ≤ s.2 ∧ s.2 ≤ r.Rows.l.length) (fun s => (r.Rows.l.length - s.2).toNat) (fun _ => True)
      (by
        rintro ⟨x, i⟩ ⟨h0, h1⟩
        simp only at h0 h1
        obtain ⟨n, rfl⟩ := Int.eq_ofNat_of_zero_le h0
        have hl := hL.1
        by_cases hlt : n < r.Rows.l.length
        · left
          have c1 : ilt (n : Int) (flen r.Rows) = true := jf (by rw [Ka]; omega)
          have g1 := Xz hlt
          have hr := hL.2 _ (List.getElem_mem hlt)
          obtain ⟨w, ew, -⟩ := Zp (body := Yb r (n : Int)) (fun s => 0 ≤ s.2 ∧ s.2 ≤ (r.Rows.l[n]).Runs.l.length) (fun s => ((r.Rows.l[n]).Runs.l.length - s.2).toNat) (fun _ => True)
            (by
              rintro ⟨y, j⟩ ⟨k0, k1⟩
              simp only at k0 k1
              obtain ⟨m, rfl⟩ := Int.eq_ofNat_of_zero_le k0
              by_cases hlm : m < (r.Rows.l[n]).Runs.l.length
              · left
                have c2 : ilt (m : Int) (flen (r.Rows.l[n]).Runs) = true := jf (by rw [Ka]; omega)
                have g2 := Xz hlm
                exact ⟨_, by simp only [Yb, g1, c2, if_true, g2, z8 (i := m) (by omega)]; rfl, ⟨by simp only; omega, by simp only; omega⟩, by simp only; omega⟩
              · right
                have c2 : ilt (m : Int) (flen (r.Rows.l[n]).Runs) = false := Zs (by rw [Ka]; omega)
                exact ⟨_, by simp only [Yb, g1, c2, Bool.false_eq_true, if_false]; rfl, trivial⟩)
            bigN (x, 0) ⟨by simp only; omega, by simp only; omega⟩ (Zz (by simp only; omega))
          exact ⟨(w, ((n + 1 : Nat) : Int)), by simp only [X8, c1, if_true, ew, z8 (i := n) (by omega)], ⟨by simp only; omega, by simp only; omega⟩, by simp only; omega⟩
        · right
          have c1 : ilt (n : Int) (flen r.Rows) = false := Zs (by rw [Ka]; omega)
          exact ⟨_, by simp only [X8, c1, Bool.false_eq_true, if_false]; rfl, trivial⟩)
      bigN (0, 0) ⟨by simp only; omega, by simp only; omega⟩ (Zz (by have := hL.1; simp only; omega))
    refine ⟨v, ?_⟩
    simp only [Zi, Bool.false_eq_true, if_false, ev]
def Lim4 (r : Jk) : Prop := r.Rows.l.length ≤ 40 ∧ ∀ w ∈ r.Rows.l, w.Runs.l.length ≤ 40
theorem Lim4.lim {r : Jk} (h : Lim4 r) : Lim r := ⟨by have := h.1; omega, fun w hw => by have := h.2 w hw; omega⟩
end Go.Proofs.Ytemehoioeoohmaa
