/- comb: what Path answers. Conditions: none. -/
import Derived.Test.YtemehoioeoohmaaGf
import Derived.Test.YtemehoioeoohmaaGg
namespace Go.Proofs.Ytemehoioeoohmaa
open Go Go.Vv Go.Proofs
set_option linter.unusedSimpArgs false
set_option linter.unusedVariables false
set_option linter.unusedSectionVars false
section
variable {r : Jk} (hL : Lim r) {a b : Ja}
include hL
theorem Ju0 : ∃ x o, Jak r a b = some (x, o) ∧ ((o = false ∧ x.l = [] ∧ ∀ n, ¬ Wk r a n b) ∨ (o = true ∧ In r a ∧ ∃ m u full, (Qc r a)[m]? = some u ∧ u.cell = b ∧ Ch (Qc r a) m full ∧ full.length ≤ 67108865 ∧ x.l = full.reverse)) := by
  unfold Jak
  rw [Jqd hL a, Jqd hL b]
  by_cases hca : cb r a = true
  case neg =>
    refine ⟨.nil, false, ?_, .inl ⟨rfl, rfl, fun n h => hca ((Jos hL a).2 h.ina)⟩⟩
    rw [Bool.not_eq_true] at hca
    simp [hca, gOpt, bnot, bor]
  by_cases hcb : cb r b = true
  case neg =>
    refine ⟨.nil, false, ?_, .inl ⟨rfl, rfl, fun n h => hcb ((Jos hL b).2 h.inr)⟩⟩
    rw [Bool.not_eq_true] at hcb
    simp [hca, hcb, gOpt, bnot, bor]
  have ha := (Jos hL a).1 hca
  have c0 : bor false false = false := rfl
  obtain ⟨i, ep, hp1, hp2⟩ := Jpw hL ha (b := b)
  have okp := S_ok hL ha (4 * i)
  simp only [hca, hcb, Zi, je, Z3, Option.getD_some, c0, Bool.false_eq_true, if_false, ep, Jxm okp]
  by_cases hf : fnd (S r a (4 * i)) b = true
  · obtain ⟨s, hs, hb⟩ := (Jfv _ _).1 hf
    obtain ⟨J, hJ, rfl⟩ := List.getElem_of_mem hs
    obtain ⟨full, hch, hfl⟩ := Ch.ex okp _ _ (Nat.le_refl _) hJ
    have hlenT := okp.len
    obtain ⟨x, ex, hx⟩ := Jy1 okp (List.getElem?_eq_getElem hJ) hb hch (by omega)
    obtain ⟨w, ew, hw⟩ := turn_ok x (by rw [hx]; omega)
    have e2 : ieq (flen w) (flen x) = true := by rw [Jh3, Ka, Ka, hw, List.length_reverse]
    have hpre := S_Qc hL ha (4 * i)
    refine ⟨flst w, true, ?_, .inr ⟨rfl, ha, J, _, full, Jet hpre (List.getElem?_eq_getElem hJ), hb, hch.pre hpre, by omega, by rw [Jn0, hw, hx]⟩⟩
    simp only [hf, Zi, Bool.false_eq_true, if_false, ex, ew, e2, if_true]
  · refine ⟨.nil, false, ?_, .inl ⟨rfl, rfl, fun n h => ?_⟩⟩
    · rw [Bool.not_eq_true] at hf
      simp only [hf, je, if_true]
    · have hi : (S r a (4 * i)).length ≤ i := by
        rcases hp2 with h | ⟨s, hs, e⟩
        · exact h
        · exact absurd ((Jfv (S r a (4 * i)) b).2 ⟨s, List.mem_of_getElem? hs, e⟩) hf
      obtain ⟨m, u, l, hu, hc, -, -⟩ := Qc_short hL ha h
      have hlt : Qc r a = S r a (4 * i) := by
        by_cases h2 : 4 * i ≤ 4 * 67108864
        · exact Jqj r a hi _ h2
        · have h3 := okp.len
          omega
      rw [hlt] at hu
      exact hf ((Jfv _ _).2 ⟨u, List.mem_of_getElem? hu, hc⟩)
end
end Go.Proofs.Ytemehoioeoohmaa
