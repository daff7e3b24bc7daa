/- comb: both ways through a region, in plain Lean. Conditions: none. -/
import Derived.Test.YtemehoioeoohmaaGc
namespace Go.Proofs.Ytemehoioeoohmaa
open Go Go.Vv Go.Proofs
set_option linter.unusedSimpArgs false
set_option linter.unusedVariables false
set_option linter.unusedSectionVars false
/-- The cells from one place of the queue back to the first. -/
inductive Ch (Q : List Seen) : Nat → List Ja → Prop
  | base {s : Seen} : Q[0]? = some s → Ch Q 0 [s.cell]
  | step {j p : Nat} {s : Seen} {l : List Ja} : Q[j]? = some s → 0 < j → s.before = p → Ch Q p l → Ch Q j (s.cell :: l)
theorem Ch.pre {Q Q' : List Seen} (h : Q <+: Q') {j : Nat} {l : List Ja} (hc : Ch Q j l) : Ch Q' j l := by
  induction hc with
  | base hs => exact .base (Jet h hs)
  | step hs h0 hp _ ih => exact .step (Jet h hs) h0 hp ih
theorem Ch.head {Q : List Seen} {j : Nat} {l : List Ja} (hc : Ch Q j l) : ∃ s t, Q[j]? = some s ∧ l = s.cell :: t := by
  cases hc with
  | base hs => exact ⟨_, _, hs, rfl⟩
  | step hs _ _ _ => exact ⟨_, _, hs, rfl⟩
section
variable {r : Jk} {a : Ja} {Q : List Seen} (ok : QOK r a Q)
include ok
theorem Ch.ex : ∀ (n j : Nat), j ≤ n → j < Q.length → ∃ l, Ch Q j l ∧ l.length ≤ j + 1
  | 0, j, hj, hl => by
    have : j = 0 := by omega
    subst this
    exact ⟨_, .base ok.first, by simp⟩
  | n + 1, j, hj, hl => by
    by_cases h0 : j = 0
    · subst h0; exact ⟨_, .base ok.first, by simp⟩
    · obtain ⟨p, hp, hpj⟩ := ok.back j _ (List.getElem?_eq_getElem hl) (by omega)
      obtain ⟨l, hc, hll⟩ := Ch.ex n p (by omega) (by omega)
      exact ⟨_, .step (List.getElem?_eq_getElem hl) (by omega) hp hc, by simp only [List.length_cons]; omega⟩
theorem Jy1 {b : Ja} {J : Nat} {full : List Ja} {s : Seen} (hs : Q[J]? = some s) (hb : s.cell = b) (hf : Ch Q J full) (hlen : full.length ≤ 67108865) :
    ∃ y, Ku (zh a (mp Q)) bigN ((flit ([b] : List Ja)), b) = some y ∧ y.l = full := by
  refine Zp (body := zh a (mp Q)) (fun st => ∃ (j : Nat) (l : List Ja), Ch Q j (st.2 :: l) ∧ st.1.l ++ l = full) (fun st => full.length - st.1.l.length) (fun y => y.l = full) ?_ bigN _ ?_ (Zz (by simp only; omega))
  · rintro ⟨x, c⟩ ⟨j, l, hc, he⟩
    simp only at hc he
    have hlx : x.l.length + l.length = full.length := by rw [← he, List.length_append]
    cases hc with
    | base h0 =>
      right
      rename_i s'
      refine ⟨x, ?_, by simpa using he⟩
      have e : Kv s'.cell a = true := (Jnk _ _).2 (by rw [ok.first] at h0; cases h0; rfl)
      simp only [zh, q_eq, e, Zi, Bool.false_eq_true, if_false]
    | step h0 hj hp hc =>
      rename_i p s'
      left
      obtain ⟨sp, t, hsp, rfl⟩ := hc.head
      have e : Kv s'.cell a = false := by
        rw [← Bool.not_eq_true, Jnk]
        intro e
        have := ok.inj h0 ok.first e
        omega
      have hm : mget Kv (mp Q) s'.cell (⟨0, 0⟩ : Ja) = sp.cell := by
        rw [mp_get ok h0]
        unfold pc
        rw [hp, Int.toNat_natCast, hsp]
        rfl
      have hfit : fits 16 (flen x + 1) = true := Jrr (l := x.l) (by omega) (by omega)
      refine ⟨(Zy x sp.cell, sp.cell), ?_, ⟨p, t, hc, ?_⟩, ?_⟩
      · simp only [zh, q_eq, e, je, if_true, hm, hfit]
      · simp only [Jag]
        rw [← he, List.append_assoc]
        rfl
      · simp only [Jag, List.length_append, List.length_cons, List.length_nil] at hlx ⊢
        omega
  · obtain ⟨s2, t, hs2, rfl⟩ := hf.head
    rw [hs] at hs2
    cases hs2
    subst hb
    exact ⟨J, t, hf, rfl⟩
end
/-- Turning a row round in place. -/
theorem turn_ok (x : FS Ja) (hlen : x.l.length ≤ 67108865) : ∃ y, Qx x = some y ∧ y.l = x.l.reverse := by
  have h := Zp (body := K6) (fun st => ∃ i : Nat, st.2.1 = i ∧ st.2.2 = (x.l.length : Int) - 1 - i ∧ 2 * i ≤ x.l.length + 1 ∧ st.1.l.length = x.l.length ∧
      ∀ k, k < x.l.length → st.1.l[k]? = if k < i ∨ x.l.length ≤ k + i then x.l[x.l.length - 1 - k]? else x.l[k]?) (fun st => (x.l.length - st.2.1).toNat) (fun y => y.l = x.l.reverse) ?_ bigN (x, 0, (isub .i64 (flen x) 1)) ?_ (Zz (by simp only; omega))
  · obtain ⟨y, e, hy⟩ := h
    refine ⟨y, ?_, hy⟩
    unfold Qx
    rw [e]
  · rintro ⟨o, c, d⟩ ⟨i, hc, hd, hi, hl, ho⟩
    simp only at hc hd hl ho
    subst hc hd
    by_cases hlt : 2 * i + 1 < x.l.length
    · left
      have c1 : ilt (i : Int) ((x.l.length : Int) - 1 - i) = true := jf (by omega)
      have ed : (x.l.length : Int) - 1 - i = ((x.l.length - 1 - i : Nat) : Int) := by omega
      rw [ed] at c1 ⊢
      have g1 := Xz (x := o) (i := x.l.length - 1 - i) (by omega)
      have g2 := Xz (x := o) (i := i) (by omega)
      have g3 := Xz (x := fset o (i : Int) (o.l[x.l.length - 1 - i]'(by omega))) (i := x.l.length - 1 - i) (by rw [Jfq, List.length_set]; omega)
      refine ⟨(fset (fset o (i : Int) (o.l[x.l.length - 1 - i]'(by omega))) ((x.l.length - 1 - i : Nat) : Int) (o.l[i]'(by omega)), ((i + 1 : Nat) : Int), (x.l.length : Int) - 1 - ((i + 1 : Nat) : Int)), ?_, ⟨i + 1, rfl, rfl, by omega, ?_, ?_⟩, by simp only; omega⟩
      · have e3 : isub .i64 ((x.l.length - 1 - i : Nat) : Int) 1 = (x.l.length : Int) - 1 - ((i + 1 : Nat) : Int) := by rw [jr (by omega) (by omega)]; omega
        simp only [K6, c1, if_true, g1, g2, g3, z8 (i := i) (by omega), e3]
      · simp only [Jfq, List.length_set]; exact hl
      · intro k hk
        simp only [Jfq, Int.toNat_natCast]
        rw [List.getElem?_set, List.getElem?_set, List.length_set]
        have e1 : o.l[i]'(by omega) = x.l[i]'(by omega) := by
          have h := ho i (by omega)
          rw [if_neg (by omega), List.getElem?_eq_getElem (by omega), List.getElem?_eq_getElem (by omega)] at h
          exact Option.some.inj h
        have e2 : o.l[x.l.length - 1 - i]'(by omega) = x.l[x.l.length - 1 - i]'(by omega) := by
          have h := ho (x.l.length - 1 - i) (by omega)
          rw [if_neg (by omega), List.getElem?_eq_getElem (by omega), List.getElem?_eq_getElem (by omega)] at h
          exact Option.some.inj h
        by_cases k1 : x.l.length - 1 - i = k
        · rw [if_pos k1, if_pos (by omega), if_pos (by omega), e1]
          have : x.l.length - 1 - k = i := by omega
          rw [this, List.getElem?_eq_getElem (by omega)]
        · rw [if_neg k1]
          by_cases k2 : i = k
          · rw [if_pos k2, if_pos (by omega), if_pos (by omega), e2]
            subst k2
            rw [List.getElem?_eq_getElem (by omega)]
          · rw [if_neg k2, ho k hk]
            by_cases k3 : k < i ∨ x.l.length ≤ k + i
            · rw [if_pos k3, if_pos (by omega)]
            · rw [if_neg k3, if_neg (by omega)]
    · right
      have c1 : ilt (i : Int) ((x.l.length : Int) - 1 - i) = false := Zs (by omega)
      refine ⟨o, ?_, ?_⟩
      · simp only [K6, c1, Bool.false_eq_true, if_false]
      · apply List.ext_getElem?
        intro k
        by_cases hk : k < x.l.length
        · rw [ho k hk, List.getElem?_reverse hk]
          by_cases k3 : k < i ∨ x.l.length ≤ k + i
          · rw [if_pos k3]
          · rw [if_neg k3]
            have : x.l.length - 1 - k = k := by omega
            rw [this]
        · rw [List.getElem?_eq_none (by omega), List.getElem?_eq_none (by rw [List.length_reverse]; omega)]
  · refine ⟨0, rfl, ?_, by omega, rfl, fun k hk => ?_⟩
    · simp only
      rw [Ka, jr (by omega) (by omega)]
      omega
    · rw [if_neg (by omega)]
end Go.Proofs.Ytemehoioeoohmaa
