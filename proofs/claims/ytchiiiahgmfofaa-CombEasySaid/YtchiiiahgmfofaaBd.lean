/- comb: both ways through a region, in plain Lean. Conditions: none. -/
import Derived.Test.YtchiiiahgmfofaaBc
namespace Go.Proofs.Ytchiiiahgmfofaa
open Go Go.Vv Go.Proofs
set_option linter.unusedSimpArgs false
set_option linter.unusedVariables false
set_option linter.unusedSectionVars false
/-- The cells from one place of the queue back to the first. -/
inductive Ch (Q : List Seen) : Nat → List api_Cell → Prop
  | base {s : Seen} : Q[0]? = some s → Ch Q 0 [s.cell]
  | step {j p : Nat} {s : Seen} {l : List api_Cell} : Q[j]? = some s → 0 < j → s.before = p → Ch Q p l → Ch Q j (s.cell :: l)
theorem Ch.det {Q : List Seen} {j : Nat} {l m : List api_Cell} (h : Ch Q j l) : Ch Q j m → l = m := by
  induction h generalizing m with
  | base hs =>
    intro h2
    cases h2 with
    | base hs2 => rw [hs] at hs2; cases hs2; rfl
    | step _ h0 _ _ => exact absurd h0 (by omega)
  | step hs h0 hp hc ih =>
    intro h2
    cases h2 with
    | base hs2 => exact absurd h0 (by omega)
    | step hs2 h02 hp2 hc2 =>
      rw [hs] at hs2
      cases hs2
      rw [hp] at hp2
      have := Int.ofNat_inj.1 hp2
      subst this
      rw [ih hc2]
theorem Ch.pre {Q Q' : List Seen} (h : Q <+: Q') {j : Nat} {l : List api_Cell} (hc : Ch Q j l) : Ch Q' j l := by
  induction hc with
  | base hs => exact .base (pre_get h hs)
  | step hs h0 hp _ ih => exact .step (pre_get h hs) h0 hp ih
theorem Ch.head {Q : List Seen} {j : Nat} {l : List api_Cell} (hc : Ch Q j l) : ∃ s t, Q[j]? = some s ∧ l = s.cell :: t := by
  cases hc with
  | base hs => exact ⟨_, _, hs, rfl⟩
  | step hs _ _ _ => exact ⟨_, _, hs, rfl⟩
section
variable {r : api_Region} {a : api_Cell} {Q : List Seen} (ok : QOK r a Q)
include ok
theorem Ch.ex : ∀ (n j : Nat), j ≤ n → j < Q.length → ∃ l, Ch Q j l ∧ l.length ≤ j + 1
  | 0, j, hj, hl => by
    have : j = 0 := by omega
    subst this
    exact ⟨_, .base ok.first, by simp⟩
  | n + 1, j, hj, hl => by
    by_cases h0 : j = 0
    · subst h0; exact ⟨_, .base ok.first, by simp⟩
    · obtain ⟨p, hp, hpj⟩ := ok.back j _ (List.getElem?_eq_getElem hl) (by omega)
      obtain ⟨l, hc, hll⟩ := Ch.ex n p (by omega) (by omega)
      exact ⟨_, .step (List.getElem?_eq_getElem hl) (by omega) hp hc, by simp only [List.length_cons]; omega⟩
theorem prog_back {b : api_Cell} {J : Nat} {full : List api_Cell} {s : Seen} (hs : Q[J]? = some s) (hb : s.cell = b) (hf : Ch Q J full) (hlen : full.length ≤ 67108865) :
    ∃ y, loopT (t_comb_Path_L0 a (mp Q)) bigN ((flit ([b] : List api_Cell)), b) = some y ∧ y.l = full := by
  refine loop_ok (body := t_comb_Path_L0 a (mp Q)) (fun st => ∃ (j : Nat) (l : List api_Cell), Ch Q j (st.2 :: l) ∧ st.1.l ++ l = full) (fun st => full.length - st.1.l.length) (fun y => y.l = full) ?_ bigN _ ?_ (bigN_gt (by simp only; omega))
  · rintro ⟨x, c⟩ ⟨j, l, hc, he⟩
    simp only at hc he
    have hlx : x.l.length + l.length = full.length := by rw [← he, List.length_append]
    cases hc with
    | base h0 =>
      right
      rename_i s'
      refine ⟨x, ?_, by simpa using he⟩
      have e : q_api_Cell s'.cell a = true := (q_iff _ _).2 (by rw [ok.first] at h0; cases h0; rfl)
      simp only [t_comb_Path_L0, q_eq, e, bnot_t, Bool.false_eq_true, if_false]
    | step h0 hj hp hc =>
      rename_i p s'
      left
      obtain ⟨sp, t, hsp, rfl⟩ := hc.head
      have e : q_api_Cell s'.cell a = false := by
        rw [← Bool.not_eq_true, q_iff]
        intro e
        have := ok.inj h0 ok.first e
        omega
      have hm : mget q_api_Cell (mp Q) s'.cell (⟨0, 0⟩ : api_Cell) = sp.cell := by
        rw [mp_get ok h0]
        unfold pc
        rw [hp, Int.toNat_natCast, hsp]
        rfl
      have hfit : fits 16 (flen x + 1) = true := fits_len (l := x.l) (by omega) (by omega)
      refine ⟨(fsnoc x sp.cell, sp.cell), ?_, ⟨p, t, hc, ?_⟩, ?_⟩
      · simp only [t_comb_Path_L0, q_eq, e, bnot_f, if_true, hm, hfit]
      · simp only [fsnoc_l]
        rw [← he, List.append_assoc]
        rfl
      · simp only [fsnoc_l, List.length_append, List.length_cons, List.length_nil] at hlx ⊢
        omega
  · obtain ⟨s2, t, hs2, rfl⟩ := hf.head
    rw [hs] at hs2
    cases hs2
    subst hb
    exact ⟨J, t, hf, rfl⟩
theorem ref_back {x : FS Seen} (hx : x.l = Q) {J : Nat} {full : List api_Cell} (hf : Ch Q J full) (hlen : full.length ≤ 67108865) (hJ : J < Q.length) (hq : Q.length ≤ 67108864) :
    ∃ y, loopT (t_additiveref34_Path_L0 x) bigN ((FS.nil : FS api_Cell), (J : Int)) = some y ∧ y.l = full := by
  refine loop_ok (body := t_additiveref34_Path_L0 x) (fun st => (st.2 = -1 ∧ st.1.l = full) ∨ ∃ (j : Nat) (l : List api_Cell), st.2 = j ∧ Ch Q j l ∧ st.1.l ++ l = full) (fun st => full.length - st.1.l.length) (fun y => y.l = full) ?_ bigN _ ?_ (bigN_gt (by simp only; omega))
  · rintro ⟨o, c⟩ h
    simp only at h
    rcases h with ⟨rfl, ho⟩ | ⟨j, l, rfl, hc, he⟩
    · right
      refine ⟨o, ?_, ho⟩
      simp only [t_additiveref34_Path_L0, show ige (-1) 0 = false from rfl, Bool.false_eq_true, if_false]
    · left
      have c1 : ige (j : Int) 0 = true := ige_iff.2 (by omega)
      have hlx : o.l.length + l.length = full.length := by rw [← he, List.length_append]
      have hfit : fits 16 (flen o + 1) = true := fits_len (l := o.l) (by omega) (by omega)
      cases hc with
      | base h0 =>
        rename_i s'
        have g : fget x ((0 : Nat) : Int) = some s' := fget_nat (by rw [hx]; exact h0)
        rw [ok.first] at h0
        cases h0
        refine ⟨(fsnoc o a, -1), ?_, .inl ⟨rfl, he⟩, ?_⟩
        · simp only [t_additiveref34_Path_L0, c1, if_true, g, hfit]
        · simp only [fsnoc_l, List.length_append, List.length_cons, List.length_nil] at hlx ⊢
          omega
      | step h0 hj hp hc =>
        rename_i p s' l'
        have g : fget x (j : Int) = some s' := fget_nat (by rw [hx]; exact h0)
        refine ⟨(fsnoc o s'.cell, s'.before), ?_, .inr ⟨p, l', hp, hc, ?_⟩, ?_⟩
        · simp only [t_additiveref34_Path_L0, c1, if_true, g, hfit]
        · simp only [fsnoc_l]
          rw [← he, List.append_assoc]
          rfl
        · simp only [fsnoc_l, List.length_append, List.length_cons, List.length_nil] at hlx ⊢
          omega
  · exact .inr ⟨J, full, rfl, hf, rfl⟩
end
/-- The reference's turning round. -/
theorem ref_turn (x : FS api_Cell) (hlen : x.l.length ≤ 67108865) : ∃ y, loopT (t_additiveref34_Path_L1 x) bigN ((FS.nil : FS api_Cell), (isub .i64 (flen x) 1)) = some y ∧ y.l = x.l.reverse := by
  refine loop_ok (body := t_additiveref34_Path_L1 x) (fun st => ∃ k : Nat, st.2 = (k : Int) - 1 ∧ k ≤ x.l.length ∧ st.1.l = (x.l.drop k).reverse) (fun st => (st.2 + 1).toNat) (fun y => y.l = x.l.reverse) ?_ bigN _ ?_ (bigN_gt (by simp only; rw [flen_eq, isub_eq (by omega) (by omega)]; omega))
  · rintro ⟨o, c⟩ ⟨k, hc, hk, ho⟩
    simp only at hc ho
    subst hc
    cases k with
    | zero =>
      right
      refine ⟨o, ?_, by rw [ho]; rfl⟩
      simp only [t_additiveref34_Path_L1, show ige (((0 : Nat) : Int) - 1) 0 = false from rfl, Bool.false_eq_true, if_false]
    | succ k =>
      left
      have ek : ((k + 1 : Nat) : Int) - 1 = (k : Int) := by omega
      rw [ek]
      have c1 : ige (k : Int) 0 = true := ige_iff.2 (by omega)
      have g := fget_at (x := x) (i := k) (by omega)
      have hol : o.l.length ≤ 67108865 := by rw [ho, List.length_reverse, List.length_drop]; omega
      have hfit : fits 16 (flen o + 1) = true := fits_len (l := o.l) (by omega) (by omega)
      refine ⟨(fsnoc o x.l[k], (k : Int) - 1), ?_, ⟨k, rfl, by omega, ?_⟩, by simp only; omega⟩
      · simp only [t_additiveref34_Path_L1, c1, if_true, g, hfit, isub_eq (a := (k : Int)) (b := 1) (by omega) (by omega)]
      · simp only [fsnoc_l, ho]
        rw [List.drop_eq_getElem_cons (i := k) (by omega), List.reverse_cons]
  · refine ⟨x.l.length, ?_, Nat.le_refl _, by simp [FS.l]⟩
    simp only
    rw [flen_eq, isub_eq (by omega) (by omega)]
/-- Turning a row round in place. -/
theorem turn_ok (x : FS api_Cell) (hlen : x.l.length ≤ 67108865) : ∃ y, t_slices_Reverse_api_Cell_api_Cell x = some y ∧ y.l = x.l.reverse := by
  have h := loop_ok (body := t_slices_Reverse_api_Cell_api_Cell_L0) (fun st => ∃ i : Nat, st.2.1 = i ∧ st.2.2 = (x.l.length : Int) - 1 - i ∧ 2 * i ≤ x.l.length + 1 ∧ st.1.l.length = x.l.length ∧
      ∀ k, k < x.l.length → st.1.l[k]? = if k < i ∨ x.l.length ≤ k + i then x.l[x.l.length - 1 - k]? else x.l[k]?) (fun st => (x.l.length - st.2.1).toNat) (fun y => y.l = x.l.reverse) ?_ bigN (x, 0, (isub .i64 (flen x) 1)) ?_ (bigN_gt (by simp only; omega))
  · obtain ⟨y, e, hy⟩ := h
    refine ⟨y, ?_, hy⟩
    unfold t_slices_Reverse_api_Cell_api_Cell
    rw [e]
  · rintro ⟨o, c, d⟩ ⟨i, hc, hd, hi, hl, ho⟩
    simp only at hc hd hl ho
    subst hc hd
    by_cases hlt : 2 * i + 1 < x.l.length
    · left
      have c1 : ilt (i : Int) ((x.l.length : Int) - 1 - i) = true := ilt_tt (by omega)
      have ed : (x.l.length : Int) - 1 - i = ((x.l.length - 1 - i : Nat) : Int) := by omega
      rw [ed] at c1 ⊢
      have g1 := fget_at (x := o) (i := x.l.length - 1 - i) (by omega)
      have g2 := fget_at (x := o) (i := i) (by omega)
      have g3 := fget_at (x := fset o (i : Int) (o.l[x.l.length - 1 - i]'(by omega))) (i := x.l.length - 1 - i) (by rw [fset_l, List.length_set]; omega)
      refine ⟨(fset (fset o (i : Int) (o.l[x.l.length - 1 - i]'(by omega))) ((x.l.length - 1 - i : Nat) : Int) (o.l[i]'(by omega)), ((i + 1 : Nat) : Int), (x.l.length : Int) - 1 - ((i + 1 : Nat) : Int)), ?_, ⟨i + 1, rfl, rfl, by omega, ?_, ?_⟩, by simp only; omega⟩
      · have e3 : isub .i64 ((x.l.length - 1 - i : Nat) : Int) 1 = (x.l.length : Int) - 1 - ((i + 1 : Nat) : Int) := by rw [isub_eq (by omega) (by omega)]; omega
        simp only [t_slices_Reverse_api_Cell_api_Cell_L0, c1, if_true, g1, g2, g3, isucc (i := i) (by omega), e3]
      · simp only [fset_l, List.length_set]; exact hl
      · intro k hk
        simp only [fset_l, Int.toNat_natCast]
        rw [List.getElem?_set, List.getElem?_set, List.length_set]
        have e1 : o.l[i]'(by omega) = x.l[i]'(by omega) := by
          have h := ho i (by omega)
          rw [if_neg (by omega), List.getElem?_eq_getElem (by omega), List.getElem?_eq_getElem (by omega)] at h
          exact Option.some.inj h
        have e2 : o.l[x.l.length - 1 - i]'(by omega) = x.l[x.l.length - 1 - i]'(by omega) := by
          have h := ho (x.l.length - 1 - i) (by omega)
          rw [if_neg (by omega), List.getElem?_eq_getElem (by omega), List.getElem?_eq_getElem (by omega)] at h
          exact Option.some.inj h
        by_cases k1 : x.l.length - 1 - i = k
        · rw [if_pos k1, if_pos (by omega), if_pos (by omega), e1]
          have : x.l.length - 1 - k = i := by omega
          rw [this, List.getElem?_eq_getElem (by omega)]
        · rw [if_neg k1]
          by_cases k2 : i = k
          · rw [if_pos k2, if_pos (by omega), if_pos (by omega), e2]
            subst k2
            rw [List.getElem?_eq_getElem (by omega)]
          · rw [if_neg k2, ho k hk]
            by_cases k3 : k < i ∨ x.l.length ≤ k + i
            · rw [if_pos k3, if_pos (by omega)]
            · rw [if_neg k3, if_neg (by omega)]
    · right
      have c1 : ilt (i : Int) ((x.l.length : Int) - 1 - i) = false := ilt_ff (by omega)
      refine ⟨o, ?_, ?_⟩
      · simp only [t_slices_Reverse_api_Cell_api_Cell_L0, c1, Bool.false_eq_true, if_false]
      · apply List.ext_getElem?
        intro k
        by_cases hk : k < x.l.length
        · rw [ho k hk, List.getElem?_reverse hk]
          by_cases k3 : k < i ∨ x.l.length ≤ k + i
          · rw [if_pos k3]
          · rw [if_neg k3]
            have : x.l.length - 1 - k = k := by omega
            rw [this]
        · rw [List.getElem?_eq_none (by omega), List.getElem?_eq_none (by rw [List.length_reverse]; omega)]
  · refine ⟨0, rfl, ?_, by omega, rfl, fun k hk => ?_⟩
    · simp only
      rw [flen_eq, isub_eq (by omega) (by omega)]
      omega
    · rw [if_neg (by omega)]
end Go.Proofs.Ytchiiiahgmfofaa
