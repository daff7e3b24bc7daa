/- comb: the reference's easy way is the program's; CombEasy. Conditions: none. -/
import Derived.Test.YtchiiiahgmfofaaEe
namespace Go.Proofs.Ytchiiiahgmfofaa
open Go Go.Vv Go.Proofs
set_option linter.unusedSimpArgs false
set_option linter.unusedVariables false
set_option linter.unusedSectionVars false
def kin (i : Nat) : Int := if i < 4 then (i : Int) else -1
theorem V_small {r : api_Region} {b c : api_Cell} {n w : Nat} (h : Dst r b n (nbr c w)) (hn : n ≤ 67108864) : V r b (n + 1) c w ≤ 67108866 := by
  rw [V, if_pos h]
  cases n with
  | zero => rw [if_pos rfl]; omega
  | succ n =>
    rw [if_neg (by omega)]
    obtain ⟨i, ks, hi, -, -, -, -, -, hl, e⟩ := ew_ok r b n (nbr c w) w (by omega) h
    have h1 := tk_le (i :: ks)
    have h2 := (pen_le w i).2
    simp only [List.length_cons] at h1
    rw [e]
    omega
/-- The fewest turns, by the direction in which a cell is entered. -/
noncomputable def TT (r : api_Region) (b : api_Cell) (m : Nat) (c : api_Cell) : A5 Int :=
  if m = 0 then ⟨0, 0, 0, 0, 0⟩ else ⟨(beh (V r b m c) 0).1, (beh (V r b m c) 1).1, (beh (V r b m c) 2).1, (beh (V r b m c) 3).1, (beh (V r b m c) (-1)).1⟩
theorem TT_get {r : api_Region} {b : api_Cell} {m : Nat} {c : api_Cell} {w : Nat} (hw : w < 4) : A5.get (TT r b m c) (w : Int) = if m = 0 then 0 else (beh (V r b m c) w).1 := by
  have : w = 0 ∨ w = 1 ∨ w = 2 ∨ w = 3 := by omega
  unfold TT
  by_cases h0 : m = 0
  · rw [if_pos h0, if_pos h0]
    rcases this with rfl | rfl | rfl | rfl <;> simp [A5.get]
  · rw [if_neg h0, if_neg h0]
    rcases this with rfl | rfl | rfl | rfl <;> simp [A5.get]
theorem TT_kin {r : api_Region} {b : api_Cell} {m : Nat} {c : api_Cell} {i : Nat} (hi : i < 5) (hm : m ≠ 0) : A5.get (TT r b m c) (i : Int) = (beh (V r b m c) (kin i)).1 := by
  have : i = 0 ∨ i = 1 ∨ i = 2 ∨ i = 3 ∨ i = 4 := by omega
  unfold TT
  rw [if_neg hm]
  rcases this with rfl | rfl | rfl | rfl | rfl <;> simp [A5.get, kin]
theorem get_set5 {α : Type} (v : A5 α) (u : α) {w k : Nat} (hw : w < 5) (hk : k < 5) : A5.get (A5.set v (w : Int) u) (k : Int) = if k = w then u else A5.get v (k : Int) := by
  have h1 : w = 0 ∨ w = 1 ∨ w = 2 ∨ w = 3 ∨ w = 4 := by omega
  have h2 : k = 0 ∨ k = 1 ∨ k = 2 ∨ k = 3 ∨ k = 4 := by omega
  rcases h1 with rfl | rfl | rfl | rfl | rfl <;> rcases h2 with rfl | rfl | rfl | rfl | rfl <;> simp [A5.get, A5.set]
theorem ext5 {α : Type} {u v : A5 α} (h : ∀ k, k < 5 → A5.get u ((k : Nat) : Int) = A5.get v (k : Int)) : u = v := by
  obtain ⟨u0, u1, u2, u3, u4⟩ := u
  obtain ⟨v0, v1, v2, v3, v4⟩ := v
  have h0 := h 0 (by omega)
  have h1 := h 1 (by omega)
  have h2 := h 2 (by omega)
  have h3 := h 3 (by omega)
  have h4 := h 4 (by omega)
  simp [A5.get] at h0 h1 h2 h3 h4
  simp [h0, h1, h2, h3, h4]
section
variable {r : api_Region} (hL : Lim r) {b : api_Cell} (hb : In r b) {x : FS api_Cell} (hm : ∀ c, c ∈ x.l ↔ In r c) (hlen : x.l.length ≤ 13107200) {t : FS (A4 Int)} (ht : t.l.length = x.l.length) (hrow : ∀ i, RowT x.l t i 4)
include hL hb hm hlen ht hrow
theorem dst_le {c : api_Cell} {n : Nat} (h : Dst r b n c) : n ≤ 67108864 := by
  obtain ⟨m, u, hu, hcu⟩ := Qc_has hL hb h
  obtain ⟨-, -, -, -, h'⟩ := Qc_dd hL hb hu
  rw [hcu, dd_eq h] at h'; exact h'
theorem easiest_ok {st : FS Int} {tu : FS (A5 Int)} {c : api_Cell} {n : Nat} (hd : Dst r b (n + 1) c) (hst : st.l[sp x.l c]? = some ((n + 1 : Nat) : Int))
    (hnb : ∀ w, w < 4 → In r (nbr c w) → ∃ s v, st.l[sp x.l (nbr c w)]? = some s ∧ tu.l[sp x.l (nbr c w)]? = some v ∧ (s = (n : Int) ↔ Dst r b n (nbr c w)) ∧ (Dst r b n (nbr c w) → A5.get v (w : Int) = V r b (n + 1) c w))
    (i : Nat) (hi : i < 5) : t_additiveref34_easiest t st tu (sp x.l c : Int) (i : Int) = some ((beh (V r b (n + 1) c) (kin i)).2, (beh (V r b (n + 1) c) (kin i)).1) := by
  have hnb' := dst_le hL hb hm hlen ht hrow hd
  obtain ⟨v, hv, hg⟩ := next_ok hm hrow hd.1.inr
  have e1 : isub .i64 ((n + 1 : Nat) : Int) 1 = (n : Int) := by rw [isub_eq (by omega) (by omega)]; omega
  have hk : ∀ w : Nat, w < 4 → (band (ilt (i : Int) 4) (ine (i : Int) (w : Int)) = true ↔ (0 ≤ kin i ∧ (w : Int) ≠ kin i)) := fun w hw => by
    rw [band_iff, ilt_iff, ine_iff]
    unfold kin
    by_cases h4 : i < 4
    · rw [if_pos h4]; omega
    · rw [if_neg h4]; omega
  obtain ⟨y, e, hy⟩ := loop_ok (body := t_additiveref34_easiest_L0 t st tu (sp x.l c : Int) (i : Int))
    (fun s => ∃ w : Nat, s.2.2 = w ∧ w ≤ 4 ∧ ((s.1 = -1 ∧ bfold (V r b (n + 1) c) (kin i) w = (never, 0)) ∨ (0 ≤ s.1 ∧ bfold (V r b (n + 1) c) (kin i) w = (s.2.1, s.1)))) (fun s => (4 - s.2.2).toNat)
    (fun y => (y.1 = -1 ∧ beh (V r b (n + 1) c) (kin i) = (never, 0)) ∨ (0 ≤ y.1 ∧ beh (V r b (n + 1) c) (kin i) = (y.2, y.1)))
    (by
      rintro ⟨way, least, w'⟩ ⟨w, hw', hw, hI⟩
      simp only at hw' hI
      subst hw'
      by_cases h4 : w < 4
      case neg =>
        right
        have : w = 4 := by omega
        subst this
        have c1 : ilt ((4 : Nat) : Int) 4 = false := ilt_ff (by omega)
        exact ⟨(way, least), by simp only [t_additiveref34_easiest_L0, c1, Bool.false_eq_true, if_false], hI⟩
      left
      have c1 : ilt (w : Int) 4 = true := ilt_tt (by omega)
      have c2 : inB (w : Int) 4 = true := by rw [inB_iff]; omega
      have c5 : inB (w : Int) 5 = true := by rw [inB_iff]; omega
      have hgw := hg w h4
      have hpl := pen_le (kin i) w
      have skip : V r b (n + 1) c w = never → bfold (V r b (n + 1) c) (kin i) (w + 1) = bfold (V r b (n + 1) c) (kin i) w := fun h => by
        have := bfold_le (V r b (n + 1) c) (kin i) w
        simp only [bfold, bstep]
        rw [if_neg (by rw [h]; omega)]
      have stay : V r b (n + 1) c w = never → ((way = -1 ∧ bfold (V r b (n + 1) c) (kin i) (w + 1) = (never, 0)) ∨ (0 ≤ way ∧ bfold (V r b (n + 1) c) (kin i) (w + 1) = (least, way))) := fun h => by rw [skip h]; exact hI
      by_cases hin : In r (nbr c w)
      · obtain ⟨q1, q2, q3⟩ := spz_in hm hin
        rw [q1] at hgw
        have c3 : ilt (sp x.l (nbr c w) : Int) 0 = false := ilt_ff (by omega)
        obtain ⟨s, u, hs, hu, hsd, hval⟩ := hnb w h4 hin
        by_cases hD : Dst r b n (nbr c w)
        · have hsn := hsd.2 hD
          subst hsn
          have hV := hval hD
          have hVs := V_small hD (by omega)
          have hVb := (V_bound r b (n + 1) c w).1
          have c4 : ine (n : Int) (n : Int) = false := by simp [ine]
          have ha : iadd .i64 (V r b (n + 1) c w) 1 = V r b (n + 1) c w + 1 := iadd_eq (by omega) (by omega)
          have step : ∀ m : Int, m = V r b (n + 1) c w + pen (kin i) w → ((bor (ilt way 0) (ilt m least) = true → bfold (V r b (n + 1) c) (kin i) (w + 1) = (m, (w : Int))) ∧ (bor (ilt way 0) (ilt m least) = false → 0 ≤ way ∧ bfold (V r b (n + 1) c) (kin i) (w + 1) = (least, way))) := fun m hmv => by
            subst hmv
            rcases hI with ⟨h1, h2⟩ | ⟨h1, h2⟩
            · have : bor (ilt way 0) (ilt (V r b (n + 1) c w + pen (kin i) w) least) = true := by rw [bor_iff, ilt_iff]; left; omega
              refine ⟨fun _ => ?_, fun h => by rw [this] at h; cases h⟩
              simp only [bfold, bstep, h2]
              rw [if_pos (by unfold never; omega)]
            · have hlt : ilt way 0 = false := ilt_ff (by omega)
              simp only [bfold, bstep, h2, hlt, bor_f]
              refine ⟨fun h => ?_, fun h => ⟨h1, ?_⟩⟩
              · rw [if_pos (ilt_iff.1 h)]
              · rw [if_neg (fun hh => by rw [ilt_tt hh] at h; cases h)]
          by_cases hp : 0 ≤ kin i ∧ (w : Int) ≠ kin i
          · have hpe : pen (kin i) w = 1 := by unfold pen; rw [if_pos hp]
            have c6 := (hk w h4).2 hp
            have hst' := step (V r b (n + 1) c w + 1) (by rw [hpe])
            cases hbo : bor (ilt way 0) (ilt (V r b (n + 1) c w + 1) least) with
            | true =>
              refine ⟨((w : Int), V r b (n + 1) c w + 1, ((w + 1 : Nat) : Int)), ?_, ⟨w + 1, rfl, by omega, .inr ⟨by simp only; omega, hst'.1 hbo⟩⟩, by simp only; omega⟩
              simp only [t_additiveref34_easiest_L0, c1, if_true, fget_nat hv, c2, hgw, c3, bnot_f, gOpt_tt, fget_nat hs, fget_nat hst, Option.getD_some, e1, c4, bor_f, Bool.false_eq_true, if_false, fget_nat hu, c5, c6, hV, ha, hbo, isucc (i := w) (by omega)]
            | false =>
              refine ⟨(way, least, ((w + 1 : Nat) : Int)), ?_, ⟨w + 1, rfl, by omega, .inr (hst'.2 hbo)⟩, by simp only; omega⟩
              simp only [t_additiveref34_easiest_L0, c1, if_true, fget_nat hv, c2, hgw, c3, bnot_f, gOpt_tt, fget_nat hs, fget_nat hst, Option.getD_some, e1, c4, bor_f, Bool.false_eq_true, if_false, fget_nat hu, c5, c6, hV, ha, hbo, isucc (i := w) (by omega)]
          · have hpe : pen (kin i) w = 0 := by unfold pen; rw [if_neg hp]
            have c6 : band (ilt (i : Int) 4) (ine (i : Int) (w : Int)) = false := by rw [← Bool.not_eq_true, hk w h4]; exact hp
            have hst' := step (V r b (n + 1) c w) (by rw [hpe, Int.add_zero])
            cases hbo : bor (ilt way 0) (ilt (V r b (n + 1) c w) least) with
            | true =>
              refine ⟨((w : Int), V r b (n + 1) c w, ((w + 1 : Nat) : Int)), ?_, ⟨w + 1, rfl, by omega, .inr ⟨by simp only; omega, hst'.1 hbo⟩⟩, by simp only; omega⟩
              simp only [t_additiveref34_easiest_L0, c1, if_true, fget_nat hv, c2, hgw, c3, bnot_f, gOpt_tt, fget_nat hs, fget_nat hst, Option.getD_some, e1, c4, bor_f, Bool.false_eq_true, if_false, fget_nat hu, c5, c6, hV, ha, hbo, isucc (i := w) (by omega)]
            | false =>
              refine ⟨(way, least, ((w + 1 : Nat) : Int)), ?_, ⟨w + 1, rfl, by omega, .inr (hst'.2 hbo)⟩, by simp only; omega⟩
              simp only [t_additiveref34_easiest_L0, c1, if_true, fget_nat hv, c2, hgw, c3, bnot_f, gOpt_tt, fget_nat hs, fget_nat hst, Option.getD_some, e1, c4, bor_f, Bool.false_eq_true, if_false, fget_nat hu, c5, c6, hV, ha, hbo, isucc (i := w) (by omega)]
        · have hsn : ¬ s = (n : Int) := fun h => hD (hsd.1 h)
          have c4 : ine s (n : Int) = true := by rw [ine_iff]; exact hsn
          have hV : V r b (n + 1) c w = never := by rw [V, if_neg hD]
          refine ⟨(way, least, ((w + 1 : Nat) : Int)), ?_, ⟨w + 1, rfl, by omega, stay hV⟩, by simp only; omega⟩
          simp only [t_additiveref34_easiest_L0, c1, if_true, fget_nat hv, c2, hgw, c3, bnot_f, gOpt_tt, fget_nat hs, fget_nat hst, Option.getD_some, e1, c4, bor_f, isucc (i := w) (by omega)]
      · rw [spz_out hm hin] at hgw
        have hV : V r b (n + 1) c w = never := by rw [V, if_neg fun h => hin h.1.inr]
        refine ⟨(way, least, ((w + 1 : Nat) : Int)), ?_, ⟨w + 1, rfl, by omega, stay hV⟩, by simp only; omega⟩
        simp only [t_additiveref34_easiest_L0, c1, if_true, fget_nat hv, c2, hgw, show ilt (-1) 0 = true from rfl, bnot_t, gOpt_ff, bor_t, isucc (i := w) (by omega)])
    bigN (-1, 0, 0) ⟨0, rfl, by omega, .inl ⟨rfl, rfl⟩⟩ (bigN_gt (by simp only; omega))
  unfold t_additiveref34_easiest
  rw [e]
  rcases hy with ⟨-, h⟩ | ⟨-, h⟩
  · exfalso
    obtain ⟨j, ks, -, -, -, -, -, -, hl, e2⟩ := ew_ok r b n c (kin i) (by omega) hd
    have h1 := tk_le (j :: ks)
    have h2 := (pen_le (kin i) j).2
    simp only [List.length_cons] at h1
    rw [h] at e2
    unfold never at e2
    omega
  · rw [h]
def Good (r : api_Region) (b : api_Cell) (x : FS api_Cell) (st : FS Int) (tu : FS (A5 Int)) (c : api_Cell) (m : Nat) : Prop := st.l[sp x.l c]? = some (m : Int) ∧ tu.l[sp x.l c]? = some (TT r b m c)
def Fresh (x : FS api_Cell) (st : FS Int) (tu : FS (A5 Int)) (c : api_Cell) : Prop := st.l[sp x.l c]? = some (-1) ∧ tu.l[sp x.l c]? = some ⟨0, 0, 0, 0, 0⟩
structure Fill (r : api_Region) (b : api_Cell) (x : FS api_Cell) (D : Nat) (at' : Nat → Prop) (st : FS Int) (tu : FS (A5 Int)) : Prop where
  l1 : st.l.length = x.l.length
  l2 : tu.l.length = x.l.length
  all : ∀ c, In r c → (∃ m, m < D ∧ Dst r b m c ∧ Good r b x st tu c m) ∨ (Dst r b D c ∧ at' (sp x.l c) ∧ Good r b x st tu c D) ∨ ((∀ m, m < D → ¬ Dst r b m c) ∧ ¬ at' (sp x.l c) ∧ Fresh x st tu c)
/-- One cell of a ring. -/
theorem fill_cell (a : api_Cell) (o : FS (FS Int)) (D i : Nat) {at' : Nat → Prop} {st : FS Int} {tu : FS (A5 Int)} (hF : Fill r b x D at' st tu) {c : api_Cell} (hc : Dst r b D c) :
    ∃ y : FS Int × FS (A5 Int), loopT (t_additiveref34_Easy_L1 a b x t o (D : Int) (i : Int) (sp x.l c : Int)) bigN (fset st (sp x.l c : Int) (D : Int), tu, 0) = some y ∧ Fill r b x D (fun z => at' z ∨ z = sp x.l c) y.1 y.2 := by
  have hsc := spz_in hm hc.1.inr
  have hDb := dst_le hL hb hm hlen ht hrow hc
  have hs1 : sp x.l c < st.l.length := by rw [hF.l1]; exact hsc.2.1
  have hs2 : sp x.l c < tu.l.length := by rw [hF.l2]; exact hsc.2.1
  have hne : ∀ c', In r c' → c' ≠ c → sp x.l c' ≠ sp x.l c := fun c' h1 h2 e => h2 (sp_inj ((hm _).2 h1) ((hm _).2 hc.1.inr) e)
  have hstc : (fset st (sp x.l c : Int) (D : Int)).l[sp x.l c]? = some (D : Int) := by
    simp only [fset_l, Int.toNat_natCast]; rw [List.getElem?_set, if_pos rfl, if_pos hs1]
  have hsto : ∀ z, z ≠ sp x.l c → (fset st (sp x.l c : Int) (D : Int)).l[z]? = st.l[z]? := fun z hz => by
    simp only [fset_l, Int.toNat_natCast]; rw [List.getElem?_set, if_neg (Ne.symm hz)]
  have hv0 : ∃ v0, tu.l[sp x.l c]? = some v0 ∧ (D = 0 → v0 = ⟨0, 0, 0, 0, 0⟩) := by
    rcases hF.all c hc.1.inr with ⟨m, hm1, hm2, -⟩ | ⟨-, -, hg⟩ | ⟨-, -, hf⟩
    · have := hm2.uniq hc; omega
    · exact ⟨_, hg.2, fun h => by subst h; rfl⟩
    · exact ⟨_, hf.2, fun _ => rfl⟩
  obtain ⟨v0, hv0, hvz⟩ := hv0
  -- what the loop keeps
  obtain ⟨⟨st', tu'⟩, e, hst', hl', ho', v, hv, hvv⟩ := loop_ok (body := t_additiveref34_Easy_L1 a b x t o (D : Int) (i : Int) (sp x.l c : Int))
    (fun s => ∃ k : Nat, s.2.2 = k ∧ k ≤ 5 ∧ s.1 = fset st (sp x.l c : Int) (D : Int) ∧ s.2.1.l.length = x.l.length ∧ (∀ z, z ≠ sp x.l c → s.2.1.l[z]? = tu.l[z]?) ∧ ∃ v, s.2.1.l[sp x.l c]? = some v ∧ (D = 0 → v = ⟨0, 0, 0, 0, 0⟩) ∧ (D ≠ 0 → ∀ j, j < k → A5.get v ((j : Nat) : Int) = A5.get (TT r b D c) (j : Int))) (fun s => (5 - s.2.2).toNat)
    (fun y => y.1 = fset st (sp x.l c : Int) (D : Int) ∧ y.2.l.length = x.l.length ∧ (∀ z, z ≠ sp x.l c → y.2.l[z]? = tu.l[z]?) ∧ ∃ v, y.2.l[sp x.l c]? = some v ∧ v = TT r b D c)
    (by
      rintro ⟨s, u, k'⟩ ⟨k, hk', hk, hs, hul, huo, v, hv, hz, hj⟩
      simp only at hk' hs hul huo hv
      subst hk' hs
      by_cases hgo : k < 5 ∧ D ≠ 0
      · left
        obtain ⟨h5, hD⟩ := hgo
        have c1 : band (ilt (k : Int) 5) (igt (D : Int) 0) = true := by rw [band_iff, ilt_iff, igt_iff]; omega
        have c5 : inB (k : Int) 5 = true := by rw [inB_iff]; omega
        obtain ⟨n, rfl⟩ : ∃ n, D = n + 1 := ⟨D - 1, by omega⟩
        have hez := easiest_ok hL hb hm hlen ht hrow (st := flst (fset st (sp x.l c : Int) ((n + 1 : Nat) : Int))) (tu := flst u) hc (by rw [flst_l]; exact hstc) (fun w hw hin => by
          have hcn : nbr c w ≠ c := fun e => by
            have h1 := congrArg api_Cell.X e
            have h2 := congrArg api_Cell.Y e
            have : w = 0 ∨ w = 1 ∨ w = 2 ∨ w = 3 := by omega
            rcases this with rfl | rfl | rfl | rfl <;> simp only [nbr] at h1 h2 <;> omega
          have hspn := hne _ hin hcn
          rw [flst_l, flst_l, hsto _ hspn, huo _ hspn]
          rcases hF.all _ hin with ⟨m, hm1, hm2, hg⟩ | ⟨hd, -, hg⟩ | ⟨hno, -, hf⟩
          · refine ⟨_, _, hg.1, hg.2, ⟨fun h => ?_, fun h => by rw [hm2.uniq h]⟩, fun h => ?_⟩
            · rw [← Int.ofNat_inj.1 h]; exact hm2
            · have := hm2.uniq h
              subst this
              rw [TT_get hw, V, if_pos h]
          · refine ⟨_, _, hg.1, hg.2, ⟨fun h => by have := Int.ofNat_inj.1 h; omega, fun h => by have := hd.uniq h; omega⟩, fun h => by have := hd.uniq h; omega⟩
          · exact ⟨_, _, hf.1, hf.2, ⟨fun h => by omega, fun h => absurd h (hno n (by omega))⟩, fun h => absurd h (hno n (by omega))⟩) k h5
        have hul' : sp x.l c < u.l.length := by rw [hul]; exact hsc.2.1
        refine ⟨(fset st (sp x.l c : Int) ((n + 1 : Nat) : Int), fset u (sp x.l c : Int) (A5.set v k (beh (V r b (n + 1) c) (kin k)).1), ((k + 1 : Nat) : Int)), ?_, ⟨k + 1, rfl, by omega, rfl, by simp only [fset_len]; exact hul, fun z hz' => ?_, A5.set v k (beh (V r b (n + 1) c) (kin k)).1, ?_, fun h => by omega, fun _ j hjk => ?_⟩, by simp only; omega⟩
        · simp only [t_additiveref34_Easy_L1, c1, if_true, hez, fget_nat hv, c5, isucc (i := k) (by omega)]
        · simp only [fset_l, Int.toNat_natCast]; rw [List.getElem?_set, if_neg (Ne.symm hz')]; exact huo z hz'
        · simp only [fset_l, Int.toNat_natCast]; rw [List.getElem?_set, if_pos rfl, if_pos hul']
        · rw [get_set5 _ _ h5 (by omega)]
          by_cases hjk' : j = k
          · subst hjk'
            rw [if_pos rfl, TT_kin h5 (by omega)]
          · rw [if_neg hjk']; exact hj (by omega) j (by omega)
      · right
        have c1 : band (ilt (k : Int) 5) (igt (D : Int) 0) = false := by rw [← Bool.not_eq_true, band_iff, ilt_iff, igt_iff]; omega
        refine ⟨(fset st (sp x.l c : Int) (D : Int), u), by simp only [t_additiveref34_Easy_L1, c1, Bool.false_eq_true, if_false], rfl, hul, huo, v, hv, ?_⟩
        by_cases hD : D = 0
        · rw [hz hD]; unfold TT; rw [if_pos hD]
        · have : k = 5 := by omega
          subst this
          exact ext5 fun j hj5 => hj hD j hj5)
    bigN (fset st (sp x.l c : Int) (D : Int), tu, 0) ⟨0, rfl, by omega, rfl, hF.l2, fun z _ => rfl, v0, hv0, hvz, fun _ j hj => by omega⟩ (bigN_gt (by simp only; omega))
  simp only at hst' hl' ho' hv
  subst hst' hvv
  refine ⟨_, e, ⟨by simp only [fset_len]; exact hF.l1, hl', fun c' hc' => ?_⟩⟩
  by_cases hcc : c' = c
  · subst hcc
    exact .inr (.inl ⟨hc, .inr rfl, hstc, hv⟩)
  · have hsn := hne c' hc' hcc
    have hgo : ∀ m, Good r b x st tu c' m → Good r b x (fset st (sp x.l c : Int) (D : Int)) tu' c' m := fun m hg => ⟨by rw [hsto _ hsn]; exact hg.1, by rw [ho' _ hsn]; exact hg.2⟩
    rcases hF.all c' hc' with ⟨m, h1, h2, h3⟩ | ⟨h1, h2, h3⟩ | ⟨h1, h2, h3⟩
    · exact .inl ⟨m, h1, h2, hgo m h3⟩
    · exact .inr (.inl ⟨h1, .inl h2, hgo D h3⟩)
    · refine .inr (.inr ⟨h1, ?_, by rw [hsto _ hsn]; exact h3.1, by rw [ho' _ hsn]; exact h3.2⟩)
      rintro (h | h)
      · exact h2 h
      · exact hsn h
theorem fill_ring (a : api_Cell) (o : FS (FS Int)) (D : Nat) {q : FS Int} (hq : o.l[D]? = some q) (hR : Ring r b x D q) {st : FS Int} {tu : FS (A5 Int)} (hF : Fill r b x D (fun _ => False) st tu) :
    ∃ y : FS Int × FS (A5 Int), loopT (t_additiveref34_Easy_L2 a b x t o (D : Int)) bigN (st, tu, 0) = some y ∧ Fill r b x (D + 1) (fun _ => False) y.1 y.2 := by
  have hql := hR.1
  obtain ⟨y, e, hy⟩ := loop_ok (body := t_additiveref34_Easy_L2 a b x t o (D : Int)) (fun s => ∃ i : Nat, s.2.2 = i ∧ i ≤ q.l.length ∧ Fill r b x D (fun z => (z : Int) ∈ q.l.take i) s.1 s.2.1) (fun s => ((q.l.length : Int) - s.2.2).toNat)
    (fun y => Fill r b x D (fun z => (z : Int) ∈ q.l) y.1 y.2)
    (by
      rintro ⟨s, u, i'⟩ ⟨i, hi', hi, hf⟩
      simp only at hi' hf
      subst hi'
      by_cases h : i < q.l.length
      · left
        have c1 : ilt (i : Int) (flen q) = true := ilt_tt (by rw [flen_eq]; omega)
        have hz := List.getElem?_eq_getElem h
        obtain ⟨c, hc, hzc⟩ := (hR.2 _).1 (List.getElem_mem h)
        rw [hzc] at hz
        have hs1 : sp x.l c < s.l.length := by rw [hf.l1]; exact (spz_in hm hc.1.inr).2.1
        obtain ⟨⟨s', u'⟩, ey, hf'⟩ := fill_cell hL hb hm hlen ht hrow a o D i hf hc
        refine ⟨(s', u', ((i + 1 : Nat) : Int)), ?_, ⟨i + 1, rfl, by omega, ?_⟩, by simp only; omega⟩
        · simp only [t_additiveref34_Easy_L2, fget_nat hq, c1, if_true, fget_nat hz, fget_nat (List.getElem?_eq_getElem hs1), ey, isucc (i := i) (by omega)]
        · have : (fun z : Nat => (z : Int) ∈ q.l.take (i + 1)) = fun z : Nat => (z : Int) ∈ q.l.take i ∨ z = sp x.l c := by
            funext z
            rw [List.take_succ_eq_append_getElem h, List.mem_append, List.mem_singleton, hzc]
            simp only [Int.ofNat_inj]
          rw [this]
          exact hf'
      · right
        have : i = q.l.length := by omega
        subst this
        have c1 : ilt (q.l.length : Int) (flen q) = false := ilt_ff (by rw [flen_eq]; omega)
        rw [List.take_length] at hf
        exact ⟨(s, u), by simp only [t_additiveref34_Easy_L2, fget_nat hq, c1, Bool.false_eq_true, if_false], hf⟩)
    bigN (st, tu, 0) ⟨0, rfl, by omega, by simpa using hF⟩ (bigN_gt (by simp only; omega))
  refine ⟨y, e, hy.l1, hy.l2, fun c hc => ?_⟩
  rcases hy.all c hc with ⟨m, h1, h2, h3⟩ | ⟨h1, h2, h3⟩ | ⟨h1, h2, h3⟩
  · exact .inl ⟨m, by omega, h2, h3⟩
  · exact .inl ⟨D, by omega, h1, h3⟩
  · refine .inr (.inr ⟨fun m hmD hd => ?_, fun h => h, h3⟩)
    by_cases hm' : m < D
    · exact h1 m hm' hd
    · have : m = D := by omega
      subst this
      exact h2 ((hR.2 _).2 ⟨c, hd, rfl⟩)
theorem fill_start (a : api_Cell) (o : FS (FS Int)) : ∃ st : FS Int, loopT (t_additiveref34_Easy_L0 a b x t o) bigN (frep 0 (flen x), frep ⟨0, 0, 0, 0, 0⟩ (flen x), 0) = some (st, frep ⟨0, 0, 0, 0, 0⟩ (flen x)) ∧ Fill r b x 0 (fun _ => False) st (frep ⟨0, 0, 0, 0, 0⟩ (flen x)) := by
  have hl0 : (frep (0 : Int) (flen x)).l.length = x.l.length := by rw [frep_l, List.length_replicate, flen_eq]; omega
  obtain ⟨⟨st, tu⟩, e, h1, h2, h3⟩ := loop_ok (body := t_additiveref34_Easy_L0 a b x t o) (fun s => ∃ i : Nat, s.2.2 = i ∧ i ≤ x.l.length ∧ s.2.1 = frep ⟨0, 0, 0, 0, 0⟩ (flen x) ∧ s.1.l.length = x.l.length ∧ ∀ j, j < i → s.1.l[j]? = some (-1)) (fun s => ((x.l.length : Int) - s.2.2).toNat)
    (fun y => y.2 = frep ⟨0, 0, 0, 0, 0⟩ (flen x) ∧ y.1.l.length = x.l.length ∧ ∀ j, j < x.l.length → y.1.l[j]? = some (-1))
    (by
      rintro ⟨s, u, i'⟩ ⟨i, hi', hi, hu, hl, hj⟩
      simp only at hi' hu hl hj
      subst hi'
      by_cases h : i < x.l.length
      · left
        have c1 : ilt (i : Int) (flen x) = true := ilt_tt (by rw [flen_eq]; omega)
        have hs : i < s.l.length := by omega
        refine ⟨(fset s (i : Int) (-1), u, ((i + 1 : Nat) : Int)), ?_, ⟨i + 1, rfl, by omega, hu, by simp only [fset_len]; exact hl, fun j hj' => ?_⟩, by simp only; omega⟩
        · simp only [t_additiveref34_Easy_L0, c1, if_true, fget_nat (List.getElem?_eq_getElem hs), isucc (i := i) (by omega)]
        · simp only [fset_l, Int.toNat_natCast]
          rw [List.getElem?_set]
          by_cases hij : i = j
          · rw [if_pos hij, if_pos hs]
          · rw [if_neg hij]; exact hj j (by omega)
      · right
        have c1 : ilt (i : Int) (flen x) = false := ilt_ff (by rw [flen_eq]; omega)
        exact ⟨(s, u), by simp only [t_additiveref34_Easy_L0, c1, Bool.false_eq_true, if_false], hu, hl, fun j hj' => hj j (by omega)⟩)
    bigN (frep 0 (flen x), frep ⟨0, 0, 0, 0, 0⟩ (flen x), 0) ⟨0, rfl, by omega, rfl, hl0, fun j hj => by omega⟩ (bigN_gt (by simp only; omega))
  simp only at h1 h2 h3
  subst h1
  refine ⟨st, e, h2, by rw [frep_l, List.length_replicate, flen_eq]; omega, fun c hc => .inr (.inr ⟨fun m hm0 => by omega, fun h => h, h3 _ (spz_in hm hc).2.1, ?_⟩)⟩
  rw [frep_l, List.getElem?_replicate, if_pos (by have := (spz_in hm hc).2.1; rw [flen_eq]; omega)]
theorem fill_all (a : api_Cell) {o : FS (FS Int)} {D : Nat} (hR : Rings r b x D o) (hDl : D ≤ 67108865) {st : FS Int} {tu : FS (A5 Int)} (hF : Fill r b x 0 (fun _ => False) st tu) :
    ∃ y : FS Int × FS (A5 Int), loopT (t_additiveref34_Easy_L3 a b x t o) bigN (st, tu, 0) = some y ∧ Fill r b x (D + 1) (fun _ => False) y.1 y.2 := by
  have hol := hR.1
  refine loop_ok (body := t_additiveref34_Easy_L3 a b x t o) (fun s => ∃ i : Nat, s.2.2 = i ∧ i ≤ D + 1 ∧ Fill r b x i (fun _ => False) s.1 s.2.1) (fun s => (((D + 1 : Nat) : Int) - s.2.2).toNat) _ ?_
    bigN (st, tu, 0) ⟨0, rfl, by omega, hF⟩ (bigN_gt (by simp only; omega))
  rintro ⟨s, u, i'⟩ ⟨i, hi', hi, hf⟩
  simp only at hi' hf
  subst hi'
  by_cases h : i < D + 1
  · left
    have c1 : ilt (i : Int) (flen o) = true := ilt_tt (by rw [flen_eq]; omega)
    obtain ⟨q, hq, hr⟩ := hR.2 i (by omega)
    obtain ⟨⟨s', u'⟩, ey, hf'⟩ := fill_ring hL hb hm hlen ht hrow a o i hq hr hf
    exact ⟨(s', u', ((i + 1 : Nat) : Int)), by simp only [t_additiveref34_Easy_L3, c1, if_true, ey, isucc (i := i) (by omega)], ⟨i + 1, rfl, by omega, hf'⟩, by simp only; omega⟩
  · right
    have : i = D + 1 := by omega
    subst this
    have c1 : ilt ((D + 1 : Nat) : Int) (flen o) = false := ilt_ff (by rw [flen_eq]; omega)
    exact ⟨(s, u), by simp only [t_additiveref34_Easy_L3, c1, Bool.false_eq_true, if_false], hf⟩
theorem easy_walk {D : Nat} {st : FS Int} {tu : FS (A5 Int)} (hF : Fill r b x D (fun _ => False) st tu) (hcov : ∀ c n, Dst r b n c → n < D) {a : api_Cell} {na : Nat} (hda : Dst r b na a) :
    ∃ y, loopT (t_additiveref34_Easy_L4 b x t st tu) bigN ((sp x.l a : Int), flit [a], 4) = some y ∧ y.l = pth a (ew r b na a (-1)) := by
  have hna := dst_le hL hb hm hlen ht hrow hda
  have good : ∀ {c : api_Cell} {m : Nat}, Dst r b m c → Good r b x st tu c m := fun {c m} hd => by
    rcases hF.all c hd.1.inr with ⟨m', h1, h2, h3⟩ | ⟨_, h2, _⟩ | ⟨h1, _, _⟩
    · rw [hd.uniq h2]; exact h3
    · exact h2.elim
    · exact absurd hd (h1 m (hcov c m hd))
  refine loop_ok (body := t_additiveref34_Easy_L4 b x t st tu)
    (fun s => ∃ n pre c i, i < 5 ∧ s.2.2 = ((i : Nat) : Int) ∧ Dst r b n c ∧ s.1 = (sp x.l c : Int) ∧ n ≤ na ∧ s.2.1.l = pre ++ [c] ∧ pre.length + n = na ∧ pre ++ pth c (ew r b n c (kin i)) = pth a (ew r b na a (-1))) (fun s => na + 1 - s.2.1.l.length)
    (fun y => y.l = pth a (ew r b na a (-1))) ?_ bigN _ ⟨na, [], a, 4, by omega, rfl, hda, rfl, Nat.le_refl _, rfl, by simp, rfl⟩ (bigN_gt (by simp only; omega))
  rintro ⟨at', y, i'⟩ ⟨n, pre, c, i, hi, hi', hd, hat, hnn, hx, hpn, hp⟩
  simp only at hi' hat hx
  subst hi' hat
  have hsc := spz_in hm hd.1.inr
  cases n with
  | zero =>
    have e := hd.zero
    subst e
    right
    refine ⟨y, ?_, ?_⟩
    · have : q_api_Cell c c = true := (q_iff _ _).2 rfl
      simp only [t_additiveref34_Easy_L4, fget_nat hsc.2.2, q_eq, this, bnot_t, Bool.false_eq_true, if_false]
    · rw [hx, ← hp]; rfl
  | succ n =>
    left
    have hcb : q_api_Cell c b = false := by
      rw [← Bool.not_eq_true, q_iff]
      intro e
      subst e
      have := hd.uniq (Dst.here hb)
      omega
    obtain ⟨j, ks, hj, e1, hdj, e2, hw, hl, hlen', -⟩ := ew_ok r b n c (kin i) (by omega) hd
    have hez := easiest_ok hL hb hm hlen ht hrow (st := flst st) (tu := flst tu) hd (by rw [flst_l]; exact (good hd).1) (fun w hw hin => by
      rw [flst_l, flst_l]
      rcases hF.all _ hin with ⟨m, hm1, hm2, hg⟩ | ⟨_, h2, _⟩ | ⟨hno, -, hf⟩
      · refine ⟨_, _, hg.1, hg.2, ⟨fun h => ?_, fun h => by rw [hm2.uniq h]⟩, fun h => ?_⟩
        · rw [← Int.ofNat_inj.1 h]; exact hm2
        · have := hm2.uniq h
          subst this
          rw [TT_get hw, V, if_pos h]
      · exact h2.elim
      · have hx' : ¬ Dst r b n (nbr c w) := fun h => hno n (hcov _ _ h) h
        exact ⟨_, _, hf.1, hf.2, ⟨fun h => by omega, fun h => absurd h hx'⟩, fun h => absurd h hx'⟩) i hi
    obtain ⟨v, hv, hg⟩ := next_ok hm hrow hd.1.inr
    have hgj := hg j hj
    obtain ⟨q1, q2, q3⟩ := spz_in hm hdj.1.inr
    rw [q1] at hgj
    have c2 : inB (j : Int) 4 = true := by rw [inB_iff]; omega
    have hyl : y.l.length = pre.length + 1 := by rw [hx]; simp
    have hfit : fits 16 (flen y + 1) = true := fits_len (l := y.l) (by omega) (by omega)
    have hks : ks = ew r b n (nbr c j) j := by
      have : ew r b (n + 1) c (kin i) = j :: ew r b n (nbr c j) j := by rw [ew, e1]; simp only [Int.toNat_natCast]
      rw [e2] at this
      exact (List.cons.inj this).2
    refine ⟨((sp x.l (nbr c j) : Int), fsnoc y (nbr c j), (j : Int)), ?_, ⟨n, pre ++ [c], nbr c j, j, by omega, rfl, hdj, rfl, by omega, ?_, ?_, ?_⟩, ?_⟩
    · simp only [t_additiveref34_Easy_L4, fget_nat hsc.2.2, q_eq, hcb, bnot_f, if_true, hez, e1, fget_nat hv, c2, hgj, fget_nat q3, hfit]
    · simp only [fsnoc_l, hx]
    · simp only [List.length_append, List.length_cons, List.length_nil]; omega
    · have : kin j = (j : Int) := by unfold kin; rw [if_pos hj]
      rw [this, ← hp, e2, pth, ← hks]; simp
    · simp only [fsnoc_l, List.length_append, List.length_cons, List.length_nil]; omega
end
/-- What the reference answers. -/
theorem ref_easy {r : api_Region} (h4 : Lim4 r) (a b : api_Cell) : ∃ x o, t_additiveref34_Easy r a b = some (x, o) ∧ ((o = false ∧ x.l = [] ∧ ∀ n, ¬ Wk r b n a) ∨ ∃ n, o = true ∧ Dst r b n a ∧ n ≤ 67108864 ∧ x.l = pth a (ew r b n a (-1))) := by
  have hL := h4.lim
  obtain ⟨px, py, o, e1, e2, -, -⟩ := paths_same hL (a := a) (b := b)
  obtain ⟨px', o', e1', hsp⟩ := path_spec hL (a := a) (b := b)
  rw [e1] at e1'
  obtain ⟨rfl, rfl⟩ := Prod.mk.inj (Option.some.inj e1')
  unfold t_additiveref34_Easy
  rw [e2]
  rcases hsp with ⟨rfl, -, hno⟩ | ⟨rfl, ha, m, u, full, hu, hbb, hch, -, -⟩
  · exact ⟨.nil, false, rfl, .inl ⟨rfl, rfl, fun n h => hno n h.symm⟩⟩
  · obtain ⟨x, ex, hm, hlen⟩ := cells_ok h4
    obtain ⟨u', hu', hw⟩ := Qc_way hL ha hch
    rw [hu] at hu'
    cases hu'
    rw [hbb] at hw
    have hb := hw.inr
    obtain ⟨na, hda⟩ := Dst.ex hw.symm
    obtain ⟨t, et, ht, hrow⟩ := table_ok x (fun c hc => in_range ((hm c).1 hc)) hlen
    have esb := spot_ok x b hlen
    have esa := spot_ok x a hlen
    rw [(spz_in hm hb).1] at esb
    rw [(spz_in hm ha).1] at esa
    obtain ⟨D, rings, er, hR, hDl, hcov⟩ := layers_ok hL hb hm hlen ht hrow
    have k1 : mkOK 8 (flen x) (flen x) = true := mkOK_8 (by rw [flen_eq]; omega) (by rw [flen_eq]; omega)
    have k2 : mkOK 40 (flen x) (flen x) = true := mkOK_40 (by rw [flen_eq]; omega) (by rw [flen_eq]; omega)
    obtain ⟨st, es, hF⟩ := fill_start hL hb hm hlen ht hrow a rings
    obtain ⟨⟨st', tu'⟩, es2, hF2⟩ := fill_all hL hb hm hlen ht hrow a hR hDl hF
    obtain ⟨y, ey, hy⟩ := easy_walk hL hb hm hlen ht hrow hF2 (fun c n hn => by have := hcov c n hn; omega) hda
    refine ⟨flst y, true, ?_, .inr ⟨na, rfl, hda, dst_le hL hb hm hlen ht hrow hda, by rw [flst_l]; exact hy⟩⟩
    simp only [bnot_t, Bool.false_eq_true, if_false, ex, et, esb, er, k1, k2, if_true, es, es2, esa, ey]
theorem combEasy_true (r : api_Region) (a b : api_Cell) : t_additivelaw34_CombEasy r a b = some true := by
  obtain ⟨v, ev, hv⟩ := small_ok4 r
  unfold t_additivelaw34_CombEasy
  rw [ev]
  cases v with
  | false => rfl
  | true =>
    have h4 := hv rfl
    obtain ⟨x, o, e1, h1⟩ := easy_all h4.lim a b
    obtain ⟨y, p, e2, h2⟩ := ref_easy h4 a b
    have hs : x.l = y.l ∧ o = p ∧ x.l.length ≤ 1000000000 := by
      rcases h1 with ⟨rfl, hx, hn⟩ | ⟨n, rfl, hd, hnn, hx⟩
      · rcases h2 with ⟨rfl, hy, -⟩ | ⟨m, rfl, hd, -⟩
        · exact ⟨by rw [hx, hy], rfl, by rw [hx]; simp⟩
        · exact absurd hd.1 (hn m)
      · rcases h2 with ⟨rfl, hy, hn⟩ | ⟨m, rfl, hd', -, hy⟩
        · exact absurd hd.1 (hn n)
        · have := hd.uniq hd'
          subst this
          refine ⟨by rw [hx, hy], rfl, ?_⟩
          rw [hx, pth_len, (ew_min hnn hd).2.2.1]
          omega
    obtain ⟨hxy, rfl, hl⟩ := hs
    have e3 := cells_same x y hxy hl
    simp only [bnot_t, Bool.false_eq_true, if_false, e1, e2, e3]
    cases o <;> rfl
end Go.Proofs.Ytchiiiahgmfofaa
