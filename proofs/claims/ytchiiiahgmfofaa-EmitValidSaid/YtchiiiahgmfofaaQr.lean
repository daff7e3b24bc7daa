/- emit: the reference's commands are the same; EmitCommands. Conditions: none. -/
import Derived.Test.YtchiiiahgmfofaaQd
namespace Go.Proofs.Ytchiiiahgmfofaa
open Go Go.Vv Go.Proofs
set_option linter.unusedSimpArgs false
set_option linter.unusedVariables false
set_option linter.unusedSectionVars false
set_option maxRecDepth 10000
theorem if_some (c a : Bool) : (if c = true then some false else some a) = some (band (bnot c) a) := by cases c <;> rfl
theorem rValid_ok (s : api_Settings) : t_additiveref35_Valid s = some (u_flow_Valid s) := by
  unfold t_additiveref35_Valid
  simp only [if_some]
  congr 1
  rw [Bool.eq_iff_iff]
  simp only [u_flow_Valid, u_flow_check, u_flow_even, u_flow_within, u_additiveref35_in, beqB_iff, band_iff, bnot_iff, bor_iff, ige_iff, ile_iff, ieq_iff, ine_iff, ← Bool.not_eq_true]
  generalize irem s.Pitch 2 = u; generalize irem s.Height 2 = v
  simp only [ne_eq, Decidable.not_not, not_or, and_true]
  constructor <;> intro h <;> omega
theorem rbit_tbl : ∀ p ∈ kinds, ∀ i, i < 6 → ieq (iand .i64 (ishr .i64 p.2 (icnv .u64 ((i : Nat) : Int))) 1) 1 = bitI p.2 i := by decide
theorem conv_tbl : ∀ i, i < 6 → ilt (icnv .u64 ((i : Nat) : Int)) 0 = false := by decide
theorem rcode_tbl : ∀ p ∈ kinds, ∃ m, t_additiveref39_known p.1 = some true ∧ ilt p.2 0 = false ∧ t_additiveref39_allowed p.1 = some m ∧ ine (iandn .i64 p.2 m) 0 = false ∧ t_additiveref39_complete p.1 p.2 = some true := by
  have hk : ∀ c, c = 0 ∨ c = 1 ∨ c = 1107 ∨ c = 1106 → t_additiveref39_known c = some true := by
    intro c hc
    unfold t_additiveref39_known
    have e : loopT (t_additiveref39_known_L0 c u_additiveref39_Codes) bigN 0 = some (.inl true) := by
      rw [bigN_eq]
      rcases hc with rfl | rfl | rfl | rfl
      · exact loop_dn rfl
      · rw [loop_nx (s' := 1) rfl, show (18446744073709551615 : Nat) = 18446744073709551614 + 1 from rfl]; exact loop_dn rfl
      · iterate 8 (rw [show ∀ k, loopT (t_additiveref39_known_L0 1107 u_additiveref39_Codes) (k + 1) = loopT (t_additiveref39_known_L0 1107 u_additiveref39_Codes) (k + 1) from fun _ => rfl])
        refine (loop_nx (n := 18446744073709551615) (s' := 1) rfl).trans ?_
        refine (loop_nx (n := 18446744073709551614) (s' := 2) rfl).trans ?_
        refine (loop_nx (n := 18446744073709551613) (s' := 3) rfl).trans ?_
        refine (loop_nx (n := 18446744073709551612) (s' := 4) rfl).trans ?_
        refine (loop_nx (n := 18446744073709551611) (s' := 5) rfl).trans ?_
        refine (loop_nx (n := 18446744073709551610) (s' := 6) rfl).trans ?_
        refine (loop_nx (n := 18446744073709551609) (s' := 7) rfl).trans ?_
        refine (loop_nx (n := 18446744073709551608) (s' := 8) rfl).trans ?_
        exact loop_dn (n := 18446744073709551607) rfl
      · refine (loop_nx (n := 18446744073709551615) (s' := 1) rfl).trans ?_
        refine (loop_nx (n := 18446744073709551614) (s' := 2) rfl).trans ?_
        refine (loop_nx (n := 18446744073709551613) (s' := 3) rfl).trans ?_
        refine (loop_nx (n := 18446744073709551612) (s' := 4) rfl).trans ?_
        refine (loop_nx (n := 18446744073709551611) (s' := 5) rfl).trans ?_
        refine (loop_nx (n := 18446744073709551610) (s' := 6) rfl).trans ?_
        refine (loop_nx (n := 18446744073709551609) (s' := 7) rfl).trans ?_
        exact loop_dn (n := 18446744073709551608) rfl
    rw [e]
  intro p hp
  simp only [kinds, List.mem_cons, List.not_mem_nil, or_false] at hp
  rcases hp with rfl | rfl | rfl | rfl | rfl | rfl | rfl | rfl | rfl | rfl <;> exact ⟨_, hk _ (by simp), by decide, rfl, by decide, rfl⟩
theorem ranged_ok (code : Int) (hc : code ≠ 4) {i : Nat} (h6 : i < 6) (v : Int) : t_additiveref39_ranged code (i : Int) v = some (band (ige v (lo i)) (ile v (hi code i))) := by
  have h4 : ieq code 4 = false := ieq_ff hc
  have : i = 0 ∨ i = 1 ∨ i = 2 ∨ i = 3 ∨ i = 4 ∨ i = 5 := by omega
  rcases this with rfl | rfl | rfl | rfl | rfl | rfl
  · rfl
  · rfl
  · rfl
  · rfl
  · rfl
  · unfold t_additiveref39_ranged
    have e1 : ilt ((5 : Nat) : Int) 4 = false := rfl
    have e2 : ieq ((5 : Nat) : Int) 4 = false := rfl
    rw [e1, e2, h4]
    by_cases h : code = 1106
    · rw [ieq_tt h]; simp [lo, hi, h]
    · rw [ieq_ff h]; simp [lo, hi, h]
theorem fields_get (c : api_Cmd) {i : Nat} (h6 : i < 6) : fget (u_additiveref39_fields c) (i : Int) = some (fld c i) := by
  have : i = 0 ∨ i = 1 ∨ i = 2 ∨ i = 3 ∨ i = 4 ∨ i = 5 := by omega
  rcases this with rfl | rfl | rfl | rfl | rfl | rfl <;> rfl
theorem rv_body {c : api_Cmd} (hP : Pair c) {i : Nat} (h6 : i < 6) : (gw c i → t_additiveref39_Valid_L0 c (u_additiveref39_fields c) (i : Int) = some (.nx ((i + 1 : Nat) : Int))) ∧ (¬ gw c i → t_additiveref39_Valid_L0 c (u_additiveref39_fields c) (i : Int) = some (.dn (.inl false))) := by
  have hb := rbit_tbl _ hP i h6
  have hc := code_tbl _ hP
  simp only at hb hc
  have c1 : ilt (i : Int) (flen (u_additiveref39_fields c)) = true := ilt_tt (by show (i : Int) < 6; omega)
  have c2 := conv_tbl i h6
  have hf := fields_get c h6
  have hr := ranged_ok c.Code hc h6 (fld c i)
  have hs := isucc (i := i) (by omega)
  unfold gw
  cases hbit : bitI c.Has i with
  | true =>
    rw [hbit] at hb
    constructor
    · rintro ⟨h, -⟩
      have h := h rfl
      have hv : band (ige (fld c i) (lo i)) (ile (fld c i) (hi c.Code i)) = true := by rw [band_iff, ige_iff, ile_iff]; exact h
      simp only [t_additiveref39_Valid_L0, c1, if_true, c2, Bool.false_eq_true, if_false, hb, hf, gOpt_tt, Option.getD_some, hr, hv, bnot_t, bnot_f, band_t, band_f, band_f', gOpt_ff, Option.getD_none, bor_f, hs]
    · intro h
      have hv : band (ige (fld c i) (lo i)) (ile (fld c i) (hi c.Code i)) = false := by rw [← Bool.not_eq_true, band_iff, ige_iff, ile_iff]; exact fun hh => h ⟨fun _ => hh, fun e => (by cases e)⟩
      simp only [t_additiveref39_Valid_L0, c1, if_true, c2, Bool.false_eq_true, if_false, hb, hf, gOpt_tt, Option.getD_some, hr, hv, bnot_t, bnot_f, band_t, band_f, band_f', gOpt_ff, Option.getD_none, bor_t]
  | false =>
    rw [hbit] at hb
    constructor
    · rintro ⟨-, h⟩
      have h := h rfl
      have hv : ine (fld c i) 0 = false := by rw [h]; rfl
      simp only [t_additiveref39_Valid_L0, c1, if_true, c2, Bool.false_eq_true, if_false, hb, gOpt_ff, Option.getD_none, band_f, bnot_f, band_t, gOpt_tt, hf, Option.getD_some, hv, bor_f, hs]
    · intro h
      have hv : ine (fld c i) 0 = true := by rw [ine_iff]; exact fun hh => h ⟨fun e => (by cases e), fun _ => hh⟩
      simp only [t_additiveref39_Valid_L0, c1, if_true, c2, Bool.false_eq_true, if_false, hb, gOpt_ff, Option.getD_none, band_f, bnot_f, band_t, gOpt_tt, hf, Option.getD_some, hv, bor_f]
theorem rValidC_ok {c : api_Cmd} (hP : Pair c) : ∃ v, t_additiveref39_Valid c = some v ∧ (v = true ↔ Vld c) := by
  obtain ⟨m, e1, e2, e3, e4, e5⟩ := rcode_tbl _ hP
  simp only at e1 e2 e3 e4 e5
  obtain ⟨v, e, hv⟩ := loop_ok (body := t_additiveref39_Valid_L0 c (u_additiveref39_fields c)) (fun s => ∃ i : Nat, s = (i : Int) ∧ i ≤ 6 ∧ ∀ j, j < i → gw c j) (fun s => (6 - s).toNat)
    (fun v => (v = .inr () ∧ Vld c) ∨ (v = .inl false ∧ ¬ Vld c))
    (by
      rintro _ ⟨i, rfl, hi, hj⟩
      by_cases h : i < 6
      · obtain ⟨b1, b2⟩ := rv_body hP h
        by_cases hg : gw c i
        · left
          refine ⟨_, b1 hg, ⟨i + 1, rfl, by omega, fun j hj' => ?_⟩, by omega⟩
          by_cases hji : j = i
          · rw [hji]; exact hg
          · exact hj j (by omega)
        · exact .inr ⟨_, b2 hg, .inr ⟨rfl, fun hh => hg (hh i h)⟩⟩
      · right
        have : i = 6 := by omega
        subst this
        have c1 : ilt ((6 : Nat) : Int) (flen (u_additiveref39_fields c)) = false := rfl
        exact ⟨.inr (), by simp only [t_additiveref39_Valid_L0, c1, Bool.false_eq_true, if_false], .inl ⟨rfl, hj⟩⟩)
    bigN 0 ⟨0, rfl, by omega, fun j hj => by omega⟩ (bigN_gt (by omega))
  unfold t_additiveref39_Valid
  rw [e1]
  simp only [bnot_t, e2, show bor false false = false from rfl, bnot_f, e3, gOpt_tt, Option.getD_some, e4, e5, Bool.false_eq_true, if_false, e]
  rcases hv with ⟨rfl, h⟩ | ⟨rfl, h⟩
  · exact ⟨true, rfl, by simpa using h⟩
  · exact ⟨false, rfl, by simpa using h⟩
theorem rVolume_ok {s : api_Settings} (hv : u_flow_Valid s = true) {n : Nat} (hn : n ≤ 1048576) : t_additiveref35_Volume (n : Int) s = some (vol s n) := by
  have hs := okS_of hv
  obtain ⟨h1, h2, h3, h4, h5, h6⟩ := vol_bound hs hn
  have c1 : u_additiveref35_in (n : Int) 0 1048576 = true := by simp only [u_additiveref35_in, band_iff, ige_iff, ile_iff]; omega
  unfold t_additiveref35_Volume
  rw [rValid_ok, hv, c1]
  unfold vol at h5 h6 ⊢
  rw [imul_eq (a := (n : Int)) (by omega) (by omega), imul_eq (a := (n : Int) * s.Pitch) (by omega) (by omega), imul_eq (by omega) (by omega)]
  rfl
theorem ramt_loop {s : api_Settings} (hv : u_flow_Valid s = true) (x : FS api_Op) (hF : Few x.l) : ∀ (rest : List api_Op) (i n : Nat) (back : Bool) (out : FS Int) (m : Nat), x.l.drop i = rest → out.l.length = i → n ≤ 40 * i → rest.length < m →
    ∃ y, loopT (t_additiveref35_Amounts_L0 x s) m (out, (n : Int), back, (i : Int)) = some y ∧ (((amtR s rest n back out.l).1 = 0 ∧ ∃ z, y = .inr z ∧ z.l = (amtR s rest n back out.l).2) ∨ ((amtR s rest n back out.l).1 = 11 ∧ y = .inl (.nil, 11)))
  | [], i, n, back, out, m, hr, ho, hn, hm => by
    obtain ⟨m, rfl⟩ : ∃ k, m = k + 1 := ⟨m - 1, by omega⟩
    have hlen : x.l.length ≤ i := by
      have := congrArg List.length hr
      rw [List.length_drop] at this
      simp at this
      omega
    have c1 : ilt (i : Int) (flen x) = false := ilt_ff (by rw [flen_eq]; omega)
    exact ⟨.inr out, loop_dn (by simp only [t_additiveref35_Amounts_L0, c1, Bool.false_eq_true, if_false]), .inl ⟨rfl, out, rfl, rfl⟩⟩
  | o :: rest, i, n, back, out, m, hr, ho, hn, hm => by
    obtain ⟨m, rfl⟩ : ∃ k, m = k + 1 := ⟨m - 1, by omega⟩
    obtain ⟨g1, g2, g3, g4⟩ := get_drop hr
    have hx := hF.1
    have hoc := hF.2 o (List.mem_of_getElem? g1)
    have hs := okS_of hv
    have c1 : ilt (i : Int) (flen x) = true := ilt_tt (by rw [flen_eq]; omega)
    have f1 := fget_nat g1
    have a1 : iadd .i64 (i : Int) 1 = ((i + 1 : Nat) : Int) := isucc (by omega)
    have t2 : fits 8 (flen out + 1) = true := fits_len (l := out.l) (by omega) (by omega)
    have hd : ieq s.Drop 0 = false := ieq_ff (by have := hs.d0; omega)
    have e2 : iadd .i64 (n : Int) (flen o.Cells) = ((n + o.Cells.l.length : Nat) : Int) := by rw [flen_eq, iadd_eq (by omega) (by omega)]; omega
    have step : ∀ (n' : Nat) (b' : Bool) (v : Int), n' ≤ 40 * (i + 1) → amtR s (o :: rest) n back out.l = amtR s rest n' b' (out.l ++ [v]) →
        t_additiveref35_Amounts_L0 x s (out, (n : Int), back, (i : Int)) = some (.nx (fsnoc out v, (n' : Int), b', ((i + 1 : Nat) : Int))) →
        ∃ y, loopT (t_additiveref35_Amounts_L0 x s) (m + 1) (out, (n : Int), back, (i : Int)) = some y ∧ (((amtR s (o :: rest) n back out.l).1 = 0 ∧ ∃ z, y = .inr z ∧ z.l = (amtR s (o :: rest) n back out.l).2) ∨ ((amtR s (o :: rest) n back out.l).1 = 11 ∧ y = .inl (.nil, 11))) := fun n' b' v h1 h2 h3 => by
      obtain ⟨y, e, hy⟩ := ramt_loop hv x hF rest (i + 1) n' b' (fsnoc out v) m g2 (by simp [fsnoc_l]; omega) h1 (by simp at hm ⊢; omega)
      refine ⟨y, by rw [loop_nx h3, e], ?_⟩
      rw [h2]
      exact hy
    have bad : amtR s (o :: rest) n back out.l = (11, []) → t_additiveref35_Amounts_L0 x s (out, (n : Int), back, (i : Int)) = some (.dn (.inl (.nil, 11))) →
        ∃ y, loopT (t_additiveref35_Amounts_L0 x s) (m + 1) (out, (n : Int), back, (i : Int)) = some y ∧ (((amtR s (o :: rest) n back out.l).1 = 0 ∧ ∃ z, y = .inr z ∧ z.l = (amtR s (o :: rest) n back out.l).2) ∨ ((amtR s (o :: rest) n back out.l).1 = 11 ∧ y = .inl (.nil, 11))) := fun h2 h3 =>
      ⟨_, loop_dn h3, .inr ⟨by rw [h2], rfl⟩⟩
    have hV : ∀ k : Nat, k ≤ 1048576 → t_additiveref35_Volume (k : Int) s = some (vol s k) ∧ iquo .i64 (vol s k) s.Drop = fil s k ∧ igt (k : Int) 1048576 = false ∧ isub .i64 (fil s k) s.Retract = fil s k - s.Retract := fun k hk => by
      obtain ⟨_, _, _, _, h5, h6⟩ := vol_bound hs hk
      have hf := fil_bound hs hk
      have hr0 := hs.r0
      have hr1 := hs.r1
      have hd0 := hs.d0
      exact ⟨rVolume_ok hv hk, iquo_eq h5 (by omega) (by omega), igt_ff (by omega), isub_eq (by omega) (by omega)⟩
    by_cases k3 : o.Kind = 3
    · have q3 : ieq o.Kind 3 = true := ieq_tt k3
      have q4 : ieq o.Kind 4 = false := ieq_ff (by omega)
      have q5 : ieq o.Kind 5 = false := ieq_ff (by omega)
      cases back with
      | true => exact bad (by unfold amtR; rw [if_pos (.inl ⟨rfl, .inl k3⟩)]) (by simp only [t_additiveref35_Amounts_L0, c1, if_true, f1, q3, q4, q5, band_t, bor_t])
      | false =>
        obtain ⟨v1, v2, v3, v4⟩ := hV (n + o.Cells.l.length) (by omega)
        refine step (n + o.Cells.l.length) false (fil s (n + o.Cells.l.length)) (by omega) ?_ ?_
        · rw [amtR]; rw [if_neg (by simp [k3])]; simp [k3]
        · simp only [t_additiveref35_Amounts_L0, c1, if_true, f1, q3, q4, q5, band_f, band_f', bnot_f, bor_f, Bool.false_eq_true, if_false, e2, v1, v2, v3, hd, t2, a1]
    · have q3 : ieq o.Kind 3 = false := ieq_ff k3
      obtain ⟨v1, v2, v3, v4⟩ := hV n (by omega)
      by_cases k4 : o.Kind = 4
      · have q4 : ieq o.Kind 4 = true := ieq_tt k4
        have q5 : ieq o.Kind 5 = false := ieq_ff (by omega)
        cases back with
        | true => exact bad (by unfold amtR; rw [if_pos (.inl ⟨rfl, .inr k4⟩)]) (by simp only [t_additiveref35_Amounts_L0, c1, if_true, f1, q3, q4, q5, band_t, bor_f, bor_t])
        | false =>
          refine step n true (fil s n - s.Retract) (by omega) ?_ ?_
          · rw [amtR]; rw [if_neg (by simp [k4])]; simp [k4]
          · simp only [t_additiveref35_Amounts_L0, c1, if_true, f1, q3, q4, q5, band_f, band_f', bnot_f, bor_f, Bool.false_eq_true, if_false, v1, v2, v3, v4, hd, t2, a1]
      · have q4 : ieq o.Kind 4 = false := ieq_ff k4
        by_cases k5 : o.Kind = 5
        · have q5 : ieq o.Kind 5 = true := ieq_tt k5
          cases back with
          | false => exact bad (by unfold amtR; rw [if_pos (.inr ⟨rfl, k5⟩)]) (by simp only [t_additiveref35_Amounts_L0, c1, if_true, f1, q3, q4, q5, bnot_f, band_f, band_t, bor_f])
          | true =>
            refine step n false (fil s n) (by omega) ?_ ?_
            · rw [amtR]; rw [if_neg (by simp [k3, k4])]; simp [k5]
            · simp only [t_additiveref35_Amounts_L0, c1, if_true, f1, q3, q4, q5, band_t, band_f, bnot_t, bor_f, Bool.false_eq_true, if_false, v1, v2, v3, v4, hd, t2, a1]
        · have q5 : ieq o.Kind 5 = false := ieq_ff k5
          cases back with
          | true =>
            refine step n true (fil s n - s.Retract) (by omega) ?_ ?_
            · rw [amtR]; rw [if_neg (by simp [k3, k4, k5])]; simp [k3, k4, k5]
            · simp only [t_additiveref35_Amounts_L0, c1, if_true, f1, q3, q4, q5, band_t, band_f, band_f', bnot_t, bor_f, Bool.false_eq_true, if_false, v1, v2, v3, v4, hd, t2, a1]
          | false =>
            refine step n false (fil s n) (by omega) ?_ ?_
            · rw [amtR]; rw [if_neg (by simp [k3, k4, k5])]; simp [k3, k4, k5]
            · simp only [t_additiveref35_Amounts_L0, c1, if_true, f1, q3, q4, q5, band_f, band_f', bnot_f, bor_f, Bool.false_eq_true, if_false, v1, v2, v3, v4, hd, t2, a1]
theorem rAmounts_ok {s : api_Settings} (x : FS api_Op) (hF : Few x.l) : ∃ y, t_additiveref35_Amounts x s = some y ∧ ((u_flow_Valid s = false ∧ y = (.nil, 1)) ∨ (u_flow_Valid s = true ∧ ((amtR s x.l 0 false []).1 = 0 ∧ y.2 = 0 ∧ y.1.l = (amtR s x.l 0 false []).2 ∨ (amtR s x.l 0 false []).1 = 11 ∧ y = (.nil, 11)))) := by
  unfold t_additiveref35_Amounts
  rw [rValid_ok]
  cases hv : u_flow_Valid s with
  | false => exact ⟨_, rfl, .inl ⟨rfl, rfl⟩⟩
  | true =>
    have hx := hF.1
    obtain ⟨y, e, hy⟩ := ramt_loop hv x hF x.l 0 0 false .nil bigN rfl rfl (by omega) (bigN_gt (by omega))
    change loopT (t_additiveref35_Amounts_L0 x s) bigN (.nil, 0, false, 0) = _ at e
    rw [FS.l_nil] at hy
    simp only [bnot_t, Bool.false_eq_true, if_false, e]
    rcases hy with ⟨h1, z, rfl, hz⟩ | ⟨h1, rfl⟩
    · exact ⟨_, rfl, .inr ⟨trivial, .inl ⟨h1, rfl, hz⟩⟩⟩
    · exact ⟨_, rfl, .inr ⟨trivial, .inr ⟨h1, rfl⟩⟩⟩
end Go.Proofs.Ytchiiiahgmfofaa
