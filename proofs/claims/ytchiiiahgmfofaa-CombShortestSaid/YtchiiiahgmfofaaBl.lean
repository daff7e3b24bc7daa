/- comb: CombShortest, in plain Lean. Conditions: none. -/
import Derived.Test.YtchiiiahgmfofaaBk
namespace Go.Proofs.Ytchiiiahgmfofaa
open Go Go.Vv Go.Proofs
set_option linter.unusedSimpArgs false
set_option linter.unusedVariables false
set_option linter.unusedSectionVars false
theorem levels_first (x : FS api_Cell) (a : api_Cell) (hx : x.l.length ≤ 13107200) (d0 : FS Int) (h0 : d0.l.length = x.l.length) :
    ∃ y, loopT (t_additivelaw34_levels_L0 x a) bigN (d0, 0) = some y ∧ y.l.length = x.l.length ∧ ∀ j, j < x.l.length → gI y j = if q_api_Cell (gC x j) a = true then 0 else -1 := by
  refine loop_ok (body := t_additivelaw34_levels_L0 x a) (fun s => ∃ n : Nat, s.2 = n ∧ n ≤ x.l.length ∧ s.1.l.length = x.l.length ∧ ∀ j, j < n → gI s.1 j = if q_api_Cell (gC x j) a = true then 0 else -1) (fun s => (x.l.length - s.2).toNat) (fun y => y.l.length = x.l.length ∧ ∀ j, j < x.l.length → gI y j = if q_api_Cell (gC x j) a = true then 0 else -1) ?_ bigN _ ⟨0, rfl, by omega, h0, fun j hj => absurd hj (by omega)⟩ (bigN_gt (by simp only; omega))
  rintro ⟨d, c⟩ ⟨n, hc, hn, hl, hj⟩
  simp only at hc hl hj
  subst hc
  by_cases hlt : n < x.l.length
  · left
    have c1 : ilt (n : Int) (flen x) = true := ilt_tt (by rw [flen_eq]; omega)
    have g1 := fget_gI (d := d) (j := n) (by omega)
    have g2 := fget_gC (x := x) hlt
    have hnd : n < d.l.length := by omega
    by_cases e : q_api_Cell (gC x n) a = true
    · have g3 := fget_gI (d := fset d (n : Int) (-1)) (j := n) (by rw [fset_len]; omega)
      refine ⟨(fset (fset d (n : Int) (-1)) (n : Int) 0, ((n + 1 : Nat) : Int)), by simp only [t_additivelaw34_levels_L0, c1, if_true, g1, g2, q_eq, e, g3, isucc (i := n) (by omega)], ⟨n + 1, rfl, by omega, by rw [fset_len, fset_len]; exact hl, fun j hjn => ?_⟩, by simp only; omega⟩
      rw [gI_set (by rw [fset_len]; omega), gI_set hnd]
      by_cases ej : j = n
      · subst ej; rw [if_pos rfl, if_pos e]
      · rw [if_neg ej, if_neg ej]; exact hj j (by omega)
    · have e' : ¬ gC x n = a := fun h => e ((q_iff _ _).2 h)
      rw [Bool.not_eq_true] at e
      refine ⟨(fset d (n : Int) (-1), ((n + 1 : Nat) : Int)), by simp only [t_additivelaw34_levels_L0, c1, if_true, g1, g2, q_eq, e, Bool.false_eq_true, if_false, isucc (i := n) (by omega)], ⟨n + 1, rfl, by omega, by rw [fset_len]; exact hl, fun j hjn => ?_⟩, by simp only; omega⟩
      rw [gI_set hnd]
      by_cases ej : j = n
      · subst ej; rw [if_pos rfl, if_neg (by rw [e]; simp)]
      · rw [if_neg ej]; exact hj j (by omega)
  · right
    have c1 : ilt (n : Int) (flen x) = false := ilt_ff (by rw [flen_eq]; omega)
    exact ⟨d, by simp only [t_additivelaw34_levels_L0, c1, Bool.false_eq_true, if_false], hl, fun j hjx => hj j (by omega)⟩
theorem mkOK_small {n : Int} (h0 : 0 ≤ n) (h1 : n ≤ 100000000) : mkOK 8 n n = true := by
  have h2 : n * ((8 : Nat) : Int) ≤ ((140737488355328 : Nat) : Int) := by omega
  unfold mkOK
  exact decide_eq_true ⟨h0, by omega, h2, by omega⟩
theorem levels_ok {r : api_Region} {a : api_Cell} {x : FS api_Cell} (hm : ∀ c, c ∈ x.l ↔ In r c) (hx : x.l.length ≤ 13107200) :
    ∃ d, t_additivelaw34_levels x a = some d ∧ Full r a x d := by
  have hmk : mkOK 8 (flen x) (flen x) = true := mkOK_small (by rw [flen_eq]; omega) (by rw [flen_eq]; omega)
  obtain ⟨y, ey, hl, hj⟩ := levels_first x a hx (frep 0 (flen x)) (by rw [frep_l, List.length_replicate, flen_eq]; omega)
  have hin : ∀ j, j < x.l.length → InR (gC x j) := fun j hj => in_range ((hm _).1 (gC_mem hj))
  have K0 : Kn r a x 0 y := ⟨hl, fun j hjx => by
    have h1 := hj j hjx
    have h2 := (hm _).1 (gC_mem hjx)
    by_cases e : q_api_Cell (gC x j) a = true
    · rw [if_pos e] at h1
      replace e := (q_iff _ _).1 e
      left
      refine ⟨0, h1, Nat.le_refl _, ?_, fun m _ => Nat.zero_le m⟩
      rw [e] at h2 ⊢
      exact .here h2
    · rw [if_neg e] at h1
      right
      refine ⟨h1, fun m hm0 hw => ?_⟩
      have : m = 0 := by omega
      subst this
      cases hw
      exact e ((q_iff _ _).2 rfl)⟩
  obtain ⟨z, ez, hz⟩ := levels_rounds hm hin hx K0
  unfold t_additivelaw34_levels
  rw [hmk, if_pos rfl, ey]
  simp only [ez]
  rcases hz with ⟨d, rfl, hd⟩ | ⟨d, rfl, hd⟩
  · exact ⟨flst d, rfl, hd⟩
  · exact ⟨flst d, rfl, hd⟩
theorem ch_list {r : api_Region} (hL : Lim r) {a : api_Cell} (ha : In r a) {m : Nat} {l : List api_Cell} (h : Ch (Qc r a) m l) :
    l[l.length - 1]? = some a ∧ (∀ c ∈ l, In r c) ∧ ∀ (i : Nat) (p q : api_Cell), l[i]? = some p → l[i + 1]? = some q → Adj q p := by
  induction h with
  | base hs =>
    rw [(Qc_ok hL ha).first] at hs
    cases hs
    exact ⟨rfl, fun c hc => by simp at hc; subst hc; exact ha, fun i p q _ hq => by simp at hq⟩
  | step hs h0 hp hc ih =>
    obtain ⟨i1, i2, i3⟩ := ih
    obtain ⟨u, hu, hadj⟩ := (Qc_qb hL ha).adj _ _ _ hs hp
    obtain ⟨u', t, hu', rfl⟩ := hc.head
    rw [hu] at hu'
    cases hu'
    refine ⟨?_, fun c hcm => ?_, fun i p q hp1 hq1 => ?_⟩
    · simp only [List.length_cons, Nat.add_sub_cancel] at i1 ⊢
      rw [List.getElem?_cons_succ]
      exact i1
    · rcases List.mem_cons.1 hcm with rfl | hcm
      · exact (Qc_ok hL ha).inr _ (List.mem_of_getElem? hs)
      · exact i2 c hcm
    · cases i with
      | zero =>
        simp at hp1 hq1
        subst hp1 hq1
        exact hadj
      | succ i => exact i3 i p q (by simpa using hp1) (by simpa using hq1)
theorem want_ok {r : api_Region} {a b : api_Cell} (x1 : FS api_Cell) (o : Bool) (y : FS api_Cell) (d : FS Int) (hy : y.l.length ≤ 13107200) (hd : d.l.length = y.l.length) :
    ∃ w, loopT (t_additivelaw34_CombShortest_L0 r a b x1 o y d) bigN ((-1), 0) = some w ∧ ((w = -1 ∧ ∀ j, j < y.l.length → gC y j ≠ b) ∨ ∃ j, j < y.l.length ∧ gC y j = b ∧ w = gI d j) := by
  refine loop_ok (body := t_additivelaw34_CombShortest_L0 r a b x1 o y d) (fun s => ∃ n : Nat, s.2 = n ∧ n ≤ y.l.length ∧ ((s.1 = -1 ∧ ∀ j, j < n → gC y j ≠ b) ∨ ∃ j, j < n ∧ gC y j = b ∧ s.1 = gI d j)) (fun s => (y.l.length - s.2).toNat) (fun w => (w = -1 ∧ ∀ j, j < y.l.length → gC y j ≠ b) ∨ ∃ j, j < y.l.length ∧ gC y j = b ∧ w = gI d j) ?_ bigN _ ⟨0, rfl, by omega, .inl ⟨rfl, fun j hj => absurd hj (by omega)⟩⟩ (bigN_gt (by simp only; omega))
  rintro ⟨w, c⟩ ⟨n, hc, hn, h⟩
  simp only at hc h
  subst hc
  by_cases hlt : n < y.l.length
  · left
    have c1 : ilt (n : Int) (flen y) = true := ilt_tt (by rw [flen_eq]; omega)
    have g1 := fget_gI (d := d) (j := n) (by omega)
    have g2 := fget_gC (x := y) hlt
    by_cases e : q_api_Cell (gC y n) b = true
    · exact ⟨(gI d n, ((n + 1 : Nat) : Int)), by simp only [t_additivelaw34_CombShortest_L0, c1, if_true, g1, g2, q_eq, e, isucc (i := n) (by omega)], ⟨n + 1, rfl, by omega, .inr ⟨n, by omega, (q_iff _ _).1 e, rfl⟩⟩, by simp only; omega⟩
    · have e' : gC y n ≠ b := fun h => e ((q_iff _ _).2 h)
      rw [Bool.not_eq_true] at e
      refine ⟨(w, ((n + 1 : Nat) : Int)), by simp only [t_additivelaw34_CombShortest_L0, c1, if_true, g2, q_eq, e, Bool.false_eq_true, if_false, isucc (i := n) (by omega)], ⟨n + 1, rfl, by omega, ?_⟩, by simp only; omega⟩
      rcases h with ⟨h1, h2⟩ | ⟨j, h1, h2, h3⟩
      · exact .inl ⟨h1, fun j hj => by
          by_cases ej : j = n
          · subst ej; exact e'
          · exact h2 j (by omega)⟩
      · exact .inr ⟨j, by omega, h2, h3⟩
  · right
    have c1 : ilt (n : Int) (flen y) = false := ilt_ff (by rw [flen_eq]; omega)
    have : n = y.l.length := by omega
    subst this
    exact ⟨w, by simp only [t_additivelaw34_CombShortest_L0, c1, Bool.false_eq_true, if_false], h⟩
theorem links_ok {r : api_Region} (hL : Lim r) (x : FS api_Cell) (hx : x.l.length ≤ 100000000) (h1 : ∀ c ∈ x.l, In r c) (h2 : ∀ (i : Nat) (p q : api_Cell), x.l[i]? = some p → x.l[i + 1]? = some q → Adj p q) :
    loopT (t_additivelaw34_CombShortest_L1 r x) bigN 0 = some (.inr ()) := by
  obtain ⟨v, e, rfl⟩ := loop_ok (body := t_additivelaw34_CombShortest_L1 r x) (fun s => ∃ n : Nat, s = n ∧ n ≤ x.l.length) (fun s => (x.l.length - s).toNat) (fun v => v = .inr ()) (by
    rintro s ⟨n, rfl, hn⟩
    by_cases hlt : n < x.l.length
    · left
      have c1 : ilt (n : Int) (flen x) = true := ilt_tt (by rw [flen_eq]; omega)
      have g1 := fget_at hlt
      have hcb := cb_ref hL x.l[n]
      have hcb1 : cb r x.l[n] = true := (cb_iff hL _).2 (h1 _ (List.getElem_mem hlt))
      refine ⟨((n + 1 : Nat) : Int), ?_, ⟨n + 1, rfl, by omega⟩, by omega⟩
      cases n with
      | zero =>
        simp only [t_additivelaw34_CombShortest_L1, c1, if_true, g1, hcb, hcb1, bnot_t, bnot_f, show igt ((0 : Nat) : Int) 0 = false from rfl, band_f', band_t, band_f, gOpt_ff, Option.getD_none, bor_f, show bor false false = false from rfl, Bool.false_eq_true, if_false, isucc (i := 0) (by omega)]
      | succ n =>
        have g2 : fget x (isub .i64 ((n + 1 : Nat) : Int) 1) = some x.l[n] := by
          rw [isub_eq (by omega) (by omega)]
          have : ((n + 1 : Nat) : Int) - 1 = (n : Int) := by omega
          rw [this]
          exact fget_at (by omega)
        have hadj := h2 n _ _ (List.getElem?_eq_getElem (by omega)) (List.getElem?_eq_getElem hlt)
        have hs := (step_iff (in_range (h1 _ (List.getElem_mem (by omega)))) (in_range (h1 _ (List.getElem_mem hlt)))).2 hadj
        have c2 : igt ((n + 1 : Nat) : Int) 0 = true := igt_tt (by omega)
        simp only [t_additivelaw34_CombShortest_L1, c1, if_true, g1, hcb, hcb1, bnot_t, bnot_f, c2, band_t, g2, gOpt_tt, Option.getD_some, hs, show bor false false = false from rfl, Bool.false_eq_true, if_false, isucc (i := n + 1) (by omega)]
    · right
      have c1 : ilt (n : Int) (flen x) = false := ilt_ff (by rw [flen_eq]; omega)
      exact ⟨.inr (), by simp only [t_additivelaw34_CombShortest_L1, c1, Bool.false_eq_true, if_false], rfl⟩) bigN 0 ⟨0, rfl, by omega⟩ (bigN_gt (by omega))
  exact e
theorem combShortest_true (r : api_Region) (a b : api_Cell) : t_additivelaw34_CombShortest r a b = some true := by
  obtain ⟨v, ev, hv⟩ := small_ok4 r
  unfold t_additivelaw34_CombShortest
  rw [ev]
  cases v with
  | false => rfl
  | true =>
    have h4 := hv rfl
    have hL := h4.lim
    obtain ⟨x, o, e1, h⟩ := path_spec hL (a := a) (b := b)
    obtain ⟨y, e2, hm, hy⟩ := cells_ok h4
    obtain ⟨d, e3, hF⟩ := levels_ok (a := a) hm hy
    obtain ⟨w, e4, hw⟩ := want_ok (r := r) (a := a) (b := b) x o y d hy hF.1
    simp only [bnot_t, Bool.false_eq_true, if_false, e1, e2, e3, e4]
    rcases h with ⟨rfl, hx, hn⟩ | ⟨rfl, ha, m, u, full, hu, hb, hch, hl, hx⟩
    · have hw1 : w = -1 := by
        rcases hw with ⟨h, -⟩ | ⟨j, hj, hc, h⟩
        · exact h
        · rcases hF.2 j hj with ⟨n, hn1, hn2⟩ | ⟨h2, -⟩
          · rw [hc] at hn2; exact absurd hn2.1 (hn n)
          · omega
      have hx0 : ieq (flen x) 0 = true := by rw [ieq_iff, flen_eq, hx]; rfl
      subst hw1
      simp only [bnot_f, if_true, hx0, show ilt (-1) 0 = true from rfl, band_t]
      rfl
    · obtain ⟨k1, k2, k3⟩ := ch_list hL ha hch
      obtain ⟨u', hu', hway⟩ := Qc_way hL ha hch
      rw [hu] at hu'
      cases hu'
      obtain ⟨u2, t, hu2, hfull⟩ := hch.head
      rw [hu] at hu2
      cases hu2
      have hlen : 0 < full.length := by rw [hfull]; simp
      have hxl : x.l.length = full.length := by rw [hx, List.length_reverse]
      have hmin : ∀ n, Wk r a n b → full.length ≤ n + 1 := fun n hn => by
        obtain ⟨m', u', l', hu', hc', hch', hl'⟩ := Qc_short hL ha hn
        have := (Qc_ok hL ha).inj hu hu' (hb.trans hc'.symm)
        subst this
        rw [hch.det hch']
        exact hl'
      rw [hb] at hway
      have hw1 : w = ((full.length - 1 : Nat) : Int) := by
        rcases hw with ⟨-, h⟩ | ⟨j, hj, hc, h⟩
        · obtain ⟨j, hj, hc⟩ := mem_gC ((hm _).2 hway.inr)
          exact absurd hc (h j hj)
        · rcases hF.2 j hj with ⟨n, hn1, hn2⟩ | ⟨-, h2⟩
          · rw [hc] at hn2
            have := hn2.2 _ hway
            have := hmin _ hn2.1
            omega
          · rw [hc] at h2; exact absurd hway (h2 _)
      have c1 : ine (flen x) (iadd .i64 w 1) = false := by
        rw [hw1, flen_eq, iadd_eq (by omega) (by omega), ← Bool.not_eq_true]
        simp [ine]
        omega
      have c2 : ilt w 0 = false := ilt_ff (by omega)
      have g1 : fget x 0 = some a := by
        refine fget_nat (i := 0) ?_
        rw [hx, List.getElem?_reverse hlen]
        exact k1
      have g2 : fget x (isub .i64 (flen x) 1) = some b := by
        have e : isub .i64 (flen x) 1 = ((full.length - 1 : Nat) : Int) := by rw [flen_eq, isub_eq (by omega) (by omega)]; omega
        rw [e]
        refine fget_nat ?_
        rw [hx, List.getElem?_reverse (by omega)]
        have : full.length - 1 - (full.length - 1) = 0 := by omega
        rw [this, hfull, ← hb]
        rfl
      have qa : q_api_Cell a a = true := (q_iff _ _).2 rfl
      have qb : q_api_Cell b b = true := (q_iff _ _).2 rfl
      have e5 := links_ok hL x (by omega) (fun c hc => by rw [hx, List.mem_reverse] at hc; exact k2 c hc) (fun i p q hp hq => by
        have hi := (List.getElem?_eq_some_iff.1 hq).1
        rw [hx, List.length_reverse] at hi
        rw [hx, List.getElem?_reverse (by omega)] at hp hq
        have e : full.length - 1 - i = (full.length - 1 - (i + 1)) + 1 := by omega
        rw [e] at hp
        exact k3 _ _ _ hq hp)
      simp only [bnot_t, bnot_f, Bool.false_eq_true, if_false, c1, c2, show bor false false = false from rfl, gOpt_tt, g1, g2, Option.getD_some, q_eq, qa, qb, e5]
      rfl
end Go.Proofs.Ytchiiiahgmfofaa
