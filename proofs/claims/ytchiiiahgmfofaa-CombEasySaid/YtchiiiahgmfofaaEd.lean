/- comb: turns of a way; CombEasier. Conditions: none. -/
import Derived.Test.YtchiiiahgmfofaaEc
import Derived.Test.YtchiiiahgmfofaaBp
namespace Go.Proofs.Ytchiiiahgmfofaa
open Go Go.Vv Go.Proofs
set_option linter.unusedSimpArgs false
set_option linter.unusedVariables false
set_option linter.unusedSectionVars false
theorem ok_iff (c : api_Cell) : u_comb_ok c = true ↔ InR c := by
  simp only [u_comb_ok, band_iff, ige_iff, ilt_iff, InR]; omega
theorem pth_snoc (c : api_Cell) (ks : List Nat) (k : Nat) : pth c (ks ++ [k]) = pth c ks ++ [nbr (lastC c ks) k] := by
  induction ks generalizing c with
  | nil => rfl
  | cons j ks ih => simp only [List.cons_append, pth, lastC, ih]
theorem pth_step {c : api_Cell} {ks : List Nat} {i : Nat} {p q : api_Cell} : (pth c ks)[i]? = some p → (pth c ks)[i + 1]? = some q → ∃ k, ks[i]? = some k ∧ q = nbr p k := by
  induction ks generalizing c i with
  | nil =>
    intro _ h
    simp only [pth, List.getElem?_cons_succ, List.getElem?_nil] at h
    cases h
  | cons j ks ih =>
    cases i with
    | zero =>
      intro h1 h2
      simp only [pth, List.getElem?_cons_zero, List.getElem?_cons_succ, Nat.zero_add] at h1 h2
      rw [pth_head] at h2
      cases h1; cases h2
      exact ⟨j, rfl, rfl⟩
    | succ i =>
      intro h1 h2
      simp only [pth, List.getElem?_cons_succ] at h1 h2 ⊢
      exact ih h1 h2
theorem ch_way {r : api_Region} (hL : Lim r) {a : api_Cell} (ha : In r a) {m : Nat} {l : List api_Cell} (h : Ch (Qc r a) m l) : ∃ ks u, (Qc r a)[m]? = some u ∧ Way r a ks ∧ pth a ks = l.reverse ∧ lastC a ks = u.cell := by
  induction h with
  | base hs =>
    rw [(Qc_ok hL ha).first] at hs
    cases hs
    exact ⟨[], _, (Qc_ok hL ha).first, ⟨by simp, by simpa [pth] using ha⟩, rfl, rfl⟩
  | step hs h0 hp hc ih =>
    rename_i j p s l
    obtain ⟨ks, u, hu, hw, hpl, hl⟩ := ih
    obtain ⟨u', hu', k, hk, hadj⟩ := (Qc_qb hL ha).adj _ _ _ hs hp
    rw [hu] at hu'
    cases hu'
    refine ⟨ks ++ [k], s, hs, ⟨fun x hx => ?_, fun d hd => ?_⟩, ?_, ?_⟩
    · rw [List.mem_append, List.mem_singleton] at hx
      rcases hx with hx | rfl
      · exact hw.1 x hx
      · exact hk
    · rw [pth_snoc, List.mem_append, List.mem_singleton] at hd
      rcases hd with hd | rfl
      · exact hw.2 d hd
      · rw [hl, ← hadj]; exact (Qc_ok hL ha).inr _ (List.mem_of_getElem? hs)
    · rw [pth_snoc, hpl, hl, ← hadj, List.reverse_cons]
    · rw [lastC_append, hl]; exact hadj.symm
/-- A direction as a step. -/
def dv : Nat → api_Cell
  | 0 => ⟨1, 0⟩
  | 1 => ⟨-1, 0⟩
  | 2 => ⟨0, 1⟩
  | _ => ⟨0, -1⟩
theorem step_dv {p : api_Cell} (hp : InR p) {k : Nat} (hk : k < 4) : u_comb_step p (nbr p k) = dv k := by
  unfold InR at hp
  have : k = 0 ∨ k = 1 ∨ k = 2 ∨ k = 3 := by omega
  unfold u_comb_step
  rcases this with rfl | rfl | rfl | rfl <;> simp only [nbr, dv] <;> rw [isub_eq (by omega) (by omega), isub_eq (by omega) (by omega)] <;> refine Cell.ext' ?_ ?_ <;> simp only <;> omega
theorem dv_one {k : Nat} (hk : k < 4) : ine (iadd .i64 (imul .i64 (dv k).X (dv k).X) (imul .i64 (dv k).Y (dv k).Y)) 1 = false := by
  have : k = 0 ∨ k = 1 ∨ k = 2 ∨ k = 3 := by omega
  rcases this with rfl | rfl | rfl | rfl <;> decide
theorem step_nbr {p : api_Cell} (hp : InR p) {k : Nat} (hk : k < 4) : u_additivelaw34_step p (nbr p k) = true := by
  unfold InR at hp
  have : k = 0 ∨ k = 1 ∨ k = 2 ∨ k = 3 := by omega
  unfold u_additivelaw34_step
  rcases this with rfl | rfl | rfl | rfl <;> simp only [nbr] <;> rw [isub_eq (by omega) (by omega), isub_eq (by omega) (by omega)]
  · have e1 : p.X - (p.X + 1) = -1 := by omega
    rw [e1, Int.sub_self]; decide
  · have e1 : p.X - (p.X - 1) = 1 := by omega
    rw [e1, Int.sub_self]; decide
  · have e1 : p.Y - (p.Y + 1) = -1 := by omega
    rw [e1, Int.sub_self]; decide
  · have e1 : p.Y - (p.Y - 1) = 1 := by omega
    rw [e1, Int.sub_self]; decide
theorem dv_inj {j k : Nat} (hj : j < 4) (hk : k < 4) : q_api_Cell (dv j) (dv k) = decide (j = k) := by
  have h1 : j = 0 ∨ j = 1 ∨ j = 2 ∨ j = 3 := by omega
  have h2 : k = 0 ∨ k = 1 ∨ k = 2 ∨ k = 3 := by omega
  rcases h1 with rfl | rfl | rfl | rfl <;> rcases h2 with rfl | rfl | rfl | rfl <;> rfl
section
variable {r : api_Region} {c : api_Cell} {ks : List Nat} (hw : Way r c ks) {x : FS api_Cell} (hx : x.l = pth c ks) (hlen : ks.length ≤ 100000000)
include hw hx hlen
theorem way_get {i : Nat} (hi : i < ks.length + 1) : ∃ p, x.l[i]? = some p ∧ InR p ∧ In r p := by
  have hl : i < x.l.length := by rw [hx, pth_len]; exact hi
  have hm : x.l[i] ∈ pth c ks := by rw [← hx]; exact List.getElem_mem hl
  exact ⟨_, List.getElem?_eq_getElem hl, in_range (hw.2 _ hm), hw.2 _ hm⟩
theorem way_way : t_comb_way x = some true := by
  obtain ⟨v, e, hv⟩ := loop_ok (body := t_comb_way_L0 x x (flen x)) (fun s => ∃ i : Nat, s = i ∧ i ≤ ks.length + 1) (fun s => (((ks.length + 1 : Nat) : Int) - s).toNat) (fun v => v = .inr ())
    (by
      rintro _ ⟨i, rfl, hi⟩
      have hxl : x.l.length = ks.length + 1 := by rw [hx, pth_len]
      by_cases h : i < ks.length + 1
      · left
        obtain ⟨p, hp, hpr, -⟩ := way_get hw hx hlen h
        have c1 : ilt (i : Int) (flen x) = true := ilt_tt (by rw [flen_eq]; omega)
        have ho : bnot (u_comb_ok p) = false := by rw [(ok_iff p).2 hpr]; rfl
        refine ⟨((i + 1 : Nat) : Int), ?_, ⟨i + 1, rfl, by omega⟩, by omega⟩
        cases i with
        | zero =>
          have hp' : fget x ((0 : Nat) : Int) = some p := fget_nat hp
          simp only [t_comb_way_L0, c1, if_true, hp', ho, Bool.false_eq_true, if_false, show ieq (((0 : Nat) : Int)) 0 = true from rfl]
          rfl
        | succ i =>
          obtain ⟨q, hq, hqr, -⟩ := way_get hw hx hlen (i := i) (by omega)
          rw [hx] at hp hq
          obtain ⟨k, hk, rfl⟩ := pth_step hq hp
          have hk4 := hw.1 k (List.mem_of_getElem? hk)
          rw [← hx] at hp hq
          have e1 : isub .i64 ((i + 1 : Nat) : Int) 1 = (i : Int) := by rw [isub_eq (by omega) (by omega)]; omega
          have c2 : ieq ((i + 1 : Nat) : Int) 0 = false := ieq_ff (by omega)
          simp only [t_comb_way_L0, c1, if_true, fget_nat hp, ho, c2, Bool.false_eq_true, if_false, e1, fget_nat hq, step_dv hqr hk4, dv_one hk4, isucc (i := i + 1) (by omega)]
      · right
        have c1 : ilt (i : Int) (flen x) = false := ilt_ff (by rw [flen_eq]; omega)
        exact ⟨_, by simp only [t_comb_way_L0, c1, Bool.false_eq_true, if_false], rfl⟩)
    bigN 0 ⟨0, rfl, by omega⟩ (bigN_gt (by omega))
  unfold t_comb_way
  rw [e, hv]
theorem turns_ok : t_comb_Turns x = some (tk ks : Int) := by
  obtain ⟨v, e, hv⟩ := loop_ok (body := t_comb_Turns_L0 x) (fun s => ∃ (n i : Nat), s = ((n : Int), ((i + 1 : Nat) : Int)) ∧ i ≤ ks.length ∧ n + tk (ks.drop i) = tk ks) (fun s => (((ks.length + 2 : Nat) : Int) - s.2).toNat) (fun v => v = (tk ks : Int))
    (by
      rintro _ ⟨n, i, rfl, hi, hn⟩
      have hxl : x.l.length = ks.length + 1 := by rw [hx, pth_len]
      have htk := tk_le ks
      have e1 : iadd .i64 ((i + 1 : Nat) : Int) 1 = ((i + 2 : Nat) : Int) := isucc (i := i + 1) (by omega)
      have e2 : isub .i64 ((i + 1 : Nat) : Int) 1 = (i : Int) := by rw [isub_eq (by omega) (by omega)]; omega
      by_cases h : i + 1 < ks.length
      · left
        have c1 : ilt ((i + 2 : Nat) : Int) (flen x) = true := ilt_tt (by rw [flen_eq]; omega)
        obtain ⟨p0, h0, r0, -⟩ := way_get hw hx hlen (i := i) (by omega)
        obtain ⟨p1, h1, r1, -⟩ := way_get hw hx hlen (i := i + 1) (by omega)
        obtain ⟨p2, h2, r2, -⟩ := way_get hw hx hlen (i := i + 2) (by omega)
        rw [hx] at h0 h1 h2
        obtain ⟨k, hk, rfl⟩ := pth_step h0 h1
        obtain ⟨j, hj, rfl⟩ := pth_step h1 h2
        rw [← hx] at h0 h1 h2
        have hk4 := hw.1 k (List.mem_of_getElem? hk)
        have hj4 := hw.1 j (List.mem_of_getElem? hj)
        have hq := dv_inj hk4 hj4
        have hd : ks.drop i = k :: j :: ks.drop (i + 2) := by
          obtain ⟨hki, rfl⟩ := List.getElem?_eq_some_iff.1 hk
          obtain ⟨hji, rfl⟩ := List.getElem?_eq_some_iff.1 hj
          rw [List.drop_eq_getElem_cons hki, List.drop_eq_getElem_cons hji]
        have hd1 : ks.drop (i + 1) = j :: ks.drop (i + 2) := by
          obtain ⟨hji, rfl⟩ := List.getElem?_eq_some_iff.1 hj
          rw [List.drop_eq_getElem_cons hji]
        rw [hd] at hn
        simp only [tk] at hn
        rw [← hd1] at hn
        by_cases hkj : k = j
        · rw [if_pos hkj] at hn
          have hq1 : q_api_Cell (dv k) (dv j) = true := by rw [hq]; simpa using hkj
          refine ⟨((n : Int), ((i + 2 : Nat) : Int)), ?_, ⟨n, i + 1, rfl, by omega, by omega⟩, by simp only; omega⟩
          simp only [t_comb_Turns_L0, e1, e2, c1, if_true, fget_nat h0, fget_nat h1, fget_nat h2, step_dv r0 hk4, step_dv r1 hj4, q_eq, hq1, bnot_t, Bool.false_eq_true, if_false]
        · rw [if_neg hkj] at hn
          have hq1 : q_api_Cell (dv k) (dv j) = false := by rw [hq]; simpa using hkj
          refine ⟨(((n + 1 : Nat) : Int), ((i + 2 : Nat) : Int)), ?_, ⟨n + 1, i + 1, rfl, by omega, by omega⟩, by simp only; omega⟩
          simp only [t_comb_Turns_L0, e1, e2, c1, if_true, fget_nat h0, fget_nat h1, fget_nat h2, step_dv r0 hk4, step_dv r1 hj4, q_eq, hq1, bnot_f, isucc (i := n) (by omega)]
      · right
        have c1 : ilt ((i + 2 : Nat) : Int) (flen x) = false := ilt_ff (by rw [flen_eq]; omega)
        refine ⟨(n : Int), by simp only [t_comb_Turns_L0, e1, c1, Bool.false_eq_true, if_false], ?_⟩
        have : tk (ks.drop i) = 0 := by
          have hl : (ks.drop i).length ≤ 1 := by rw [List.length_drop]; omega
          match ks.drop i, hl with
          | [], _ => rfl
          | [_], _ => rfl
        omega)
    bigN (0, 1) ⟨0, 0, rfl, by omega, by simp⟩ (bigN_gt (by simp only; omega))
  unfold t_comb_Turns
  rw [way_way hw hx hlen]
  simp only [bnot_t, Bool.false_eq_true, if_false, e, hv]
theorem easier_links (hL : Lim r) (a b : api_Cell) (k m : FS api_Cell) : loopT (t_additivelaw34_CombEasier_L0 r a b x k m) bigN 0 = some (.inr ()) := by
  obtain ⟨v, e, hv⟩ := loop_ok (body := t_additivelaw34_CombEasier_L0 r a b x k m) (fun s => ∃ i : Nat, s = i ∧ i ≤ ks.length + 1) (fun s => (((ks.length + 1 : Nat) : Int) - s).toNat) (fun v => v = .inr ())
    (by
      rintro _ ⟨i, rfl, hi⟩
      have hxl : x.l.length = ks.length + 1 := by rw [hx, pth_len]
      by_cases h : i < ks.length + 1
      · left
        obtain ⟨p, hp, hpr, hpin⟩ := way_get hw hx hlen h
        have c1 : ilt (i : Int) (flen x) = true := ilt_tt (by rw [flen_eq]; omega)
        have hcb := cb_ref hL p
        rw [(cb_iff hL p).2 hpin] at hcb
        refine ⟨((i + 1 : Nat) : Int), ?_, ⟨i + 1, rfl, by omega⟩, by omega⟩
        cases i with
        | zero =>
          have hp' : fget x ((0 : Nat) : Int) = some p := fget_nat hp
          have c2 : igt ((0 : Nat) : Int) 0 = false := rfl
          simp only [t_additivelaw34_CombEasier_L0, c1, if_true, hp', hcb, c2, bnot_t, bnot_f, band_t, band_f, band_f', bor_f, gOpt_ff, Bool.false_eq_true, if_false]
          rfl
        | succ i =>
          obtain ⟨q, hq, hqr, -⟩ := way_get hw hx hlen (i := i) (by omega)
          rw [hx] at hp hq
          obtain ⟨k', hk, rfl⟩ := pth_step hq hp
          have hk4 := hw.1 k' (List.mem_of_getElem? hk)
          rw [← hx] at hp hq
          have e1 : isub .i64 ((i + 1 : Nat) : Int) 1 = (i : Int) := by rw [isub_eq (by omega) (by omega)]; omega
          have c2 : igt ((i + 1 : Nat) : Int) 0 = true := igt_tt (by omega)
          have hst := step_nbr hqr hk4
          simp only [t_additivelaw34_CombEasier_L0, c1, if_true, fget_nat hp, hcb, c2, bnot_t, bnot_f, band_t, e1, gOpt_tt, fget_nat hq, Option.getD_some, hst, bor_f, Bool.false_eq_true, if_false, isucc (i := i + 1) (by omega)]
      · right
        have c1 : ilt (i : Int) (flen x) = false := ilt_ff (by rw [flen_eq]; omega)
        exact ⟨_, by simp only [t_additivelaw34_CombEasier_L0, c1, Bool.false_eq_true, if_false], rfl⟩)
    bigN 0 ⟨0, rfl, by omega⟩ (bigN_gt (by omega))
  rw [e, hv]
end
theorem Wk.dst {r : api_Region} {a b : api_Cell} {n : Nat} (h : Dst r b n a) : Dst r a n b := ⟨h.1.symm, fun m hm => h.2 m hm.symm⟩
theorem easy_all {r : api_Region} (hL : Lim r) (a b : api_Cell) : ∃ x o, t_comb_Easy r a b = some (x, o) ∧ ((o = false ∧ x.l = [] ∧ ∀ n, ¬ Wk r b n a) ∨ ∃ n, o = true ∧ Dst r b n a ∧ n ≤ 67108864 ∧ x.l = pth a (ew r b n a (-1))) := by
  by_cases hb : In r b
  · exact easy_spec hL hb a
  · exact ⟨_, _, easy_no hL hb, .inl ⟨rfl, rfl, fun n h => hb h.ina⟩⟩
theorem combEasier_true (r : api_Region) (a b : api_Cell) : t_additivelaw34_CombEasier r a b = some true := by
  obtain ⟨v, ev, hv⟩ := small_ok r
  unfold t_additivelaw34_CombEasier
  rw [ev]
  cases v with
  | false => rfl
  | true =>
    have hL := hv rfl
    obtain ⟨x, o, e1, h1⟩ := easy_all hL a b
    obtain ⟨y, p, e2, h2⟩ := path_spec hL (a := a) (b := b)
    obtain ⟨z, q, e3, h3⟩ := easy_all hL b a
    simp only [bnot_t, Bool.false_eq_true, if_false, e1, e2, e3]
    rcases h1 with ⟨rfl, hx, hn⟩ | ⟨n, rfl, hd, hnb, hx⟩
    · -- no way
      have hp : p = false ∧ y.l = [] := by
        rcases h2 with ⟨rfl, hy, -⟩ | ⟨rfl, ha, m, u, full, hu, hb, hch, -, -⟩
        · exact ⟨rfl, hy⟩
        · obtain ⟨u', hu', hw⟩ := Qc_way hL ha hch
          rw [hu] at hu'
          cases hu'
          rw [hb] at hw
          exact absurd hw.symm (hn _)
      have hq : q = false ∧ z.l = [] := by
        rcases h3 with ⟨rfl, hz, -⟩ | ⟨m, rfl, hd, -, -⟩
        · exact ⟨rfl, hz⟩
        · exact absurd hd.1.symm (hn _)
      obtain ⟨rfl, hy⟩ := hp
      obtain ⟨rfl, hz⟩ := hq
      have l1 : flen x = 0 := by rw [flen_eq, hx]; rfl
      have l2 : flen y = 0 := by rw [flen_eq, hy]; rfl
      have l3 : flen z = 0 := by rw [flen_eq, hz]; rfl
      simp only [l1, l2, l3]
      rfl
    · obtain ⟨w1, la1, len1, min1⟩ := ew_min hnb hd
      have hp : ∃ ks, p = true ∧ Way r a ks ∧ lastC a ks = b ∧ ks.length = n ∧ y.l = pth a ks := by
        rcases h2 with ⟨-, -, hno⟩ | ⟨rfl, ha, m, u, full, hu, hb, hch, -, hy⟩
        · exact absurd hd.1.symm (hno _)
        · obtain ⟨ks, u', hu', hw, hpl, hl⟩ := ch_way hL ha hch
          rw [hu] at hu'
          cases hu'
          have h4 := Qc_dst hL ha hu hch
          rw [hb] at h4
          have h5 := h4.uniq (Wk.dst hd)
          obtain ⟨_, _, _, rfl⟩ := hch.head
          refine ⟨ks, rfl, hw, hl.trans hb, ?_, by rw [hy, hpl]⟩
          have h6 := pth_len a ks
          rw [hpl, List.length_reverse] at h6
          omega
      have hq : q = true ∧ z.l = pth b (ew r a n b (-1)) := by
        rcases h3 with ⟨-, -, hno⟩ | ⟨m, rfl, hd', -, hz⟩
        · exact absurd hd.1.symm (hno _)
        · have := (Wk.dst hd).uniq hd'
          subst this
          exact ⟨rfl, hz⟩
      obtain ⟨ks, rfl, wp, lap, lenp, hy⟩ := hp
      obtain ⟨rfl, hz⟩ := hq
      obtain ⟨w2, la2, len2, min2⟩ := ew_min hnb (Wk.dst hd)
      generalize ew r b n a (-1) = k1 at *
      generalize ew r a n b (-1) = k2 at *
      have b1 := bak_ok k1 a w1
      have b2 := bak_ok k2 b w2
      rw [la1] at b1
      rw [la2] at b2
      have t1 := min1 ks wp lap lenp
      have t2 := min1 (bak k2) b2.2 b2.1 (by rw [bak_len, len2])
      have t3 := min2 (bak k1) b1.2 b1.1 (by rw [bak_len, len1])
      rw [tk_bak _ w2.1] at t2
      rw [tk_bak _ w1.1] at t3
      have xl : x.l.length = n + 1 := by rw [hx, pth_len, len1]
      have l1 : flen x = ((n + 1 : Nat) : Int) := by rw [flen_eq, xl]
      have l2 : flen y = ((n + 1 : Nat) : Int) := by rw [flen_eq, hy, pth_len, lenp]
      have l3 : flen z = ((n + 1 : Nat) : Int) := by rw [flen_eq, hz, pth_len, len2]
      have c1 : ine ((n + 1 : Nat) : Int) ((n + 1 : Nat) : Int) = false := by simp [ine]
      have c0 : bor (bor (bor (bnot (band (beqB true true) true)) (bnot (band (beqB true true) true))) (ine ((n + 1 : Nat) : Int) ((n + 1 : Nat) : Int))) (ine ((n + 1 : Nat) : Int) ((n + 1 : Nat) : Int)) = false := by rw [c1]; rfl
      have hlk := easier_links w1 hx (by omega) hL a b y z
      have c2 : igt ((n + 1 : Nat) : Int) 0 = true := igt_tt (by omega)
      have g1 : fget x 0 = some a := fget_nat (i := 0) (by rw [hx]; exact pth_head a k1)
      have g2 : fget x (isub .i64 ((n + 1 : Nat) : Int) 1) = some b := by
        rw [isub_eq (by omega) (by omega)]
        have : ((n + 1 : Nat) : Int) - 1 = ((k1.length : Nat) : Int) := by omega
        rw [this]
        exact fget_nat (by rw [hx, ← la1]; exact pth_last a k1)
      have qa : q_api_Cell a a = true := (q_iff _ _).2 rfl
      have qb : q_api_Cell b b = true := (q_iff _ _).2 rfl
      have T1 := turns_ok w1 hx (by omega)
      have T2 := turns_ok wp hy (by omega)
      have T3 := turns_ok w2 hz (by omega)
      have c3 : ile (tk k1 : Int) (tk ks : Int) = true := ile_iff.2 (by omega)
      have c4 : ieq (tk k1 : Int) (tk k2 : Int) = true := ieq_iff.2 (by omega)
      simp only [l1, l2, l3, c0, bnot_t, Bool.false_eq_true, if_false, hlk, c2, gOpt_tt, g1, g2, Option.getD_some, q_eq, qa, qb, band_t, T1, T2, T3, c3, c4]
      rfl
end Go.Proofs.Ytchiiiahgmfofaa
