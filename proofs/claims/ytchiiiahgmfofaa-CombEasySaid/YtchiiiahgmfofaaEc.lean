/- comb: Easy takes an easy way, in plain Lean; CombEasier. Conditions: none. -/
import Derived.Test.YtchiiiahgmfofaaEb
namespace Go.Proofs.Ytchiiiahgmfofaa
open Go Go.Vv Go.Proofs
set_option linter.unusedSimpArgs false
set_option linter.unusedVariables false
set_option linter.unusedSectionVars false
theorem fnd_Qc {r : api_Region} {a b : api_Cell} (hL : Lim r) (hb : In r b) (h : fnd (Qc r b) a = true) : ∃ n, Dst r b n a := by
  obtain ⟨u, hu, rfl⟩ := (fnd_iff _ _).1 h
  obtain ⟨m, hm, rfl⟩ := List.getElem_of_mem hu
  obtain ⟨_, _, _, hd, _⟩ := Qc_dd hL hb (List.getElem?_eq_getElem hm)
  exact ⟨_, hd⟩
section
variable {r : api_Region} (hL : Lim r) {b : api_Cell} (hb : In r b)
include hL hb
/-- What is known at the end: the queue's first cells are examined, up to a if it is found. -/
def Exam (r : api_Region) (b a : api_Cell) (Q : List Seen) (i : Nat) : Prop := QOK r b Q ∧ Q <+: Qc r b ∧ ((∃ (j : Nat) (s : Seen), j < i ∧ Q[j]? = some s ∧ s.cell = a) ∨ (Q.length ≤ i ∧ Q = Qc r b))
theorem examined_ok (a : api_Cell) : ∃ Q i, t_comb_examined r a b = some (mapE r b Q i) ∧ Exam r b a Q i := by
  obtain ⟨y, e, Q, i, rfl, hQ⟩ := loop_ok (body := t_comb_examined_L1 r a b)
    (fun s => ∃ i : Nat, s.1 = mapE r b (S r b (4 * i)) i ∧ s.2.l = ((S r b (4 * i)).drop i).map (·.cell) ∧ i ≤ (S r b (4 * i)).length) (fun s => 67108866 - (s.1.length - s.2.l.length))
    (fun y => ∃ Q i, y = mapE r b Q i ∧ Exam r b a Q i)
    (by
      rintro ⟨M, x⟩ ⟨i, hM, hx, hi⟩
      simp only at hM hx
      have ok := S_ok hL hb (4 * i)
      have hlen := ok.len
      have hxl : x.l.length = (S r b (4 * i)).length - i := by rw [hx, List.length_map, List.length_drop]
      have hMl : M.length = (S r b (4 * i)).length := by rw [hM, mapE_len]
      by_cases hlt : i < (S r b (4 * i)).length
      · have c1 : igt (flen x) 0 = true := igt_tt (by rw [flen_eq]; omega)
        have hs := List.getElem?_eq_getElem hlt
        generalize hs0 : (S r b (4 * i))[i] = s0 at hs
        have g0 : fget x 0 = some s0.cell := fget_int (by omega) (by
          rw [hx]
          simp only [Int.toNat_zero, List.getElem?_map, List.getElem?_drop, Nat.add_zero, hs]
          rfl)
        obtain ⟨y, ey, hy⟩ := fsl_tail (x := x) (by omega)
        have hg := mapE_get ok (i := i) hs ⟨0, ⟨0, 0, 0, 0⟩⟩
        rw [if_neg (by omega)] at hg
        obtain ⟨⟨w, M', z⟩, ez, h0, h1, h2⟩ := ex_inner hL hb a i y s0 hs (by rw [hy, hx, ← List.map_drop, List.drop_drop])
        simp only at h0 h1 h2
        have hmono := S_mono r b (show 4 * i ≤ 4 * (i + 1) by omega)
        have hle : i + 1 ≤ (S r b (4 * (i + 1))).length := by
          have := hmono.length_le
          omega
        have ok' := S_ok hL hb (4 * (i + 1))
        have hlen' := ok'.len
        have hs' : (S r b (4 * (i + 1)))[i]? = some s0 := pre_get hmono hs
        have hdone := mapE_done ok' hs'
        by_cases hab : s0.cell = a
        · right
          refine ⟨mapE r b (S r b (4 * (i + 1))) (i + 1), ?_, _, _, rfl, ok', S_Qc hL hb _, .inl ⟨i, s0, by omega, hs', hab⟩⟩
          have : q_api_Cell s0.cell a = true := (q_iff _ _).2 hab
          simp only [t_comb_examined_L1, c1, if_true, g0, ey, hM, hg, ez, q_eq, this, h0, h1, hdone]
        · left
          have hq : q_api_Cell s0.cell a = false := by rw [← Bool.not_eq_true, q_iff]; exact hab
          refine ⟨(mapE r b (S r b (4 * (i + 1))) (i + 1), z), ?_, ⟨i + 1, rfl, h2, hle⟩, ?_⟩
          · simp only [t_comb_examined_L1, c1, if_true, g0, ey, q_eq, hq, Bool.false_eq_true, if_false, hM, hg, ez, h0, h1, hdone]
          · simp only
            rw [mapE_len, h2]
            simp only [List.length_map, List.length_drop]
            omega
      · right
        have c1 : igt (flen x) 0 = false := igt_ff (by rw [flen_eq]; omega)
        refine ⟨M, ?_, S r b (4 * i), i, hM, ok, S_Qc hL hb _, .inr ⟨by omega, ?_⟩⟩
        · simp only [t_comb_examined_L1, c1, Bool.false_eq_true, if_false]
        · by_cases h2 : 4 * i ≤ 4 * 67108864
          · exact (S_const r b (n := i) (by omega) _ h2).symm
          · omega)
    bigN (mset q_api_Cell [] b ⟨0, ⟨0, 0, 0, 0⟩⟩, flit [b]) ⟨0, by
      have : dd r b b = 0 := dd_eq (Dst.here hb)
      show [(b, _)] = mapE r b [⟨b, -1⟩] 0
      simp only [mapE, List.mapIdx_cons, List.mapIdx_nil, blank, this, tv_zero this]
      rfl, rfl, by simp [S]⟩ (bigN_gt (by simp only; omega))
  refine ⟨Q, i, ?_, hQ⟩
  unfold t_comb_examined
  rw [e]
/-- The cells on the way are examined. -/
theorem easy_loop {a : api_Cell} {Q : List Seen} {i : Nat} (hE : Exam r b a Q i) {na : Nat} (hda : Dst r b na a) : ∃ y, loopT (t_comb_Easy_L0 b (mapE r b Q i)) bigN (flit [a], a, -1) = some y ∧ y.l = pth a (ew r b na a (-1)) := by
  obtain ⟨ok, hpre, hE⟩ := hE
  have hna : na ≤ 67108864 := by
    obtain ⟨m, u, hu, hc⟩ := Qc_has hL hb hda
    obtain ⟨-, -, -, -, h⟩ := Qc_dd hL hb hu
    rw [hc, dd_eq hda] at h; exact h
  have get : ∀ {c : api_Cell} {n : Nat}, Dst r b n c → (n < na ∨ c = a) → mget q_api_Cell (mapE r b Q i) c ⟨0, ⟨0, 0, 0, 0⟩⟩ = full r b c := fun {c n} hd hn => by
    obtain ⟨m, u, hu, hc⟩ := Qc_has hL hb hd
    obtain ⟨ma, ua, hua, hca⟩ := Qc_has hL hb hda
    have hle : m ≤ ma := by
      rcases hn with hn | rfl
      · exact Nat.le_of_lt (Qc_lt hL hb hu hua (by rw [hc, hca, dd_eq hd, dd_eq hda]; exact hn))
      · exact Nat.le_of_eq ((Qc_ok hL hb).inj hu hua (hc.trans hca.symm))
    have hmi : m < i ∧ m < Q.length := by
      rcases hE with ⟨j, s, hj, hs, hsa⟩ | ⟨h1, h2⟩
      · have := (Qc_ok hL hb).inj (pre_get hpre hs) hua (hsa.trans hca.symm)
        have := (List.getElem?_eq_some_iff.1 hs).1
        omega
      · have := (List.getElem?_eq_some_iff.1 hu).1
        rw [← h2] at this
        omega
    have hq := List.getElem?_eq_getElem hmi.2
    have hq2 := pre_get hpre hq
    rw [hu] at hq2
    have e := Option.some.inj hq2
    have := mapE_get ok (i := i) hq ⟨0, ⟨0, 0, 0, 0⟩⟩
    rw [← e, hc, if_pos hmi.1] at this
    exact this
  refine loop_ok (body := t_comb_Easy_L0 b (mapE r b Q i))
    (fun s => ∃ n pre, Dst r b n s.2.1 ∧ (n < na ∨ s.2.1 = a) ∧ n ≤ na ∧ s.1.l = pre ++ [s.2.1] ∧ pre.length + n = na ∧ pre ++ pth s.2.1 (ew r b n s.2.1 s.2.2) = pth a (ew r b na a (-1))) (fun s => na + 1 - s.1.l.length)
    (fun y => y.l = pth a (ew r b na a (-1))) ?_ bigN _ ⟨na, [], hda, .inr rfl, Nat.le_refl _, rfl, by simp, rfl⟩ (bigN_gt (by simp only; omega))
  rintro ⟨x, c, k⟩ ⟨n, pre, hd, hor, hnn, hx, hpn, hp⟩
  simp only at hd hor hx hp
  cases n with
  | zero =>
    have e := hd.zero
    subst e
    right
    refine ⟨x, ?_, ?_⟩
    · have : q_api_Cell c c = true := (q_iff _ _).2 rfl
      simp only [t_comb_Easy_L0, q_eq, this, bnot_t, Bool.false_eq_true, if_false]
    · rw [hx, ← hp]; rfl
  | succ n =>
    left
    have hcb : q_api_Cell c b = false := by
      rw [← Bool.not_eq_true, q_iff]
      intro e
      subst e
      have := hd.uniq (Dst.here hb)
      omega
    obtain ⟨j, ks, hj, e1, hdj, e2, hw, hl, hlen, -⟩ := ew_ok r b n c k (by omega) hd
    have hgc := get hd hor
    have hbe := behind_full (r := r) (b := b) (c := c) k
    rw [dd_eq hd] at hbe
    have c2 : inB (j : Int) 4 = true := by rw [inB_iff]; omega
    obtain ⟨gx, gy⟩ := getS (in_range hd.1.inr) hj
    have eta : (⟨(nbr c j).X, (nbr c j).Y⟩ : api_Cell) = nbr c j := rfl
    have hxl : x.l.length = pre.length + 1 := by rw [hx]; simp
    have hfit : fits 16 (flen x + 1) = true := fits_len (l := x.l) (by omega) (by omega)
    have hks : ks = ew r b n (nbr c j) j := by
      have : ew r b (n + 1) c k = j :: ew r b n (nbr c j) j := by rw [ew, e1]; simp only [Int.toNat_natCast]
      rw [e2] at this
      exact (List.cons.inj this).2
    refine ⟨(fsnoc x (nbr c j), nbr c j, (j : Int)), ?_, ⟨n, pre ++ [c], hdj, .inl (by omega), by omega, ?_, ?_, ?_⟩, ?_⟩
    · simp only [t_comb_Easy_L0, q_eq, hcb, bnot_f, if_true, hgc, hbe, e1, c2, hfit, gx, gy, eta]
    · simp only [fsnoc_l, hx]
    · simp only [List.length_append, List.length_cons, List.length_nil]; omega
    · simp only
      rw [← hp, e2, pth, ← hks]; simp
    · simp only [fsnoc_l, List.length_append, List.length_cons, List.length_nil]; omega
/-- What Easy answers. -/
theorem easy_spec (a : api_Cell) : ∃ x o, t_comb_Easy r a b = some (x, o) ∧ ((o = false ∧ x.l = [] ∧ ∀ n, ¬ Wk r b n a) ∨ ∃ n, o = true ∧ Dst r b n a ∧ n ≤ 67108864 ∧ x.l = pth a (ew r b n a (-1))) := by
  unfold t_comb_Easy
  rw [cb_prog hL a, cb_prog hL b]
  have hcb := (cb_iff hL b).2 hb
  by_cases hca : cb r a = true
  case neg =>
    refine ⟨.nil, false, ?_, .inl ⟨rfl, rfl, fun n h => hca ((cb_iff hL a).2 h.inr)⟩⟩
    rw [Bool.not_eq_true] at hca
    simp [hca, gOpt, bnot, bor]
  have c0 : bor false false = false := rfl
  obtain ⟨Q, i, ex, hE⟩ := examined_ok hL hb a
  have ok := hE.1
  simp only [hca, hcb, bnot_t, bnot_f, gOpt_tt, Option.getD_some, c0, Bool.false_eq_true, if_false, ex, mapE_has ok]
  by_cases hf : fnd Q a = true
  · obtain ⟨n, hd⟩ := fnd_Qc hL hb (fnd_pre hE.2.1 hf)
    obtain ⟨y, ey, hy⟩ := easy_loop hL hb hE hd
    obtain ⟨m, u, hu, hc⟩ := Qc_has hL hb hd
    obtain ⟨-, -, -, -, hn⟩ := Qc_dd hL hb hu
    rw [hc, dd_eq hd] at hn
    refine ⟨flst y, true, ?_, .inr ⟨n, rfl, hd, hn, by rw [flst_l]; exact hy⟩⟩
    simp only [hf, bnot_t, Bool.false_eq_true, if_false, ey]
  · refine ⟨.nil, false, ?_, .inl ⟨rfl, rfl, fun n h => ?_⟩⟩
    · rw [Bool.not_eq_true] at hf
      simp only [hf, bnot_f, if_true]
    · rcases hE.2.2 with ⟨j, s, _, hs, rfl⟩ | ⟨_, h2⟩
      · exact hf ((fnd_iff _ _).2 ⟨s, List.mem_of_getElem? hs, rfl⟩)
      · obtain ⟨d, hd⟩ := Dst.ex h
        obtain ⟨m, u, hu, hc⟩ := Qc_has hL hb hd
        rw [h2] at hf
        exact hf ((fnd_iff _ _).2 ⟨u, List.mem_of_getElem? hu, hc⟩)
end
theorem easy_no {r : api_Region} (hL : Lim r) {a b : api_Cell} (hb : ¬ In r b) : t_comb_Easy r a b = some (.nil, false) := by
  unfold t_comb_Easy
  rw [cb_prog hL a, cb_prog hL b]
  have hcb : cb r b = false := by rw [← Bool.not_eq_true, cb_iff hL]; exact hb
  cases hca : cb r a <;> simp [hca, hcb, gOpt, bnot, bor]
end Go.Proofs.Ytchiiiahgmfofaa
