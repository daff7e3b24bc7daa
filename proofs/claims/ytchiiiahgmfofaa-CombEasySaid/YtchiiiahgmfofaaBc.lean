/- comb: the program's search, in plain Lean. Conditions: none. -/
import Derived.Test.YtchiiiahgmfofaaBb
namespace Go.Proofs.Ytchiiiahgmfofaa
open Go Go.Vv Go.Proofs
set_option linter.unusedSimpArgs false
set_option linter.unusedVariables false
set_option linter.unusedSectionVars false
/-- The cell before a cell of the queue. -/
def pc (Q : List Seen) (s : Seen) : api_Cell := ((Q[s.before.toNat]?).map (·.cell)).getD s.cell
/-- The queue as a map. -/
def mp (Q : List Seen) : List (api_Cell × api_Cell) := Q.map fun s => (s.cell, pc Q s)
theorem mpos_none (k : api_Cell) : ∀ (es : List (api_Cell × api_Cell)) (i : Nat), (∀ p ∈ es, p.1 ≠ k) → mpos q_api_Cell k i es = none
  | [], i, _ => rfl
  | p :: r, i, h => by
    have h1 : q_api_Cell k p.1 = false := by rw [← Bool.not_eq_true, q_iff]; exact fun e => h p (by simp) e.symm
    simp only [mpos, h1, Bool.false_eq_true, if_false]
    exact mpos_none k r (i + 1) fun p hp => h p (by simp [hp])
theorem mpos_at (k : api_Cell) : ∀ (es : List (api_Cell × api_Cell)) (i j : Nat) (p : api_Cell × api_Cell), es[j]? = some p → p.1 = k → (∀ m p', m < j → es[m]? = some p' → p'.1 ≠ k) → mpos q_api_Cell k i es = some (i + j)
  | [], i, j, p, hp, _, _ => by simp at hp
  | x :: r, i, j, p, hp, hk, hb => by
    cases j with
    | zero =>
      simp at hp
      subst hp
      have h1 : q_api_Cell k x.1 = true := (q_iff _ _).2 hk.symm
      simp only [mpos, h1, if_true, Nat.add_zero]
    | succ j =>
      have h1 : q_api_Cell k x.1 = false := by rw [← Bool.not_eq_true, q_iff]; exact fun e => hb 0 x (by omega) rfl e.symm
      simp only [mpos, h1, Bool.false_eq_true, if_false]
      rw [mpos_at k r (i + 1) j p (by simpa using hp) hk (fun m p' hm hp' => hb (m + 1) p' (by omega) (by simpa using hp'))]
      congr 1; omega
section
variable {r : api_Region} {a : api_Cell} {Q : List Seen} (ok : QOK r a Q)
include ok
theorem mp_pos {j : Nat} {s : Seen} (hj : Q[j]? = some s) : mpos q_api_Cell s.cell 0 (mp Q) = some j := by
  have := mpos_at s.cell (mp Q) 0 j (s.cell, pc Q s) (by unfold mp; rw [List.getElem?_map, hj]; rfl) rfl (fun m p' hm hp' e => by
    unfold mp at hp'
    rw [List.getElem?_map] at hp'
    cases hx : Q[m]? with
    | none => rw [hx] at hp'; cases hp'
    | some x =>
      rw [hx] at hp'
      cases hp'
      have := ok.inj hx hj e
      omega)
  rwa [Nat.zero_add] at this
theorem mp_get {j : Nat} {s : Seen} (hj : Q[j]? = some s) (z : api_Cell) : mget q_api_Cell (mp Q) s.cell z = pc Q s := by
  unfold mget
  rw [mp_pos ok hj]
  simp only
  have : (mp Q)[j]? = some (s.cell, pc Q s) := by unfold mp; rw [List.getElem?_map, hj]; rfl
  rw [this]
theorem mp_has (c : api_Cell) : mhas q_api_Cell (mp Q) c = fnd Q c := by
  unfold mhas
  by_cases h : fnd Q c = true
  · obtain ⟨s, hs, rfl⟩ := (fnd_iff Q c).1 h
    obtain ⟨j, hj, rfl⟩ := List.getElem_of_mem hs
    rw [mp_pos ok (List.getElem?_eq_getElem hj), h]
    rfl
  · rw [mpos_none]
    · rw [Bool.not_eq_true] at h; rw [h]; rfl
    · intro p hp e
      unfold mp at hp
      obtain ⟨s, hs, rfl⟩ := List.mem_map.1 hp
      exact h ((fnd_iff Q c).2 ⟨s, hs, e⟩)
theorem mp_snoc {i : Nat} {s : Seen} (hi : Q[i]? = some s) {c : api_Cell} (hf : fnd Q c = false) : mset q_api_Cell (mp Q) c s.cell = mp (Q ++ [⟨c, (i : Int)⟩]) := by
  have h1 : mpos q_api_Cell c 0 (mp Q) = none := by
    have := mp_has ok c
    rw [hf] at this
    unfold mhas at this
    cases hm : mpos q_api_Cell c 0 (mp Q) with
    | none => rfl
    | some j => rw [hm] at this; cases this
  have hil := (List.getElem?_eq_some_iff.1 hi).1
  unfold mset
  rw [h1]
  simp only
  unfold mp
  rw [List.map_append]
  congr 1
  · refine List.map_congr_left fun x hx => ?_
    obtain ⟨j, hj, rfl⟩ := List.getElem_of_mem hx
    congr 1
    unfold pc
    by_cases h0 : 0 < j
    · obtain ⟨p, hp, hlt⟩ := ok.back j _ (List.getElem?_eq_getElem hj) h0
      rw [hp, Int.toNat_natCast, List.getElem?_append_left (by omega)]
    · have : j = 0 := by omega
      subst this
      have hf0 := ok.first
      rw [List.getElem?_eq_getElem hj] at hf0
      have e : Q[0] = ⟨a, -1⟩ := Option.some.inj hf0
      rw [e]
      have : (-1 : Int).toNat = 0 := rfl
      simp only [this]
      rw [List.getElem?_append_left hj]
  · simp only [List.map_cons, List.map_nil, pc, Int.toNat_natCast]
    rw [List.getElem?_append_left hil, hi]
    rfl
end
theorem fsl_tail {x : FS api_Cell} (h : 0 < x.l.length) : ∃ y, fsl x 1 (flen x) = some y ∧ y.l = x.l.drop 1 := by
  cases x with
  | nil => simp [FS.l] at h
  | lst l =>
    simp only [FS.l] at h
    refine ⟨.lst ((l.drop 1).take (flen (.lst l) - 1).toNat), ?_, ?_⟩
    · have hc : (0:Int) ≤ 1 ∧ (1:Int) ≤ flen (.lst l : FS api_Cell) ∧ flen (.lst l : FS api_Cell) ≤ flen (.lst l : FS api_Cell) := by
        simp only [flen, FS.l]
        exact ⟨by omega, by omega, by omega⟩
      simp only [fsl]
      exact if_pos hc
    · simp only [FS.l, flen]
      rw [List.take_of_length_le]
      rw [List.length_drop]; omega
section
variable {r : api_Region} (hL : Lim r) {a b : api_Cell} (ha : In r a)
include hL ha
theorem get4 {c : api_Cell} (hc : InR c) (k : Nat) (hk : k < 4) :
    A4.get (⟨(⟨(iadd .i64 c.X 1), c.Y⟩ : api_Cell), (⟨(isub .i64 c.X 1), c.Y⟩ : api_Cell), (⟨c.X, (iadd .i64 c.Y 1)⟩ : api_Cell), (⟨c.X, (isub .i64 c.Y 1)⟩ : api_Cell)⟩ : (A4 api_Cell)) (k : Int) = nbr c k := by
  unfold InR at hc
  rw [iadd_eq (a := c.X) (by omega) (by omega), isub_eq (a := c.X) (by omega) (by omega), iadd_eq (a := c.Y) (by omega) (by omega), isub_eq (a := c.Y) (by omega) (by omega)]
  have : k = 0 ∨ k = 1 ∨ k = 2 ∨ k = 3 := by omega
  rcases this with rfl | rfl | rfl | rfl <;> rfl
theorem prog_inner (i : Nat) (x0 : FS api_Cell) (s0 : Seen) (hs0 : (S r a (4 * i))[i]? = some s0) (h0 : x0.l = ((S r a (4 * i)).drop (i + 1)).map (·.cell)) :
    ∃ y : List (api_Cell × api_Cell) × FS api_Cell, loopT (t_comb_search_L0 r b s0.cell (⟨(⟨(iadd .i64 s0.cell.X 1), s0.cell.Y⟩ : api_Cell), (⟨(isub .i64 s0.cell.X 1), s0.cell.Y⟩ : api_Cell), (⟨s0.cell.X, (iadd .i64 s0.cell.Y 1)⟩ : api_Cell), (⟨s0.cell.X, (isub .i64 s0.cell.Y 1)⟩ : api_Cell)⟩ : (A4 api_Cell))) bigN (mp (S r a (4 * i)), x0, 0) = some y ∧
      y.1 = mp (S r a (4 * (i + 1))) ∧ y.2.l = ((S r a (4 * (i + 1))).drop (i + 1)).map (·.cell) := by
  have hin := in_range ((S_ok hL ha (4 * i)).inr s0 (List.mem_of_getElem? hs0))
  refine loop_ok (body := t_comb_search_L0 r b s0.cell _)
    (fun s => ∃ k : Nat, s.2.2 = k ∧ k ≤ 4 ∧ s.1 = mp (S r a (4 * i + k)) ∧ s.2.1.l = ((S r a (4 * i + k)).drop (i + 1)).map (·.cell)) (fun s => (4 - s.2.2).toNat)
    (fun y => y.1 = mp (S r a (4 * (i + 1))) ∧ y.2.l = ((S r a (4 * (i + 1))).drop (i + 1)).map (·.cell))
    ?_ bigN _ ⟨0, rfl, by omega, rfl, h0⟩ (bigN_gt (by simp only; omega))
  rintro ⟨M, x, k'⟩ ⟨k, hk', hk, hM, hx⟩
  simp only at hk' hM hx
  subst hk'
  have ok := S_ok hL ha (4 * i + k)
  have hlen := ok.len
  have hq : (S r a (4 * i + k))[i]? = some s0 := pre_get (S_mono r a (by omega)) hs0
  have hil := (List.getElem?_eq_some_iff.1 hq).1
  have hxl : x.l.length ≤ 67108864 := by rw [hx, List.length_map, List.length_drop]; omega
  by_cases hk4 : k < 4
  · left
    have c1 : ilt (k : Int) 4 = true := ilt_tt (by omega)
    have c2 : inB (k : Int) 4 = true := by rw [inB_iff]; omega
    have g4 := get4 (r := r) hL (a := a) ha hin k hk4
    have hcb := cb_prog hL (nbr s0.cell k)
    have hm := mp_has ok (nbr s0.cell k)
    have hfit : fits 16 (flen x + 1) = true := fits_len (l := x.l) (by omega) (by omega)
    have hstep : S r a (4 * i + (k + 1)) = visit r (S r a (4 * i + k)) i k := by
      have e1 : (4 * i + k) / 4 = i := by omega
      have e2 : (4 * i + k) % 4 = k := by omega
      show visit r (S r a (4 * i + k)) ((4 * i + k) / 4) ((4 * i + k) % 4) = _
      rw [e1, e2]
    have hv : visit r (S r a (4 * i + k)) i k = if cb r (nbr s0.cell k) = true ∧ fnd (S r a (4 * i + k)) (nbr s0.cell k) = false then S r a (4 * i + k) ++ [⟨nbr s0.cell k, (i : Int)⟩] else S r a (4 * i + k) := by
      unfold visit; rw [hq]
    by_cases hft : fnd (S r a (4 * i + k)) (nbr s0.cell k) = true
    · refine ⟨(M, x, ((k + 1 : Nat) : Int)), ?_, ⟨k + 1, rfl, by omega, ?_, ?_⟩, by simp only; omega⟩
      · simp only [t_comb_search_L0, c1, c2, if_true, g4, hM, hm, hft, bnot_t, gOpt_ff, band_f, Bool.false_eq_true, if_false, isucc (i := k) (by omega)]
      · simp only; rw [hstep, hv, if_neg (by rw [hft]; simp)]; exact hM
      · simp only; rw [hstep, hv, if_neg (by rw [hft]; simp)]; exact hx
    · rw [Bool.not_eq_true] at hft
      by_cases hcbt : cb r (nbr s0.cell k) = true
      · refine ⟨(mset q_api_Cell M (nbr s0.cell k) s0.cell, fsnoc x (nbr s0.cell k), ((k + 1 : Nat) : Int)), ?_, ⟨k + 1, rfl, by omega, ?_, ?_⟩, by simp only; omega⟩
        · simp only [t_comb_search_L0, c1, c2, if_true, g4, hM, hm, hft, bnot_f, hcb, hcbt, gOpt_tt, Option.getD_some, band_t, hfit, isucc (i := k) (by omega)]
        · simp only; rw [hstep, hv, if_pos ⟨hcbt, hft⟩, hM, mp_snoc ok hq hft]
        · simp only [fsnoc_l]; rw [hstep, hv, if_pos ⟨hcbt, hft⟩, hx, List.drop_append_of_le_length (by omega), List.map_append]; rfl
      · rw [Bool.not_eq_true] at hcbt
        refine ⟨(M, x, ((k + 1 : Nat) : Int)), ?_, ⟨k + 1, rfl, by omega, ?_, ?_⟩, by simp only; omega⟩
        · simp only [t_comb_search_L0, c1, c2, if_true, g4, hM, hm, hft, bnot_f, hcb, hcbt, gOpt_tt, Option.getD_some, band_f', Bool.false_eq_true, if_false, isucc (i := k) (by omega)]
        · simp only; rw [hstep, hv, if_neg (by rw [hcbt]; simp)]; exact hM
        · simp only; rw [hstep, hv, if_neg (by rw [hcbt]; simp)]; exact hx
  · right
    have : k = 4 := by omega
    subst this
    have c1 : ilt ((4 : Nat) : Int) 4 = false := ilt_ff (by omega)
    refine ⟨(M, x), ?_, hM, hx⟩
    simp only [t_comb_search_L0, c1, Bool.false_eq_true, if_false]
theorem prog_search : ∃ i : Nat, t_comb_search r a b = some (mp (S r a (4 * i))) ∧ i ≤ (S r a (4 * i)).length ∧ ((S r a (4 * i)).length ≤ i ∨ ∃ s, (S r a (4 * i))[i]? = some s ∧ s.cell = b) := by
  obtain ⟨y, e, i, rfl, h1, h2⟩ := loop_ok (body := t_comb_search_L1 r b)
    (fun s => ∃ i : Nat, s.1 = mp (S r a (4 * i)) ∧ s.2.l = ((S r a (4 * i)).drop i).map (·.cell) ∧ i ≤ (S r a (4 * i)).length) (fun s => 67108866 - (s.1.length - s.2.l.length))
    (fun y => ∃ i : Nat, y = mp (S r a (4 * i)) ∧ i ≤ (S r a (4 * i)).length ∧ ((S r a (4 * i)).length ≤ i ∨ ∃ s, (S r a (4 * i))[i]? = some s ∧ s.cell = b))
    (by
      rintro ⟨M, x⟩ ⟨i, hM, hx, hi⟩
      simp only at hM hx
      have ok := S_ok hL ha (4 * i)
      have hlen := ok.len
      have hxl : x.l.length = (S r a (4 * i)).length - i := by rw [hx, List.length_map, List.length_drop]
      have hMl : M.length = (S r a (4 * i)).length := by rw [hM]; simp [mp]
      by_cases hlt : i < (S r a (4 * i)).length
      · have c1 : igt (flen x) 0 = true := igt_tt (by rw [flen_eq]; omega)
        have hs := List.getElem?_eq_getElem hlt
        generalize hs0 : (S r a (4 * i))[i] = s0 at hs
        have g0 : fget x 0 = some s0.cell := fget_int (by omega) (by
          rw [hx]
          simp only [Int.toNat_zero, List.getElem?_map, List.getElem?_drop, Nat.add_zero, hs]
          rfl)
        obtain ⟨y, ey, hy⟩ := fsl_tail (x := x) (by omega)
        by_cases hb : s0.cell = b
        · right
          refine ⟨M, ?_, i, hM, hi, .inr ⟨s0, hs, hb⟩⟩
          have : q_api_Cell s0.cell b = true := (q_iff _ _).2 hb
          simp only [t_comb_search_L1, c1, if_true, g0, ey, q_eq, this]
        · left
          have hq : q_api_Cell s0.cell b = false := by rw [← Bool.not_eq_true, q_iff]; exact hb
          obtain ⟨⟨M', z⟩, ez, h1, h2⟩ := prog_inner hL ha (b := b) i y s0 hs (by rw [hy, hx, ← List.map_drop, List.drop_drop])
          simp only at h1 h2
          have hle : i + 1 ≤ (S r a (4 * (i + 1))).length := by
            have := (S_mono r a (show 4 * i ≤ 4 * (i + 1) by omega)).length_le
            omega
          have ok' := S_ok hL ha (4 * (i + 1))
          have hlen' := ok'.len
          refine ⟨(M', z), ?_, ⟨i + 1, h1, h2, hle⟩, ?_⟩
          · simp only [t_comb_search_L1, c1, if_true, g0, ey, q_eq, hq, Bool.false_eq_true, if_false, hM, ez]
          · simp only
            rw [h1, h2]
            simp only [mp, List.length_map, List.length_drop]
            omega
      · right
        have c1 : igt (flen x) 0 = false := igt_ff (by rw [flen_eq]; omega)
        refine ⟨M, ?_, i, hM, hi, .inl (by omega)⟩
        simp only [t_comb_search_L1, c1, Bool.false_eq_true, if_false])
    bigN (mset q_api_Cell [] a a, flit [a]) ⟨0, rfl, rfl, by simp [S]⟩ (bigN_gt (by simp only; omega))
  refine ⟨i, ?_, h1, h2⟩
  unfold t_comb_search
  rw [e]
end
end Go.Proofs.Ytchiiiahgmfofaa
