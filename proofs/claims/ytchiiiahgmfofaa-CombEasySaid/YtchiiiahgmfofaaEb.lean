/- comb: what is known behind the search of Easy, in plain Lean. Conditions: none. -/
import Derived.Test.YtchiiiahgmfofaaEa
import Derived.Test.YtchiiiahgmfofaaTf
namespace Go.Proofs.Ytchiiiahgmfofaa
open Go Go.Vv Go.Proofs
set_option linter.unusedSimpArgs false
set_option linter.unusedVariables false
set_option linter.unusedSectionVars false
theorem mpos_keys {K V V' : Type} (q : K → K → Bool) (k : K) : ∀ (es : List (K × V)) (es' : List (K × V')) (i : Nat), es.map (·.1) = es'.map (·.1) → mpos q k i es = mpos q k i es'
  | [], [], _, _ => rfl
  | p :: r, p' :: r', i, h => by
    simp only [List.map_cons, List.cons.injEq] at h
    simp only [mpos, h.1]
    rw [mpos_keys q k r r' (i + 1) h.2]
open Classical in
/-- The distance of a cell from b. -/
noncomputable def dd (r : api_Region) (b c : api_Cell) : Nat := if h : ∃ n, Dst r b n c then h.choose else 0
theorem dd_eq {r : api_Region} {b c : api_Cell} {n : Nat} (h : Dst r b n c) : dd r b c = n := by
  have hex : ∃ n, Dst r b n c := ⟨n, h⟩
  unfold dd
  rw [dif_pos hex]
  exact hex.choose_spec.uniq h
/-- The fewest turns of the first k directions, else 0. -/
noncomputable def tv (r : api_Region) (b c : api_Cell) (k : Nat) : A4 Int :=
  ⟨if 0 < k then V r b (dd r b c) c 0 else 0, if 1 < k then V r b (dd r b c) c 1 else 0, if 2 < k then V r b (dd r b c) c 2 else 0, if 3 < k then V r b (dd r b c) c 3 else 0⟩
noncomputable def full (r : api_Region) (b c : api_Cell) : comb_state := ⟨(dd r b c : Int), tv r b c 4⟩
noncomputable def blank (r : api_Region) (b c : api_Cell) : comb_state := ⟨(dd r b c : Int), tv r b c 0⟩
theorem tv_get (r : api_Region) (b c : api_Cell) {i : Nat} (hi : i < 4) : A4.get (tv r b c 4) (i : Int) = V r b (dd r b c) c i := by
  have : i = 0 ∨ i = 1 ∨ i = 2 ∨ i = 3 := by omega
  rcases this with rfl | rfl | rfl | rfl <;> simp [A4.get, tv]
theorem tv_set (r : api_Region) (b c : api_Cell) {k : Nat} (hk : k < 4) : A4.set (tv r b c k) (k : Int) (V r b (dd r b c) c k) = tv r b c (k + 1) := by
  have : k = 0 ∨ k = 1 ∨ k = 2 ∨ k = 3 := by omega
  rcases this with rfl | rfl | rfl | rfl <;> simp [A4.set, tv]
theorem tv_zero {r : api_Region} {b c : api_Cell} (h : dd r b c = 0) (k : Nat) : tv r b c k = ⟨0, 0, 0, 0⟩ := by
  unfold tv; rw [h]; simp only [V]; simp
theorem set_set {α : Type} (t : A4 α) (i : Int) (u v : α) : A4.set (A4.set t i u) i v = A4.set t i v := by
  simp only [A4.set]
  by_cases h0 : i = 0
  · simp [h0]
  · by_cases h1 : i = 1
    · simp [h1]
    · by_cases h2 : i = 2
      · simp [h2]
      · simp [h0, h1, h2]
noncomputable def mapE (r : api_Region) (b : api_Cell) (Q : List Seen) (i : Nat) : List (api_Cell × comb_state) := Q.mapIdx fun j s => (s.cell, if j < i then full r b s.cell else blank r b s.cell)
theorem mapE_keys (r : api_Region) (b : api_Cell) (Q : List Seen) (i : Nat) : (mapE r b Q i).map (·.1) = (mp Q).map (·.1) := by
  apply List.ext_getElem?
  intro j
  simp only [mapE, mp, List.getElem?_map, List.getElem?_mapIdx]
  cases Q[j]? <;> rfl
theorem mapE_len (r : api_Region) (b : api_Cell) (Q : List Seen) (i : Nat) : (mapE r b Q i).length = Q.length := by simp [mapE]
section
variable {r : api_Region} {b : api_Cell} {Q : List Seen} (ok : QOK r b Q)
include ok
theorem mapE_pos {i j : Nat} {s : Seen} (hj : Q[j]? = some s) : mpos q_api_Cell s.cell 0 (mapE r b Q i) = some j := by
  rw [mpos_keys q_api_Cell s.cell _ _ 0 (mapE_keys r b Q i)]
  exact mp_pos ok hj
theorem mapE_get {i j : Nat} {s : Seen} (hj : Q[j]? = some s) (z : comb_state) : mget q_api_Cell (mapE r b Q i) s.cell z = if j < i then full r b s.cell else blank r b s.cell := by
  unfold mget
  rw [mapE_pos ok hj]
  simp only [mapE, List.getElem?_mapIdx, hj, Option.map_some]
theorem mapE_has (i : Nat) (c : api_Cell) : mhas q_api_Cell (mapE r b Q i) c = fnd Q c := by
  unfold mhas
  rw [mpos_keys q_api_Cell c _ _ 0 (mapE_keys r b Q i)]
  exact mp_has ok c
theorem mapE_snoc {i : Nat} (hi : i < Q.length) {c : api_Cell} (p : Int) (hf : fnd Q c = false) : mset q_api_Cell (mapE r b Q i) c (blank r b c) = mapE r b (Q ++ [⟨c, p⟩]) i := by
  have h1 : mpos q_api_Cell c 0 (mapE r b Q i) = none := by
    have := mapE_has ok i c
    rw [hf] at this
    unfold mhas at this
    cases hm : mpos q_api_Cell c 0 (mapE r b Q i) with
    | none => rfl
    | some j => rw [hm] at this; cases this
  unfold mset
  rw [h1]
  simp only [mapE, List.mapIdx_append, List.mapIdx_cons, List.mapIdx_nil]
  rw [if_neg (by omega)]
theorem mapE_done {i : Nat} {s : Seen} (hi : Q[i]? = some s) : mset q_api_Cell (mapE r b Q i) s.cell (full r b s.cell) = mapE r b Q (i + 1) := by
  unfold mset
  rw [mapE_pos ok hi]
  simp only
  apply List.ext_getElem?
  intro j
  have hl := (List.getElem?_eq_some_iff.1 hi).1
  rw [List.getElem?_set]
  by_cases e : i = j
  · subst e
    rw [if_pos rfl, if_pos (by rw [mapE_len]; exact hl)]
    simp only [mapE, List.getElem?_mapIdx, hi, Option.map_some, if_pos (Nat.lt_succ_self i)]
  · rw [if_neg e]
    simp only [mapE, List.getElem?_mapIdx]
    cases hj : Q[j]? with
    | none => rfl
    | some x =>
      simp only [Option.map_some]
      by_cases h1 : j < i
      · rw [if_pos h1, if_pos (by omega)]
      · rw [if_neg h1, if_neg (by omega)]
end
theorem bfold_beh (f : Nat → Int) (k : Int) : beh f k = bstep f k (bstep f k (bstep f k (bstep f k (never, 0) 0) 1) 2) 3 := rfl
def bfold (f : Nat → Int) (k : Int) : Nat → Int × Int
  | 0 => (never, 0)
  | i + 1 => bstep f k (bfold f k i) i
theorem bfold_le (f : Nat → Int) (k : Int) (i : Nat) : (bfold f k i).1 ≤ never := by
  induction i with
  | zero => exact Int.le_refl _
  | succ i ih => have := (bstep_le f k (bfold f k i) i).1; simp only [bfold]; omega
theorem beh_congr {f g : Nat → Int} (h : ∀ i, i < 4 → f i = g i) (k : Int) : beh f k = beh g k := by
  unfold beh bstep
  rw [h 0 (by omega), h 1 (by omega), h 2 (by omega), h 3 (by omega)]
theorem behind_ok (x : comb_state) (k : Int) (hx : ∀ i : Nat, i < 4 → 0 ≤ A4.get x.turns i ∧ A4.get x.turns i ≤ never) : t_comb_behind x k = some (beh (fun i => A4.get x.turns i) k) := by
  obtain ⟨y, e, hy⟩ := loop_ok (body := t_comb_behind_L0 k x.turns) (fun s => ∃ i : Nat, i ≤ 4 ∧ s = ((bfold (fun i => A4.get x.turns i) k i).1, (bfold (fun i => A4.get x.turns i) k i).2, (i : Int))) (fun s => (4 - s.2.2).toNat)
    (fun y => y = beh (fun i => A4.get x.turns i) k)
    (by
      rintro _ ⟨i, hi, rfl⟩
      by_cases h4 : i < 4
      · left
        have c1 : ilt (i : Int) 4 = true := ilt_tt (by omega)
        have c2 : inB (i : Int) 4 = true := by rw [inB_iff]; omega
        have hg := hx i h4
        have hb := bfold_le (fun i => A4.get x.turns i) k i
        unfold never at hg
        have ha : iadd .i64 (A4.get x.turns (i : Int)) 1 = A4.get x.turns i + 1 := iadd_eq (by omega) (by omega)
        refine ⟨((bfold (fun i => A4.get x.turns i) k (i + 1)).1, (bfold (fun i => A4.get x.turns i) k (i + 1)).2, ((i + 1 : Nat) : Int)), ?_, ⟨i + 1, by omega, rfl⟩, by simp only; omega⟩
        simp only [t_comb_behind_L0, c1, c2, if_true, ha, isucc (i := i) (by omega), bfold, bstep]
        by_cases hp : 0 ≤ k ∧ (i : Int) ≠ k
        · have c3 : band (ige k 0) (ine (i : Int) k) = true := by rw [band_iff, ige_iff, ine_iff]; exact hp
          have hpen : pen k i = 1 := by unfold pen; rw [if_pos hp]
          simp only [c3, if_true, hpen]
          by_cases hl : A4.get x.turns (i : Int) + 1 < (bfold (fun i => A4.get x.turns i) k i).1
          · rw [if_pos (ilt_tt hl)]; simp only [if_pos hl]
          · rw [if_neg (by rw [ilt_ff hl]; simp)]; simp only [if_neg hl]
        · have c3 : band (ige k 0) (ine (i : Int) k) = false := by rw [← Bool.not_eq_true, band_iff, ige_iff, ine_iff]; exact hp
          have hpen : pen k i = 0 := by unfold pen; rw [if_neg hp]
          simp only [c3, Bool.false_eq_true, if_false, hpen, Int.add_zero]
          by_cases hl : A4.get x.turns (i : Int) < (bfold (fun i => A4.get x.turns i) k i).1
          · rw [if_pos (ilt_tt hl)]; simp only [if_pos hl]
          · rw [if_neg (by rw [ilt_ff hl]; simp)]; simp only [if_neg hl]
      · right
        have : i = 4 := by omega
        subst this
        have c1 : ilt ((4 : Nat) : Int) 4 = false := ilt_ff (by omega)
        exact ⟨beh (fun i => A4.get x.turns i) k, by simp only [t_comb_behind_L0, c1, Bool.false_eq_true, if_false]; rfl, rfl⟩)
    bigN (1099511627776, 0, 0) ⟨0, by omega, rfl⟩ (bigN_gt (by simp only; omega))
  unfold t_comb_behind
  rw [e, hy]
theorem behind_full {r : api_Region} {b c : api_Cell} (k : Int) : t_comb_behind (full r b c) k = some (beh (V r b (dd r b c) c) k) := by
  have hg : ∀ i : Nat, i < 4 → A4.get (full r b c).turns (i : Int) = V r b (dd r b c) c i := fun i hi => tv_get r b c hi
  rw [behind_ok _ _ fun i hi => by rw [hg i hi]; exact V_bound r b _ _ _]
  rw [beh_congr fun i hi => hg i hi]
theorem getS {c : api_Cell} (hc : InR c) {k : Nat} (hk : k < 4) : iadd .i64 c.X (A4.get u_comb_steps (k : Int)).X = (nbr c k).X ∧ iadd .i64 c.Y (A4.get u_comb_steps (k : Int)).Y = (nbr c k).Y := by
  unfold InR at hc
  have : k = 0 ∨ k = 1 ∨ k = 2 ∨ k = 3 := by omega
  rcases this with rfl | rfl | rfl | rfl
  · exact ⟨iadd_eq (a := c.X) (b := 1) (by omega) (by omega), (iadd_eq (a := c.Y) (b := 0) (by omega) (by omega)).trans (Int.add_zero _)⟩
  · exact ⟨iadd_eq (a := c.X) (b := -1) (by omega) (by omega), (iadd_eq (a := c.Y) (b := 0) (by omega) (by omega)).trans (Int.add_zero _)⟩
  · exact ⟨(iadd_eq (a := c.X) (b := 0) (by omega) (by omega)).trans (Int.add_zero _), iadd_eq (a := c.Y) (b := 1) (by omega) (by omega)⟩
  · exact ⟨(iadd_eq (a := c.X) (b := 0) (by omega) (by omega)).trans (Int.add_zero _), iadd_eq (a := c.Y) (b := -1) (by omega) (by omega)⟩
section
variable {r : api_Region} (hL : Lim r) {b : api_Cell} (hb : In r b)
include hL hb
/-- The cells of the whole queue have distances: those of its ways. -/
theorem Qc_dst {j : Nat} {s : Seen} (hs : (Qc r b)[j]? = some s) {l : List api_Cell} (hl : Ch (Qc r b) j l) : Dst r b (l.length - 1) s.cell := by
  obtain ⟨u, hu, hw⟩ := Qc_way hL hb hl
  rw [hs] at hu
  cases hu
  refine ⟨hw, fun m hm => ?_⟩
  obtain ⟨m', u', l', hu', hc', hch', hl'⟩ := Qc_short hL hb hm
  have := (Qc_ok hL hb).inj hs hu' hc'.symm
  subst this
  rw [hl.det hch']
  omega
theorem Qc_dd {j : Nat} {s : Seen} (hs : (Qc r b)[j]? = some s) : ∃ l, Ch (Qc r b) j l ∧ l.length = dd r b s.cell + 1 ∧ Dst r b (dd r b s.cell) s.cell ∧ dd r b s.cell ≤ 67108864 := by
  have hj := (List.getElem?_eq_some_iff.1 hs).1
  have hlen := Qc_len hL hb
  obtain ⟨l, hl, hll⟩ := Ch.ex (Qc_ok hL hb) _ _ (Nat.le_refl _) hj
  have hd := Qc_dst hL hb hs hl
  obtain ⟨_, _, _, rfl⟩ := hl.head
  have e := dd_eq hd
  refine ⟨_, hl, ?_, by rw [e]; exact hd, by rw [e]; simp only [List.length_cons] at hll ⊢; omega⟩
  rw [e]; simp only [List.length_cons]; omega
theorem Qc_lt {i j : Nat} {u v : Seen} (hu : (Qc r b)[i]? = some u) (hv : (Qc r b)[j]? = some v) (h : dd r b u.cell < dd r b v.cell) : i < j := by
  by_cases hij : i < j
  · exact hij
  · obtain ⟨l, hl, e1, -⟩ := Qc_dd hL hb hu
    obtain ⟨m, hm, e2, -⟩ := Qc_dd hL hb hv
    have := Ch.le (r := r) (a := b) (Qc_qb hL hb) hm hl (by omega)
    omega
theorem Qc_has {n : Nat} {c : api_Cell} (h : Dst r b n c) : ∃ (m : Nat) (u : Seen), (Qc r b)[m]? = some u ∧ u.cell = c := by
  obtain ⟨m, u, l, hu, hc, -⟩ := Qc_short hL hb h.1
  exact ⟨m, u, hu, hc⟩
/-- A cell that is new in the queue. -/
theorem new_dd {i k : Nat} (hk : k < 4) {s0 : Seen} (hq : (S r b (4 * i + k))[i]? = some s0) (hin : In r (nbr s0.cell k)) (hf : fnd (S r b (4 * i + k)) (nbr s0.cell k) = false) : dd r b (nbr s0.cell k) = dd r b s0.cell + 1 := by
  have e : S r b (4 * i + k + 1) = S r b (4 * i + k) ++ [⟨nbr s0.cell k, (i : Int)⟩] := by
    show visit r (S r b (4 * i + k)) ((4 * i + k) / 4) ((4 * i + k) % 4) = _
    have e1 : (4 * i + k) / 4 = i := by omega
    have e2 : (4 * i + k) % 4 = k := by omega
    rw [e1, e2]
    unfold visit
    rw [hq]
    simp only
    rw [if_pos ⟨(cb_iff hL _).2 hin, hf⟩]
  have hpre := S_Qc hL hb (4 * i + k + 1)
  have hi := (List.getElem?_eq_some_iff.1 hq).1
  have hnew : (Qc r b)[(S r b (4 * i + k)).length]? = some ⟨nbr s0.cell k, (i : Int)⟩ := pre_get hpre (by rw [e]; simp)
  have hold : (Qc r b)[i]? = some s0 := pre_get (S_Qc hL hb (4 * i + k)) hq
  obtain ⟨l, hl, e1, -⟩ := Qc_dd hL hb hold
  have hch := Ch.step hnew (by omega) rfl hl
  have := dd_eq (Qc_dst hL hb hnew hch)
  simp only [List.length_cons] at this
  rw [this]; omega
/-- What is written for a direction. -/
theorem V_seen {c : api_Cell} {k : Nat} {n : Nat} (hd : Dst r b (n + 1) c) (h : Dst r b n (nbr c k)) : V r b (n + 1) c k = if n = 0 then 0 else (beh (V r b n (nbr c k)) k).1 := by rw [V, if_pos h]
theorem V_not {c : api_Cell} {k : Nat} {n : Nat} (h : ¬ Dst r b n (nbr c k)) : V r b (n + 1) c k = never := by rw [V, if_neg h]
theorem ex_inner (a : api_Cell) (i : Nat) (x0 : FS api_Cell) (s0 : Seen) (hs0 : (S r b (4 * i))[i]? = some s0) (h0 : x0.l = ((S r b (4 * i)).drop (i + 1)).map (·.cell)) :
    ∃ y : comb_state × List (api_Cell × comb_state) × FS api_Cell, loopT (t_comb_examined_L0 r a b s0.cell u_comb_steps) bigN (mapE r b (S r b (4 * i)) i, x0, blank r b s0.cell, 0) = some y ∧
      y.1 = full r b s0.cell ∧ y.2.1 = mapE r b (S r b (4 * (i + 1))) i ∧ y.2.2.l = ((S r b (4 * (i + 1))).drop (i + 1)).map (·.cell) := by
  have hin := in_range ((S_ok hL hb (4 * i)).inr s0 (List.mem_of_getElem? hs0))
  obtain ⟨-, -, -, hd0, hn⟩ := Qc_dd hL hb (pre_get (S_Qc hL hb (4 * i)) hs0)
  refine loop_ok (body := t_comb_examined_L0 r a b s0.cell u_comb_steps)
    (fun s => ∃ k : Nat, s.2.2.2 = k ∧ k ≤ 4 ∧ s.1 = mapE r b (S r b (4 * i + k)) i ∧ s.2.1.l = ((S r b (4 * i + k)).drop (i + 1)).map (·.cell) ∧ s.2.2.1 = ⟨(dd r b s0.cell : Int), tv r b s0.cell k⟩) (fun s => (4 - s.2.2.2).toNat)
    (fun y => y.1 = full r b s0.cell ∧ y.2.1 = mapE r b (S r b (4 * (i + 1))) i ∧ y.2.2.l = ((S r b (4 * (i + 1))).drop (i + 1)).map (·.cell))
    ?_ bigN _ ⟨0, rfl, by omega, rfl, h0, rfl⟩ (bigN_gt (by simp only; omega))
  rintro ⟨M, x, w, k'⟩ ⟨k, hk', hk, hM, hx, hw⟩
  simp only at hk' hM hx hw
  subst hk' hw
  have ok := S_ok hL hb (4 * i + k)
  have hlen := ok.len
  have hq : (S r b (4 * i + k))[i]? = some s0 := pre_get (S_mono r b (by omega)) hs0
  have hil := (List.getElem?_eq_some_iff.1 hq).1
  have hxl : x.l.length ≤ 67108864 := by rw [hx, List.length_map, List.length_drop]; omega
  have hpre := S_Qc hL hb (4 * i + k)
  by_cases hk4 : k < 4
  case neg =>
    right
    have : k = 4 := by omega
    subst this
    have c1 : ilt ((4 : Nat) : Int) 4 = false := ilt_ff (by omega)
    refine ⟨(_, M, x), ?_, rfl, hM, hx⟩
    simp only [t_comb_examined_L0, c1, Bool.false_eq_true, if_false, full]
  left
  have c1 : ilt (k : Int) 4 = true := ilt_tt (by omega)
  have c2 : inB (k : Int) 4 = true := by rw [inB_iff]; omega
  obtain ⟨gx, gy⟩ := getS hin hk4
  have eta : (⟨(nbr s0.cell k).X, (nbr s0.cell k).Y⟩ : api_Cell) = nbr s0.cell k := rfl
  have hcb := cb_prog hL (nbr s0.cell k)
  have hm := mapE_has ok i (nbr s0.cell k)
  have hfit : fits 16 (flen x + 1) = true := fits_len (l := x.l) (by omega) (by omega)
  have hstep : S r b (4 * i + (k + 1)) = visit r (S r b (4 * i + k)) i k := by
    have e1 : (4 * i + k) / 4 = i := by omega
    have e2 : (4 * i + k) % 4 = k := by omega
    show visit r (S r b (4 * i + k)) ((4 * i + k) / 4) ((4 * i + k) % 4) = _
    rw [e1, e2]
  have hv : visit r (S r b (4 * i + k)) i k = if cb r (nbr s0.cell k) = true ∧ fnd (S r b (4 * i + k)) (nbr s0.cell k) = false then S r b (4 * i + k) ++ [⟨nbr s0.cell k, (i : Int)⟩] else S r b (4 * i + k) := by
    unfold visit; rw [hq]
  have hadd : iadd .i64 (dd r b s0.cell : Int) 1 = (dd r b s0.cell : Int) + 1 := iadd_eq (by omega) (by omega)
  have hsub : isub .i64 (dd r b s0.cell : Int) 1 = (dd r b s0.cell : Int) - 1 := isub_eq (by omega) (by omega)
  have hbl : fnd (S r b (4 * i + k)) (nbr s0.cell k) = false → In r (nbr s0.cell k) → (⟨(dd r b s0.cell : Int) + 1, (⟨0, 0, 0, 0⟩ : A4 Int)⟩ : comb_state) = blank r b (nbr s0.cell k) := fun hf hi => by
    unfold blank
    rw [new_dd hL hb hk4 hq hi hf]
    simp [tv]
  by_cases hcb0 : q_api_Cell s0.cell b = true
  · -- the end itself
    have hce := (q_iff _ _).1 hcb0
    have hdz : dd r b s0.cell = 0 := by rw [hce]; exact dd_eq (Dst.here hb)
    have htv : ∀ j, tv r b s0.cell j = ⟨0, 0, 0, 0⟩ := fun j => tv_zero hdz j
    by_cases hft : fnd (S r b (4 * i + k)) (nbr s0.cell k) = true
    · refine ⟨(M, x, ⟨(dd r b s0.cell : Int), tv r b s0.cell k⟩, ((k + 1 : Nat) : Int)), ?_, ⟨k + 1, rfl, by omega, ?_, ?_, by simp only [htv]⟩, by simp only; omega⟩
      · simp only [t_comb_examined_L0, c1, c2, if_true, gx, gy, eta, hM, hm, hft, bnot_t, gOpt_ff, band_f, Bool.false_eq_true, if_false, q_eq, hcb0, isucc (i := k) (by omega)]
      · simp only; rw [hstep, hv, if_neg (by rw [hft]; simp)]; exact hM
      · simp only; rw [hstep, hv, if_neg (by rw [hft]; simp)]; exact hx
    · rw [Bool.not_eq_true] at hft
      by_cases hcbt : cb r (nbr s0.cell k) = true
      · have hb2 := hbl hft ((cb_iff hL _).1 hcbt)
        refine ⟨(mset q_api_Cell M (nbr s0.cell k) (blank r b (nbr s0.cell k)), fsnoc x (nbr s0.cell k), ⟨(dd r b s0.cell : Int), tv r b s0.cell k⟩, ((k + 1 : Nat) : Int)), ?_, ⟨k + 1, rfl, by omega, ?_, ?_, by simp only [htv]⟩, by simp only; omega⟩
        · simp only [t_comb_examined_L0, c1, c2, if_true, gx, gy, eta, hM, hm, hft, bnot_f, hcb, hcbt, gOpt_tt, Option.getD_some, band_t, hfit, q_eq, hcb0, hadd, hb2, isucc (i := k) (by omega)]
        · simp only; rw [hstep, hv, if_pos ⟨hcbt, hft⟩, hM, mapE_snoc ok hil _ hft]
        · simp only [fsnoc_l]; rw [hstep, hv, if_pos ⟨hcbt, hft⟩, hx, List.drop_append_of_le_length (by omega), List.map_append]; rfl
      · rw [Bool.not_eq_true] at hcbt
        refine ⟨(M, x, ⟨(dd r b s0.cell : Int), tv r b s0.cell k⟩, ((k + 1 : Nat) : Int)), ?_, ⟨k + 1, rfl, by omega, ?_, ?_, by simp only [htv]⟩, by simp only; omega⟩
        · simp only [t_comb_examined_L0, c1, c2, if_true, gx, gy, eta, hM, hm, hft, bnot_f, hcb, hcbt, gOpt_tt, Option.getD_some, band_f', Bool.false_eq_true, if_false, q_eq, hcb0, isucc (i := k) (by omega)]
        · simp only; rw [hstep, hv, if_neg (by rw [hcbt]; simp)]; exact hM
        · simp only; rw [hstep, hv, if_neg (by rw [hcbt]; simp)]; exact hx
  · rw [Bool.not_eq_true] at hcb0
    have hne : s0.cell ≠ b := fun e => by rw [(q_iff _ _).2 e] at hcb0; cases hcb0
    obtain ⟨n, hdn⟩ : ∃ n, dd r b s0.cell = n + 1 := by
      cases hdz : dd r b s0.cell with
      | zero => rw [hdz] at hd0; exact absurd hd0.zero hne
      | succ n => exact ⟨n, rfl⟩
    by_cases hft : fnd (S r b (4 * i + k)) (nbr s0.cell k) = true
    · obtain ⟨u, hu, hcu⟩ := (fnd_iff _ _).1 hft
      obtain ⟨m, hml, rfl⟩ := List.getElem_of_mem hu
      have hmq := List.getElem?_eq_getElem hml
      have hg := mapE_get ok (i := i) hmq ⟨0, ⟨0, 0, 0, 0⟩⟩
      rw [hcu] at hg
      obtain ⟨-, -, -, hdu, hnu⟩ := Qc_dd hL hb (pre_get hpre hmq)
      rw [hcu] at hdu hnu
      have hglen : ((if m < i then full r b (nbr s0.cell k) else blank r b (nbr s0.cell k)) : comb_state).length = (dd r b (nbr s0.cell k) : Int) := by split <;> rfl
      have hstay : visit r (S r b (4 * i + k)) i k = S r b (4 * i + k) := by rw [hv, if_neg (by rw [hft]; simp)]
      by_cases hdd : dd r b (nbr s0.cell k) = n
      · have hmi : m < i := by
          refine Qc_lt hL hb (pre_get hpre hmq) (pre_get hpre hq) ?_
          rw [hcu, hdn]; omega
        rw [if_pos hmi] at hg hglen
        have c3 : ieq (dd r b (nbr s0.cell k) : Int) ((dd r b s0.cell : Int) - 1) = true := by rw [ieq_iff, hdn, hdd]; omega
        have hV := V_seen hL hb (k := k) (c := s0.cell) (n := n) (by rw [← hdn]; exact hd0) (by rw [← hdd]; exact hdu)
        by_cases hnb : q_api_Cell (nbr s0.cell k) b = true
        · have hn0 : n = 0 := by rw [← hdd, (q_iff _ _).1 hnb]; exact dd_eq (Dst.here hb)
          rw [if_pos hn0] at hV
          refine ⟨(M, x, ⟨(dd r b s0.cell : Int), A4.set (tv r b s0.cell k) k 0⟩, ((k + 1 : Nat) : Int)), ?_, ⟨k + 1, rfl, by omega, ?_, ?_, ?_⟩, by simp only; omega⟩
          · simp only [t_comb_examined_L0, c1, c2, if_true, gx, gy, eta, hM, hm, hft, bnot_t, gOpt_ff, band_f, band_t, Bool.false_eq_true, if_false, q_eq, hcb0, hg, hglen, hsub, c3, hnb, set_set, isucc (i := k) (by omega)]
          · simp only; rw [hstep, hstay]; exact hM
          · simp only; rw [hstep, hstay]; exact hx
          · simp only; rw [← tv_set r b s0.cell hk4, hdn, hV]
        · rw [Bool.not_eq_true] at hnb
          have hn0 : ¬ n = 0 := fun e => by
            rw [hdd, e] at hdu
            rw [(q_iff _ _).2 hdu.zero] at hnb
            cases hnb
          rw [if_neg hn0] at hV
          have hbe := behind_full (r := r) (b := b) (c := nbr s0.cell k) (k : Int)
          refine ⟨(M, x, ⟨(dd r b s0.cell : Int), A4.set (tv r b s0.cell k) k (beh (V r b (dd r b (nbr s0.cell k)) (nbr s0.cell k)) k).1⟩, ((k + 1 : Nat) : Int)), ?_, ⟨k + 1, rfl, by omega, ?_, ?_, ?_⟩, by simp only; omega⟩
          · simp only [t_comb_examined_L0, c1, c2, if_true, gx, gy, eta, hM, hm, hft, bnot_t, bnot_f, gOpt_ff, band_f, band_t, Bool.false_eq_true, if_false, q_eq, hcb0, hg, hglen, hsub, c3, hnb, hbe, set_set, isucc (i := k) (by omega)]
          · simp only; rw [hstep, hstay]; exact hM
          · simp only; rw [hstep, hstay]; exact hx
          · simp only; rw [← tv_set r b s0.cell hk4, hdn, hV, hdd]
      · have c3 : ieq (dd r b (nbr s0.cell k) : Int) ((dd r b s0.cell : Int) - 1) = false := by rw [← Bool.not_eq_true, ieq_iff, hdn]; omega
        have hV := V_not hL hb (k := k) (c := s0.cell) (n := n) (fun h => hdd (dd_eq h))
        refine ⟨(M, x, ⟨(dd r b s0.cell : Int), A4.set (tv r b s0.cell k) k 1099511627776⟩, ((k + 1 : Nat) : Int)), ?_, ⟨k + 1, rfl, by omega, ?_, ?_, ?_⟩, by simp only; omega⟩
        · simp only [t_comb_examined_L0, c1, c2, if_true, gx, gy, eta, hM, hm, hft, bnot_t, gOpt_ff, band_f, band_t, Bool.false_eq_true, if_false, q_eq, hcb0, hg, hglen, hsub, c3, isucc (i := k) (by omega)]
        · simp only; rw [hstep, hstay]; exact hM
        · simp only; rw [hstep, hstay]; exact hx
        · simp only; rw [← tv_set r b s0.cell hk4, hdn, hV]; rfl
    · rw [Bool.not_eq_true] at hft
      have hV := V_not hL hb (k := k) (c := s0.cell) (n := n) (fun h => by
        obtain ⟨m, u, hu, hcu⟩ := Qc_has hL hb h
        have hmi : m < i := by
          refine Qc_lt hL hb hu (pre_get hpre hq) ?_
          rw [hcu, hdn, dd_eq h]; omega
        have hml : m < (S r b (4 * i + k)).length := by omega
        have h2 := pre_get hpre (List.getElem?_eq_getElem hml)
        rw [hu] at h2
        have : fnd (S r b (4 * i + k)) (nbr s0.cell k) = true := (fnd_iff _ _).2 ⟨_, List.getElem_mem hml, by rw [← Option.some.inj h2]; exact hcu⟩
        rw [hft] at this
        cases this)
      by_cases hcbt : cb r (nbr s0.cell k) = true
      · have hb2 := hbl hft ((cb_iff hL _).1 hcbt)
        refine ⟨(mset q_api_Cell M (nbr s0.cell k) (blank r b (nbr s0.cell k)), fsnoc x (nbr s0.cell k), ⟨(dd r b s0.cell : Int), A4.set (tv r b s0.cell k) k 1099511627776⟩, ((k + 1 : Nat) : Int)), ?_, ⟨k + 1, rfl, by omega, ?_, ?_, ?_⟩, by simp only; omega⟩
        · simp only [t_comb_examined_L0, c1, c2, if_true, gx, gy, eta, hM, hm, hft, bnot_f, hcb, hcbt, gOpt_tt, Option.getD_some, band_t, band_f, Bool.false_eq_true, if_false, hfit, q_eq, hcb0, hadd, hb2, isucc (i := k) (by omega)]
        · simp only; rw [hstep, hv, if_pos ⟨hcbt, hft⟩, hM, mapE_snoc ok hil _ hft]
        · simp only [fsnoc_l]; rw [hstep, hv, if_pos ⟨hcbt, hft⟩, hx, List.drop_append_of_le_length (by omega), List.map_append]; rfl
        · simp only; rw [← tv_set r b s0.cell hk4, hdn, hV]; rfl
      · rw [Bool.not_eq_true] at hcbt
        refine ⟨(M, x, ⟨(dd r b s0.cell : Int), A4.set (tv r b s0.cell k) k 1099511627776⟩, ((k + 1 : Nat) : Int)), ?_, ⟨k + 1, rfl, by omega, ?_, ?_, ?_⟩, by simp only; omega⟩
        · simp only [t_comb_examined_L0, c1, c2, if_true, gx, gy, eta, hM, hm, hft, bnot_f, hcb, hcbt, gOpt_tt, Option.getD_some, band_f, band_f', Bool.false_eq_true, if_false, q_eq, hcb0, isucc (i := k) (by omega)]
        · simp only; rw [hstep, hv, if_neg (by rw [hcbt]; simp)]; exact hM
        · simp only; rw [hstep, hv, if_neg (by rw [hcbt]; simp)]; exact hx
        · simp only; rw [← tv_set r b s0.cell hk4, hdn, hV]; rfl
end
end Go.Proofs.Ytchiiiahgmfofaa
