/- comb: shortest ways with the fewest turns, in plain Lean (no program in sight). Conditions: none. -/
import Derived.Test.YtchiiiahgmfofaaBg
namespace Go.Proofs.Ytchiiiahgmfofaa
open Go Go.Vv Go.Proofs
set_option linter.unusedSimpArgs false
set_option linter.unusedVariables false
set_option linter.unusedSectionVars false
def never : Int := 1099511627776
/-- What a turn costs: entered in the direction k (none: k < 0), left in the direction i. -/
def pen (k : Int) (i : Nat) : Int := if 0 ≤ k ∧ (i : Int) ≠ k then 1 else 0
theorem pen_le (k : Int) (i : Nat) : 0 ≤ pen k i ∧ pen k i ≤ 1 := by unfold pen; split <;> omega
theorem pen_neg (i : Nat) : pen (-1) i = 0 := by unfold pen; rw [if_neg (by omega)]
theorem pen_nat (k i : Nat) : pen k i = if k = i then 0 else 1 := by
  unfold pen
  by_cases h : k = i
  · subst h; rw [if_neg (by omega), if_pos rfl]
  · rw [if_pos ⟨by omega, by omega⟩, if_neg h]
def bstep (f : Nat → Int) (k : Int) (s : Int × Int) (i : Nat) : Int × Int := if f i + pen k i < s.1 then (f i + pen k i, (i : Int)) else s
/-- The fewest turns, and the first direction that has them. -/
def beh (f : Nat → Int) (k : Int) : Int × Int := bstep f k (bstep f k (bstep f k (bstep f k (never, 0) 0) 1) 2) 3
theorem bstep_le (f : Nat → Int) (k : Int) (s : Int × Int) (i : Nat) : (bstep f k s i).1 ≤ s.1 ∧ (bstep f k s i).1 ≤ f i + pen k i := by
  unfold bstep
  split
  · rename_i h; exact ⟨Int.le_of_lt h, Int.le_refl _⟩
  · rename_i h; exact ⟨Int.le_refl _, by omega⟩
theorem beh_le (f : Nat → Int) (k : Int) : (beh f k).1 ≤ never ∧ ∀ i, i < 4 → (beh f k).1 ≤ f i + pen k i := by
  have h0 := bstep_le f k (never, 0) 0
  have h1 := bstep_le f k (bstep f k (never, 0) 0) 1
  have h2 := bstep_le f k (bstep f k (bstep f k (never, 0) 0) 1) 2
  have h3 := bstep_le f k (bstep f k (bstep f k (bstep f k (never, 0) 0) 1) 2) 3
  unfold beh
  refine ⟨by simp only at h0; omega, fun i hi => ?_⟩
  have : i = 0 ∨ i = 1 ∨ i = 2 ∨ i = 3 := by omega
  rcases this with rfl | rfl | rfl | rfl <;> omega
def BI (f : Nat → Int) (k : Int) (s : Int × Int) : Prop := s = (never, 0) ∨ ∃ i : Nat, i < 4 ∧ s = (f i + pen k i, (i : Int))
theorem bstep_in {f : Nat → Int} {k : Int} {s : Int × Int} {i : Nat} (hi : i < 4) (h : BI f k s) : BI f k (bstep f k s i) := by
  unfold bstep
  split
  · exact .inr ⟨i, hi, rfl⟩
  · exact h
theorem beh_in (f : Nat → Int) (k : Int) : BI f k (beh f k) := bstep_in (by omega) (bstep_in (by omega) (bstep_in (by omega) (bstep_in (by omega) (.inl rfl))))
theorem beh_nn {f : Nat → Int} (hf : ∀ i, 0 ≤ f i) (k : Int) : 0 ≤ (beh f k).1 := by
  rcases beh_in f k with h | ⟨i, _, h⟩
  · rw [h]; decide
  · rw [h]; have := hf i; have := (pen_le k i).1; simp only; omega
/-- The way from a cell in these directions. -/
def pth (c : api_Cell) : List Nat → List api_Cell
  | [] => [c]
  | k :: ks => c :: pth (nbr c k) ks
def lastC (c : api_Cell) : List Nat → api_Cell
  | [] => c
  | k :: ks => lastC (nbr c k) ks
/-- The turns of directions. -/
def tk : List Nat → Nat
  | [] => 0
  | [_] => 0
  | k :: j :: r => (if k = j then 0 else 1) + tk (j :: r)
/-- A way inside of a region. -/
def Way (r : api_Region) (c : api_Cell) (ks : List Nat) : Prop := (∀ k ∈ ks, k < 4) ∧ ∀ d ∈ pth c ks, In r d
theorem pth_len (c : api_Cell) (ks : List Nat) : (pth c ks).length = ks.length + 1 := by
  induction ks generalizing c with
  | nil => rfl
  | cons k ks ih => simp only [pth, List.length_cons, ih]
theorem pth_head (c : api_Cell) (ks : List Nat) : (pth c ks)[0]? = some c := by cases ks <;> rfl
theorem pth_last (c : api_Cell) (ks : List Nat) : (pth c ks)[ks.length]? = some (lastC c ks) := by
  induction ks generalizing c with
  | nil => rfl
  | cons k ks ih => simp only [pth, List.length_cons, List.getElem?_cons_succ, lastC]; exact ih _
theorem Way.head {r : api_Region} {c : api_Cell} {ks : List Nat} (h : Way r c ks) : In r c := h.2 c (by cases ks <;> simp [pth])
theorem Way.tail {r : api_Region} {c : api_Cell} {k : Nat} {ks : List Nat} (h : Way r c (k :: ks)) : Way r (nbr c k) ks :=
  ⟨fun j hj => h.1 j (by simp [hj]), fun d hd => h.2 d (by simp [pth, hd])⟩
theorem Way.cons {r : api_Region} {c : api_Cell} {k : Nat} {ks : List Nat} (hk : k < 4) (hc : In r c) (h : Way r (nbr c k) ks) : Way r c (k :: ks) :=
  ⟨fun j hj => by rcases List.mem_cons.1 hj with rfl | hj; exact hk; exact h.1 j hj, fun d hd => by
    rcases List.mem_cons.1 hd with rfl | hd
    · exact hc
    · exact h.2 d hd⟩
theorem Way.wk {r : api_Region} {c : api_Cell} {ks : List Nat} (h : Way r c ks) : Wk r (lastC c ks) ks.length c := by
  induction ks generalizing c with
  | nil => exact .here h.head
  | cons k ks ih =>
    have hk := h.1 k (by simp)
    exact .step (ih h.tail) h.head (Adj.symm ⟨k, hk, rfl⟩)
theorem wk_way {r : api_Region} {b c : api_Cell} {n : Nat} (h : Wk r b n c) : ∃ ks, Way r c ks ∧ lastC c ks = b ∧ ks.length = n := by
  induction h with
  | here h => exact ⟨[], ⟨by simp, by simpa [pth] using h⟩, rfl, rfl⟩
  | step _ h2 h3 ih =>
    obtain ⟨ks, h1, hl, hn⟩ := ih
    obtain ⟨k, hk, rfl⟩ := h3.symm
    exact ⟨k :: ks, Way.cons hk h2 h1, hl, by simp [hn]⟩
/-- The distance to b. -/
def Dst (r : api_Region) (b : api_Cell) (n : Nat) (c : api_Cell) : Prop := Wk r b n c ∧ ∀ m, Wk r b m c → n ≤ m
theorem Dst.uniq {r : api_Region} {b c : api_Cell} {n m : Nat} (h : Dst r b n c) (h' : Dst r b m c) : n = m := Nat.le_antisymm (h.2 _ h'.1) (h'.2 _ h.1)
theorem Dst.zero {r : api_Region} {b c : api_Cell} (h : Dst r b 0 c) : c = b := by
  have := h.1
  cases this
  rfl
theorem Dst.here {r : api_Region} {b : api_Cell} (h : In r b) : Dst r b 0 b := ⟨.here h, fun m _ => Nat.zero_le m⟩
theorem Dst.ex {r : api_Region} {b c : api_Cell} : ∀ {n : Nat}, Wk r b n c → ∃ m, Dst r b m c := by
  intro n
  induction n using Nat.strongRecOn with
  | ind n ih =>
    intro h
    by_cases hm : ∃ m, m < n ∧ Wk r b m c
    · obtain ⟨m, hlt, hw⟩ := hm; exact ih m hlt hw
    · exact ⟨n, h, fun m hw => by
        by_cases hlt : m < n
        · exact absurd ⟨m, hlt, hw⟩ hm
        · omega⟩
/-- The rest of a shortest way is a shortest way. -/
theorem Dst.tail {r : api_Region} {b c : api_Cell} {k : Nat} {ks : List Nat} (hw : Way r c (k :: ks)) (hl : lastC c (k :: ks) = b) (hd : Dst r b (ks.length + 1) c) : Dst r b ks.length (nbr c k) := by
  have h1 := hw.tail.wk
  rw [show lastC (nbr c k) ks = b from hl] at h1
  refine ⟨h1, fun m hm => ?_⟩
  have := hd.2 (m + 1) (.step hm hw.head (Adj.symm ⟨k, hw.1 k (by simp), rfl⟩))
  omega
open Classical in
/-- The fewest turns of a shortest way from a cell n steps away, by its first direction. -/
noncomputable def V (r : api_Region) (b : api_Cell) : Nat → api_Cell → Nat → Int
  | 0, _, _ => 0
  | n + 1, c, k => if Dst r b n (nbr c k) then (if n = 0 then 0 else (beh (V r b n (nbr c k)) k).1) else never
theorem V_bound (r : api_Region) (b : api_Cell) : ∀ (n : Nat) (c : api_Cell) (k : Nat), 0 ≤ V r b n c k ∧ V r b n c k ≤ never
  | 0, c, k => by simp only [V]; decide
  | n + 1, c, k => by
    simp only [V]
    split
    · split
      · decide
      · exact ⟨beh_nn (fun i => (V_bound r b n _ i).1) _, (beh_le _ _).1⟩
    · exact ⟨by decide, Int.le_refl _⟩
theorem V_le (r : api_Region) (b : api_Cell) : ∀ (ks : List Nat) (c : api_Cell) (k : Nat), Way r c (k :: ks) → lastC c (k :: ks) = b → Dst r b (ks.length + 1) c → V r b (ks.length + 1) c k ≤ tk (k :: ks)
  | [], c, k, hw, hl, hd => by
    have h1 := Dst.tail hw hl hd
    simp only [List.length_nil] at h1
    show V r b (0 + 1) c k ≤ _
    rw [V, if_pos h1, if_pos rfl]
    simp [tk]
  | j :: ks, c, k, hw, hl, hd => by
    have h1 := Dst.tail hw hl hd
    have ih := V_le r b ks (nbr c k) j hw.tail hl (by simpa using h1)
    have hj := hw.tail.1 j (by simp)
    have hb := (beh_le (V r b (ks.length + 1) (nbr c k)) k).2 j hj
    rw [pen_nat] at hb
    simp only [List.length_cons] at h1 ⊢
    rw [V, if_pos h1, if_neg (by omega)]
    simp only [tk]
    by_cases e : k = j
    · rw [if_pos e] at hb ⊢; push_cast; omega
    · rw [if_neg e] at hb ⊢; push_cast; omega
/-- The directions that Easy takes. -/
noncomputable def ew (r : api_Region) (b : api_Cell) : Nat → api_Cell → Int → List Nat
  | 0, _, _ => []
  | n + 1, c, k => (beh (V r b (n + 1) c) k).2.toNat :: ew r b n (nbr c (beh (V r b (n + 1) c) k).2.toNat) (beh (V r b (n + 1) c) k).2
theorem tk_le : ∀ ks : List Nat, tk ks ≤ ks.length
  | [] => by simp [tk]
  | [_] => by simp [tk]
  | k :: j :: r => by
    have := tk_le (j :: r)
    simp only [tk, List.length_cons] at *
    split <;> omega
theorem ew_ok (r : api_Region) (b : api_Cell) : ∀ (n : Nat) (c : api_Cell) (k : Int), n ≤ 67108864 → Dst r b (n + 1) c →
    ∃ (i : Nat) (ks : List Nat), i < 4 ∧ (beh (V r b (n + 1) c) k).2 = i ∧ Dst r b n (nbr c i) ∧ ew r b (n + 1) c k = i :: ks ∧ Way r c (i :: ks) ∧ lastC c (i :: ks) = b ∧ ks.length = n ∧ (beh (V r b (n + 1) c) k).1 = tk (i :: ks) + pen k i
  | 0, c, k, _, hd => by
    obtain ⟨ks, hw, hl, hn⟩ := wk_way hd.1
    match ks, hn with
    | [i0], _ =>
      have h1 := Dst.tail hw hl hd
      have hi0 := hw.1 i0 (by simp)
      have hv : V r b 1 c i0 = 0 := by simp only [List.length_nil] at h1; simp only [V, if_pos h1, if_true]
      have hle := (beh_le (V r b 1 c) k).2 i0 hi0
      have hp := pen_le k i0
      rcases beh_in (V r b 1 c) k with h | ⟨i, hi, h⟩
      · rw [h, hv] at hle; simp only [never] at hle; omega
      · rw [h] at hle
        simp only at hle
        have hdi : Dst r b 0 (nbr c i) := by
          by_cases hx : Dst r b 0 (nbr c i)
          · exact hx
          · have := (pen_le k i).1
            rw [V, if_neg hx, hv] at hle
            unfold never at hle
            omega
        have hvi : V r b 1 c i = 0 := by simp only [V, if_pos hdi, if_true]
        refine ⟨i, [], hi, by rw [h], hdi, ?_, Way.cons hi hw.head ⟨by simp, ?_⟩, hdi.zero, rfl, ?_⟩
        · simp only [ew, h, Int.toNat_natCast]
        · simp only [pth, List.mem_singleton]; rintro d rfl; exact hdi.1.inr
        · rw [h, hvi]; simp only [tk]; omega
  | n + 1, c, k, hn, hd => by
    obtain ⟨ks, hw, hl, hkn⟩ := wk_way hd.1
    match ks, hkn with
    | i0 :: ks, hkn =>
      have hkn : ks.length = n + 1 := by simpa using hkn
      have h1 := Dst.tail hw hl (by rw [hkn]; exact hd)
      rw [hkn] at h1
      have hi0 := hw.1 i0 (by simp)
      obtain ⟨j0, ks0, -, -, -, -, -, -, hl0, ht0⟩ := ew_ok r b n (nbr c i0) i0 (by omega) h1
      have hv : V r b (n + 1 + 1) c i0 = (beh (V r b (n + 1) (nbr c i0)) i0).1 := by rw [V, if_pos h1, if_neg (by omega)]
      have hle := (beh_le (V r b (n + 1 + 1) c) k).2 i0 hi0
      have hp := pen_le k i0
      have hp0 := pen_le i0 j0
      have htl := tk_le (j0 :: ks0)
      simp only [List.length_cons] at htl
      rcases beh_in (V r b (n + 1 + 1) c) k with h | ⟨i, hi, h⟩
      · rw [h, hv, ht0] at hle; simp only [never] at hle; omega
      · rw [h] at hle
        simp only at hle
        have hdi : Dst r b (n + 1) (nbr c i) := by
          by_cases hx : Dst r b (n + 1) (nbr c i)
          · exact hx
          · have := (pen_le k i).1
            rw [V, if_neg hx, hv, ht0] at hle
            unfold never at hle
            omega
        obtain ⟨j, ks', hj, e1, hdj, e2, hw', hl', hn', ht⟩ := ew_ok r b n (nbr c i) i (by omega) hdi
        have hvi : V r b (n + 1 + 1) c i = (beh (V r b (n + 1) (nbr c i)) i).1 := by rw [V, if_pos hdi, if_neg (by omega)]
        refine ⟨i, j :: ks', hi, by rw [h], hdi, ?_, Way.cons hi hw.head hw', hl', by simp [hn'], ?_⟩
        · rw [ew, h]; simp only [Int.toNat_natCast]; rw [e2]
        · rw [h, hvi, ht, pen_nat]
          simp only [tk]
          split <;> (push_cast; omega)
/-- The directions of the way back. -/
def opp : Nat → Nat
  | 0 => 1
  | 1 => 0
  | 2 => 3
  | _ => 2
theorem opp_lt (k : Nat) : opp k < 4 := by unfold opp; split <;> omega
theorem nbr_opp (c : api_Cell) {k : Nat} (hk : k < 4) : nbr (nbr c k) (opp k) = c := by
  have : k = 0 ∨ k = 1 ∨ k = 2 ∨ k = 3 := by omega
  rcases this with rfl | rfl | rfl | rfl <;> refine Cell.ext' ?_ ?_ <;> simp only [nbr, opp] <;> omega
theorem opp_inj {j k : Nat} (hj : j < 4) (hk : k < 4) (h : opp j = opp k) : j = k := by
  have h1 : j = 0 ∨ j = 1 ∨ j = 2 ∨ j = 3 := by omega
  have h2 : k = 0 ∨ k = 1 ∨ k = 2 ∨ k = 3 := by omega
  rcases h1 with rfl | rfl | rfl | rfl <;> rcases h2 with rfl | rfl | rfl | rfl <;> simp_all [opp]
def bak (ks : List Nat) : List Nat := (ks.map opp).reverse
theorem lastC_append (c : api_Cell) (ks ms : List Nat) : lastC c (ks ++ ms) = lastC (lastC c ks) ms := by
  induction ks generalizing c with
  | nil => rfl
  | cons k ks ih => simp only [List.cons_append, lastC]; exact ih _
theorem mem_pth_append (c d : api_Cell) (ks ms : List Nat) : d ∈ pth c (ks ++ ms) → d ∈ pth c ks ∨ d ∈ pth (lastC c ks) ms := by
  induction ks generalizing c with
  | nil => intro h; exact .inr h
  | cons k ks ih =>
    intro h
    simp only [List.cons_append, pth, List.mem_cons] at h
    rcases h with rfl | h
    · exact .inl (by simp [pth])
    · rcases ih _ h with h | h
      · exact .inl (by simp [pth, h])
      · exact .inr h
theorem bak_ok {r : api_Region} : ∀ (ks : List Nat) (c : api_Cell), Way r c ks → lastC (lastC c ks) (bak ks) = c ∧ Way r (lastC c ks) (bak ks)
  | [], c, h => ⟨rfl, h⟩
  | k :: ks, c, h => by
    obtain ⟨h1, h2⟩ := bak_ok ks (nbr c k) h.tail
    have hk := h.1 k (by simp)
    have e : bak (k :: ks) = bak ks ++ [opp k] := by simp [bak]
    rw [e]
    simp only [lastC]
    refine ⟨?_, fun j hj => ?_, fun d hd => ?_⟩
    · rw [lastC_append, h1]; exact nbr_opp c hk
    · rw [List.mem_append, List.mem_singleton] at hj
      rcases hj with hj | rfl
      · exact h2.1 j hj
      · exact opp_lt k
    · rcases mem_pth_append _ _ _ _ hd with hd | hd
      · exact h2.2 d hd
      · rw [h1] at hd
        simp only [pth, List.mem_cons, List.not_mem_nil, or_false] at hd
        rcases hd with rfl | rfl
        · exact h.tail.head
        · rw [nbr_opp c hk]; exact h.head
theorem bak_len (ks : List Nat) : (bak ks).length = ks.length := by simp [bak]
theorem tk_snoc (ks : List Nat) (a b : Nat) : tk (ks ++ [a, b]) = tk (ks ++ [a]) + (if a = b then 0 else 1) := by
  induction ks with
  | nil => simp only [List.nil_append, tk]; omega
  | cons k ks ih =>
    cases ks with
    | nil => simp only [List.cons_append, List.nil_append, tk]; omega
    | cons j r => simp only [List.cons_append, tk] at ih ⊢; omega
theorem tk_bak : ∀ ks : List Nat, (∀ k ∈ ks, k < 4) → tk (bak ks) = tk ks
  | [], _ => rfl
  | [_], _ => rfl
  | k :: j :: r, h => by
    have ih := tk_bak (j :: r) fun x hx => h x (by simp [hx])
    have e : bak (k :: j :: r) = bak r ++ [opp j, opp k] := by simp [bak]
    have e2 : bak (j :: r) = bak r ++ [opp j] := by simp [bak]
    rw [e, tk_snoc, ← e2, ih]
    simp only [tk]
    have : (opp j = opp k) ↔ k = j := ⟨fun hh => (opp_inj (h j (by simp)) (h k (by simp)) hh).symm, fun hh => by rw [hh]⟩
    by_cases hkj : k = j
    · rw [if_pos hkj, if_pos (this.2 hkj)]; omega
    · rw [if_neg hkj, if_neg (fun hh => hkj (this.1 hh))]; omega
/-- Easy ways have the fewest turns of the shortest ways. -/
theorem ew_min {r : api_Region} {b c : api_Cell} {n : Nat} (hn : n ≤ 67108864) (hd : Dst r b n c) : Way r c (ew r b n c (-1)) ∧ lastC c (ew r b n c (-1)) = b ∧ (ew r b n c (-1)).length = n ∧
    ∀ ks, Way r c ks → lastC c ks = b → ks.length = n → tk (ew r b n c (-1)) ≤ tk ks := by
  cases n with
  | zero =>
    have e := hd.zero
    subst e
    refine ⟨⟨by simp [ew], ?_⟩, rfl, rfl, fun ks _ _ _ => by simp [ew, tk]⟩
    simp only [ew, pth, List.mem_singleton]
    rintro d rfl
    exact hd.1.inr
  | succ n =>
    obtain ⟨i, ks, hi, -, -, e, hw, hl, hlen, ht⟩ := ew_ok r b n c (-1) (by omega) hd
    rw [e]
    refine ⟨hw, hl, by simp [hlen], fun ms hw' hl' hn' => ?_⟩
    match ms, hn' with
    | k :: ms, hn' =>
      have hm : ms.length = n := by simpa using hn'
      have h1 := V_le r b ms c k hw' hl' (by rw [hm]; exact hd)
      rw [hm] at h1
      have h2 := (beh_le (V r b (n + 1) c) (-1)).2 k (hw'.1 k (by simp))
      rw [ht, pen_neg, pen_neg] at h2
      omega
end Go.Proofs.Ytchiiiahgmfofaa
