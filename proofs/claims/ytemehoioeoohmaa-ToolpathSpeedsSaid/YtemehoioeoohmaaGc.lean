/- comb: the program's search, in plain Lean. Conditions: none. -/
import Derived.Test.YtemehoioeoohmaaGb
namespace Go.Proofs.Ytemehoioeoohmaa
open Go Go.Vv Go.Proofs
set_option linter.unusedSimpArgs false
set_option linter.unusedVariables false
set_option linter.unusedSectionVars false
/-- The cell before a cell of the queue. -/
def pc (Q : List Seen) (s : Seen) : Ja := ((Q[s.before.toNat]?).map (·.cell)).getD s.cell
/-- The queue as a map. -/
def mp (Q : List Seen) : List (Ja × Ja) := Q.map fun s => (s.cell, pc Q s)
theorem Jnu (k : Ja) : ∀ (es : List (Ja × Ja)) (i : Nat), (∀ p ∈ es, p.1 ≠ k) → mpos Kv k i es = none
  | [], i, _ => rfl
  | p :: r, i, h => by
    have h1 : Kv k p.1 = false := by rw [← Bool.not_eq_true, Jnk]; exact fun e => h p (by simp) e.symm
    simp only [mpos, h1, Bool.false_eq_true, if_false]
    exact Jnu k r (i + 1) fun p hp => h p (by simp [hp])
theorem Jua (k : Ja) : ∀ (es : List (Ja × Ja)) (i j : Nat) (p : Ja × Ja), es[j]? = some p → p.1 = k → (∀ m p', m < j → es[m]? = some p' → p'.1 ≠ k) → mpos Kv k i es = some (i + j)
  | [], i, j, p, hp, _, _ => by simp at hp
  | x :: r, i, j, p, hp, hk, hb => by
    cases j with
    | zero =>
      simp at hp
      subst hp
      have h1 : Kv k x.1 = true := (Jnk _ _).2 hk.symm
      simp only [mpos, h1, if_true, Nat.add_zero]
    | succ j =>
      have h1 : Kv k x.1 = false := by rw [← Bool.not_eq_true, Jnk]; exact fun e => hb 0 x (by omega) rfl e.symm
      simp only [mpos, h1, Bool.false_eq_true, if_false]
      rw [Jua k r (i + 1) j p (by simpa using hp) hk (fun m p' hm hp' => hb (m + 1) p' (by omega) (by simpa using hp'))]
      congr 1; omega
section
variable {r : Jk} {a : Ja} {Q : List Seen} (ok : QOK r a Q)
include ok
theorem mp_pos {j : Nat} {s : Seen} (hj : Q[j]? = some s) : mpos Kv s.cell 0 (mp Q) = some j := by
  have := Jua s.cell (mp Q) 0 j (s.cell, pc Q s) (by unfold mp; rw [List.getElem?_map, hj]; rfl) rfl (fun m p' hm hp' e => by
    unfold mp at hp'
    rw [List.getElem?_map] at hp'
    cases hx : Q[m]? with
    | none => rw [hx] at hp'; cases hp'
    | some x =>
      rw [hx] at hp'
      cases hp'
      have := ok.inj hx hj e
      omega)
  rwa [Nat.zero_add] at this
theorem mp_get {j : Nat} {s : Seen} (hj : Q[j]? = some s) (z : Ja) : mget Kv (mp Q) s.cell z = pc Q s := by
  unfold mget
  rw [mp_pos ok hj]
  simp only
  have : (mp Q)[j]? = some (s.cell, pc Q s) := by unfold mp; rw [List.getElem?_map, hj]; rfl
  rw [this]
theorem Jxm (c : Ja) : mhas Kv (mp Q) c = fnd Q c := by
  unfold mhas
  by_cases h : fnd Q c = true
  · obtain ⟨s, hs, rfl⟩ := (Jfv Q c).1 h
    obtain ⟨j, hj, rfl⟩ := List.getElem_of_mem hs
    rw [mp_pos ok (List.getElem?_eq_getElem hj), h]
    rfl
  · rw [Jnu]
    · rw [Bool.not_eq_true] at h; rw [h]; rfl
    · intro p hp e
      unfold mp at hp
      obtain ⟨s, hs, rfl⟩ := List.mem_map.1 hp
      exact h ((Jfv Q c).2 ⟨s, hs, e⟩)
theorem mp_snoc {i : Nat} {s : Seen} (hi : Q[i]? = some s) {c : Ja} (hf : fnd Q c = false) : mset Kv (mp Q) c s.cell = mp (Q ++ [⟨c, (i : Int)⟩]) := by
  have h1 : mpos Kv c 0 (mp Q) = none := by
    have := Jxm ok c
    rw [hf] at this
    unfold mhas at this
    cases hm : mpos Kv c 0 (mp Q) with
    | none => rfl
    | some j => rw [hm] at this; cases this
  have hil := (List.getElem?_eq_some_iff.1 hi).1
  unfold mset
  rw [h1]
  simp only
  unfold mp
  rw [List.map_append]
  congr 1
  · refine List.map_congr_left fun x hx => ?_
    obtain ⟨j, hj, rfl⟩ := List.getElem_of_mem hx
    congr 1
    unfold pc
    by_cases h0 : 0 < j
    · obtain ⟨p, hp, hlt⟩ := ok.back j _ (List.getElem?_eq_getElem hj) h0
      rw [hp, Int.toNat_natCast, List.getElem?_append_left (by omega)]
    · have : j = 0 := by omega
      subst this
      have hf0 := ok.first
      rw [List.getElem?_eq_getElem hj] at hf0
      have e : Q[0] = ⟨a, -1⟩ := Option.some.inj hf0
      rw [e]
      have : (-1 : Int).toNat = 0 := rfl
      simp only [this]
      rw [List.getElem?_append_left hj]
  · simp only [List.map_cons, List.map_nil, pc, Int.toNat_natCast]
    rw [List.getElem?_append_left hil, hi]
    rfl
end
theorem Jnb {x : FS Ja} (h : 0 < x.l.length) : ∃ y, fsl x 1 (flen x) = some y ∧ y.l = x.l.drop 1 := by
  cases x with
  | nil => simp [FS.l] at h
  | lst l =>
    simp only [FS.l] at h
    refine ⟨.lst ((l.drop 1).take (flen (.lst l) - 1).toNat), ?_, ?_⟩
    · have hc : (0:Int) ≤ 1 ∧ (1:Int) ≤ flen (.lst l : FS Ja) ∧ flen (.lst l : FS Ja) ≤ flen (.lst l : FS Ja) := by
        simp only [flen, FS.l]
        exact ⟨by omega, by omega, by omega⟩
      simp only [fsl]
      exact if_pos hc
    · simp only [FS.l, flen]
      rw [List.take_of_length_le]
      rw [List.length_drop]; omega
section
variable {r : Jk} (hL : Lim r) {a b : Ja} (ha : In r a)
include hL ha
theorem get4 {c : Ja} (hc : InR c) (k : Nat) (hk : k < 4) :
    A4.get (⟨(⟨(iadd .i64 c.X 1), c.Y⟩ : Ja), (⟨(isub .i64 c.X 1), c.Y⟩ : Ja), (⟨c.X, (iadd .i64 c.Y 1)⟩ : Ja), (⟨c.X, (isub .i64 c.Y 1)⟩ : Ja)⟩ : (A4 Ja)) (k : Int) = nbr c k := by
  unfold InR at hc
  rw [Jan (a := c.X) (by omega) (by omega), jr (a := c.X) (by omega) (by omega), Jan (a := c.Y) (by omega) (by omega), jr (a := c.Y) (by omega) (by omega)]
  have : k = 0 ∨ k = 1 ∨ k = 2 ∨ k = 3 := by omega
  rcases this with rfl | rfl | rfl | rfl <;> rfl
theorem Js3 (i : Nat) (x0 : FS Ja) (s0 : Seen) (hs0 : (S r a (4 * i))[i]? = some s0) (h0 : x0.l = ((S r a (4 * i)).drop (i + 1)).map (·.cell)) :
    ∃ y : List (Ja × Ja) × FS Ja, Ku (Zb r b s0.cell (⟨(⟨(iadd .i64 s0.cell.X 1), s0.cell.Y⟩ : Ja), (⟨(isub .i64 s0.cell.X 1), s0.cell.Y⟩ : Ja), (⟨s0.cell.X, (iadd .i64 s0.cell.Y 1)⟩ : Ja), (⟨s0.cell.X, (isub .i64 s0.cell.Y 1)⟩ : Ja)⟩ : (A4 Ja))) bigN (mp (S r a (4 * i)), x0, 0) = some y ∧
      y.1 = mp (S r a (4 * (i + 1))) ∧ y.2.l = ((S r a (4 * (i + 1))).drop (i + 1)).map (·.cell) := by
  have hin := Jjl ((S_ok hL ha (4 * i)).inr s0 (List.mem_of_getElem? hs0))
  refine Zp (body := Zb r b s0.cell _)
    (fun s => ∃ k : Nat, s.2.2 = k ∧ k ≤ 4 ∧ s.1 = mp (S r a (4 * i + k)) ∧ s.2.1.l = ((S r a (4 * i + k)).drop (i + 1)).map (·.cell)) (fun s => (4 - s.2.2).toNat)
    (fun y => y.1 = mp (S r a (4 * (i + 1))) ∧ y.2.l = ((S r a (4 * (i + 1))).drop (i + 1)).map (·.cell))
    ?_ bigN _ ⟨0, rfl, by omega, rfl, h0⟩ (Zz (by simp only; omega))
  rintro ⟨M, x, k'⟩ ⟨k, hk', hk, hM, hx⟩
  simp only at hk' hM hx
  subst hk'
  have ok := S_ok hL ha (4 * i + k)
  have hlen := ok.len
  have hq : (S r a (4 * i + k))[i]? = some s0 := Jet (Jq2 r a (by omega)) hs0
  have hil := (List.getElem?_eq_some_iff.1 hq).1
  have hxl : x.l.length ≤ 67108864 := by rw [hx, List.length_map, List.length_drop]; omega
  by_cases hk4 : k < 4
  · left
    have c1 : ilt (k : Int) 4 = true := jf (by omega)
    have c2 : inB (k : Int) 4 = true := by rw [Jql]; omega
    have g4 := get4 (r := r) hL (a := a) ha hin k hk4
    have hcb := Jqd hL (nbr s0.cell k)
    have hm := Jxm ok (nbr s0.cell k)
    have hfit : fits 16 (flen x + 1) = true := Jrr (l := x.l) (by omega) (by omega)
    have hstep : S r a (4 * i + (k + 1)) = Jgc r (S r a (4 * i + k)) i k := by
      have e1 : (4 * i + k) / 4 = i := by omega
      have e2 : (4 * i + k) % 4 = k := by omega
      show Jgc r (S r a (4 * i + k)) ((4 * i + k) / 4) ((4 * i + k) % 4) = _
      rw [e1, e2]
    have hv : Jgc r (S r a (4 * i + k)) i k = if cb r (nbr s0.cell k) = true ∧ fnd (S r a (4 * i + k)) (nbr s0.cell k) = false then S r a (4 * i + k) ++ [⟨nbr s0.cell k, (i : Int)⟩] else S r a (4 * i + k) := by
      unfold Jgc; rw [hq]
    by_cases hft : fnd (S r a (4 * i + k)) (nbr s0.cell k) = true
    · refine ⟨(M, x, ((k + 1 : Nat) : Int)), ?_, ⟨k + 1, rfl, by omega, ?_, ?_⟩, by simp only; omega⟩
      · simp only [Zb, c1, c2, if_true, g4, hM, hm, hft, Zi, jh, Jbb, Bool.false_eq_true, if_false, z8 (i := k) (by omega)]
      · simp only; rw [hstep, hv, if_neg (by rw [hft]; simp)]; exact hM
      · simp only; rw [hstep, hv, if_neg (by rw [hft]; simp)]; exact hx
    · rw [Bool.not_eq_true] at hft
      by_cases hcbt : cb r (nbr s0.cell k) = true
      · refine ⟨(mset Kv M (nbr s0.cell k) s0.cell, Zy x (nbr s0.cell k), ((k + 1 : Nat) : Int)), ?_, ⟨k + 1, rfl, by omega, ?_, ?_⟩, by simp only; omega⟩
        · simp only [Zb, c1, c2, if_true, g4, hM, hm, hft, je, hcb, hcbt, Z3, Option.getD_some, Jbf, hfit, z8 (i := k) (by omega)]
        · simp only; rw [hstep, hv, if_pos ⟨hcbt, hft⟩, hM, mp_snoc ok hq hft]
        · simp only [Jag]; rw [hstep, hv, if_pos ⟨hcbt, hft⟩, hx, List.drop_append_of_le_length (by omega), List.map_append]; rfl
      · rw [Bool.not_eq_true] at hcbt
        refine ⟨(M, x, ((k + 1 : Nat) : Int)), ?_, ⟨k + 1, rfl, by omega, ?_, ?_⟩, by simp only; omega⟩
        · simp only [Zb, c1, c2, if_true, g4, hM, hm, hft, je, hcb, hcbt, Z3, Option.getD_some, Jbq, Bool.false_eq_true, if_false, z8 (i := k) (by omega)]
        · simp only; rw [hstep, hv, if_neg (by rw [hcbt]; simp)]; exact hM
        · simp only; rw [hstep, hv, if_neg (by rw [hcbt]; simp)]; exact hx
  · right
    have : k = 4 := by omega
    subst this
    have c1 : ilt ((4 : Nat) : Int) 4 = false := Zs (by omega)
    refine ⟨(M, x), ?_, hM, hx⟩
    simp only [Zb, c1, Bool.false_eq_true, if_false]
theorem Jpw : ∃ i : Nat, Ja1 r a b = some (mp (S r a (4 * i))) ∧ i ≤ (S r a (4 * i)).length ∧ ((S r a (4 * i)).length ≤ i ∨ ∃ s, (S r a (4 * i))[i]? = some s ∧ s.cell = b) := by
  obtain ⟨y, e, i, rfl, h1, h2⟩ := Zp (body := jd r b)
    (fun s => ∃ i : Nat, s.1 = mp (S r a (4 * i)) ∧ s.2.l = ((S r a (4 * i)).drop i).map (·.cell) ∧ i ≤ (S r a (4 * i)).length) (fun s => 67108866 - (s.1.length - s.2.l.length))
    (fun y => ∃ i : Nat, y = mp (S r a (4 * i)) ∧ i ≤ (S r a (4 * i)).length ∧ ((S r a (4 * i)).length ≤ i ∨ ∃ s, (S r a (4 * i))[i]? = some s ∧ s.cell = b))
    (by
      rintro ⟨M, x⟩ ⟨i, hM, hx, hi⟩
      simp only at hM hx
      have ok := S_ok hL ha (4 * i)
      have hlen := ok.len
      have hxl : x.l.length = (S r a (4 * i)).length - i := by rw [hx, List.length_map, List.length_drop]
      have hMl : M.length = (S r a (4 * i)).length := by rw [hM]; simp [mp]
      by_cases hlt : i < (S r a (4 * i)).length
      · have c1 : igt (flen x) 0 = true := Jdh (by rw [Ka]; omega)
        have hs := List.getElem?_eq_getElem hlt
        generalize hs0 : (S r a (4 * i))[i] = s0 at hs
        have g0 : fget x 0 = some s0.cell := fget_int (by omega) (by
          rw [hx]
          simp only [Int.toNat_zero, List.getElem?_map, List.getElem?_drop, Nat.add_zero, hs]
          rfl)
        obtain ⟨y, ey, hy⟩ := Jnb (x := x) (by omega)
        by_cases hb : s0.cell = b
        · right
          refine ⟨M, ?_, i, hM, hi, .inr ⟨s0, hs, hb⟩⟩
          have : Kv s0.cell b = true := (Jnk _ _).2 hb
          simp only [jd, c1, if_true, g0, ey, q_eq, this]
        · left
          have hq : Kv s0.cell b = false := by rw [← Bool.not_eq_true, Jnk]; exact hb
          obtain ⟨⟨M', z⟩, ez, h1, h2⟩ := Js3 hL ha (b := b) i y s0 hs (by rw [hy, hx, ← List.map_drop, List.drop_drop])
          simp only at h1 h2
          have hle : i + 1 ≤ (S r a (4 * (i + 1))).length := by
            have := (Jq2 r a (show 4 * i ≤ 4 * (i + 1) by omega)).length_le
            omega
          have ok' := S_ok hL ha (4 * (i + 1))
          have hlen' := ok'.len
          refine ⟨(M', z), ?_, ⟨i + 1, h1, h2, hle⟩, ?_⟩
          · simp only [jd, c1, if_true, g0, ey, q_eq, hq, Bool.false_eq_true, if_false, hM, ez]
          · simp only
            rw [h1, h2]
            simp only [mp, List.length_map, List.length_drop]
            omega
      · right
        have c1 : igt (flen x) 0 = false := Jd2 (by rw [Ka]; omega)
        refine ⟨M, ?_, i, hM, hi, .inl (by omega)⟩
        simp only [jd, c1, Bool.false_eq_true, if_false])
    bigN (mset Kv [] a a, flit [a]) ⟨0, rfl, rfl, by simp [S]⟩ (Zz (by simp only; omega))
  refine ⟨i, ?_, h1, h2⟩
  unfold Ja1
  rw [e]
end
end Go.Proofs.Ytemehoioeoohmaa
