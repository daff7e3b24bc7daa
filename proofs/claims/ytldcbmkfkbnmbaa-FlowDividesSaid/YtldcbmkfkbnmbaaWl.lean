/- flow: how Amounts answers of lists that are put together. -/
import Derived.Test.YtldcbmkfkbnmbaaWi
namespace Go.Vv
open Go
section
variable {esz n : Nat} {a : AV} {L : List AV}
theorem IsL.sliceHi (h : IsL esz a n L) (k : IntKind) (i : Nat) (hi : i ≤ n) : ∃ a', (∀ H, sliceV H esz a none (some (.int k i)) = some a') ∧ IsL esz a' i (L.take (i * esz)) := by
  rcases h with ⟨rfl, rfl, rfl⟩ | ⟨rfl, hl, hf⟩
  · obtain rfl : i = 0 := by omega
    exact ⟨.nils, fun _ => rfl, .inl ⟨rfl, rfl, by simp⟩⟩
  · refine ⟨.lst i (L.take (i * esz)), fun H => ?_, .inr ⟨rfl, ?_, ?_⟩⟩
    · simp only [sliceV, boundV]
      rw [if_pos ⟨by omega, by omega, by omega, hl⟩]
      have e : ((i : Int) - 0).toNat = i := by omega
      rw [e]
      simp [cut]
    · rw [List.length_take, hl]
      have := Nat.mul_le_mul_right esz hi
      omega
    · rw [List.all_eq_true] at hf ⊢
      exact fun x hx => hf x (List.mem_of_mem_take hx)
theorem IsL.sliceLo (h : IsL esz a n L) (k : IntKind) (i : Nat) (hi : i ≤ n) : ∃ a', (∀ H, sliceV H esz a (some (.int k i)) none = some a') ∧ IsL esz a' (n - i) (L.drop (i * esz)) := by
  rcases h with ⟨rfl, rfl, rfl⟩ | ⟨rfl, hl, hf⟩
  · obtain rfl : i = 0 := by omega
    exact ⟨.nils, fun _ => rfl, .inl ⟨rfl, rfl, by simp⟩⟩
  · have hd : (L.drop (i * esz)).length = (n - i) * esz := by rw [List.length_drop, hl, Nat.sub_mul]
    refine ⟨.lst (n - i) (L.drop (i * esz)), fun H => ?_, .inr ⟨rfl, hd, ?_⟩⟩
    · simp only [sliceV, boundV]
      rw [if_pos ⟨by omega, by omega, by omega, hl⟩]
      have e : ((n : Int) - (i : Int)).toNat = n - i := by omega
      have e2 : ((i : Int)).toNat = i := by omega
      rw [e, e2, cut, ← hd, List.take_length]
    · rw [List.all_eq_true] at hf ⊢
      exact fun x hx => hf x (List.mem_of_mem_drop hx)
end
end Go.Vv
namespace Go.Proofs.Ytldcbmkfkbnmbaa
open Go Go.Vv Go.Proofs
def fin (s : Nat → Int) : List Oper → Int → Bool → Int × Bool
  | [], c, r => (c, r)
  | o :: l, c, r =>
    match stp o.k (nC o.cv) c r with
    | .inr (c', r') => fin s l c' r'
    | .inl _ => (c, r)
theorem amts_app (s : Nat → Int) : ∀ (a b : List Oper) (c : Int) (r : Bool), amts s (a ++ b) c r =
    match amts s a c r with
    | .inl e => .inl e
    | .inr l => match amts s b (fin s a c r).1 (fin s a c r).2 with
      | .inl e => .inl e
      | .inr m => .inr (l ++ m)
  | [], b, c, r => by
    simp only [List.nil_append, amts, fin]
    cases amts s b c r <;> rfl
  | o :: a, b, c, r => by
    simp only [List.cons_append, amts, fin]
    cases h : stp o.k (nC o.cv) c r with
    | inl e => rfl
    | inr q =>
      obtain ⟨c', r'⟩ := q
      simp only []
      rw [amts_app s a b c' r']
      cases amts s a c' r' with
      | inl e => rfl
      | inr l =>
        simp only []
        cases amts s b (fin s a c' r').1 (fin s a c' r').2 <;> rfl
theorem fin_bounds (s : Nat → Int) : ∀ (a : List Oper) (c : Int) (r : Bool), (∀ o ∈ a, nC o.cv ≤ 200) → 0 ≤ c → c ≤ 1048576 → 0 ≤ (fin s a c r).1 ∧ (fin s a c r).1 ≤ 1048576
  | [], c, r, _, h0, h1 => ⟨h0, h1⟩
  | o :: a, c, r, hn, h0, h1 => by
    have h2 := hn o (by simp)
    simp only [fin]
    cases h : stp o.k (nC o.cv) c r with
    | inl e => exact ⟨h0, h1⟩
    | inr q =>
      obtain ⟨c', r'⟩ := q
      obtain ⟨g0, g1, -⟩ := stp_some h h0 h1 (by omega) (by omega)
      exact fin_bounds s a c' r' (fun o ho => hn o (by simp [ho])) g0 g1
theorem amts_part (s : Nat → Int) {a b : List Oper} {o x y : Oper} {l : List Int} (hl : amts s (a ++ o :: b) 0 false = .inr l) (hk : o.k = 3) (hn : ∀ q ∈ a ++ o :: b, nC q.cv ≤ 200)
    (hx : x.k = 3) (hy : y.k = 3) (hxy : nC x.cv + nC y.cv = nC o.cv) :
    ∃ la v w lb, l = la ++ w :: lb ∧ amts s a 0 false = .inr la ∧ la.length = a.length ∧ lb.length = b.length ∧ amts s (a ++ x :: y :: b) 0 false = .inr (la ++ v :: w :: lb) := by
  obtain ⟨b0, b1⟩ := fin_bounds s a 0 false (fun q hq => hn q (by simp [hq])) (by omega) (by omega)
  have hno := hn o (by simp)
  rw [amts_app] at hl
  cases ha : amts s a 0 false with
  | inl e => rw [ha] at hl; cases hl
  | inr la =>
    rw [ha] at hl
    simp only [] at hl
    generalize hf : fin s a 0 false = f at *
    obtain ⟨c, r⟩ := f
    simp only [amts] at hl b0 b1
    cases hs : stp o.k (nC o.cv) c r with
    | inl e => rw [hs] at hl; cases hl
    | inr q =>
      obtain ⟨c', r'⟩ := q
      obtain ⟨g0, g1, g2⟩ := stp_some hs b0 b1 (by omega) (by omega)
      rcases g2 with ⟨-, e1, e2, e3⟩ | ⟨hk', -⟩ | ⟨hk', -⟩ | ⟨hk', -⟩
      · subst e2 e3
        rw [hs] at hl
        simp only [] at hl
        cases hb : amts s b c' false with
        | inl e => rw [hb] at hl; cases hl
        | inr lb =>
          rw [hb] at hl
          simp only [Sum.inr.injEq] at hl
          have w1 : IntKind.wrap .i64 (c + (nC x.cv : Int)) = c + nC x.cv := w64 _ (by omega) (by omega)
          have w2 : IntKind.wrap .i64 (c + (nC x.cv : Int) + (nC y.cv : Int)) = c' := by rw [e1]; rw [w64 _ (by omega) (by omega)]; omega
          have s1 : stp x.k (nC x.cv) c false = .inr (c + nC x.cv, false) := by
            simp only [stp, hx, w1, lim]
            rw [if_pos (.inl trivial), if_neg (by simp), if_neg (by decide), if_neg (by omega)]
          have s2 : stp y.k (nC y.cv) (c + nC x.cv) false = .inr (c', false) := by
            simp only [stp, hy, w2, lim]
            rw [if_pos (.inl trivial), if_neg (by simp), if_neg (by decide), if_neg (by omega)]
          refine ⟨la, eV s (c + nC x.cv) false, eV s c' false, lb, hl.symm, rfl, amts_len s a 0 false la ha, amts_len s b c' false lb hb, ?_⟩
          rw [amts_app, ha]
          simp only [hf, amts, s1, s2, hb]
      · omega
      · omega
      · omega
theorem vol_add (s : Nat → Int) (k n : Nat) (hk : k ≤ n) (hn : n ≤ 200) : IntKind.wrap .i64 (vol s k + vol s ((n : Int) - k)) = vol s n := by
  by_cases hv : val s = true
  · obtain ⟨e1, a1, a2⟩ := vol_eq s hv k (by omega) (by omega)
    obtain ⟨e2, b1, b2⟩ := vol_eq s hv ((n : Int) - k) (by omega) (by omega)
    obtain ⟨e3, -, -⟩ := vol_eq s hv n (by omega) (by omega)
    rw [w64 _ (by omega) (by omega), e1, e2, e3]
    rw [← Int.add_mul, ← Int.add_mul, ← Int.add_mul]
    congr 3
    omega
  · have z : ∀ c, vol s c = 0 := fun c => by
      unfold vol
      rw [if_neg (fun hh => hv hh.2)]
    rw [z, z, z]
    decide
end Go.Proofs.Ytldcbmkfkbnmbaa
