/- flow: Floor and same. -/
import Derived.Test.YtldcbmkfkbnmbaaWa
namespace Go.Proofs.Ytldcbmkfkbnmbaa
open Go Go.Vv Go.Proofs
set_option linter.unusedSimpArgs false
set_option maxRecDepth 10000
set_option maxHeartbeats 4000000

theorem floor_ev (a b : Int) (ha : 0 ≤ a) (hb : 0 < b) : FC env 21 [.int .i64 a, .int .i64 b] none = some (.tup [.int .i64 (IntKind.wrap .i64 (a.tdiv b)), .int .i64 0], fun _ => none) := by
  have h1 : ¬ a = -9223372036854775808 := by omega
  have h2 : ¬ b = 0 := by omega
  have h3 : ¬ a < 0 := by omega
  have h4 : ¬ b < 0 := by omega
  refine FC_pure (lf := lf21) rfl rfl rfl ?_
  simp only [lf21, lc21, c21_0, c21_1, c21_2, c21_3, c21_4, c21_5, c21_6, c21_7, c21_8]
  simp +contextual (maxSteps := 4000000) [h1, h2, h3, h4]

def ints (l : List Int) : List AV := l.map (.int .i64)
theorem ints_len (l : List Int) : (ints l).length = l.length := List.length_map ..
theorem ints_drop (l : List Int) (i : Nat) : (ints l).drop i = ints (l.drop i) := by simp only [ints, List.map_drop]
theorem ints_flat (l : List Int) : (ints l).all AV.flat = true := by
  induction l with
  | nil => rfl
  | cons x r ih => exact ih

theorem same_loop {a b : AV} {l m : List Int} (ha : IsL 1 a l.length (ints l)) (hb : IsL 1 b m.length (ints m)) (hlm : l.length = m.length) (hn : l.length < 4611686018427387904) :
    ∀ (r q : List Int) (i : Nat), l.drop i = r → m.drop i = q → i + r.length = l.length →
    ∃ F', LK env true 0 [0, 1, 5] [] c16_L0 (some ⟨fr [(0, a), (1, b), (5, .int .i64 i)], hl []⟩) = some (if r = q then .exit 0 else .ret, ⟨F', hl []⟩) ∧ (r ≠ q → F' 4 = .bool false)
  | [], q, i, hr, hq, hi => by
    have hi' : i = l.length := by simpa using hi
    have hq' : q = [] := by rw [← hq]; apply List.drop_eq_nil_of_le; omega
    subst hq'
    have c1 : ¬ (i : Int) < (l.length : Int) := by omega
    have u0 : ∀ σ, EC env true 0 c16_L0 σ = EC env true 0 (.seq (.seq (.reg false c16_4) (.cond (.t 14) .skip (.exit 0))) (.seq (.blk 1 (.seq (.reg true c16_5) (.cond (.t 25) (.seq (.reg false c16_6) .ret) .skip))) (.reg false c16_7))) σ := fun _ => rfl
    rw [LK_step]
    simp +contextual [lf16, lc16, c16_0, c16_1, c16_2, c16_3, c16_4, c16_5, c16_6, c16_7, c16_9, ↓u0, ha.len, hb.len, ha.refs, hb.refs, c1]
  | x :: r, q, i, hr, hq, hi => by
    have hi' : i < l.length := by simp at hi; omega
    have c1 : (i : Int) < (l.length : Int) := by omega
    have c2 : IntKind.wrap .i64 ((i : Int) + 1) = ((i + 1 : Nat) : Int) := by rw [w64] <;> omega
    have e1 : (ints l).drop i = .int .i64 x :: ints r := by rw [ints_drop, hr]; rfl
    have hr' : l.drop (i + 1) = r := by rw [← List.drop_drop, hr]; rfl
    cases q with
    | nil =>
      have := congrArg List.length hq
      simp at this; omega
    | cons y q =>
      have hq' : m.drop (i + 1) = q := by rw [← List.drop_drop, hq]; rfl
      have e2 : (ints m).drop i = .int .i64 y :: ints q := by rw [ints_drop, hq]; rfl
      have f1 := fun H => ha.iaddr H .i64 i hi'
      have f2 := fun H => hb.iaddr H .i64 i (hlm ▸ hi')
      simp only [Nat.mul_one, e1, e2] at f1 f2
      obtain ⟨F', g1, g2⟩ := same_loop ha hb hlm hn r q (i + 1) hr' hq' (by simp at hi; omega)
      have u0 : ∀ σ, EC env true 0 c16_L0 σ = EC env true 0 (.seq (.seq (.reg false c16_4) (.cond (.t 14) .skip (.exit 0))) (.seq (.blk 1 (.seq (.reg true c16_5) (.cond (.t 25) (.seq (.reg false c16_6) .ret) .skip))) (.reg false c16_7))) σ := fun _ => rfl
      rw [LK_step]
      by_cases hxy : x = y
      · subst hxy
        simp +contextual [lf16, lc16, c16_0, c16_1, c16_2, c16_3, c16_4, c16_5, c16_6, c16_7, c16_9, ↓u0, ha.len, hb.len, ha.refs, hb.refs, c1, c2, f1, f2]
        refine ⟨F', ?_, ?_⟩
        · have := g1
          simp at this ⊢
          exact this
        · intro hne; exact g2 hne
      · simp +contextual [lf16, lc16, c16_0, c16_1, c16_2, c16_3, c16_4, c16_5, c16_6, c16_7, c16_9, ↓u0, ha.len, hb.len, ha.refs, hb.refs, c1, c2, f1, f2, hxy]
theorem same_ev {a b : AV} {l m : List Int} (ha : IsL 1 a l.length (ints l)) (hb : IsL 1 b m.length (ints m)) (hn : l.length < 4611686018427387904) :
    FC env 16 [a, b] none = some (.bool (decide (l = m)), fun _ => none) := by
  by_cases hlm : l.length = m.length
  · obtain ⟨F', g1, g2⟩ := same_loop ha hb hlm hn l m 0 rfl rfl (by omega)
    simp only [Int.natCast_zero, Int.cast_ofNat_Int] at g1
    by_cases h : l = m
    · simp only [h, if_true] at g1
      refine FC_pure (lf := lf16) rfl rfl rfl ?_
      simp only [lf16, lc16, c16_0, c16_1, c16_2, c16_3, c16_4, c16_5, c16_6, c16_7, c16_9]
      simp +contextual (maxSteps := 4000000) [ha.len, hb.len, ha.refs, hb.refs, hlm, h, g1]
    · simp only [h, if_false] at g1
      have g3 := g2 h
      refine FC_pure (lf := lf16) rfl rfl rfl ?_
      simp only [lf16, lc16, c16_0, c16_1, c16_2, c16_3, c16_4, c16_5, c16_6, c16_7, c16_9]
      simp +contextual (maxSteps := 4000000) [ha.len, hb.len, ha.refs, hb.refs, hlm, h, g1, g3]
  · have h : ¬ l = m := fun e => hlm (congrArg List.length e)
    have h' : ¬ (l.length : Int) = (m.length : Int) := by omega
    refine FC_pure (lf := lf16) rfl rfl rfl ?_
    simp only [lf16, lc16, c16_0, c16_1, c16_2, c16_3, c16_4, c16_5, c16_6, c16_7, c16_9]
    simp +contextual (maxSteps := 4000000) [ha.len, hb.len, h', h]
end Go.Proofs.Ytldcbmkfkbnmbaa
