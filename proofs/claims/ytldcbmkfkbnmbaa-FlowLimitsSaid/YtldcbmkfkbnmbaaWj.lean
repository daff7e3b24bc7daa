/- flow: FlowLimits. -/
import Derived.Test.YtldcbmkfkbnmbaaWi
namespace Go.Proofs.Ytldcbmkfkbnmbaa
open Go Go.Vv Go.Proofs
set_option linter.unusedSimpArgs false
set_option maxRecDepth 10000
set_option maxHeartbeats 4000000

theorem repeatL_len (z : List AV) : ∀ n, (repeatL z n).length = n * z.length
  | 0 => by simp [repeatL]
  | n + 1 => by rw [repeatL, List.length_append, repeatL_len z n, Nat.add_mul, Nat.one_mul, Nat.add_comm]
theorem repeatL_flat (z : List AV) (h : z.all AV.flat = true) : ∀ n, (repeatL z n).all AV.flat = true
  | 0 => rfl
  | n + 1 => by rw [repeatL, List.all_append, h, repeatL_flat z h n]; rfl
def zCells (C : Nat) : List AV := repeatL [.int .i64 0, .int .i64 0] C
def opA (C : Nat) : List AV := [.int .i64 3, .int .i64 0, .int .i64 0, .int .i64 0, .int .i64 0, .arr 33 0 0 C]
def lmC (C : Nat) : Nat → List AV
  | 0 => []
  | i + 1 => lmC C i ++ opA C
def opL (C : Nat) : Oper := ⟨3, 0, 0, 0, 0, .lst C (zCells C)⟩
theorem lmC_len (C : Nat) : ∀ i, (lmC C i).length = i * 6
  | 0 => rfl
  | i + 1 => by rw [lmC, List.length_append, lmC_len C i, Nat.add_mul]; rfl
theorem lmC_refs (C : Nat) : ∀ i, refsInL [3, 33, 43] (lmC C i ++ []) = true
  | 0 => rfl
  | i + 1 => by
    have app : ∀ a b, refsInL [3, 33, 43] a = true → refsInL [3, 33, 43] b = true → refsInL [3, 33, 43] (a ++ b) = true := by
      intro a b ha hb
      induction a with
      | nil => exact hb
      | cons x r ih =>
        rw [refsInL, Bool.and_eq_true] at ha
        rw [List.cons_append, refsInL, ha.1, ih ha.2]
        rfl
    have ih := lmC_refs C i
    rw [List.append_nil] at ih ⊢
    exact app _ _ ih rfl
def lmV : Nat → AV
  | 0 => .nils
  | i + 1 => .arr 43 (i + 1) 0 (i + 1)
def lmH (C : Nat) : Nat → List (Nat × AObj)
  | 0 => []
  | i + 1 => [(43, .arr (i + 1) 6 38 (lmC C (i + 1)) false)]
section
variable (s : Nat → Int) (p : Bool)
def lmHeap (C i : Nat) : Heap := hl ((3, .box 0 (setC s p)) :: (33, .arr 0 2 46 (zCells C) false) :: lmH C i)
def lmSt (N C i : Nat) : St := ⟨fr [(1, .int .i64 N), (2, .int .i64 C), (3, .ptr 3 0 0), (7, .arr 33 0 0 C), (8, lmV i), (9, .int .i64 i)], lmHeap s p C i⟩
theorem lm_loop (N C : Nat) (hN : N ≤ 300) (hC : C ≤ 8192) : ∀ k i, i + k = N →
    ∃ F', LK env true 0 [1, 2, 3, 7, 8, 9] [3, 33, 43] c5_L0 (some (lmSt s p N C i)) = some (.exit 0, ⟨F', lmHeap s p C N⟩) ∧
      F' 1 = .int .i64 N ∧ F' 2 = .int .i64 C ∧ F' 3 = .ptr 3 0 0 ∧ F' 8 = lmV N
  | 0, i, hi => by
    obtain rfl : i = N := by omega
    have hz : (zCells C).all AV.flat = true := repeatL_flat _ rfl C
    have u0 : ∀ σ, EC env true 0 c5_L0 σ = EC env true 0 (.seq (.seq (.reg false c5_6) (.cond (.t 36) .skip (.exit 0))) (.seq (.blk 1 (.reg false c5_7)) (.reg false c5_8))) σ := fun _ => rfl
    rw [LK_step, lmSt, lmHeap]
    cases i with
    | zero => simp +contextual [lf5, lc5, c5_0, c5_1, c5_2, c5_3, c5_4, c5_5, c5_6, c5_7, c5_8, c5_10, c5_11, c5_12, c5_13, ↓u0, lmV, lmH, setC_refs, hz]
    | succ i => simp +contextual [lf5, lc5, c5_0, c5_1, c5_2, c5_3, c5_4, c5_5, c5_6, c5_7, c5_8, c5_10, c5_11, c5_12, c5_13, ↓u0, lmV, lmH, setC_refs, hz]
  | k + 1, i, hi => by
    obtain ⟨F', g1, g2⟩ := lm_loop N C hN hC k (i + 1) (by omega)
    have hz : (zCells C).all AV.flat = true := repeatL_flat _ rfl C
    have c1 : (i : Int) < (N : Int) := by omega
    have hr := lmC_refs C (i + 1)
    rw [List.append_nil] at hr
    have u0 : ∀ σ, EC env true 0 c5_L0 σ = EC env true 0 (.seq (.seq (.reg false c5_6) (.cond (.t 36) .skip (.exit 0))) (.seq (.blk 1 (.reg false c5_7)) (.reg false c5_8))) σ := fun _ => rfl
    rw [LK_step, lmSt, lmHeap]
    cases i with
    | zero =>
      have c2 : IntKind.wrap .i64 (1 : Int) = 1 := by decide
      have c1' : 0 < N := by omega
      simp +contextual [lf5, lc5, c5_0, c5_1, c5_2, c5_3, c5_4, c5_5, c5_6, c5_7, c5_8, c5_10, c5_11, c5_12, c5_13, ↓u0, lmV, lmH, setC_refs, hz, c1', c2, room]
      refine ⟨F', ?_, g2⟩
      simp [lmSt, lmHeap, lmV, lmH, lmC, opA] at g1
      exact g1
    | succ i =>
      have c2 : IntKind.wrap .i64 (((i : Int) + 1) + 1) = ((i : Int) + 1) + 1 := by rw [w64] <;> omega
      have c3 : (((i : Int) + 1) + 1) * 64 ≤ 140737488355328 := by omega
      have c4 : ((i : Int) + 1) + 1 ≤ 9223372036854775807 := by omega
      have ll := lmC_len C (i + 1)
      have c1' : (i : Int) + 1 < (N : Int) := by omega
      have hr' : refsInL [3, 33, 43] (lmC C (i + 1) ++ [.int .i64 3, .int .i64 0, .int .i64 0, .int .i64 0, .int .i64 0, .arr 33 0 0 C]) = true := hr
      simp +contextual [lf5, lc5, c5_0, c5_1, c5_2, c5_3, c5_4, c5_5, c5_6, c5_7, c5_8, c5_10, c5_11, c5_12, c5_13, ↓u0, lmV, lmH, setC_refs, hz, c1', c2, c3, c4, ll, room, hr']
      refine ⟨F', ?_, g2⟩
      simp [lmSt, lmHeap, lmV, lmH] at g1
      exact g1
theorem mapM_app {α β : Type} (f : α → Option β) : ∀ (a b : List α) (x y : List β), a.mapM f = some x → b.mapM f = some y → (a ++ b).mapM f = some (x ++ y)
  | [], b, x, y, ha, hb => by cases ha; exact hb
  | v :: r, b, x, y, ha, hb => by
    rw [mapM_opt_cons] at ha
    rw [List.cons_append, mapM_opt_cons]
    split at ha
    · rename_i u w h1 h2
      cases ha
      rw [h1, mapM_app f r b w y h2 hb]
      rfl
    · cases ha
theorem lm_snap (C N : Nat) : ∀ i, ∃ ps, (lmC C i).mapM (snap (lmHeap s p C N) 7) = some ps ∧ ps.map (·.1) = cellsOf (List.replicate i (opL C))
  | 0 => ⟨[], rfl, rfl⟩
  | i + 1 => by
    obtain ⟨ps, h1, h2⟩ := lm_snap C N i
    have sa := snap_arr (h := lmHeap s p C N) (g := 33) (off := 0) (len := C) 6 rfl (by rw [zCells, repeatL_len]; simp) (repeatL_flat _ rfl C)
    have ct : cut (zCells C) (0 * 2) (C * 2) = zCells C := by
      rw [Nat.zero_mul]
      exact cut_all _ _ (by rw [zCells, repeatL_len]; rfl)
    rw [ct] at sa
    have h3 : (opA C).mapM (snap (lmHeap s p C N) 7) = some [(.int .i64 3, []), (.int .i64 0, []), (.int .i64 0, []), (.int .i64 0, []), (.int .i64 0, []), (.lst C (zCells C), [33])] := by
      simp only [opA, mapM_opt_cons, mapM_opt_nil, sa, snap7_int]
    refine ⟨_, mapM_app _ _ _ _ _ h1 h3, ?_⟩
    rw [List.map_append, h2, List.replicate_succ', cells_app, cells_one]
    rfl
theorem lm_amts (C : Nat) (hv : val s = true) (hC : C ≤ 8192) : ∀ (k : Nat) (c : Int), 0 ≤ c → c ≤ 1048576 → k ≤ 300 →
    if 1048576 < c + (k : Int) * C then amts s (List.replicate k (opL C)) c false = .inl 2
    else ∃ l, amts s (List.replicate k (opL C)) c false = .inr l ∧ (0 < k → ∃ m, l = m ++ [eV s (c + (k : Int) * C) false])
  | 0, c, h0, h1, _ => by
    rw [if_neg (by simp; omega)]
    exact ⟨[], rfl, by omega⟩
  | k + 1, c, h0, h1, hk => by
    have hw : IntKind.wrap .i64 (c + (C : Int)) = c + C := w64 _ (by omega) (by omega)
    have e : c + ((k + 1 : Nat) : Int) * C = (c + C) + (k : Int) * C := by
      rw [Int.natCast_add, Int.add_mul]
      simp only [Int.natCast_one, Int.one_mul]
      omega
    have hk0 : 0 ≤ (k : Int) * C := Int.mul_nonneg (by omega) (by omega)
    rw [e, List.replicate_succ, amts]
    have hst : stp (opL C).k (nC (opL C).cv) c false = lim (c + C) false := by
      simp [stp, opL, nC, hw]
    rw [hst]
    by_cases hc : 1048576 < c + (C : Int)
    · rw [if_pos (by omega)]
      simp [lim, hc]
    · have ih := lm_amts C hv hC k (c + C) (by omega) (by omega) (by omega)
      simp only [lim, if_neg hc]
      by_cases hd : 1048576 < c + C + (k : Int) * C
      · rw [if_pos hd] at ih ⊢
        rw [ih]
      · rw [if_neg hd] at ih ⊢
        obtain ⟨l, hl, hm⟩ := ih
        refine ⟨_, by rw [hl], fun _ => ?_⟩
        by_cases hz : k = 0
        · subst hz
          cases hl
          exact ⟨[], by simp⟩
        · obtain ⟨m, hm⟩ := hm (by omega)
          exact ⟨_ :: m, by rw [hm]; rfl⟩
end
end Go.Proofs.Ytldcbmkfkbnmbaa
