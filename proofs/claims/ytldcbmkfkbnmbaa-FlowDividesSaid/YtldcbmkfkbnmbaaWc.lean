/- flow: what Amounts answers. -/
import Derived.Test.YtldcbmkfkbnmbaaWb
namespace Go.Proofs.Ytldcbmkfkbnmbaa
open Go Go.Vv Go.Proofs
set_option linter.unusedSimpArgs false
set_option maxRecDepth 10000
set_option maxHeartbeats 4000000

/-- An operation as cells: its kind, four numbers, its cells. -/
structure Oper where
  k : Int
  a : Int
  b : Int
  c : Int
  d : Int
  cv : AV
def opC (o : Oper) : List AV := [.int .i64 o.k, .int .i64 o.a, .int .i64 o.b, .int .i64 o.c, .int .i64 o.d, o.cv]
def cellsOf (l : List Oper) : List AV := l.flatMap opC
def nC : AV → Nat
  | .lst n _ => n
  | _ => 0
def okOp (o : Oper) : Prop := ∃ L, IsL 2 o.cv (nC o.cv) L
theorem cells_drop (l : List Oper) (i : Nat) : (cellsOf l).drop (i * 6) = cellsOf (l.drop i) := by
  induction l generalizing i with
  | nil => simp [cellsOf]
  | cons o r ih =>
    cases i with
    | zero => simp
    | succ i =>
      have e : (i + 1) * 6 = 6 + i * 6 := by omega
      rw [e, ← List.drop_drop]
      exact ih i
theorem cells_cons (o : Oper) (l : List Oper) : cellsOf (o :: l) = .int .i64 o.k :: .int .i64 o.a :: .int .i64 o.b :: .int .i64 o.c :: .int .i64 o.d :: o.cv :: cellsOf l := rfl
theorem setC_refs (s : Nat → Int) (p : Bool) (ns : List Nat) : refsInL ns (setC s p) = true := rfl
theorem ints_append (l m : List Int) : ints (l ++ m) = ints l ++ ints m := by simp [ints]
theorem ints_one (x : Int) : ints [x] = [.int .i64 x] := rfl

def lim (c : Int) (r : Bool) : Int ⊕ (Int × Bool) := if 1048576 < c then .inl 2 else .inr (c, r)
def stp (k n c : Int) (r : Bool) : Int ⊕ (Int × Bool) :=
  if k = 3 ∨ k = 4 then (if r = true then .inl 11 else if k = 4 then lim c true else lim (IntKind.wrap .i64 (c + n)) false)
  else if k = 5 then (if r = true then lim c false else .inl 11)
  else lim c r
section
variable (s : Nat → Int)
def eV (c : Int) (r : Bool) : Int := if r = true then IntKind.wrap .i64 (IntKind.wrap .i64 ((vol s c).tdiv (s 12)) - s 15) else IntKind.wrap .i64 ((vol s c).tdiv (s 12))
def amts : List Oper → Int → Bool → Int ⊕ List Int
  | [], _, _ => .inr []
  | o :: l, c, r =>
    match stp o.k (nC o.cv) c r with
    | .inl e => .inl e
    | .inr (c', r') =>
      match amts l c' r' with
      | .inl e => .inl e
      | .inr m => .inr (eV s c' r' :: m)
theorem val_bounds (h : val s = true) : 32 ≤ s 0 ∧ s 0 ≤ 1024 ∧ 4 ≤ s 1 ∧ s 1 ≤ 1024 ∧ 1 ≤ s 12 ∧ s 12 ≤ 1073741824 ∧ 0 ≤ s 15 ∧ s 15 ≤ 65536 := by
  simp [val, ev2, wi] at h
  omega
theorem vol_eq (h : val s = true) (c : Int) (h0 : 0 ≤ c) (h1 : c ≤ 1048576) : vol s c = c * s 0 * s 0 * s 1 ∧ 0 ≤ c * s 0 * s 0 * s 1 ∧ c * s 0 * s 0 * s 1 ≤ 1125899906842624 := by
  obtain ⟨a1, a2, b1, b2, -⟩ := val_bounds s h
  have p1 : 0 ≤ c * s 0 := Int.mul_nonneg h0 (by omega)
  have q1 : c * s 0 ≤ 1048576 * 1024 := Int.mul_le_mul h1 a2 (by omega) (by omega)
  have p2 : 0 ≤ c * s 0 * s 0 := Int.mul_nonneg p1 (by omega)
  have q2 : c * s 0 * s 0 ≤ 1048576 * 1024 * 1024 := Int.mul_le_mul q1 a2 (by omega) (by omega)
  have p3 : 0 ≤ c * s 0 * s 0 * s 1 := Int.mul_nonneg p2 (by omega)
  have q3 : c * s 0 * s 0 * s 1 ≤ 1048576 * 1024 * 1024 * 1024 := Int.mul_le_mul q2 b2 (by omega) (by omega)
  refine ⟨?_, p3, by omega⟩
  unfold vol
  rw [if_pos ⟨by simp [wi]; omega, h⟩, w64 (c * s 0) (by omega) (by omega), w64 (c * s 0 * s 0) (by omega) (by omega), w64 (c * s 0 * s 0 * s 1) (by omega) (by omega)]
theorem vol_nonneg (h : val s = true) (c : Int) : 0 ≤ vol s c := by
  by_cases hc : wi c 0 1048576 = true
  · have hc' := hc
    simp [wi] at hc'
    obtain ⟨e, e0, -⟩ := vol_eq s h c hc'.1 hc'.2
    rw [e]; exact e0
  · unfold vol
    rw [if_neg (fun hh => hc hh.1)]
    exact Int.le_refl 0

variable (p : Bool)
/-- Where the loop of Amounts stands. -/
def amSt (L : AV) (n i : Nat) (c : Int) (r : Bool) (out : List Int) : St :=
  ⟨fr [(3, .ptr 3 0 0), (6, .arr 18 i 0 i), (7, .int .i64 c), (8, .bool r), (19, L), (20, .int .i64 n), (21, .int .i64 i)],
    hl [(3, .box 0 (setC s p)), (18, .arr i 1 3 (ints out) false)]⟩
def amRes (ops : List Oper) (out : List Int) (x : Option (LE × St)) : Int ⊕ List Int → Prop
  | .inl e => ∃ F' h', x = some (.ret, ⟨F', h'⟩) ∧ F' 4 = .nils ∧ F' 5 = .int .i64 e
  | .inr l => ∃ F' h', x = some (.exit 0, ⟨F', h'⟩) ∧ F' 6 = .arr 18 ops.length 0 ops.length ∧ h' 18 = some (.arr ops.length 1 3 (ints (out ++ l)) false)
theorem am_loop {L : AV} {ops : List Oper} (hL : IsL 6 L ops.length (cellsOf ops)) (hok : ∀ o ∈ ops, okOp o) (hn : ops.length ≤ 1000) (hv : val s = true) :
    ∀ (rest : List Oper) (i : Nat) (c : Int) (r : Bool) (out : List Int), ops.drop i = rest → i + rest.length = ops.length → out.length = i →
    amRes ops out (LK env true 0 [3, 6, 7, 8, 19, 20, 21] [3, 18, 62] c14_L0 (some (amSt s p L ops.length i c r out))) (amts s rest c r)
  | [], i, c, r, out, hr, hi, ho => by
    have hi' : i = ops.length := by simpa using hi
    have c1 : ¬ (i : Int) < (ops.length : Int) := by omega
    have u0 : ∀ σ, EC env true 0 c14_L0 σ = EC env true 0 (.seq (.reg false c14_6) (.seq (.cond (.t 22) .skip (.exit 0)) (.seq (.blk 1 (.seq (.reg false c14_7) (.seq (.seq (.reg false c14_8) (.blk 2 (.seq (.seq (.reg false c14_9) (.cond (.t 27) .skip (.reg false c14_10))) (.cond (.t 27) (.seq (.seq (.reg false c14_11) (.cond (.t 30) (.seq (.reg false c14_12) .ret) .skip)) (.seq (.reg false c14_13) (.cond (.t 33) (.reg false c14_14) (.reg false c14_15)))) (.seq (.reg false c14_16) (.cond (.t 39) (.seq (.seq (.reg false c14_17) (.cond (.t 42) (.seq (.reg false c14_18) .ret) .skip)) (.reg false c14_19)) .skip)))))) (.seq (.seq (.reg false c14_20) (.cond (.t 44) (.seq (.reg false c14_21) .ret) .skip)) (.seq (.reg true c14_22) (.seq (.seq (.reg false c14_23) (.cond (.t 54) (.reg false c14_24) .skip)) (.reg false c14_25))))))) (.reg false c14_26)))) σ := fun _ => rfl
    rw [LK_step, amSt, amts, amRes]
    simp +contextual [lf14, lc14, c14_0, c14_1, c14_2, c14_3, c14_4, c14_5, c14_6, c14_7, c14_8, c14_9, c14_10, c14_11, c14_12, c14_13, c14_14, c14_15, c14_16, c14_17, c14_18, c14_19, c14_20, c14_21, c14_22, c14_23, c14_24, c14_25, c14_26, c14_28, ↓u0, hL.len, hL.refs, hi']
    exact ⟨_, _, ⟨rfl, rfl⟩, by simp, by simp⟩
  | o :: rest, i, c, r, out, hr, hi, ho => by
    have hi' : i < ops.length := by simp at hi; omega
    have c1 : (i : Int) < (ops.length : Int) := by omega
    have c2 : IntKind.wrap .i64 ((i : Int) + 1) = (i : Int) + 1 := by rw [w64] <;> omega
    have c3 : ((i : Int) + 1) * 8 ≤ 140737488355328 := by omega
    have c4 : (i : Int) + 1 ≤ 9223372036854775807 := by omega
    have hr' : ops.drop (i + 1) = rest := by rw [← List.drop_drop, hr]; rfl
    have f1 := fun H => hL.iaddr H .i64 i hi'
    simp only [cells_drop, hr, cells_cons] at f1
    obtain ⟨M, hM⟩ := hok o (List.mem_of_mem_drop (i := i) (by rw [hr]; exact List.mem_cons_self ..))
    obtain ⟨-, -, -, -, d1, d2, d3, d4⟩ := val_bounds s hv
    have fl := fun c => floor_ev (vol s c) (s 12) (vol_nonneg s hv c) (by omega)
    have ih := fun c r e => am_loop hL hok hn hv rest (i + 1) c r (out ++ [e]) hr' (by simp at hi; omega) (by simp [ho])
    have ol : (ints out).length = i := by rw [ints_len, ho]
    have u0 : ∀ σ, EC env true 0 c14_L0 σ = EC env true 0 (.seq (.reg false c14_6) (.seq (.cond (.t 22) .skip (.exit 0)) (.seq (.blk 1 (.seq (.reg false c14_7) (.seq (.seq (.reg false c14_8) (.blk 2 (.seq (.seq (.reg false c14_9) (.cond (.t 27) .skip (.reg false c14_10))) (.cond (.t 27) (.seq (.seq (.reg false c14_11) (.cond (.t 30) (.seq (.reg false c14_12) .ret) .skip)) (.seq (.reg false c14_13) (.cond (.t 33) (.reg false c14_14) (.reg false c14_15)))) (.seq (.reg false c14_16) (.cond (.t 39) (.seq (.seq (.reg false c14_17) (.cond (.t 42) (.seq (.reg false c14_18) .ret) .skip)) (.reg false c14_19)) .skip)))))) (.seq (.seq (.reg false c14_20) (.cond (.t 44) (.seq (.reg false c14_21) .ret) .skip)) (.seq (.reg true c14_22) (.seq (.seq (.reg false c14_23) (.cond (.t 54) (.reg false c14_24) .skip)) (.reg false c14_25))))))) (.reg false c14_26)))) σ := fun _ => rfl
    rw [LK_step, amSt, amts]
    have lm : ∀ c' r', (∀ e, amRes ops out (LK env true 0 [3, 6, 7, 8, 19, 20, 21] [3, 18, 62] c14_L0 (some (amSt s p L ops.length (i + 1) c' r' (out ++ [e])))) (match amts s rest c' r' with | .inl e => .inl e | .inr m => .inr (e :: m))) := by
      intro c' r' e
      have := ih c' r' e
      cases ha : amts s rest c' r' with
      | inl e' => rw [ha] at this; exact this
      | inr m => rw [ha] at this; simpa [amRes] using this
    simp only [amSt, ints_append, ints_one, Int.natCast_add, Int.cast_ofNat_Int, Int.natCast_one] at lm
    rcases (by omega : o.k = 3 ∨ o.k = 4 ∨ o.k = 5 ∨ (o.k ≠ 3 ∧ o.k ≠ 4 ∧ o.k ≠ 5)) with hk | hk | hk | ⟨hk3, hk4, hk5⟩
    · cases r with
      | true =>
        simp +contextual [lf14, lc14, c14_0, c14_1, c14_2, c14_3, c14_4, c14_5, c14_6, c14_7, c14_8, c14_9, c14_10, c14_11, c14_12, c14_13, c14_14, c14_15, c14_16, c14_17, c14_18, c14_19, c14_20, c14_21, c14_22, c14_23, c14_24, c14_25, c14_26, c14_28, ↓u0, hL.len, hL.refs, f1, c1, c2, c3, c4, ol, hM.len, hM.flat, hk, stp, lim, volume_ev, fl, room, setC_refs, ints_flat, amRes]
      | false =>
        by_cases hm : 1048576 < IntKind.wrap .i64 (c + (nC o.cv : Int))
        · simp +contextual [lf14, lc14, c14_0, c14_1, c14_2, c14_3, c14_4, c14_5, c14_6, c14_7, c14_8, c14_9, c14_10, c14_11, c14_12, c14_13, c14_14, c14_15, c14_16, c14_17, c14_18, c14_19, c14_20, c14_21, c14_22, c14_23, c14_24, c14_25, c14_26, c14_28, ↓u0, hL.len, hL.refs, f1, c1, c2, c3, c4, ol, hM.len, hM.flat, hk, stp, lim, volume_ev, fl, room, setC_refs, ints_flat, hm, amRes]
        · simp +contextual [lf14, lc14, c14_0, c14_1, c14_2, c14_3, c14_4, c14_5, c14_6, c14_7, c14_8, c14_9, c14_10, c14_11, c14_12, c14_13, c14_14, c14_15, c14_16, c14_17, c14_18, c14_19, c14_20, c14_21, c14_22, c14_23, c14_24, c14_25, c14_26, c14_28, ↓u0, hL.len, hL.refs, f1, c1, c2, c3, c4, ol, hM.len, hM.flat, hk, stp, lim, volume_ev, fl, room, setC_refs, ints_flat, hm]
          have := lm (IntKind.wrap .i64 (c + (nC o.cv : Int))) false (eV s (IntKind.wrap .i64 (c + (nC o.cv : Int))) false)
          simpa [eV] using this
    · cases r with
      | true =>
        simp +contextual [lf14, lc14, c14_0, c14_1, c14_2, c14_3, c14_4, c14_5, c14_6, c14_7, c14_8, c14_9, c14_10, c14_11, c14_12, c14_13, c14_14, c14_15, c14_16, c14_17, c14_18, c14_19, c14_20, c14_21, c14_22, c14_23, c14_24, c14_25, c14_26, c14_28, ↓u0, hL.len, hL.refs, f1, c1, c2, c3, c4, ol, hM.len, hM.flat, hk, stp, lim, volume_ev, fl, room, setC_refs, ints_flat, amRes]
      | false =>
        by_cases hm : 1048576 < c
        · simp +contextual [lf14, lc14, c14_0, c14_1, c14_2, c14_3, c14_4, c14_5, c14_6, c14_7, c14_8, c14_9, c14_10, c14_11, c14_12, c14_13, c14_14, c14_15, c14_16, c14_17, c14_18, c14_19, c14_20, c14_21, c14_22, c14_23, c14_24, c14_25, c14_26, c14_28, ↓u0, hL.len, hL.refs, f1, c1, c2, c3, c4, ol, hM.len, hM.flat, hk, stp, lim, volume_ev, fl, room, setC_refs, ints_flat, hm, amRes]
        · simp +contextual [lf14, lc14, c14_0, c14_1, c14_2, c14_3, c14_4, c14_5, c14_6, c14_7, c14_8, c14_9, c14_10, c14_11, c14_12, c14_13, c14_14, c14_15, c14_16, c14_17, c14_18, c14_19, c14_20, c14_21, c14_22, c14_23, c14_24, c14_25, c14_26, c14_28, ↓u0, hL.len, hL.refs, f1, c1, c2, c3, c4, ol, hM.len, hM.flat, hk, stp, lim, volume_ev, fl, room, setC_refs, ints_flat, hm]
          have := lm (c) true (eV s (c) true)
          simpa [eV] using this
    · cases r with
      | true =>
        by_cases hm : 1048576 < c
        · simp +contextual [lf14, lc14, c14_0, c14_1, c14_2, c14_3, c14_4, c14_5, c14_6, c14_7, c14_8, c14_9, c14_10, c14_11, c14_12, c14_13, c14_14, c14_15, c14_16, c14_17, c14_18, c14_19, c14_20, c14_21, c14_22, c14_23, c14_24, c14_25, c14_26, c14_28, ↓u0, hL.len, hL.refs, f1, c1, c2, c3, c4, ol, hM.len, hM.flat, hk, stp, lim, volume_ev, fl, room, setC_refs, ints_flat, hm, amRes]
        · simp +contextual [lf14, lc14, c14_0, c14_1, c14_2, c14_3, c14_4, c14_5, c14_6, c14_7, c14_8, c14_9, c14_10, c14_11, c14_12, c14_13, c14_14, c14_15, c14_16, c14_17, c14_18, c14_19, c14_20, c14_21, c14_22, c14_23, c14_24, c14_25, c14_26, c14_28, ↓u0, hL.len, hL.refs, f1, c1, c2, c3, c4, ol, hM.len, hM.flat, hk, stp, lim, volume_ev, fl, room, setC_refs, ints_flat, hm]
          have := lm (c) false (eV s (c) false)
          simpa [eV] using this
      | false =>
        simp +contextual [lf14, lc14, c14_0, c14_1, c14_2, c14_3, c14_4, c14_5, c14_6, c14_7, c14_8, c14_9, c14_10, c14_11, c14_12, c14_13, c14_14, c14_15, c14_16, c14_17, c14_18, c14_19, c14_20, c14_21, c14_22, c14_23, c14_24, c14_25, c14_26, c14_28, ↓u0, hL.len, hL.refs, f1, c1, c2, c3, c4, ol, hM.len, hM.flat, hk, stp, lim, volume_ev, fl, room, setC_refs, ints_flat, amRes]
    · cases r with
      | true =>
        by_cases hm : 1048576 < c
        · simp +contextual [lf14, lc14, c14_0, c14_1, c14_2, c14_3, c14_4, c14_5, c14_6, c14_7, c14_8, c14_9, c14_10, c14_11, c14_12, c14_13, c14_14, c14_15, c14_16, c14_17, c14_18, c14_19, c14_20, c14_21, c14_22, c14_23, c14_24, c14_25, c14_26, c14_28, ↓u0, hL.len, hL.refs, f1, c1, c2, c3, c4, ol, hM.len, hM.flat, hk3, hk4, hk5, stp, lim, volume_ev, fl, room, setC_refs, ints_flat, hm, amRes]
        · simp +contextual [lf14, lc14, c14_0, c14_1, c14_2, c14_3, c14_4, c14_5, c14_6, c14_7, c14_8, c14_9, c14_10, c14_11, c14_12, c14_13, c14_14, c14_15, c14_16, c14_17, c14_18, c14_19, c14_20, c14_21, c14_22, c14_23, c14_24, c14_25, c14_26, c14_28, ↓u0, hL.len, hL.refs, f1, c1, c2, c3, c4, ol, hM.len, hM.flat, hk3, hk4, hk5, stp, lim, volume_ev, fl, room, setC_refs, ints_flat, hm]
          have := lm (c) true (eV s (c) true)
          simpa [eV] using this
      | false =>
        by_cases hm : 1048576 < c
        · simp +contextual [lf14, lc14, c14_0, c14_1, c14_2, c14_3, c14_4, c14_5, c14_6, c14_7, c14_8, c14_9, c14_10, c14_11, c14_12, c14_13, c14_14, c14_15, c14_16, c14_17, c14_18, c14_19, c14_20, c14_21, c14_22, c14_23, c14_24, c14_25, c14_26, c14_28, ↓u0, hL.len, hL.refs, f1, c1, c2, c3, c4, ol, hM.len, hM.flat, hk3, hk4, hk5, stp, lim, volume_ev, fl, room, setC_refs, ints_flat, hm, amRes]
        · simp +contextual [lf14, lc14, c14_0, c14_1, c14_2, c14_3, c14_4, c14_5, c14_6, c14_7, c14_8, c14_9, c14_10, c14_11, c14_12, c14_13, c14_14, c14_15, c14_16, c14_17, c14_18, c14_19, c14_20, c14_21, c14_22, c14_23, c14_24, c14_25, c14_26, c14_28, ↓u0, hL.len, hL.refs, f1, c1, c2, c3, c4, ol, hM.len, hM.flat, hk3, hk4, hk5, stp, lim, volume_ev, fl, room, setC_refs, ints_flat, hm]
          have := lm (c) false (eV s (c) false)
          simpa [eV] using this

/-- Amounts' answer. -/
def amV : Int ⊕ List Int → AV
  | .inl e => .tup [.nils, .int .i64 e]
  | .inr l => .tup [.lst l.length (ints l), .int .i64 0]
theorem amts_len : ∀ (ops : List Oper) (c : Int) (r : Bool) (l : List Int), amts s ops c r = .inr l → l.length = ops.length
  | [], c, r, l, h => by cases h; rfl
  | o :: ops, c, r, l, h => by
    simp only [amts] at h
    split at h
    · cases h
    · rename_i c' r' _
      split at h
      · cases h
      · rename_i m hm
        cases h
        simp only [List.length_cons, amts_len ops c' r' m hm]
theorem amounts_ev {L : AV} {ops : List Oper} (hL : IsL 6 L ops.length (cellsOf ops)) (hok : ∀ o ∈ ops, okOp o) (hn : ops.length ≤ 1000) :
    FC env 14 [L, .agg (setC s p)] none = some (amV (if val s = true then amts s ops 0 false else .inl 1), fun _ => none) := by
  by_cases hv : val s = true
  · have g := am_loop s p hL hok hn hv ops 0 0 false [] rfl (by omega) rfl
    simp only [amSt, Int.natCast_zero, Int.cast_ofNat_Int] at g
    have c1 : (ops.length : Int) * 8 ≤ 140737488355328 := by omega
    have c2 : (ops.length : Int) ≤ 9223372036854775807 := by omega
    have e0 : ints [] = [] := rfl
    cases ha : amts s ops 0 false with
    | inl e =>
      rw [ha] at g
      obtain ⟨F', h', g1, g2, g3⟩ := g
      rw [e0] at g1
      refine FC_pure (lf := lf14) rfl rfl rfl ?_
      simp only [lf14, lc14, c14_0, c14_1, c14_2, c14_3, c14_4, c14_5, c14_6, c14_7, c14_8, c14_9, c14_10, c14_11, c14_12, c14_13, c14_14, c14_15, c14_16, c14_17, c14_18, c14_19, c14_20, c14_21, c14_22, c14_23, c14_24, c14_25, c14_26, c14_28]
      simp +contextual (maxSteps := 4000000) [valid_ev, hv, hL.len, hL.refs, c1, c2, room, setC_refs, g1, g2, g3, amV]
    | inr l =>
      rw [ha] at g
      obtain ⟨F', h', g1, g2, g3⟩ := g
      rw [e0] at g1
      have e1 := amts_len s ops 0 false l ha
      have e2 : (ints l).length = ops.length := by rw [ints_len, e1]
      refine FC_pure (lf := lf14) rfl rfl rfl ?_
      simp only [lf14, lc14, c14_0, c14_1, c14_2, c14_3, c14_4, c14_5, c14_6, c14_7, c14_8, c14_9, c14_10, c14_11, c14_12, c14_13, c14_14, c14_15, c14_16, c14_17, c14_18, c14_19, c14_20, c14_21, c14_22, c14_23, c14_24, c14_25, c14_26, c14_28]
      simp +contextual (maxSteps := 4000000) [valid_ev, hv, hL.len, hL.refs, c1, c2, room, setC_refs, g1, g2, g3, amV, e1, e2, ints_flat]
      have sa := snap_arr (off := 0) (len := ops.length) 6 g3 (by simp [e2]) (by simp only [List.nil_append]; exact ints_flat l)
      have ct : cut (ints ([] ++ l)) (0 * 1) (ops.length * 1) = ints l := by
        rw [Nat.zero_mul, List.nil_append]
        exact cut_all _ _ (by rw [e2, Nat.mul_one])
      rw [ct] at sa
      rw [snap_tupE]
      simp [sa, snap7_int, tupS]
  · refine FC_pure (lf := lf14) rfl rfl rfl ?_
    simp only [lf14, lc14, c14_0, c14_1, c14_2, c14_3, c14_4, c14_5, c14_6, c14_7, c14_8, c14_9, c14_10, c14_11, c14_12, c14_13, c14_14, c14_15, c14_16, c14_17, c14_18, c14_19, c14_20, c14_21, c14_22, c14_23, c14_24, c14_25, c14_26, c14_28]
    simp +contextual (maxSteps := 4000000) [valid_ev, hv, amV]
end
end Go.Proofs.Ytldcbmkfkbnmbaa
