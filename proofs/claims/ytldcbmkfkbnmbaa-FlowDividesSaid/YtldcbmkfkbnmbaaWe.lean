/- flow: what the reference's Amounts answers. -/
import Derived.Test.YtldcbmkfkbnmbaaWc
namespace Go.Proofs.Ytldcbmkfkbnmbaa
open Go Go.Vv Go.Proofs
set_option linter.unusedSimpArgs false
set_option maxRecDepth 10000
set_option maxHeartbeats 4000000

def outV : Nat → AV
  | 0 => .nils
  | i + 1 => .arr 73 (i + 1) 0 (i + 1)
def outH : Nat → List Int → List (Nat × AObj)
  | 0, _ => []
  | i + 1, out => [(73, .arr (i + 1) 1 3 (ints out) false)]
theorem ints_nil : ints [] = [] := rfl
section
variable (s : Nat → Int) (p : Bool)
def rmSt (L : AV) (i : Nat) (c : Int) (r : Bool) (out : List Int) : St :=
  ⟨fr [(0, L), (3, .ptr 3 0 0), (6, outV i), (7, .int .i64 c), (8, .bool r), (9, .int .i64 i)], hl ((3, .box 0 (setC s p)) :: outH i out)⟩
def amRes2 (ops : List Oper) (out : List Int) (x : Option (LE × St)) : Int ⊕ List Int → Prop
  | .inl e => ∃ F' h', x = some (.ret, ⟨F', h'⟩) ∧ F' 4 = .nils ∧ F' 5 = .int .i64 e
  | .inr l => ∃ F', x = some (.exit 0, ⟨F', hl ((3, .box 0 (setC s p)) :: outH ops.length (out ++ l))⟩) ∧ F' 6 = outV ops.length
theorem rm_loop {L : AV} {ops : List Oper} (hL : IsL 6 L ops.length (cellsOf ops)) (hok : ∀ o ∈ ops, okOp o) (hn : ops.length ≤ 1000) (hv : val s = true) :
    ∀ (rest : List Oper) (i : Nat) (c : Int) (r : Bool) (out : List Int), ops.drop i = rest → i + rest.length = ops.length → out.length = i →
    amRes2 s p ops out (LK env true 0 [0, 3, 6, 7, 8, 9] [3, 73] c15_L0 (some (rmSt s p L i c r out))) (amts s rest c r)
  | [], i, c, r, out, hr, hi, ho => by
    have hi' : i = ops.length := by simpa using hi
    have c1 : ¬ (i : Int) < (ops.length : Int) := by omega
    have u0 : ∀ σ, EC env true 0 c15_L0 σ = EC env true 0 (.seq (.seq (.reg false c15_7) (.cond (.t 18) .skip (.exit 0))) (.seq (.blk 1 (.seq (.reg false c15_8) (.seq (.seq (.reg false c15_9) (.cond (.t 42) (.seq (.reg false c15_10) .ret) .skip)) (.seq (.seq (.reg false c15_11) (.cond (.t 44) (.reg false c15_12) .skip)) (.seq (.seq (.reg false c15_13) (.cond (.t 54) (.seq (.reg false c15_14) .ret) .skip)) (.seq (.seq (.reg false c15_15) (.cond (.t 56) (.reg false c15_16) .skip)) (.seq (.seq (.reg false c15_17) (.cond (.t 58) (.reg false c15_18) .skip)) (.seq (.reg true c15_19) (.seq (.seq (.reg false c15_20) (.cond (.t 65) (.reg false c15_21) .skip)) (.reg false c15_22)))))))))) (.reg false c15_23))) σ := fun _ => rfl
    rw [LK_step, rmSt, amts, amRes2]
    simp +contextual [lf15, lc15, c15_0, c15_1, c15_2, c15_3, c15_4, c15_5, c15_6, c15_7, c15_8, c15_9, c15_10, c15_11, c15_12, c15_13, c15_14, c15_15, c15_16, c15_17, c15_18, c15_19, c15_20, c15_21, c15_22, c15_23, c15_25, ↓u0, hL.len, hL.refs, hi']
  | o :: rest, i, c, r, out, hr, hi, ho => by
    have hi' : i < ops.length := by simp at hi; omega
    have c1 : (i : Int) < (ops.length : Int) := by omega
    have hr' : ops.drop (i + 1) = rest := by rw [← List.drop_drop, hr]; rfl
    have f1 := fun H => hL.iaddr H .i64 i hi'
    simp only [cells_drop, hr, cells_cons] at f1
    obtain ⟨M, hM⟩ := hok o (List.mem_of_mem_drop (i := i) (by rw [hr]; exact List.mem_cons_self ..))
    obtain ⟨-, -, -, -, d1, d2, d3, d4⟩ := val_bounds s hv
    have hd : ¬ s 12 = 0 := by omega
    have ih := fun c r e => rm_loop hL hok hn hv rest (i + 1) c r (out ++ [e]) hr' (by simp at hi; omega) (by simp [ho])
    have ol : (ints out).length = i := by rw [ints_len, ho]
    have u0 : ∀ σ, EC env true 0 c15_L0 σ = EC env true 0 (.seq (.seq (.reg false c15_7) (.cond (.t 18) .skip (.exit 0))) (.seq (.blk 1 (.seq (.reg false c15_8) (.seq (.seq (.reg false c15_9) (.cond (.t 42) (.seq (.reg false c15_10) .ret) .skip)) (.seq (.seq (.reg false c15_11) (.cond (.t 44) (.reg false c15_12) .skip)) (.seq (.seq (.reg false c15_13) (.cond (.t 54) (.seq (.reg false c15_14) .ret) .skip)) (.seq (.seq (.reg false c15_15) (.cond (.t 56) (.reg false c15_16) .skip)) (.seq (.seq (.reg false c15_17) (.cond (.t 58) (.reg false c15_18) .skip)) (.seq (.reg true c15_19) (.seq (.seq (.reg false c15_20) (.cond (.t 65) (.reg false c15_21) .skip)) (.reg false c15_22)))))))))) (.reg false c15_23))) σ := fun _ => rfl
    rw [LK_step, amts]
    have lm : ∀ c' r', (∀ e, amRes2 s p ops out (LK env true 0 [0, 3, 6, 7, 8, 9] [3, 73] c15_L0 (some (rmSt s p L (i + 1) c' r' (out ++ [e])))) (match amts s rest c' r' with | .inl e => .inl e | .inr m => .inr (e :: m))) := by
      intro c' r' e
      have := ih c' r' e
      cases ha : amts s rest c' r' with
      | inl e' => rw [ha] at this; exact this
      | inr m => rw [ha] at this; simpa [amRes2] using this
    cases i with
    | zero =>
      obtain rfl : out = [] := List.length_eq_zero_iff.1 ho
      simp only [Int.natCast_zero, Int.cast_ofNat_Int] at f1 c1
      have c2 : IntKind.wrap .i64 (1 : Int) = 1 := by decide
      have c3 : True := trivial
      have c4 : True := trivial
      simp only [rmSt, outV, outH, ints_append, ints_one, Int.natCast_add, Int.cast_ofNat_Int, Int.natCast_one, Nat.zero_add] at lm
      rcases (by omega : o.k = 3 ∨ o.k = 4 ∨ o.k = 5 ∨ (o.k ≠ 3 ∧ o.k ≠ 4 ∧ o.k ≠ 5)) with hk | hk | hk | ⟨hk3, hk4, hk5⟩
      · cases r with
        | true =>
          simp +contextual [lf15, lc15, c15_0, c15_1, c15_2, c15_3, c15_4, c15_5, c15_6, c15_7, c15_8, c15_9, c15_10, c15_11, c15_12, c15_13, c15_14, c15_15, c15_16, c15_17, c15_18, c15_19, c15_20, c15_21, c15_22, c15_23, c15_25, ↓u0, hL.len, hL.refs, hi', f1, c1, c2, c3, c4, hM.len, hM.flat, hk, stp, lim, rvolume_ev, hd, room, setC_refs, ints_flat, rmSt, outV, outH, ints_append, ints_one, amRes2]
        | false =>
          by_cases hm : 1048576 < IntKind.wrap .i64 (c + (nC o.cv : Int))
          · simp +contextual [lf15, lc15, c15_0, c15_1, c15_2, c15_3, c15_4, c15_5, c15_6, c15_7, c15_8, c15_9, c15_10, c15_11, c15_12, c15_13, c15_14, c15_15, c15_16, c15_17, c15_18, c15_19, c15_20, c15_21, c15_22, c15_23, c15_25, ↓u0, hL.len, hL.refs, hi', f1, c1, c2, c3, c4, hM.len, hM.flat, hk, stp, lim, rvolume_ev, hd, room, setC_refs, ints_flat, rmSt, outV, outH, ints_append, ints_one, hm, amRes2]
          · simp +contextual [lf15, lc15, c15_0, c15_1, c15_2, c15_3, c15_4, c15_5, c15_6, c15_7, c15_8, c15_9, c15_10, c15_11, c15_12, c15_13, c15_14, c15_15, c15_16, c15_17, c15_18, c15_19, c15_20, c15_21, c15_22, c15_23, c15_25, ↓u0, hL.len, hL.refs, hi', f1, c1, c2, c3, c4, hM.len, hM.flat, hk, stp, lim, rvolume_ev, hd, room, setC_refs, ints_flat, rmSt, outV, outH, ints_append, ints_one, hm]
            have := lm (IntKind.wrap .i64 (c + (nC o.cv : Int))) false (eV s (IntKind.wrap .i64 (c + (nC o.cv : Int))) false)
            simp [eV, ints_nil] at this ⊢
            exact this
      · cases r with
        | true =>
          simp +contextual [lf15, lc15, c15_0, c15_1, c15_2, c15_3, c15_4, c15_5, c15_6, c15_7, c15_8, c15_9, c15_10, c15_11, c15_12, c15_13, c15_14, c15_15, c15_16, c15_17, c15_18, c15_19, c15_20, c15_21, c15_22, c15_23, c15_25, ↓u0, hL.len, hL.refs, hi', f1, c1, c2, c3, c4, hM.len, hM.flat, hk, stp, lim, rvolume_ev, hd, room, setC_refs, ints_flat, rmSt, outV, outH, ints_append, ints_one, amRes2]
        | false =>
          by_cases hm : 1048576 < c
          · simp +contextual [lf15, lc15, c15_0, c15_1, c15_2, c15_3, c15_4, c15_5, c15_6, c15_7, c15_8, c15_9, c15_10, c15_11, c15_12, c15_13, c15_14, c15_15, c15_16, c15_17, c15_18, c15_19, c15_20, c15_21, c15_22, c15_23, c15_25, ↓u0, hL.len, hL.refs, hi', f1, c1, c2, c3, c4, hM.len, hM.flat, hk, stp, lim, rvolume_ev, hd, room, setC_refs, ints_flat, rmSt, outV, outH, ints_append, ints_one, hm, amRes2]
          · simp +contextual [lf15, lc15, c15_0, c15_1, c15_2, c15_3, c15_4, c15_5, c15_6, c15_7, c15_8, c15_9, c15_10, c15_11, c15_12, c15_13, c15_14, c15_15, c15_16, c15_17, c15_18, c15_19, c15_20, c15_21, c15_22, c15_23, c15_25, ↓u0, hL.len, hL.refs, hi', f1, c1, c2, c3, c4, hM.len, hM.flat, hk, stp, lim, rvolume_ev, hd, room, setC_refs, ints_flat, rmSt, outV, outH, ints_append, ints_one, hm]
            have := lm (c) true (eV s (c) true)
            simp [eV, ints_nil] at this ⊢
            exact this
      · cases r with
        | true =>
          by_cases hm : 1048576 < c
          · simp +contextual [lf15, lc15, c15_0, c15_1, c15_2, c15_3, c15_4, c15_5, c15_6, c15_7, c15_8, c15_9, c15_10, c15_11, c15_12, c15_13, c15_14, c15_15, c15_16, c15_17, c15_18, c15_19, c15_20, c15_21, c15_22, c15_23, c15_25, ↓u0, hL.len, hL.refs, hi', f1, c1, c2, c3, c4, hM.len, hM.flat, hk, stp, lim, rvolume_ev, hd, room, setC_refs, ints_flat, rmSt, outV, outH, ints_append, ints_one, hm, amRes2]
          · simp +contextual [lf15, lc15, c15_0, c15_1, c15_2, c15_3, c15_4, c15_5, c15_6, c15_7, c15_8, c15_9, c15_10, c15_11, c15_12, c15_13, c15_14, c15_15, c15_16, c15_17, c15_18, c15_19, c15_20, c15_21, c15_22, c15_23, c15_25, ↓u0, hL.len, hL.refs, hi', f1, c1, c2, c3, c4, hM.len, hM.flat, hk, stp, lim, rvolume_ev, hd, room, setC_refs, ints_flat, rmSt, outV, outH, ints_append, ints_one, hm]
            have := lm (c) false (eV s (c) false)
            simp [eV, ints_nil] at this ⊢
            exact this
        | false =>
          simp +contextual [lf15, lc15, c15_0, c15_1, c15_2, c15_3, c15_4, c15_5, c15_6, c15_7, c15_8, c15_9, c15_10, c15_11, c15_12, c15_13, c15_14, c15_15, c15_16, c15_17, c15_18, c15_19, c15_20, c15_21, c15_22, c15_23, c15_25, ↓u0, hL.len, hL.refs, hi', f1, c1, c2, c3, c4, hM.len, hM.flat, hk, stp, lim, rvolume_ev, hd, room, setC_refs, ints_flat, rmSt, outV, outH, ints_append, ints_one, amRes2]
      · cases r with
        | true =>
          by_cases hm : 1048576 < c
          · simp +contextual [lf15, lc15, c15_0, c15_1, c15_2, c15_3, c15_4, c15_5, c15_6, c15_7, c15_8, c15_9, c15_10, c15_11, c15_12, c15_13, c15_14, c15_15, c15_16, c15_17, c15_18, c15_19, c15_20, c15_21, c15_22, c15_23, c15_25, ↓u0, hL.len, hL.refs, hi', f1, c1, c2, c3, c4, hM.len, hM.flat, hk3, hk4, hk5, stp, lim, rvolume_ev, hd, room, setC_refs, ints_flat, rmSt, outV, outH, ints_append, ints_one, hm, amRes2]
          · simp +contextual [lf15, lc15, c15_0, c15_1, c15_2, c15_3, c15_4, c15_5, c15_6, c15_7, c15_8, c15_9, c15_10, c15_11, c15_12, c15_13, c15_14, c15_15, c15_16, c15_17, c15_18, c15_19, c15_20, c15_21, c15_22, c15_23, c15_25, ↓u0, hL.len, hL.refs, hi', f1, c1, c2, c3, c4, hM.len, hM.flat, hk3, hk4, hk5, stp, lim, rvolume_ev, hd, room, setC_refs, ints_flat, rmSt, outV, outH, ints_append, ints_one, hm]
            have := lm (c) true (eV s (c) true)
            simp [eV, ints_nil] at this ⊢
            exact this
        | false =>
          by_cases hm : 1048576 < c
          · simp +contextual [lf15, lc15, c15_0, c15_1, c15_2, c15_3, c15_4, c15_5, c15_6, c15_7, c15_8, c15_9, c15_10, c15_11, c15_12, c15_13, c15_14, c15_15, c15_16, c15_17, c15_18, c15_19, c15_20, c15_21, c15_22, c15_23, c15_25, ↓u0, hL.len, hL.refs, hi', f1, c1, c2, c3, c4, hM.len, hM.flat, hk3, hk4, hk5, stp, lim, rvolume_ev, hd, room, setC_refs, ints_flat, rmSt, outV, outH, ints_append, ints_one, hm, amRes2]
          · simp +contextual [lf15, lc15, c15_0, c15_1, c15_2, c15_3, c15_4, c15_5, c15_6, c15_7, c15_8, c15_9, c15_10, c15_11, c15_12, c15_13, c15_14, c15_15, c15_16, c15_17, c15_18, c15_19, c15_20, c15_21, c15_22, c15_23, c15_25, ↓u0, hL.len, hL.refs, hi', f1, c1, c2, c3, c4, hM.len, hM.flat, hk3, hk4, hk5, stp, lim, rvolume_ev, hd, room, setC_refs, ints_flat, rmSt, outV, outH, ints_append, ints_one, hm]
            have := lm (c) false (eV s (c) false)
            simp [eV, ints_nil] at this ⊢
            exact this
    | succ i =>
      have c2 : IntKind.wrap .i64 (((i : Int) + 1) + 1) = ((i : Int) + 1) + 1 := by rw [w64] <;> omega
      have c3 : (((i : Int) + 1) + 1) * 8 ≤ 140737488355328 := by omega
      have c4 : ((i : Int) + 1) + 1 ≤ 9223372036854775807 := by omega
      simp only [Int.natCast_add, Int.cast_ofNat_Int, Int.natCast_one] at f1 c1
      simp only [rmSt, outV, outH, ints_append, ints_one, Int.natCast_add, Int.cast_ofNat_Int, Int.natCast_one] at lm
      rcases (by omega : o.k = 3 ∨ o.k = 4 ∨ o.k = 5 ∨ (o.k ≠ 3 ∧ o.k ≠ 4 ∧ o.k ≠ 5)) with hk | hk | hk | ⟨hk3, hk4, hk5⟩
      · cases r with
        | true =>
          simp +contextual [lf15, lc15, c15_0, c15_1, c15_2, c15_3, c15_4, c15_5, c15_6, c15_7, c15_8, c15_9, c15_10, c15_11, c15_12, c15_13, c15_14, c15_15, c15_16, c15_17, c15_18, c15_19, c15_20, c15_21, c15_22, c15_23, c15_25, ↓u0, hL.len, hL.refs, f1, c1, c2, c3, c4, ol, hM.len, hM.flat, hk, stp, lim, rvolume_ev, hd, room, setC_refs, ints_flat, rmSt, outV, outH, ints_append, ints_one, amRes2]
        | false =>
          by_cases hm : 1048576 < IntKind.wrap .i64 (c + (nC o.cv : Int))
          · simp +contextual [lf15, lc15, c15_0, c15_1, c15_2, c15_3, c15_4, c15_5, c15_6, c15_7, c15_8, c15_9, c15_10, c15_11, c15_12, c15_13, c15_14, c15_15, c15_16, c15_17, c15_18, c15_19, c15_20, c15_21, c15_22, c15_23, c15_25, ↓u0, hL.len, hL.refs, f1, c1, c2, c3, c4, ol, hM.len, hM.flat, hk, stp, lim, rvolume_ev, hd, room, setC_refs, ints_flat, rmSt, outV, outH, ints_append, ints_one, hm, amRes2]
          · simp +contextual [lf15, lc15, c15_0, c15_1, c15_2, c15_3, c15_4, c15_5, c15_6, c15_7, c15_8, c15_9, c15_10, c15_11, c15_12, c15_13, c15_14, c15_15, c15_16, c15_17, c15_18, c15_19, c15_20, c15_21, c15_22, c15_23, c15_25, ↓u0, hL.len, hL.refs, f1, c1, c2, c3, c4, ol, hM.len, hM.flat, hk, stp, lim, rvolume_ev, hd, room, setC_refs, ints_flat, rmSt, outV, outH, ints_append, ints_one, hm]
            have := lm (IntKind.wrap .i64 (c + (nC o.cv : Int))) false (eV s (IntKind.wrap .i64 (c + (nC o.cv : Int))) false)
            simp [eV, ints_nil] at this ⊢
            exact this
      · cases r with
        | true =>
          simp +contextual [lf15, lc15, c15_0, c15_1, c15_2, c15_3, c15_4, c15_5, c15_6, c15_7, c15_8, c15_9, c15_10, c15_11, c15_12, c15_13, c15_14, c15_15, c15_16, c15_17, c15_18, c15_19, c15_20, c15_21, c15_22, c15_23, c15_25, ↓u0, hL.len, hL.refs, f1, c1, c2, c3, c4, ol, hM.len, hM.flat, hk, stp, lim, rvolume_ev, hd, room, setC_refs, ints_flat, rmSt, outV, outH, ints_append, ints_one, amRes2]
        | false =>
          by_cases hm : 1048576 < c
          · simp +contextual [lf15, lc15, c15_0, c15_1, c15_2, c15_3, c15_4, c15_5, c15_6, c15_7, c15_8, c15_9, c15_10, c15_11, c15_12, c15_13, c15_14, c15_15, c15_16, c15_17, c15_18, c15_19, c15_20, c15_21, c15_22, c15_23, c15_25, ↓u0, hL.len, hL.refs, f1, c1, c2, c3, c4, ol, hM.len, hM.flat, hk, stp, lim, rvolume_ev, hd, room, setC_refs, ints_flat, rmSt, outV, outH, ints_append, ints_one, hm, amRes2]
          · simp +contextual [lf15, lc15, c15_0, c15_1, c15_2, c15_3, c15_4, c15_5, c15_6, c15_7, c15_8, c15_9, c15_10, c15_11, c15_12, c15_13, c15_14, c15_15, c15_16, c15_17, c15_18, c15_19, c15_20, c15_21, c15_22, c15_23, c15_25, ↓u0, hL.len, hL.refs, f1, c1, c2, c3, c4, ol, hM.len, hM.flat, hk, stp, lim, rvolume_ev, hd, room, setC_refs, ints_flat, rmSt, outV, outH, ints_append, ints_one, hm]
            have := lm (c) true (eV s (c) true)
            simp [eV, ints_nil] at this ⊢
            exact this
      · cases r with
        | true =>
          by_cases hm : 1048576 < c
          · simp +contextual [lf15, lc15, c15_0, c15_1, c15_2, c15_3, c15_4, c15_5, c15_6, c15_7, c15_8, c15_9, c15_10, c15_11, c15_12, c15_13, c15_14, c15_15, c15_16, c15_17, c15_18, c15_19, c15_20, c15_21, c15_22, c15_23, c15_25, ↓u0, hL.len, hL.refs, f1, c1, c2, c3, c4, ol, hM.len, hM.flat, hk, stp, lim, rvolume_ev, hd, room, setC_refs, ints_flat, rmSt, outV, outH, ints_append, ints_one, hm, amRes2]
          · simp +contextual [lf15, lc15, c15_0, c15_1, c15_2, c15_3, c15_4, c15_5, c15_6, c15_7, c15_8, c15_9, c15_10, c15_11, c15_12, c15_13, c15_14, c15_15, c15_16, c15_17, c15_18, c15_19, c15_20, c15_21, c15_22, c15_23, c15_25, ↓u0, hL.len, hL.refs, f1, c1, c2, c3, c4, ol, hM.len, hM.flat, hk, stp, lim, rvolume_ev, hd, room, setC_refs, ints_flat, rmSt, outV, outH, ints_append, ints_one, hm]
            have := lm (c) false (eV s (c) false)
            simp [eV, ints_nil] at this ⊢
            exact this
        | false =>
          simp +contextual [lf15, lc15, c15_0, c15_1, c15_2, c15_3, c15_4, c15_5, c15_6, c15_7, c15_8, c15_9, c15_10, c15_11, c15_12, c15_13, c15_14, c15_15, c15_16, c15_17, c15_18, c15_19, c15_20, c15_21, c15_22, c15_23, c15_25, ↓u0, hL.len, hL.refs, f1, c1, c2, c3, c4, ol, hM.len, hM.flat, hk, stp, lim, rvolume_ev, hd, room, setC_refs, ints_flat, rmSt, outV, outH, ints_append, ints_one, amRes2]
      · cases r with
        | true =>
          by_cases hm : 1048576 < c
          · simp +contextual [lf15, lc15, c15_0, c15_1, c15_2, c15_3, c15_4, c15_5, c15_6, c15_7, c15_8, c15_9, c15_10, c15_11, c15_12, c15_13, c15_14, c15_15, c15_16, c15_17, c15_18, c15_19, c15_20, c15_21, c15_22, c15_23, c15_25, ↓u0, hL.len, hL.refs, f1, c1, c2, c3, c4, ol, hM.len, hM.flat, hk3, hk4, hk5, stp, lim, rvolume_ev, hd, room, setC_refs, ints_flat, rmSt, outV, outH, ints_append, ints_one, hm, amRes2]
          · simp +contextual [lf15, lc15, c15_0, c15_1, c15_2, c15_3, c15_4, c15_5, c15_6, c15_7, c15_8, c15_9, c15_10, c15_11, c15_12, c15_13, c15_14, c15_15, c15_16, c15_17, c15_18, c15_19, c15_20, c15_21, c15_22, c15_23, c15_25, ↓u0, hL.len, hL.refs, f1, c1, c2, c3, c4, ol, hM.len, hM.flat, hk3, hk4, hk5, stp, lim, rvolume_ev, hd, room, setC_refs, ints_flat, rmSt, outV, outH, ints_append, ints_one, hm]
            have := lm (c) true (eV s (c) true)
            simp [eV, ints_nil] at this ⊢
            exact this
        | false =>
          by_cases hm : 1048576 < c
          · simp +contextual [lf15, lc15, c15_0, c15_1, c15_2, c15_3, c15_4, c15_5, c15_6, c15_7, c15_8, c15_9, c15_10, c15_11, c15_12, c15_13, c15_14, c15_15, c15_16, c15_17, c15_18, c15_19, c15_20, c15_21, c15_22, c15_23, c15_25, ↓u0, hL.len, hL.refs, f1, c1, c2, c3, c4, ol, hM.len, hM.flat, hk3, hk4, hk5, stp, lim, rvolume_ev, hd, room, setC_refs, ints_flat, rmSt, outV, outH, ints_append, ints_one, hm, amRes2]
          · simp +contextual [lf15, lc15, c15_0, c15_1, c15_2, c15_3, c15_4, c15_5, c15_6, c15_7, c15_8, c15_9, c15_10, c15_11, c15_12, c15_13, c15_14, c15_15, c15_16, c15_17, c15_18, c15_19, c15_20, c15_21, c15_22, c15_23, c15_25, ↓u0, hL.len, hL.refs, f1, c1, c2, c3, c4, ol, hM.len, hM.flat, hk3, hk4, hk5, stp, lim, rvolume_ev, hd, room, setC_refs, ints_flat, rmSt, outV, outH, ints_append, ints_one, hm]
            have := lm (c) false (eV s (c) false)
            simp [eV, ints_nil] at this ⊢
            exact this
/-- The reference's answer: the same numbers, nil where there are none. -/
def rmV (n : Nat) : Int ⊕ List Int → AV
  | .inl e => .tup [.nils, .int .i64 e]
  | .inr l => .tup [if n = 0 then .nils else .lst n (ints l), .int .i64 0]
theorem ramounts_ev {L : AV} {ops : List Oper} (hL : IsL 6 L ops.length (cellsOf ops)) (hok : ∀ o ∈ ops, okOp o) (hn : ops.length ≤ 1000) :
    FC env 15 [L, .agg (setC s p)] none = some (rmV ops.length (if val s = true then amts s ops 0 false else .inl 1), fun _ => none) := by
  by_cases hv : val s = true
  · have g := rm_loop s p hL hok hn hv ops 0 0 false [] rfl (by omega) rfl
    simp only [rmSt, outV, outH, Int.natCast_zero, Int.cast_ofNat_Int] at g
    cases ha : amts s ops 0 false with
    | inl e =>
      rw [ha] at g
      obtain ⟨F', h', g1, g2, g3⟩ := g
      refine FC_pure (lf := lf15) rfl rfl rfl ?_
      simp only [lf15, lc15, c15_0, c15_1, c15_2, c15_3, c15_4, c15_5, c15_6, c15_7, c15_8, c15_9, c15_10, c15_11, c15_12, c15_13, c15_14, c15_15, c15_16, c15_17, c15_18, c15_19, c15_20, c15_21, c15_22, c15_23, c15_25]
      simp +contextual (maxSteps := 4000000) [rvalid_ev, hv, hL.len, hL.refs, room, setC_refs, g1, g2, g3, rmV]
    | inr l =>
      rw [ha] at g
      obtain ⟨F', g1, g2⟩ := g
      have e1 := amts_len s ops 0 false l ha
      cases hz : ops.length with
      | zero =>
        rw [hz] at g1 g2
        simp only [outV, outH] at g1 g2
        refine FC_pure (lf := lf15) rfl rfl rfl ?_
        simp only [lf15, lc15, c15_0, c15_1, c15_2, c15_3, c15_4, c15_5, c15_6, c15_7, c15_8, c15_9, c15_10, c15_11, c15_12, c15_13, c15_14, c15_15, c15_16, c15_17, c15_18, c15_19, c15_20, c15_21, c15_22, c15_23, c15_25]
        simp +contextual (maxSteps := 4000000) [rvalid_ev, hv, hL.len, hL.refs, room, setC_refs, g1, g2, rmV]
      | succ k =>
        rw [hz] at g1 g2
        simp only [outV, outH, List.nil_append] at g1 g2
        have e2 : (ints l).length = k + 1 := by rw [ints_len, e1, hz]
        refine FC_pure (lf := lf15) rfl rfl rfl ?_
        simp only [lf15, lc15, c15_0, c15_1, c15_2, c15_3, c15_4, c15_5, c15_6, c15_7, c15_8, c15_9, c15_10, c15_11, c15_12, c15_13, c15_14, c15_15, c15_16, c15_17, c15_18, c15_19, c15_20, c15_21, c15_22, c15_23, c15_25]
        simp +contextual (maxSteps := 4000000) [rvalid_ev, hv, hL.len, hL.refs, room, setC_refs, g1, g2, rmV]
        have sa := fun (H : Heap) (e : H 73 = _) => snap_arr (h := H) (g := 73) (v := k + 1) (esz := 1) (t := 3) (cells := ints l) (fz := false) (off := 0) (len := k + 1) 6 e (by simp [e2]) (ints_flat l)
        have ct : cut (ints l) (0 * 1) ((k + 1) * 1) = ints l := by
          rw [Nat.zero_mul]
          exact cut_all _ _ (by rw [e2, Nat.mul_one])
        rw [ct] at sa
        rw [snap_tupE]
        have sb := sa (hl [(3, AObj.box 0 (setC s p)), (73, AObj.arr (k + 1) 1 3 (ints l) false)]) rfl
        simp [sb, snap7_int, tupS]
  · refine FC_pure (lf := lf15) rfl rfl rfl ?_
    simp only [lf15, lc15, c15_0, c15_1, c15_2, c15_3, c15_4, c15_5, c15_6, c15_7, c15_8, c15_9, c15_10, c15_11, c15_12, c15_13, c15_14, c15_15, c15_16, c15_17, c15_18, c15_19, c15_20, c15_21, c15_22, c15_23, c15_25]
    simp +contextual (maxSteps := 4000000) [rvalid_ev, hv, rmV]
end
end Go.Proofs.Ytldcbmkfkbnmbaa
