/- flow: what 'few' answers. -/
import Derived.Test.YtldcbmkfkbnmbaaWe
namespace Go.Proofs.Ytldcbmkfkbnmbaa
open Go Go.Vv Go.Proofs
set_option linter.unusedSimpArgs false
set_option maxRecDepth 10000
set_option maxHeartbeats 4000000

def cutC : AV → List AV
  | .lst _ l => l.take 400
  | _ => []
def fewO (o : Oper) : Oper := if 200 < nC o.cv then { o with cv := .lst 200 (cutC o.cv) } else o
def fewL (l : List Oper) : List Oper := (l.take 40).map fewO
theorem slice200 {cv : AV} {M : List AV} (H : Heap) (h : IsL 2 cv (nC cv) M) (h2 : 200 < nC cv) : sliceV H 2 cv none (some (.int .i64 200)) = some (.lst 200 (cutC cv)) := by
  rcases h with ⟨rfl, -, -⟩ | ⟨e, hl, -⟩
  · cases h2
  · rw [e]
    have : ¬ (nC cv : Int) < 200 := by omega
    simp only [sliceV, boundV, cutC]
    rw [if_pos ⟨by omega, by omega, by omega, hl⟩]
    rfl
theorem few_ok {o : Oper} (h : okOp o) : okOp (fewO o) := by
  obtain ⟨M, hM⟩ := h
  unfold fewO
  split
  · rename_i h2
    rcases hM with ⟨e, -, -⟩ | ⟨e, hl, hf⟩
    · rw [e] at h2; cases h2
    · refine ⟨cutC o.cv, .inr ⟨rfl, ?_, ?_⟩⟩
      · have hn : (cutC o.cv).length = min 400 M.length := by rw [e, cutC, List.length_take]
        rw [hn, hl]
        show min 400 (nC o.cv * 2) = 200 * 2
        omega
      · rw [e, cutC]
        rw [List.all_eq_true] at hf ⊢
        exact fun x hx => hf x (List.mem_of_mem_take hx)
  · exact ⟨M, hM⟩
theorem cells_one (o : Oper) : cellsOf [o] = opC o := by simp [cellsOf]
theorem cells_nil : cellsOf [] = [] := rfl
theorem cells_app (l m : List Oper) : cellsOf (l ++ m) = cellsOf l ++ cellsOf m := by simp [cellsOf]
theorem cells_len : ∀ l : List Oper, (cellsOf l).length = l.length * 6
  | [] => rfl
  | o :: l => by
    have := cells_len l
    rw [cells_cons]
    simp only [List.length_cons, this]
    omega
theorem cells_flat {l : List Oper} (h : ∀ o ∈ l, okOp o) : (cellsOf l).all AV.flat = true := by
  induction l with
  | nil => rfl
  | cons o r ih =>
    obtain ⟨M, hM⟩ := h o (by simp)
    rw [cells_cons]
    simp only [List.all_cons, flat_int, hM.flat, ih (fun o ho => h o (by simp [ho])), Bool.and_self]
def outV3 : Nat → AV
  | 0 => .nils
  | i + 1 => .arr 31 (i + 1) 0 (i + 1)
def outH3 : Nat → List Oper → List (Nat × AObj)
  | 0, _ => []
  | i + 1, out => [(31, .arr (i + 1) 6 38 (cellsOf out) false)]
def fwSt (L : AV) (i : Nat) (out : List Oper) : St := ⟨fr [(0, L), (3, outV3 i), (4, .int .i64 i)], hl (outH3 i out)⟩
theorem few_loop {L : AV} {ops : List Oper} (hL : IsL 6 L ops.length (cellsOf ops)) (hok : ∀ o ∈ ops, okOp o) :
    ∀ (rest : List Oper) (i : Nat) (out : List Oper), ops.drop i = rest → i + rest.length = ops.length → out.length = i → i ≤ 40 → (∀ o ∈ out, okOp o) →
    ∃ F', LK env true 0 [0, 3, 4] [31] c13_L0 (some (fwSt L i out)) =
      some (.exit 0, ⟨F', hl (outH3 (i + (rest.take (40 - i)).length) (out ++ (rest.take (40 - i)).map fewO))⟩) ∧ F' 3 = outV3 (i + (rest.take (40 - i)).length)
  | [], i, out, hr, hi, ho, h40, hoo => by
    have hi' : i = ops.length := by simpa using hi
    have hf : (cellsOf out).all AV.flat = true := cells_flat hoo
    have u0 : ∀ σ, EC env true 0 c13_L0 σ = EC env true 0 (.seq (.seq (.reg false c13_3) (.cond (.t 13) .skip (.exit 0))) (.seq (.blk 1 (.seq (.reg false c13_4) (.seq (.seq (.reg false c13_5) (.cond (.t 23) (.reg false c13_6) .skip)) (.reg false c13_7)))) (.reg false c13_8))) σ := fun _ => rfl
    rw [LK_step, fwSt]
    cases i with
    | zero => simp +contextual [lf13, lc13, c13_0, c13_1, c13_2, c13_3, c13_4, c13_5, c13_6, c13_7, c13_8, c13_10, ↓u0, hL.len, hL.refs, ← hi', outV3, outH3]
    | succ i => simp +contextual [lf13, lc13, c13_0, c13_1, c13_2, c13_3, c13_4, c13_5, c13_6, c13_7, c13_8, c13_10, ↓u0, hL.len, hL.refs, ← hi', outV3, outH3, hf]
  | o :: rest, i, out, hr, hi, ho, h40, hoo => by
    have hi' : i < ops.length := by simp at hi; omega
    have c1 : (i : Int) < (ops.length : Int) := by omega
    have hr' : ops.drop (i + 1) = rest := by rw [← List.drop_drop, hr]; rfl
    have f1 := fun H => hL.iaddr H .i64 i hi'
    simp only [cells_drop, hr, cells_cons] at f1
    have hoo' := hok o (List.mem_of_mem_drop (i := i) (by rw [hr]; exact List.mem_cons_self ..))
    have hfo := few_ok hoo'
    obtain ⟨M, hM⟩ := hoo'
    have hf : (cellsOf out).all AV.flat = true := cells_flat hoo
    have ol : (cellsOf out).length = i * 6 := by rw [cells_len, ho]
    have u0 : ∀ σ, EC env true 0 c13_L0 σ = EC env true 0 (.seq (.seq (.reg false c13_3) (.cond (.t 13) .skip (.exit 0))) (.seq (.blk 1 (.seq (.reg false c13_4) (.seq (.seq (.reg false c13_5) (.cond (.t 23) (.reg false c13_6) .skip)) (.reg false c13_7)))) (.reg false c13_8))) σ := fun _ => rfl
    by_cases h4 : i = 40
    · subst h4
      rw [LK_step, fwSt]
      simp +contextual [lf13, lc13, c13_0, c13_1, c13_2, c13_3, c13_4, c13_5, c13_6, c13_7, c13_8, c13_10, ↓u0, hL.len, hL.refs, c1, hi', outV3, outH3, hf]
    have e40 : 40 - i = (40 - (i + 1)) + 1 := by omega
    obtain ⟨F', g1, g2⟩ := few_loop hL hok rest (i + 1) (out ++ [fewO o]) hr' (by simp at hi; omega) (by simp [ho]) (by omega) (by
      intro q hq
      rcases List.mem_append.1 hq with h | h
      · exact hoo q h
      · rw [List.mem_singleton] at h; rw [h]; exact hfo)
    rw [LK_step, e40, List.take_succ_cons, List.length_cons, List.map_cons]
    rw [List.append_assoc, List.singleton_append, show i + 1 + (rest.take (40 - (i + 1))).length = i + ((rest.take (40 - (i + 1))).length + 1) by omega] at g1
    rw [show i + 1 + (rest.take (40 - (i + 1))).length = i + ((rest.take (40 - (i + 1))).length + 1) by omega] at g2
    generalize hh : hl (outH3 (i + ((rest.take (40 - (i + 1))).length + 1)) (out ++ fewO o :: (rest.take (40 - (i + 1))).map fewO)) = HH at g1 ⊢
    generalize hv : outV3 (i + ((rest.take (40 - (i + 1))).length + 1)) = VV at g2 ⊢
    unfold fwSt at g1 ⊢
    cases i with
    | zero =>
      obtain rfl : out = [] := List.length_eq_zero_iff.1 ho
      simp only [Int.natCast_zero, Int.cast_ofNat_Int] at f1 c1
      have c2 : IntKind.wrap .i64 (1 : Int) = 1 := by decide
      have c3 : True := trivial
      have c4 : True := trivial
      have c5 : True := trivial
      simp only [outV3, outH3, cells_app, cells_one, List.nil_append, Int.natCast_add, Int.cast_ofNat_Int, Int.natCast_one, Nat.zero_add] at g1
      by_cases h2 : 200 < nC o.cv
      · have h3 : (200 : Int) < (nC o.cv : Int) := by omega
        have fs := fun H => slice200 H hM h2
        simp +contextual [lf13, lc13, c13_0, c13_1, c13_2, c13_3, c13_4, c13_5, c13_6, c13_7, c13_8, c13_10, ↓u0, hL.len, hL.refs, hi', h40, f1, c1, c2, c3, c4, c5, hM.len, hM.flat, room, outV3, outH3, cells_one, cells_nil, h2, h3, fs]
        simp [fewO, h2, opC, cellsOf] at g1
        exact ⟨F', g1, g2⟩
      · have h3 : ¬ (200 : Int) < (nC o.cv : Int) := by omega
        simp +contextual [lf13, lc13, c13_0, c13_1, c13_2, c13_3, c13_4, c13_5, c13_6, c13_7, c13_8, c13_10, ↓u0, hL.len, hL.refs, hi', h40, f1, c1, c2, c3, c4, c5, hM.len, hM.flat, room, outV3, outH3, cells_one, cells_nil, h2, h3]
        simp [fewO, h2, opC, cellsOf] at g1
        exact ⟨F', g1, g2⟩
    | succ i =>
      have c2 : IntKind.wrap .i64 (((i : Int) + 1) + 1) = ((i : Int) + 1) + 1 := by rw [w64] <;> omega
      have c3 : (((i : Int) + 1) + 1) * 64 ≤ 140737488355328 := by omega
      have c4 : ((i : Int) + 1) + 1 ≤ 9223372036854775807 := by omega
      have c5 : (i : Int) + 1 < 40 := by omega
      simp only [Int.natCast_add, Int.cast_ofNat_Int, Int.natCast_one] at f1 c1
      simp only [outV3, outH3, cells_app, cells_one, Int.natCast_add, Int.cast_ofNat_Int, Int.natCast_one] at g1
      by_cases h2 : 200 < nC o.cv
      · have h3 : (200 : Int) < (nC o.cv : Int) := by omega
        have fs := fun H => slice200 H hM h2
        simp +contextual [lf13, lc13, c13_0, c13_1, c13_2, c13_3, c13_4, c13_5, c13_6, c13_7, c13_8, c13_10, ↓u0, hL.len, hL.refs, hi', h40, f1, c1, c2, c3, c4, c5, ol, hf, hM.len, hM.flat, room, outV3, outH3, cells_one, cells_nil, h2, h3, fs]
        simp [fewO, h2, opC, cellsOf] at g1
        exact ⟨F', g1, g2⟩
      · have h3 : ¬ (200 : Int) < (nC o.cv : Int) := by omega
        simp +contextual [lf13, lc13, c13_0, c13_1, c13_2, c13_3, c13_4, c13_5, c13_6, c13_7, c13_8, c13_10, ↓u0, hL.len, hL.refs, hi', h40, f1, c1, c2, c3, c4, c5, ol, hf, hM.len, hM.flat, room, outV3, outH3, cells_one, cells_nil, h2, h3]
        simp [fewO, h2, opC, cellsOf] at g1
        exact ⟨F', g1, g2⟩
end Go.Proofs.Ytldcbmkfkbnmbaa
