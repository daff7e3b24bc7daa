/- flow: FlowDivides. -/
import Derived.Test.YtldcbmkfkbnmbaaWl
namespace Go.Proofs.Ytldcbmkfkbnmbaa
open Go Go.Vv Go.Proofs
set_option linter.unusedSimpArgs false
set_option maxRecDepth 100000
set_option maxHeartbeats 4000000
theorem cells_take (l : List Oper) (i : Nat) : (cellsOf l).take (i * 6) = cellsOf (l.take i) := by
  induction l generalizing i with
  | nil => simp [cellsOf]
  | cons o r ih =>
    cases i with
    | zero => simp [cellsOf]
    | succ i =>
      have e : (i + 1) * 6 = i * 6 + 6 := by omega
      rw [e, List.take_succ_cons, cells_cons, cells_cons, ← ih i]
      rfl
theorem amts_ne0 (s : Nat → Int) {e : Int} : ∀ (l : List Oper) (c : Int) (r : Bool), amts s l c r = .inl e → e ≠ 0 := by
  intro l
  induction l with
  | nil => intro c r h; cases h
  | cons o l ih =>
    intro c r h
    simp only [amts] at h
    split at h
    · rename_i e' he'
      cases h
      unfold stp lim at he'
      intro h0
      subst h0
      repeat' split at he'
      all_goals cases he'
    · split at h
      · rename_i e' he'
        cases h
        exact ih _ _ he'
      · cases h
theorem ints_at {l : List Int} {la lb : List Int} {w : Int} (h : l = la ++ w :: lb) : (ints l).drop la.length = .int .i64 w :: ints lb := by
  rw [h, ints_append]
  exact List.drop_left' (ints_len la)
theorem ints_last (l : List Int) (h : l ≠ []) : (ints l).drop (l.length - 1) = [.int .i64 (l.getLast h)] := by
  have g := ints_at (l := l) (la := l.dropLast) (lb := []) (w := l.getLast h) (List.dropLast_concat_getLast h).symm
  rw [List.length_dropLast] at g
  exact g
theorem ints_take (l : List Int) (i : Nat) : (ints l).take i = ints (l.take i) := by simp only [ints, List.map_take]
theorem nC_of {esz n : Nat} {a : AV} {L : List AV} (h : IsL esz a n L) : nC a = n := by
  rcases h with ⟨rfl, rfl, -⟩ | ⟨rfl, -, -⟩ <;> rfl
theorem cv_of {esz n : Nat} {a : AV} {L : List AV} (h : IsL esz a n L) : a.cells = some [a] := by
  rcases h with ⟨rfl, -, -⟩ | ⟨rfl, -, -⟩ <;> rfl
/-- The version behind an append. -/
def bmp (v : Nat) (new : List AV) : Nat := if new = [] then v else v + 1
theorem app_own {h : Heap} {g0 g v n esz bytes m : Nat} {el : TypeId} {cells new : List AV} {y : AV} (hg : h g = some (.arr v esz el cells false)) (hl : n * esz = cells.length) (h1 : lenV h y = some (m : Int))
    (h2 : elemsV h esz y = some new) (h0 : new.length = m * esz) (he : 0 < esz) (hr : (n + m) * bytes ≤ 140737488355328) (hr2 : n + m ≤ 9223372036854775807) :
    appV h g0 esz bytes el (.arr g v 0 n) y = some (.arr g (bmp v new) 0 (n + m), upd h g (some (.arr (bmp v new) esz el (cells ++ new) false))) := by
  simp only [appV, h1, h2, hg]
  rw [if_pos ⟨trivial, trivial, trivial, by rw [Nat.zero_add]; exact hl⟩]
  unfold bmp
  by_cases hn : new = []
  · subst hn
    have : m = 0 := by
      simp only [List.length_nil] at h0
      rcases Nat.mul_eq_zero.1 h0.symm with h | h <;> omega
    subst this
    simp only [if_true, List.append_nil, Nat.add_zero]
    congr 2
    funext x
    unfold upd
    by_cases hx : x = g
    · rw [if_pos hx, hx, hg]
    · rw [if_neg hx]
  · have hr3 : ((n : Int) + m) * bytes ≤ room := by unfold room; exact_mod_cast hr
    have hr4 : ((n : Int) + m) ≤ 9223372036854775807 := by omega
    rw [if_neg hn, if_pos ⟨hr3, hr4⟩, if_neg hn]
    simp
section
variable (s : Nat → Int) (p : Bool)
/-- Where an operation is parted. -/
theorem part_at {ops : List Oper} {i : Nat} (hi : i < ops.length) : ∃ o, ops.drop i = o :: ops.drop (i + 1) ∧ ops = ops.take i ++ o :: ops.drop (i + 1) ∧ o ∈ ops := by
  have e := List.drop_eq_getElem_cons hi
  refine ⟨ops[i], e, ?_, List.getElem_mem hi⟩
  rw [← e, List.take_append_drop]
theorem flowDivides_ev {L : AV} {ops0 : List Oper} (hL0 : IsL 6 L ops0.length (cellsOf ops0)) (hok0 : ∀ o ∈ ops0, okOp o) (at' : Int) :
    FC env 7 [L, .agg (setC s p), .int .i64 at'] none = some (.bool true, fun _ => none) := by
  obtain ⟨L', h1, hL, hok, h40⟩ := few_ev hL0 hok0
  have h200 := few_all ops0
  generalize fewL ops0 = ops at hL hok h40 h200
  have h2 := amounts_ev s p hL hok (by omega)
  have err : ∀ e : Int, e ≠ 0 → FC env 14 [L', .agg (setC s p)] none = some (.tup [.nils, .int .i64 e], fun _ => none) → FC env 7 [L, .agg (setC s p), .int .i64 at'] none = some (.bool true, fun _ => none) := by
    intro e he h2
    refine FC_pure (lf := lf7) rfl rfl rfl ?_
    simp only [lf7, lc7, c7_0, c7_1, c7_2, c7_3, c7_4, c7_5, c7_6, c7_7, c7_8, c7_9, c7_10, c7_11, c7_12, c7_13, c7_14, c7_15, c7_16, c7_17, c7_18, c7_19]
    simp +contextual (maxSteps := 4000000) [hL0.snap, hL.snap, h1, h2, he, awake_ev]
  by_cases hv : val s = true
  case neg =>
    rw [if_neg hv] at h2
    exact err 1 (by omega) h2
  rw [if_pos hv] at h2
  cases hX : amts s ops 0 false with
  | inl e =>
    rw [hX] at h2
    exact err e (amts_ne0 s _ _ _ hX) h2
  | inr l =>
    rw [hX] at h2
    have hl := amts_len s _ 0 false l hX
    have hA : IsL 1 (.lst l.length (ints l)) l.length (ints l) := .inr ⟨rfl, by rw [ints_len, Nat.mul_one], ints_flat l⟩
    simp only [amV] at h2
    generalize AV.lst l.length (ints l) = A at h2 hA
    by_cases b1 : at' < 0
    · refine FC_pure (lf := lf7) rfl rfl rfl ?_
      simp only [lf7, lc7, c7_0, c7_1, c7_2, c7_3, c7_4, c7_5, c7_6, c7_7, c7_8, c7_9, c7_10, c7_11, c7_12, c7_13, c7_14, c7_15, c7_16, c7_17, c7_18, c7_19]
      simp +contextual (maxSteps := 4000000) [hL0.snap, hL.snap, hA.snap, h1, h2, b1, awake_ev]
    obtain ⟨i, rfl⟩ := Int.eq_ofNat_of_zero_le (show 0 ≤ at' by omega)
    by_cases b2 : (ops.length : Int) ≤ (i : Int)
    · refine FC_pure (lf := lf7) rfl rfl rfl ?_
      simp only [lf7, lc7, c7_0, c7_1, c7_2, c7_3, c7_4, c7_5, c7_6, c7_7, c7_8, c7_9, c7_10, c7_11, c7_12, c7_13, c7_14, c7_15, c7_16, c7_17, c7_18, c7_19]
      simp +contextual (maxSteps := 4000000) [hL0.snap, hL.snap, hL.len, hA.snap, h1, h2, b1, b2, awake_ev]
    have hi : i < ops.length := by omega
    have b2' : ¬ ops.length ≤ i := by omega
    obtain ⟨o, hd, hops, homem⟩ := part_at hi
    obtain ⟨L1, e1, hL1⟩ := hL.sliceHi .i64 i (by omega)
    obtain ⟨L2, e2, hL2⟩ := hL.sliceLo .i64 (i + 1) (by omega)
    obtain ⟨A1, e3, hA1⟩ := hA.sliceHi .i64 i (by omega)
    rw [cells_take] at hL1
    rw [cells_drop] at hL2
    rw [Nat.mul_one, ints_take] at hA1
    have hlt : (ops.take i).length = i := by rw [List.length_take]; omega
    have hlt2 : (l.take i).length = i := by rw [List.length_take]; omega
    have hok1 : ∀ o ∈ ops.take i, okOp o := fun o ho => hok o (List.mem_of_mem_take ho)
    have h3 := amounts_ev s p (L := L1) (ops := ops.take i) (by rw [hlt]; exact hL1) hok1 (by omega)
    rw [if_pos hv] at h3
    have hla : amts s (ops.take i) 0 false = .inr (l.take i) := by
      have := amts_app s (ops.take i) (ops.drop i) 0 false
      rw [List.take_append_drop, hX] at this
      cases hq : amts s (ops.take i) 0 false with
      | inl e => rw [hq] at this; cases this
      | inr la =>
        rw [hq] at this
        simp only [] at this
        split at this
        · cases this
        · rename_i m _
          cases this
          have := amts_len s _ 0 false la hq
          rw [List.take_left' (by omega)]
    rw [hla] at h3
    simp only [amV] at h3
    have hB : IsL 1 (.lst (l.take i).length (ints (l.take i))) (l.take i).length (ints (l.take i)) := .inr ⟨rfl, by rw [ints_len, Nat.mul_one], ints_flat _⟩
    generalize AV.lst (l.take i).length (ints (l.take i)) = B at h3 hB
    have h4 := same_ev (l := l.take i) (m := l.take i) hB (by rw [hlt2]; exact hA1) (by omega)
    have f1 := fun H => hL.iaddr H .i64 i hi
    simp only [cells_drop, hd, cells_cons] at f1
    obtain ⟨M, hM⟩ := hok o homem
    by_cases hk : o.k = 3
    case neg =>
      refine FC_pure (lf := lf7) rfl rfl rfl ?_
      simp only [lf7, lc7, c7_0, c7_1, c7_2, c7_3, c7_4, c7_5, c7_6, c7_7, c7_8, c7_9, c7_10, c7_11, c7_12, c7_13, c7_14, c7_15, c7_16, c7_17, c7_18, c7_19]
      simp +contextual (maxSteps := 4000000) [hL0.snap, hL.snap, hL.len, hA.len, hA.snap, hL1.snap, hB.snap, hA1.snap, h1, h2, b1, b2, b2', e1, e3, h3, h4, hl, f1, hk, awake_ev, freezeAll, AObj.freeze]
    have hn200 : nC o.cv ≤ 200 := h200 o homem
    generalize hn : nC o.cv = n at hM hn200
    rw [hl] at hA
    obtain ⟨q, hq⟩ : ∃ q, q = n / 2 := ⟨_, rfl⟩
    obtain ⟨cx, ex, hcx⟩ := hM.sliceHi .i64 q (by omega)
    obtain ⟨cy, ey, hcy⟩ := hM.sliceLo .i64 q (by omega)
    have nx := nC_of hcx
    have ny := nC_of hcy
    let x : Oper := { o with cv := cx }
    let y : Oper := { o with cv := cy }
    obtain ⟨la, v, w, lb, l1, l2, l3, l4, l5⟩ := amts_part s (a := ops.take i) (b := ops.drop (i + 1)) (o := o) (x := x) (y := y) (l := l) (by rw [← hops]; exact hX) hk (by rw [← hops]; exact h200) hk hk (by show nC cx + nC cy = nC o.cv; omega)
    have okx : ∀ q ∈ ops.take i ++ x :: y :: ops.drop (i + 1), okOp q := by
      intro q hq
      rcases List.mem_append.1 hq with h | h
      · exact hok q (List.mem_of_mem_take h)
      · rcases List.mem_cons.1 h with rfl | h
        · exact ⟨_, by show IsL 2 cx (nC cx) _; rw [nx]; exact hcx⟩
        · rcases List.mem_cons.1 h with rfl | h
          · exact ⟨_, by show IsL 2 cy (nC cy) _; rw [ny]; exact hcy⟩
          · exact hok q (List.mem_of_mem_drop h)
    have len3 : (ops.take i ++ x :: y :: ops.drop (i + 1)).length = i + 2 + (ops.length - (i + 1)) := by
      simp only [List.length_append, List.length_cons, hlt, List.length_drop]
      omega
    have flat3 := cells_flat okx
    have clen3 := cells_len (ops.take i ++ x :: y :: ops.drop (i + 1))
    rw [len3] at clen3
    have h5 := amounts_ev s p (L := .lst (i + 2 + (ops.length - (i + 1))) (cellsOf (ops.take i ++ x :: y :: ops.drop (i + 1)))) (ops := ops.take i ++ x :: y :: ops.drop (i + 1)) (by rw [len3]; exact .inr ⟨rfl, clen3, flat3⟩) okx (by omega)
    rw [if_pos hv, l5] at h5
    simp only [amV] at h5
    have lenc : (la ++ v :: w :: lb).length = ops.length + 1 := by rw [← hl, l1]; simp; omega
    have hC : IsL 1 (.lst (la ++ v :: w :: lb).length (ints (la ++ v :: w :: lb))) (ops.length + 1) (ints (la ++ v :: w :: lb)) := .inr ⟨by rw [lenc], by rw [ints_len, Nat.mul_one, lenc], ints_flat _⟩
    generalize AV.lst (la ++ v :: w :: lb).length (ints (la ++ v :: w :: lb)) = C at h5 hC
    have ha3 : la.length = i := by omega
    -- the cells of the row that is put together
    have cl1 := cells_len (ops.take i)
    rw [hlt] at cl1
    have cl2 := cells_len (ops.drop (i + 1))
    rw [List.length_drop] at cl2
    have ce : cellsOf (ops.take i) ++ [.int .i64 3, .int .i64 o.a, .int .i64 o.b, .int .i64 o.c, .int .i64 o.d, cx, .int .i64 3, .int .i64 o.a, .int .i64 o.b, .int .i64 o.c, .int .i64 o.d, cy] ++ cellsOf (ops.drop (i + 1)) = cellsOf (ops.take i ++ x :: y :: ops.drop (i + 1)) := by
      rw [cells_app, cells_cons, cells_cons, List.append_assoc, show x.k = 3 from hk]
      rfl
    generalize hv1 : bmp 0 (cellsOf (ops.take i)) = v1
    generalize hv2 : bmp v1 [.int .i64 3, .int .i64 o.a, .int .i64 o.b, .int .i64 o.c, .int .i64 o.d, cx, .int .i64 3, .int .i64 o.a, .int .i64 o.b, .int .i64 o.c, .int .i64 o.d, cy] = v2
    generalize hv3 : bmp v2 (cellsOf (ops.drop (i + 1))) = v3
    have ap1 : ∀ h g0, h 95 = some (.arr 0 6 38 [] false) → appV h g0 6 64 38 (.arr 95 0 0 0) L1 = some (.arr 95 v1 0 i, upd h 95 (some (.arr v1 6 38 (cellsOf (ops.take i)) false))) := by
      intro h g0 hh
      have := app_own (g0 := g0) (bytes := 64) hh (n := 0) (by simp) (hL1.len h) (hL1.elems h) (by omega) (by omega) (by omega) (by omega)
      rw [hv1, Nat.zero_add, List.nil_append] at this
      exact this
    have ap2 : ∀ h g0, h 95 = some (.arr v1 6 38 (cellsOf (ops.take i)) false) → h 103 = some (.arr 0 6 38 [.int .i64 3, .int .i64 o.a, .int .i64 o.b, .int .i64 o.c, .int .i64 o.d, cx, .int .i64 3, .int .i64 o.a, .int .i64 o.b, .int .i64 o.c, .int .i64 o.d, cy] false) → appV h g0 6 64 38 (.arr 95 v1 0 i) (.arr 103 0 0 2) = some (.arr 95 v2 0 (i + 2), upd h 95 (some (.arr v2 6 38 (cellsOf (ops.take i) ++ [.int .i64 3, .int .i64 o.a, .int .i64 o.b, .int .i64 o.c, .int .i64 o.d, cx, .int .i64 3, .int .i64 o.a, .int .i64 o.b, .int .i64 o.c, .int .i64 o.d, cy]) false))) := by
      intro h g0 hh hh2
      have := app_own (g0 := g0) (bytes := 64) (y := .arr 103 0 0 2) (m := 2) (new := [.int .i64 3, .int .i64 o.a, .int .i64 o.b, .int .i64 o.c, .int .i64 o.d, cx, .int .i64 3, .int .i64 o.a, .int .i64 o.b, .int .i64 o.c, .int .i64 o.d, cy]) hh (n := i) (by omega) (by simp [curAny, hh2]) (by simp only [elemsV, hh2]; rw [if_pos ⟨trivial, trivial, by show (0 + 2) * 6 ≤ 12; omega⟩]; rfl) rfl (by omega) (by omega) (by omega)
      rw [hv2] at this
      exact this
    have ap3 : ∀ h g0, h 95 = some (.arr v2 6 38 (cellsOf (ops.take i) ++ [.int .i64 3, .int .i64 o.a, .int .i64 o.b, .int .i64 o.c, .int .i64 o.d, cx, .int .i64 3, .int .i64 o.a, .int .i64 o.b, .int .i64 o.c, .int .i64 o.d, cy]) false) → appV h g0 6 64 38 (.arr 95 v2 0 (i + 2)) L2 = some (.arr 95 v3 0 (i + 2 + (ops.length - (i + 1))), upd h 95 (some (.arr v3 6 38 (cellsOf (ops.take i ++ x :: y :: ops.drop (i + 1))) false))) := by
      intro h g0 hh
      have := app_own (g0 := g0) (bytes := 64) hh (n := i + 2) (by rw [List.length_append, cl1]; show _ = _ + 12; omega) (hL2.len h) (hL2.elems h) (by omega) (by omega) (by omega) (by omega)
      rw [hv3, ce] at this
      exact this
    have sn3 : ∀ h : Heap, h 95 = some (.arr v3 6 38 (cellsOf (ops.take i ++ x :: y :: ops.drop (i + 1))) false) → snap h depth (.arr 95 v3 0 (i + 2 + (ops.length - (i + 1)))) = some (.lst (i + 2 + (ops.length - (i + 1))) (cellsOf (ops.take i ++ x :: y :: ops.drop (i + 1))), [95]) := by
      intro h hh
      have := snap_arr (off := 0) (len := i + 2 + (ops.length - (i + 1))) 7 hh (by rw [clen3]; omega) flat3
      rw [Nat.zero_mul, cut_all _ _ clen3] at this
      exact this
    have g1 : IntKind.wrap .i64 ((n : Int) / 2) = (q : Int) := by rw [w64 _ (by omega) (by omega)]; omega
    have g1' : IntKind.wrap .i64 ((n : Int).tdiv 2) = (q : Int) := by rw [Int.tdiv_eq_ediv_of_nonneg (by omega)]; exact g1
    have g2 : IntKind.wrap .i64 ((i : Int) + 1) = (i : Int) + 1 := w64 _ (by omega) (by omega)
    have g3 : IntKind.wrap .i64 ((ops.length : Int) + 1 + -1) = (ops.length : Int) := by rw [w64 _ (by omega) (by omega)]; omega
    obtain ⟨K, hK⟩ : ∃ K, ops.length = K + 1 := ⟨ops.length - 1, by omega⟩
    have g3' : IntKind.wrap .i64 (ops.length : Int) = (ops.length : Int) := w64 _ (by omega) (by omega)
    have g3'' : IntKind.wrap .i64 ((ops.length : Int) + 1) = (ops.length : Int) + 1 := w64 _ (by omega) (by omega)
    have g4 : IntKind.wrap .i64 ((ops.length : Int) - 1) = (K : Int) := by rw [w64 _ (by omega) (by omega)]; omega
    have g5 : IntKind.wrap .i64 ((n : Int) - (q : Int)) = (n : Int) - (q : Int) := w64 _ (by omega) (by omega)
    have g6 := vol_add s q n (by omega) hn200
    have hlne : w :: lb ≠ [] := by simp
    have t1 := fun H => hC.iaddr H .i64 ops.length (by omega)
    have t2 := fun H => hA.iaddr H .i64 K (by omega)
    have t3 := fun H => hC.iaddr H .i64 (i + 1) (by omega)
    have t4 := fun H => hA.iaddr H .i64 i (by omega)
    have c1 : (ints (la ++ v :: w :: lb)).drop (ops.length * 1) = [.int .i64 ((w :: lb).getLast hlne)] := by
      have := ints_last (la ++ v :: w :: lb) (by simp)
      rw [lenc, Nat.add_sub_cancel] at this
      rw [Nat.mul_one, this]
      simp [List.getLast_append]
    have c2 : (ints l).drop (K * 1) = [.int .i64 ((w :: lb).getLast hlne)] := by
      have := ints_last l (by rw [l1]; simp)
      rw [hl, hK, Nat.add_sub_cancel] at this
      rw [Nat.mul_one, this]
      simp [l1, List.getLast_append]
    have c3 : (ints (la ++ v :: w :: lb)).drop ((i + 1) * 1) = .int .i64 w :: ints lb := by
      have := ints_at (l := la ++ v :: w :: lb) (la := la ++ [v]) (lb := lb) (w := w) (by simp)
      rw [List.length_append, ha3] at this
      rw [Nat.mul_one]
      exact this
    have c4 : (ints l).drop (i * 1) = .int .i64 w :: ints lb := by
      rw [Nat.mul_one, ← ha3]
      exact ints_at l1
    simp only [c1] at t1
    simp only [c2] at t2
    simp only [c3, Int.natCast_add, Int.natCast_one, Int.cast_ofNat_Int] at t3
    simp only [c4] at t4
    simp only [Int.natCast_add, Int.natCast_one, Int.cast_ofNat_Int] at e2
    clear hv1 hv2 hv3
    refine FC_pure (lf := lf7) rfl rfl rfl ?_
    simp only [lf7, lc7, c7_0, c7_1, c7_2, c7_3, c7_4, c7_5, c7_6, c7_7, c7_8, c7_9, c7_10, c7_11, c7_12, c7_13, c7_14, c7_15, c7_16, c7_17, c7_18, c7_19]
    simp +contextual (maxSteps := 4000000) [-appV, hL0.snap, hL.snap, hL.len, hA.len, hA.snap, hL1.snap, hB.snap, hA1.snap, hC.len, h1, h2, b1, b2, b2', e1, e2, e3, ex, ey, h3, h4, h5, f1, hk, hn, hM.len, cv_of hcx, cv_of hcy, g1, g1', g2, g3, g3', g3'', g4, g5, g6, t1, t2, t3, t4, ap1, ap2, ap3, sn3, volume_ev, awake_ev, freezeAll, AObj.freeze]
end
end Go.Proofs.Ytldcbmkfkbnmbaa
