/- EmitFollows: the program side. Conditions: none. -/
import Derived.Test.YtchiiiahgmfofaaQx
namespace Go.Proofs.Ytchiiiahgmfofaa
open Go Go.Vv Go.Proofs
set_option linter.unusedSimpArgs false
set_option linter.unusedVariables false
set_option linter.unusedSectionVars false
set_option maxRecDepth 10000
theorem visC_len : ∀ (l : List api_Cell) (k : Bool) (a : api_Cell) (out v : List api_Cell) (b : api_Cell), visC k l a out = some (v, b) → v.length ≤ out.length + l.length
  | [], k, a, out, v, b, h => by rw [visC] at h; cases h; simp
  | c :: r, k, a, out, v, b, h => by
    rw [visC] at h
    split at h
    · have := visC_len r _ _ _ _ _ h
      simp only [List.length_cons]; omega
    · split at h
      · have := visC_len r _ _ _ _ _ h
        simp only [List.length_append, List.length_cons, List.length_nil] at this ⊢; omega
      · cases h
theorem visOps_len : ∀ (l : List api_Op) (a : api_Cell) (out v : List api_Cell), (∀ o ∈ l, o.Cells.l.length ≤ 40) → visOps l a out = some v → v.length ≤ out.length + 40 * l.length
  | [], a, out, v, hl, h => by rw [visOps] at h; cases h; simp
  | o :: r, a, out, v, hl, h => by
    have h40 := hl o (by simp)
    rw [visOps] at h
    split at h
    · split at h
      · cases h
      · rename_i q hq
        have h1 := visC_len _ _ _ _ q.1 q.2 hq
        have h2 := visOps_len r _ _ _ (fun o ho => hl o (by simp [ho])) h
        simp only [List.length_cons]; omega
    · have h2 := visOps_len r _ _ _ (fun o ho => hl o (by simp [ho])) h
      simp only [List.length_cons]; omega
theorem near_eq (a b : api_Cell) : u_additivelaw40_near a b = nearB a b := rfl
theorem vis0_loop {x : FS api_Op} {i : Nat} {o : api_Op} (hx : x.l[i]? = some o) (h40 : o.Cells.l.length ≤ 40) : ∀ (rest : List api_Cell) (k : Nat) (a : api_Cell) (out : FS api_Cell) (m : Nat), o.Cells.l.drop k = rest → out.l.length + rest.length ≤ 100000 → rest.length < m →
    ∃ v, loopT (t_additivelaw40_visited_L0 x (i : Int)) m (out, a, (k : Int)) = some v ∧ ((visC (decide (k = 0 ∧ o.Kind = 3)) rest a out.l = none ∧ ∃ z, v = .inl (z, false)) ∨ ∃ y b, visC (decide (k = 0 ∧ o.Kind = 3)) rest a out.l = some (y.l, b) ∧ v = .inr (b, y))
  | [], k, a, out, m, hr, ho, hm => by
    obtain ⟨m, rfl⟩ : ∃ j, m = j + 1 := ⟨m - 1, by omega⟩
    have hlen : o.Cells.l.length ≤ k := by
      have := congrArg List.length hr
      rw [List.length_drop] at this
      simp at this
      omega
    have c1 : ilt (k : Int) (flen o.Cells) = false := ilt_ff (by rw [flen_eq]; omega)
    exact ⟨_, loop_dn (by simp only [t_additivelaw40_visited_L0, fget_nat hx, c1, Bool.false_eq_true, if_false]), .inr ⟨out, a, rfl, rfl⟩⟩
  | c :: rest, k, a, out, m, hr, ho, hm => by
    obtain ⟨m, rfl⟩ : ∃ j, m = j + 1 := ⟨m - 1, by omega⟩
    obtain ⟨g1, g2, g3, g4⟩ := get_drop hr
    simp only [List.length_cons] at ho hm
    have c1 : ilt (k : Int) (flen o.Cells) = true := ilt_tt (by rw [flen_eq]; omega)
    have f1 := fget_nat hx
    have f2 := fget_nat g1
    have i1 := isucc (i := k) (by omega)
    have dk : decide (k + 1 = 0 ∧ o.Kind = 3) = false := by simp
    by_cases hs : (k = 0 ∧ o.Kind = 3) ∧ c = a
    · have c2 : band (band (ieq (k : Int) 0) (ieq o.Kind 3)) (band (ieq c.X a.X) (band (ieq c.Y a.Y) true)) = true := by
        simp only [band_iff, ieq_iff]
        obtain ⟨⟨rfl, h3⟩, rfl⟩ := hs
        exact ⟨⟨rfl, h3⟩, rfl, rfl, trivial⟩
      obtain ⟨v, ev, hv⟩ := vis0_loop hx h40 rest (k + 1) a out m g2 (by omega) (by omega)
      rw [dk] at hv
      refine ⟨v, by rw [loop_nx (s' := (out, a, ((k + 1 : Nat) : Int))) (by simp only [t_additivelaw40_visited_L0, f1, c1, if_true, f2, c2, i1]), ev], ?_⟩
      have : visC (decide (k = 0 ∧ o.Kind = 3)) (c :: rest) a out.l = visC false rest a out.l := by
        rw [visC, if_pos ⟨decide_eq_true hs.1, hs.2⟩]
      rw [this]
      exact hv
    · have c2 : band (band (ieq (k : Int) 0) (ieq o.Kind 3)) (band (ieq c.X a.X) (band (ieq c.Y a.Y) true)) = false := by
        rw [← Bool.not_eq_true]
        intro hh
        simp only [band_iff, ieq_iff] at hh
        exact hs ⟨⟨by omega, hh.1.2⟩, cell_ext hh.2.1 hh.2.2.1⟩
      have e : visC (decide (k = 0 ∧ o.Kind = 3)) (c :: rest) a out.l = if nearB a c = true then visC false rest c (out.l ++ [c]) else none := by
        rw [visC, if_neg (fun h => hs ⟨of_decide_eq_true h.1, h.2⟩)]
      rw [e]
      by_cases hn : nearB a c = true
      · have c3 : bnot (u_additivelaw40_near a c) = false := by rw [near_eq, hn]; rfl
        have hf : fits 16 (flen out + 1) = true := fits_len (l := out.l) (by omega) (by omega)
        obtain ⟨v, ev, hv⟩ := vis0_loop hx h40 rest (k + 1) c (fsnoc out c) m g2 (by rw [fsnoc_l, List.length_append]; simp only [List.length_cons, List.length_nil]; omega) (by omega)
        rw [dk, fsnoc_l] at hv
        rw [if_pos hn]
        exact ⟨v, by rw [loop_nx (s' := (fsnoc out c, c, ((k + 1 : Nat) : Int))) (by simp only [t_additivelaw40_visited_L0, f1, c1, if_true, f2, c2, c3, hf, i1, Bool.false_eq_true, if_false]), ev], hv⟩
      · have c3 : bnot (u_additivelaw40_near a c) = true := by rw [near_eq, bnot_iff]; exact hn
        rw [if_neg hn]
        exact ⟨.inl (.nil, false), loop_dn (by simp only [t_additivelaw40_visited_L0, f1, c1, if_true, f2, c2, c3, Bool.false_eq_true, if_false]), .inl ⟨rfl, .nil, rfl⟩⟩
theorem vis1_loop {x : FS api_Op} (hF : Few x.l) : ∀ (rest : List api_Op) (i : Nat) (a : api_Cell) (out : FS api_Cell) (m : Nat), x.l.drop i = rest → out.l.length ≤ 40 * i → rest.length < m →
    ∃ v, loopT (t_additivelaw40_visited_L1 x) m (out, a, (i : Int)) = some v ∧ ((visOps rest a out.l = none ∧ ∃ z, v = .inl (z, false)) ∨ ∃ y, visOps rest a out.l = some y.l ∧ v = .inr y)
  | [], i, a, out, m, hr, ho, hm => by
    obtain ⟨m, rfl⟩ : ∃ j, m = j + 1 := ⟨m - 1, by omega⟩
    have hlen : x.l.length ≤ i := by
      have := congrArg List.length hr
      rw [List.length_drop] at this
      simp at this
      omega
    have c1 : ilt (i : Int) (flen x) = false := ilt_ff (by rw [flen_eq]; omega)
    exact ⟨_, loop_dn (by simp only [t_additivelaw40_visited_L1, c1, Bool.false_eq_true, if_false]), .inr ⟨out, rfl, rfl⟩⟩
  | o :: rest, i, a, out, m, hr, ho, hm => by
    obtain ⟨m, rfl⟩ : ∃ j, m = j + 1 := ⟨m - 1, by omega⟩
    obtain ⟨g1, g2, g3, g4⟩ := get_drop hr
    have hx := hF.1
    have h40 := hF.2 o (List.mem_of_getElem? g1)
    have c1 : ilt (i : Int) (flen x) = true := ilt_tt (by rw [flen_eq]; omega)
    have f1 := fget_nat g1
    have i1 := isucc (i := i) (by omega)
    simp only [List.length_cons] at hm
    rw [visOps]
    by_cases hk : o.Kind = 2 ∨ o.Kind = 3
    · have c2 : band (ine o.Kind 2) (ine o.Kind 3) = false := by
        rw [← Bool.not_eq_true]
        intro hh
        simp only [band_iff, ine_iff] at hh
        omega
      rw [if_pos hk]
      obtain ⟨v, ev, hv⟩ := vis0_loop g1 h40 o.Cells.l 0 a out bigN rfl (by omega) (bigN_gt (by omega))
      have d0 : decide ((0 : Nat) = 0 ∧ o.Kind = 3) = decide (o.Kind = 3) := by simp
      rw [d0] at hv
      have ev : loopT (t_additivelaw40_visited_L0 x (i : Int)) bigN (out, a, 0) = some v := ev
      rcases hv with ⟨e1, z, rfl⟩ | ⟨y, b, e1, rfl⟩
      · rw [e1]
        exact ⟨.inl (.nil, false), loop_dn (by simp only [t_additivelaw40_visited_L1, c1, if_true, f1, c2, Bool.false_eq_true, if_false, ev]), .inl ⟨rfl, .nil, rfl⟩⟩
      · have hl := visC_len _ _ _ _ _ _ e1
        obtain ⟨v, ev2, hv⟩ := vis1_loop hF rest (i + 1) b y m g2 (by omega) (by omega)
        rw [e1]
        exact ⟨v, by rw [loop_nx (s' := (y, b, ((i + 1 : Nat) : Int))) (by simp only [t_additivelaw40_visited_L1, c1, if_true, f1, c2, Bool.false_eq_true, if_false, ev, i1]), ev2], hv⟩
    · have c2 : band (ine o.Kind 2) (ine o.Kind 3) = true := by
        simp only [band_iff, ine_iff]
        omega
      rw [if_neg hk]
      obtain ⟨v, ev2, hv⟩ := vis1_loop hF rest (i + 1) a out m g2 (by omega) (by omega)
      exact ⟨v, by rw [loop_nx (s' := (out, a, ((i + 1 : Nat) : Int))) (by simp only [t_additivelaw40_visited_L1, c1, if_true, f1, c2, i1]), ev2], hv⟩
theorem visited_ok {x : FS api_Op} (hF : Few x.l) : ∃ y k, t_additivelaw40_visited x = some (y, k) ∧ (k = true → visOps x.l ⟨0, 0⟩ [] = some y.l) := by
  obtain ⟨v, ev, hv⟩ := vis1_loop hF x.l 0 ⟨0, 0⟩ .nil bigN rfl (by simp [FS.l]) (bigN_gt (by have := hF.1; omega))
  have ev : loopT (t_additivelaw40_visited_L1 x) bigN (FS.nil, ⟨0, 0⟩, 0) = some v := ev
  unfold t_additivelaw40_visited
  rw [ev]
  rcases hv with ⟨e1, z, rfl⟩ | ⟨y, e1, rfl⟩
  · exact ⟨_, _, rfl, fun h => by simp at h⟩
  · exact ⟨_, _, rfl, fun _ => e1⟩
theorem towards_ok {a b : Int} (h0 : -5000 ≤ a) (h1 : a ≤ 5000) : t_additivelaw40_towards a b = some (tw a b) := by
  unfold t_additivelaw40_towards tw
  by_cases h2 : a < b
  · rw [ilt_tt h2, if_pos rfl, if_pos h2, iadd_eq (by omega) (by omega)]
  · rw [ilt_ff h2, if_neg (by simp), if_neg h2]
    by_cases h3 : b < a
    · rw [igt_tt (by omega), if_pos rfl, if_pos h3, isub_eq (by omega) (by omega)]
    · rw [igt_ff (by omega), if_neg (by simp), if_neg h3]
theorem tw_btw (a b : Int) : (a ≤ b → a ≤ tw a b ∧ tw a b ≤ b) ∧ (b ≤ a → b ≤ tw a b ∧ tw a b ≤ a) := by
  unfold tw
  split
  · omega
  · split <;> omega
theorem stp_on {a b : api_Cell} (ha : OnG a) (hb : OnG b) : OnG (stp a b) := by
  have h1 := tw_btw a.X b.X
  have h2 := tw_btw a.Y b.Y
  unfold OnG at ha hb ⊢
  show -4096 ≤ tw a.X b.X ∧ tw a.X b.X < 4096 ∧ -4096 ≤ tw a.Y b.Y ∧ tw a.Y b.Y < 4096
  omega
theorem ln_loop {s : api_Settings} {c : FS api_Cmd} {v : FS api_Cell} (hv : v.l.length ≤ 100000) {i : Int} {w2 : List api_Cell} {a b : api_Cell} {w : List api_Cell} (hl : Ln a b w) : ∀ (n m : Nat), OnG a → OnG b → v.l.drop n = w ++ w2 → w.length < m →
    loopT (t_additivelaw40_EmitFollows_L0 s c v i b) m (a, (n : Int)) = some (.inr (b, ((n + w.length : Nat) : Int))) := by
  induction hl with
  | nil a =>
    intro n m ha hb hw hm
    obtain ⟨m, rfl⟩ : ∃ j, m = j + 1 := ⟨m - 1, by omega⟩
    have c1 : bnot (band (ieq a.X a.X) (band (ieq a.Y a.Y) true)) = false := by rw [ieq_tt rfl, ieq_tt rfl]; rfl
    exact loop_dn (by simp only [t_additivelaw40_EmitFollows_L0, c1, Bool.false_eq_true, if_false, List.length_nil, Nat.add_zero])
  | cons a b w h r ih =>
    intro n m ha hb hw hm
    obtain ⟨m, rfl⟩ : ∃ j, m = j + 1 := ⟨m - 1, by omega⟩
    rw [List.cons_append] at hw
    obtain ⟨g1, g2, g3, g4⟩ := get_drop hw
    have c1 : bnot (band (ieq a.X b.X) (band (ieq a.Y b.Y) true)) = true := by
      rw [bnot_iff]
      intro hh
      simp only [band_iff, ieq_iff] at hh
      exact h (cell_ext hh.1 hh.2.1)
    have hga := ha
    unfold OnG at hga
    have t1 := towards_ok (a := a.X) (b := b.X) (by omega) (by omega)
    have t2 := towards_ok (a := a.Y) (b := b.Y) (by omega) (by omega)
    have c2 : ige (n : Int) (flen v) = false := by rw [← Bool.not_eq_true, ige_iff, flen_eq]; omega
    have f1 := fget_nat g1
    have i1 := isucc (i := n) (by omega)
    have c3 : ieq (stp a b).X (tw a.X b.X) = true := ieq_tt rfl
    have c4 : ieq (stp a b).Y (tw a.Y b.Y) = true := ieq_tt rfl
    have gg : gOpt (bnot false) (some (stp a b)) = some (some (stp a b)) := rfl
    have cc : bor false (bnot (band true (band true true))) = false := rfl
    have e := ih (n + 1) m (stp_on ha hb) hb g2 (by simp only [List.length_cons] at hm; omega)
    have el : n + 1 + w.length = n + (stp a b :: w).length := by simp only [List.length_cons]; omega
    rw [el] at e
    rw [loop_nx (s' := (stp a b, ((n + 1 : Nat) : Int))) ?_]
    · exact e
    · simp only [t_additivelaw40_EmitFollows_L0, c1, if_true, t1, t2, c2, f1, gg, Option.getD_some, c3, c4, cc, Bool.false_eq_true, if_false, i1]
      rfl
theorem iquo_mul {b p : Int} (hp : 0 < p) (h0 : -1000000 ≤ b) (h1 : b ≤ 1000000) : iquo .i64 (b * p) p = b := by
  unfold iquo
  rw [Int.mul_tdiv_cancel b (by omega)]
  exact w64 _ (by omega) (by omega)
theorem ctr_back {s : api_Settings} (hs : OkS s) {b : Int} (h0 : -4096 ≤ b) (h1 : b < 4096) : iquo .i64 (isub .i64 (ctr s b) (iquo .i64 s.Pitch 2)) s.Pitch = b ∧ iadd .i64 (imul .i64 b s.Pitch) (iquo .i64 s.Pitch 2) = ctr s b := by
  have hp0 := hs.p0
  have hp1 := hs.p1
  have m0 : -4096 * 1024 ≤ b * s.Pitch := by
    have a1 : -4096 * s.Pitch ≤ b * s.Pitch := Int.mul_le_mul_of_nonneg_right h0 (by omega)
    omega
  have m1 : b * s.Pitch ≤ 4096 * 1024 := by
    have a1 : b * s.Pitch ≤ 4096 * s.Pitch := Int.mul_le_mul_of_nonneg_right (by omega) (by omega)
    omega
  have e : iquo .i64 s.Pitch 2 = s.Pitch / 2 := iquo_eq (by omega) (by omega) (by omega)
  rw [e]
  unfold ctr
  constructor
  · rw [isub_eq (by omega) (by omega)]
    have : b * s.Pitch + s.Pitch / 2 - s.Pitch / 2 = b * s.Pitch := by omega
    rw [this]
    exact iquo_mul (by omega) (by omega) (by omega)
  · rw [imul_eq (by omega) (by omega), iadd_eq (by omega) (by omega)]
theorem foll_loop {s : api_Settings} (hs : OkS s) {c : FS api_Cmd} (hc : c.l.length ≤ 1000000) {v : FS api_Cell} (hv : v.l.length ≤ 100000) {a b : api_Cell} {rest : List api_Cmd} {w : List api_Cell} (hF : Fo s a rest w b) : ∀ (i n m : Nat), c.l.drop i = rest → v.l.drop n = w → n ≤ v.l.length → rest.length < m →
    loopT (t_additivelaw40_EmitFollows_L1 s c v) m (a, (n : Int), (i : Int)) = some (.inr (v.l.length : Int)) := by
  induction hF with
  | nil a =>
    intro i n m hr hw hn hm
    obtain ⟨m, rfl⟩ : ∃ j, m = j + 1 := ⟨m - 1, by omega⟩
    have h1 : c.l.length ≤ i := by
      have := congrArg List.length hr
      rw [List.length_drop] at this
      simp at this
      omega
    have h2 : n = v.l.length := by
      have := congrArg List.length hw
      rw [List.length_drop] at this
      simp at this
      omega
    have c1 : ilt (i : Int) (flen c) = false := ilt_ff (by rw [flen_eq]; omega)
    exact loop_dn (by simp only [t_additivelaw40_EmitFollows_L1, c1, Bool.false_eq_true, if_false, h2])
  | skip h t ih =>
    rename_i a b d r w
    intro i n m hr hw hn hm
    obtain ⟨m, rfl⟩ : ∃ j, m = j + 1 := ⟨m - 1, by omega⟩
    obtain ⟨g1, g2, g3, g4⟩ := get_drop hr
    have c1 : ilt (i : Int) (flen c) = true := ilt_tt (by rw [flen_eq]; omega)
    have f1 := fget_nat g1
    have i1 := isucc (i := i) (by omega)
    have c2 : ieq (iand .i64 d.Has 1) 0 = true := by
      unfold hasX at h
      rw [ieq_iff]
      rw [← Bool.not_eq_true, ine_iff] at h
      exact Decidable.not_not.1 h
    rw [loop_nx (s' := (a, (n : Int), ((i + 1 : Nat) : Int))) (by simp only [t_additivelaw40_EmitFollows_L1, c1, if_true, f1, c2, i1])]
    exact ih (i + 1) n m g2 hw hn (by simp only [List.length_cons] at hm; omega)
  | move h hy ex ey ha hb hx l t ih =>
    rename_i a b d e r w1 w2
    intro i n m hr hw hn hm
    obtain ⟨m, rfl⟩ : ∃ j, m = j + 1 := ⟨m - 1, by omega⟩
    obtain ⟨g1, g2, g3, g4⟩ := get_drop hr
    have c1 : ilt (i : Int) (flen c) = true := ilt_tt (by rw [flen_eq]; omega)
    have f1 := fget_nat g1
    have i1 := isucc (i := i) (by omega)
    have c2 : ieq (iand .i64 e.Has 1) 0 = false := ieq_ff (ine_iff.1 h)
    have c3 : ieq (iand .i64 e.Has 2) 0 = false := ieq_ff (ine_iff.1 hy)
    have hp0 := hs.p0
    have c4 : ieq s.Pitch 0 = false := ieq_ff (by omega)
    obtain ⟨x1, x2⟩ := ctr_back hs (b := b.X) hb.1 hb.2.1
    obtain ⟨y1, y2⟩ := ctr_back hs (b := b.Y) hb.2.2.1 hb.2.2.2
    rw [← ex] at x1 x2
    rw [← ey] at y1 y2
    have c5 : ine e.X e.X = false := by rw [← Bool.not_eq_true, ine_iff]; exact fun h => h rfl
    have c6 : ine e.Y e.Y = false := by rw [← Bool.not_eq_true, ine_iff]; exact fun h => h rfl
    have c7 : beqB (ieq a.X b.X) (ieq a.Y b.Y) = false := by
      rcases hx with ⟨k1, k2⟩ | ⟨k1, k2⟩
      · rw [ieq_tt k1, ieq_ff k2]; rfl
      · rw [ieq_ff k1, ieq_tt k2]; rfl
    have cc : bor (bor (bor false false) false) (band false true) = false := rfl
    have hwl : w1.length + w2.length + n = v.l.length := by
      have := congrArg List.length hw
      rw [List.length_drop, List.length_append] at this
      omega
    have el := ln_loop (s := s) (c := c) hv (i := (i : Int)) l n bigN ha hb hw (bigN_gt (by omega))
    rw [loop_nx (s' := (b, ((n + w1.length : Nat) : Int), ((i + 1 : Nat) : Int)))]
    · exact ih (i + 1) (n + w1.length) m g2 (by rw [← List.drop_drop, hw, List.drop_left]) (by omega) (by simp only [List.length_cons] at hm; omega)
    · have eb : (⟨b.X, b.Y⟩ : api_Cell) = b := rfl
      simp only [t_additivelaw40_EmitFollows_L1, c1, if_true, f1, c2, c3, c4, x1, x2, y1, y2, c5, c6, c7, cc, Bool.false_eq_true, if_false, eb, el, i1]
theorem emitFollows_true (x : FS api_Op) (s : api_Settings) : t_additivelaw40_EmitFollows x s = some true := by
  obtain ⟨y, ey, hF⟩ := few_ok x
  obtain ⟨c, e, h1, h2⟩ := Commands_ok (s := s) y hF
  have hlen := cmdsS_len (s := s) hF
  rw [← h2] at hlen
  simp only at hlen
  obtain ⟨v, k, h3, h4⟩ := visited_ok hF
  unfold t_additivelaw40_EmitFollows
  rw [ey]
  simp only
  rw [h1]
  simp only
  rw [h3]
  simp only
  by_cases hc : bor (ine e 0) (bnot k) = true
  · rw [if_pos hc]; rfl
  rw [if_neg hc]
  simp only [bor_iff, ine_iff, bnot_iff, not_or, ne_eq, Decidable.not_not] at hc
  obtain ⟨rfl, rfl⟩ := hc
  have hv := h4 rfl
  have hvl := visOps_len _ _ _ _ hF.2 hv
  have hx := hF.1
  simp only [List.length_nil] at hvl
  unfold cmdsS at h2
  split at h2
  · rename_i hval
    have hs := okS_of hval
    split at h2
    · split at h2
      · exact absurd (congrArg Prod.snd h2) (by simp)
      · rename_i out ho
        obtain rfl : c.l = out := congrArg Prod.fst h2
        obtain ⟨t, w, b, e1, e2, e3⟩ := run_fo hs _ _ _ _ _ _ _ _ _ (by unfold OnG; simp) ho hv
        rw [List.nil_append] at e1 e2
        have ef := foll_loop hs (c := c) (v := v) (by omega) (by omega) e3 0 0 bigN e1 e2 (by omega) (bigN_gt (by rw [← e1]; omega))
        have ef : loopT (t_additivelaw40_EmitFollows_L1 s c v) bigN (⟨0, 0⟩, 0, 0) = some (.inr (v.l.length : Int)) := ef
        rw [ef]
        have ce : ieq (v.l.length : Int) (flen v) = true := ieq_tt rfl
        simp only
        rw [ce]
        rfl
    · exact absurd (congrArg Prod.snd h2) (by simp)
  · exact absurd (congrArg Prod.snd h2) (by simp)
end Go.Proofs.Ytchiiiahgmfofaa
