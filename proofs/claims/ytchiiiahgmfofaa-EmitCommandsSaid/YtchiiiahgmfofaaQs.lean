/- emit: the reference's Commands; EmitCommands. Conditions: none. -/
import Derived.Test.YtchiiiahgmfofaaQr
namespace Go.Proofs.Ytchiiiahgmfofaa
open Go Go.Vv Go.Proofs
set_option linter.unusedSimpArgs false
set_option linter.unusedVariables false
set_option linter.unusedSectionVars false
set_option maxRecDepth 10000
theorem rturns_eq (a b c : api_Cell) : u_additiveref40_turns a b c = turnB a b c := by
  simp only [turnB, u_emit_direction, u_additiveref40_turns, ieq, ine, band, bor, bnot, bne, Bool.and_true, Bool.not_and]
theorem rcorn_loop (x : FS api_Cell) (hL : x.l.length ≤ 1000000) : ∀ (rest : List api_Cell) (i : Nat) (a : api_Cell) (out : FS Int) (n : Nat), x.l.drop i = rest → out.l.length ≤ i → i ≤ x.l.length → rest.length < n →
    ∃ y, loopT (t_additiveref40_corners_L0 x) n (out, a, (i : Int)) = some y ∧ y.l = out.l ++ (corn rest a i).map fun k : Nat => (k : Int)
  | [], i, a, out, n, hr, ho, hi, hn => by
    obtain ⟨m, rfl⟩ : ∃ m, n = m + 1 := ⟨n - 1, by omega⟩
    have hlen : x.l.length ≤ i := by
      have := congrArg List.length hr
      rw [List.length_drop] at this
      simp at this
      omega
    have c1 : ilt (i : Int) (flen x) = false := ilt_ff (by rw [flen_eq]; omega)
    exact ⟨out, loop_dn (by simp only [t_additiveref40_corners_L0, c1, Bool.false_eq_true, if_false]), by simp [corn]⟩
  | c :: rest, i, a, out, n, hr, ho, hi, hn => by
    obtain ⟨m, rfl⟩ : ∃ m, n = m + 1 := ⟨n - 1, by omega⟩
    obtain ⟨g1, g2, g3, g4⟩ := get_drop hr
    have c1 : ilt (i : Int) (flen x) = true := ilt_tt (by rw [flen_eq]; omega)
    have f1 := fget_nat g1
    have a1 : iadd .i64 (i : Int) 1 = ((i + 1 : Nat) : Int) := isucc (by omega)
    have s1 : isub .i64 (flen x) 1 = (x.l.length : Int) - 1 := by rw [flen_eq, isub_eq (by omega) (by omega)]
    have t2 : fits 8 (flen out + 1) = true := fits_len (l := out.l) (by omega) (by omega)
    cases rest with
    | nil =>
      have e1 : ieq (i : Int) (isub .i64 (flen x) 1) = true := ieq_tt (by rw [s1]; simp at g4; omega)
      obtain ⟨y, e, hy⟩ := rcorn_loop x hL [] (i + 1) c (fsnoc out (i : Int)) m g2 (by simp [fsnoc_l]; omega) (by omega) (by simp at hn ⊢; omega)
      refine ⟨y, ?_, by rw [hy]; simp [corn, fsnoc_l]⟩
      rw [loop_nx (s' := (fsnoc out (i : Int), c, ((i + 1 : Nat) : Int))), e]
      simp only [t_additiveref40_corners_L0, c1, if_true, f1, e1, bnot_t, gOpt_ff, bor_t, t2, a1]
    | cons d rest =>
      obtain ⟨q1, q2, q3, q4⟩ := get_drop g2
      have e1 : ieq (i : Int) (isub .i64 (flen x) 1) = false := ieq_ff (by rw [s1]; omega)
      have f2 : fget x ((i + 1 : Nat) : Int) = some d := fget_nat q1
      by_cases ht : turnB a c d = true
      · obtain ⟨y, e, hy⟩ := rcorn_loop x hL (d :: rest) (i + 1) c (fsnoc out (i : Int)) m g2 (by simp [fsnoc_l]; omega) (by omega) (by simp at hn ⊢; omega)
        refine ⟨y, ?_, by rw [hy]; simp [corn, ht, fsnoc_l]⟩
        rw [loop_nx (s' := (fsnoc out (i : Int), c, ((i + 1 : Nat) : Int))), e]
        simp only [t_additiveref40_corners_L0, c1, if_true, f1, e1, bnot_f, a1, f2, gOpt_tt, Option.getD_some, rturns_eq, ht, bor_f, t2]
      · obtain ⟨y, e, hy⟩ := rcorn_loop x hL (d :: rest) (i + 1) c out m g2 (by omega) (by omega) (by simp at hn ⊢; omega)
        rw [Bool.not_eq_true] at ht
        refine ⟨y, ?_, by rw [hy]; simp [corn, ht]⟩
        rw [loop_nx (s' := (out, c, ((i + 1 : Nat) : Int))), e]
        simp only [t_additiveref40_corners_L0, c1, if_true, f1, e1, bnot_f, a1, f2, gOpt_tt, Option.getD_some, rturns_eq, ht, bor_f, Bool.false_eq_true, if_false]
theorem rcorn_ok (x : FS api_Cell) (a : api_Cell) (hL : x.l.length ≤ 1000000) : ∃ y, t_additiveref40_corners x a = some y ∧ y.l = (corn x.l a 0).map fun k : Nat => (k : Int) := by
  obtain ⟨y, e, hy⟩ := rcorn_loop x hL x.l 0 a .nil bigN rfl (by simp [FS.l]) (Nat.zero_le _) (bigN_gt (by omega))
  change loopT (t_additiveref40_corners_L0 x) bigN (.nil, a, 0) = _ at e
  refine ⟨y, ?_, by rw [hy]; simp [FS.l]⟩
  unfold t_additiveref40_corners
  rw [e]
theorem rCenter_ok {s : api_Settings} (hs : OkS s) {c : api_Cell} (hc : OnG c) : t_additiveref19_Center c s.Pitch = some ⟨ctr s c.X, ctr s c.Y⟩ := by
  have hp0 := hs.p0
  have hp1 := hs.p1
  obtain ⟨x0, x1, y0, y1⟩ := hc
  have g : ∀ v : Int, -4096 ≤ v → v < 4096 → iadd .i64 (imul .i64 v s.Pitch) (iquo .i64 s.Pitch 2) = ctr s v := fun v h0 h1 => by
    have m0 : -4096 * 1024 ≤ v * s.Pitch := by
      have a1 : -4096 * s.Pitch ≤ v * s.Pitch := Int.mul_le_mul_of_nonneg_right h0 (by omega)
      omega
    have m1 : v * s.Pitch ≤ 4096 * 1024 := by
      have a1 : v * s.Pitch ≤ 4096 * s.Pitch := Int.mul_le_mul_of_nonneg_right (by omega) (by omega)
      omega
    unfold ctr
    rw [iquo_eq (by omega) (by omega) (by omega), imul_eq (by omega) (by omega), iadd_eq (by omega) (by omega)]
  unfold t_additiveref19_Center
  rw [g c.X x0 x1, g c.Y y0 y1, if_neg]
  simp only [bor_iff, ilt_iff, ige_iff, igt_iff]
  omega
/-- The reference's state. -/
structure RfS (s : api_Settings) (n : Nat) (a : api_Cell) (fd : Int) (out : List api_Cmd) (ok : Prop) (p : additiveref40_state) : Prop where
  set : p.S = s
  cel : p.Cells = (n : Int)
  noz : p.At = a
  fee : p.Feed = fd
  out : p.Out.l = out
  yes : p.Bad = false ↔ ok
theorem eta_rf (p : additiveref40_state) : (⟨p.S, p.At, p.Cells, p.Feed, p.Out, p.Bad⟩ : additiveref40_state) = p := rfl
theorem RfS.congr {s : api_Settings} {n : Nat} {a : api_Cell} {fd fd' : Int} {out out' : List api_Cmd} {ok ok' : Prop} {p : additiveref40_state} (h : RfS s n a fd out ok p) (h1 : fd = fd') (h2 : out = out') (h3 : ok ↔ ok') : RfS s n a fd' out' ok' p := by
  subst h1 h2
  exact ⟨h.set, h.cel, h.noz, h.fee, h.out, h.yes.trans h3⟩
theorem radd_ok {s : api_Settings} {n : Nat} {a : api_Cell} {fd : Int} {out : List api_Cmd} {ok : Prop} {p : additiveref40_state} (h : RfS s n a fd out ok p) (hout : out.length ≤ 1000000) {q : RawC} (hq : RawOK q) :
    ∃ p2, t_additiveref40_state_add p q.1 q.2 = some p2 ∧ RfS s n a (spf fd q.2) (out ++ [spd fd q.1 q.2]) (ok ∧ Vld (spd fd q.1 q.2)) p2 := by
  have hP := spd_pair hq fd
  obtain ⟨v, ev, hv⟩ := rValidC_ok hP
  have hf : fits 64 (flen p.Out + 1) = true := fits_len (l := p.Out.l) (by rw [h.out]; omega) (by omega)
  have hH : q.1.Has ≤ 1000 ∧ 0 ≤ q.1.Has := by
    obtain ⟨-, ⟨-, h1⟩ | ⟨-, h1⟩⟩ := hq <;> simp only [List.mem_cons, List.not_mem_nil, or_false, Prod.mk.injEq] at h1 <;> omega
  have hi : iadd .i64 q.1.Has 16 = q.1.Has + 16 := iadd_eq (by omega) (by omega)
  unfold t_additiveref40_state_add
  by_cases hc : q.2 ≠ 0 ∧ q.2 ≠ fd
  · have c1 : band (ine q.2 0) (ine q.2 p.Feed) = true := by rw [band_iff, ine_iff, ine_iff, h.fee]; exact hc
    have hs : spd fd q.1 q.2 = ⟨q.1.Code, q.1.Has + 16, q.1.X, q.1.Y, q.1.Z, q.1.E, q.2, q.1.S⟩ := by unfold spd; rw [if_pos hc]
    rw [hs] at ev hv ⊢
    have hfe : spf fd q.2 = q.2 := by unfold spf; rw [if_pos hc.1]
    simp only [c1, if_true, hi, ev, hf, hfe]
    cases v with
    | false =>
      have hn := fun hh => Bool.false_ne_true (hv.2 hh)
      exact ⟨_, rfl, ⟨h.set, h.cel, h.noz, rfl, by simp only [fsnoc_l, h.out], ⟨fun hh => (by cases hh), fun hh => absurd hh.2 hn⟩⟩⟩
    | true =>
      exact ⟨_, rfl, ⟨h.set, h.cel, h.noz, rfl, by simp only [fsnoc_l, h.out], ⟨fun hh => ⟨h.yes.1 hh, hv.1 rfl⟩, fun hh => h.yes.2 hh.1⟩⟩⟩
  · have c1 : band (ine q.2 0) (ine q.2 p.Feed) = false := by rw [← Bool.not_eq_true, band_iff, ine_iff, ine_iff, h.fee]; exact hc
    have hs : spd fd q.1 q.2 = q.1 := by unfold spd; rw [if_neg hc]
    rw [hs] at ev hv ⊢
    have hfe : spf fd q.2 = fd := by
      unfold spf
      by_cases h0 : q.2 = 0
      · rw [if_neg (by omega)]
      · have : q.2 = fd := by
          by_cases h1 : q.2 = fd
          · exact h1
          · exact absurd ⟨h0, h1⟩ hc
        rw [if_pos h0, this]
    simp only [c1, Bool.false_eq_true, if_false, ev, hf, if_true, hfe]
    cases v with
    | false =>
      have hn := fun hh => Bool.false_ne_true (hv.2 hh)
      exact ⟨_, rfl, ⟨h.set, h.cel, h.noz, h.fee, by simp only [fsnoc_l, h.out], ⟨fun hh => (by cases hh), fun hh => absurd hh.2 hn⟩⟩⟩
    | true =>
      exact ⟨_, rfl, ⟨h.set, h.cel, h.noz, h.fee, by simp only [fsnoc_l, h.out], ⟨fun hh => ⟨h.yes.1 hh, hv.1 rfl⟩, fun hh => h.yes.2 hh.1⟩⟩⟩
theorem ramount_ok (p : additiveref40_state) (hv : u_flow_Valid p.S = true) {n k : Nat} (hc : p.Cells = (n : Int)) (hn : n + k ≤ 1048576) : t_additiveref40_state_amount p (k : Int) = some (fil p.S (n + k)) := by
  have hs := okS_of hv
  have e : iadd .i64 p.Cells (k : Int) = ((n + k : Nat) : Int) := by rw [hc, iadd_eq (by omega) (by omega)]; omega
  obtain ⟨_, _, _, _, h5, h6⟩ := vol_bound hs hn
  have hd := hs.d0
  have c1 : ieq p.S.Drop 0 = false := ieq_ff (by omega)
  unfold t_additiveref40_state_amount
  rw [e, rVolume_ok hv hn]
  simp only [c1, Bool.false_eq_true, if_false]
  rw [iquo_eq h5 (by omega) (by omega)]
  rfl
section
variable {s : api_Settings} (hv : u_flow_Valid s = true) {o : api_Op} (hg : ∀ c ∈ o.Cells.l, OnG c) (h40 : o.Cells.l.length ≤ 40) (hsp : 1 ≤ o.Speed ∧ o.Speed ≤ 1048576)
include hv hg h40 hsp
/-- A list of raw commands, one for each corner, as 'move' makes it. -/
theorem move_ok {n first : Nat} (hn : n ≤ 2000) (hfi : first ≤ 1) {a : api_Cell} {fd : Int} {out : List api_Cmd} {ok : Prop} {p : additiveref40_state} (hp : RfS s n a fd out ok p) (hout : out.length ≤ 10000) {z : FS api_Cell} (hz : z.l = o.Cells.l.drop first)
    {R : List RawC} (hR : (o.Kind = 3 ∧ R = rawQ s o a n first) ∨ (¬ o.Kind = 3 ∧ first = 0 ∧ R = rawT s o a)) :
    ∃ q, t_additiveref40_state_move p o z (first : Int) = some q ∧ RfS s n a (feedL fd R) (out ++ emitL fd R) (ok ∧ AllV (emitL fd R)) q := by
  have hs := okS_of hv
  obtain ⟨e1, e2⟩ := speed_ok hv hg h40 hsp
  obtain ⟨y, ey, hy⟩ := rcorn_ok z a (by rw [hz, List.length_drop]; omega)
  rw [hz] at hy
  have hcl := corn_len (o.Cells.l.drop first) a 0
  rw [List.length_drop] at hcl
  have hRl : R.length = (corn (o.Cells.l.drop first) a 0).length := by
    rcases hR with ⟨-, rfl⟩ | ⟨-, rfl, rfl⟩
    · simp [rawQ]
    · simp [rawT]
  have hyl : y.l.length = R.length := by rw [hy, List.length_map, hRl]
  have key : ∃ q, loopT (t_additiveref40_state_move_L0 z (first : Int) o y) bigN (p, 0) = some q ∧ RfS s n a (feedL fd R) (out ++ emitL fd R) (ok ∧ AllV (emitL fd R)) q := by
    refine loop_ok (body := t_additiveref40_state_move_L0 z (first : Int) o y) (fun t => ∃ j : Nat, t.2 = j ∧ j ≤ R.length ∧ RfS s n a (feedL fd (R.take j)) (out ++ emitL fd (R.take j)) (ok ∧ AllV (emitL fd (R.take j))) t.1)
      (fun t => ((R.length : Int) - t.2).toNat) _ ?_ bigN (p, 0) ⟨0, rfl, by omega, hp.congr rfl (by simp [emitL]) ⟨fun h => ⟨h, fun c hc => by simp [emitL] at hc⟩, fun h => h.1⟩⟩ (bigN_gt (by simp only; omega))
    rintro ⟨q, j'⟩ ⟨j, hj', hj, hq⟩
    simp only at hj' hq
    subst hj'
    by_cases h : j < R.length
    · left
      have c1 : ilt (j : Int) (flen y) = true := ilt_tt (by rw [flen_eq]; omega)
      have hjc : j < (corn (o.Cells.l.drop first) a 0).length := by omega
      have hyj : y.l[j]? = some (((corn (o.Cells.l.drop first) a 0)[j] : Nat) : Int) := by rw [hy, List.getElem?_map, List.getElem?_eq_getElem hjc]; rfl
      have hk := corn_lt (o.Cells.l.drop first) a 0 _ (List.getElem_mem hjc)
      rw [List.length_drop] at hk
      generalize hkk : (corn (o.Cells.l.drop first) a 0)[j] = k at hyj hk
      have hck := cellAt_get (l := o.Cells.l) (k := first + k) (by omega)
      have hzk : z.l[k]? = some (cellAt o.Cells.l (first + k)) := by rw [hz, List.getElem?_drop]; exact hck
      have hgk := hg _ (List.mem_of_getElem? hck)
      have hcen : t_additiveref19_Center (cellAt o.Cells.l (first + k)) q.S.Pitch = some ⟨ctr s (cellAt o.Cells.l (first + k)).X, ctr s (cellAt o.Cells.l (first + k)).Y⟩ := by rw [hq.set]; exact rCenter_ok hs hgk
      have e1q : imul .i64 o.Speed q.S.Pitch = o.Speed * s.Pitch := by rw [hq.set]; exact e1
      have hol : (out ++ emitL fd (R.take j)).length ≤ 1000000 := by rw [List.length_append, emitL_len, List.length_take]; omega
      have fin : ∀ (c : api_Cmd), R[j] = (c, o.Speed * s.Pitch) → RawOK (c, o.Speed * s.Pitch) → ∃ p2, t_additiveref40_state_add q c (o.Speed * s.Pitch) = some p2 ∧ ∃ j2 : Nat, ((j + 1 : Nat) : Int) = j2 ∧ j2 ≤ R.length ∧ RfS s n a (feedL fd (R.take j2)) (out ++ emitL fd (R.take j2)) (ok ∧ AllV (emitL fd (R.take j2))) p2 := fun c hRj hok => by
        have htk : R.take (j + 1) = R.take j ++ [(c, o.Speed * s.Pitch)] := by rw [List.take_succ_eq_append_getElem h, hRj]
        obtain ⟨p2, g1, g2⟩ := radd_ok hq hol hok
        refine ⟨p2, g1, j + 1, rfl, by omega, ?_⟩
        rw [htk, emitL_snoc, feedL_snoc]
        refine g2.congr rfl (by simp) ?_
        rw [allV_snoc]
        exact ⟨fun hh => ⟨hh.1.1, hh.1.2, hh.2⟩, fun hh => ⟨⟨hh.1, hh.2.1⟩, hh.2.2⟩⟩
      rcases hR with ⟨hk3, hRe⟩ | ⟨hk3, hfz, hRe⟩
      · have i1 : iadd .i64 (first : Int) (k : Int) = ((first + k : Nat) : Int) := by rw [iadd_eq (by omega) (by omega)]; omega
        have i2 : iadd .i64 ((first + k : Nat) : Int) 1 = ((first + k + 1 : Nat) : Int) := isucc (by omega)
        have hfil : t_additiveref40_state_amount q ((first + k + 1 : Nat) : Int) = some (fil s (n + (first + k + 1))) := by
          have := ramount_ok q (by rw [hq.set]; exact hv) hq.cel (k := first + k + 1) (by omega)
          rwa [hq.set] at this
        have i3 : iadd .i64 3 8 = 11 := by decide
        have hRj : R[j] = (mv s 1 11 (cellAt o.Cells.l (first + k)) (fil s (n + (first + k + 1))), o.Speed * s.Pitch) := by subst hRe; simp only [rawQ, List.getElem_map, hkk]
        obtain ⟨p2, g1, g2⟩ := fin _ hRj ⟨rfl, .inr ⟨e2, by simp [mv]⟩⟩
        unfold mv at g1
        exact ⟨(p2, ((j + 1 : Nat) : Int)), by simp only [t_additiveref40_state_move_L0, c1, if_true, fget_nat hyj, fget_nat hzk, hcen, ieq_tt hk3, i1, i2, eta_rf, hfil, i3, e1q, g1, isucc (i := j) (by omega)], g2, by simp only; omega⟩
      · subst hfz
        rw [Nat.zero_add] at hzk hcen
        have hRj : R[j] = (mv s 0 3 (cellAt o.Cells.l k) 0, o.Speed * s.Pitch) := by
          subst hRe
          simp only [List.drop_zero] at hkk
          simp only [rawT, List.getElem_map, hkk]
        obtain ⟨p2, g1, g2⟩ := fin _ hRj ⟨rfl, .inr ⟨e2, by simp [mv]⟩⟩
        unfold mv at g1
        exact ⟨(p2, ((j + 1 : Nat) : Int)), by simp only [t_additiveref40_state_move_L0, c1, if_true, fget_nat hyj, fget_nat hzk, hcen, ieq_ff hk3, Bool.false_eq_true, if_false, eta_rf, e1q, g1, isucc (i := j) (by omega)], g2, by simp only; omega⟩
    · right
      have c1 : ilt (j : Int) (flen y) = false := ilt_ff (by rw [flen_eq]; omega)
      have ht : R.take j = R := List.take_of_length_le (by omega)
      rw [ht] at hq
      exact ⟨q, by simp only [t_additiveref40_state_move_L0, c1, Bool.false_eq_true, if_false, eta_rf], hq⟩
  obtain ⟨q, eq, hq⟩ := key
  unfold t_additiveref40_state_move
  rw [hp.noz, ey]
  have eq' : loopT (t_additiveref40_state_move_L0 z (first : Int) o y) bigN (⟨p.S, a, p.Cells, p.Feed, p.Out, p.Bad⟩, 0) = some q := by rw [← hp.noz]; exact eq
  simp only [eq', eta_rf]
  exact ⟨q, rfl, hq⟩
end
/-- What an operation leaves in the reference. -/
def RfRes (s : api_Settings) (n : Nat) (a : api_Cell) (fd : Int) (out : List api_Cmd) (o : api_Op) : Option (List RawC) → additiveref40_state → Prop
  | none, p => p.Bad = true
  | some q, p => RfS s (celAfter o n) (atAfter o a) (feedL fd q) (out ++ emitL fd q) (AllV (emitL fd q)) p
section
variable {s : api_Settings} (hv : u_flow_Valid s = true) {n : Nat} (hn : n ≤ 2000) {a : api_Cell} {fd : Int} {out : List api_Cmd} (hout : out.length ≤ 5000) {p : additiveref40_state} (hp : RfS s n a fd out True p) {o : api_Op} (hg : ∀ c ∈ o.Cells.l, OnG c) (h40 : o.Cells.l.length ≤ 40)
include hv hn hout hp hg h40
theorem path_op (hk : o.Kind = 2 ∨ o.Kind = 3) (e : Int) : ∃ q, t_additiveref40_state_path p o = some q ∧ RfRes s n a fd out o (rawOp s o e a n) q := by
  have hb : p.Bad = false := hp.yes.2 trivial
  have hr : rawOp s o e a n = if o.Cells.l = [] then some [] else if 1 ≤ o.Speed ∧ o.Speed ≤ 1048576 then some (if o.Kind = 2 then rawT s o a else rawP s o a n) else none := by
    unfold rawOp; rw [if_neg (by omega), if_pos hk]
  rw [hr]
  unfold t_additiveref40_state_path
  by_cases h0 : o.Cells.l = []
  · have l0 : flen o.Cells = 0 := by rw [flen_eq, h0]; rfl
    have c1 : igt (0 : Int) 0 = false := rfl
    have c2 : ieq (0 : Int) 0 = true := rfl
    have ha : atAfter o a = a := by unfold atAfter; rw [if_neg (fun h => h.2 h0)]
    have hc : celAfter o n = n := by unfold celAfter; split <;> simp [h0]
    rw [if_pos h0]
    simp only [l0, c1, c2, band_f, Bool.false_eq_true, if_false, bor_t, if_true, eta_rf]
    refine ⟨p, rfl, ?_⟩
    show RfS s (celAfter o n) (atAfter o a) _ _ _ _
    rw [ha, hc]
    exact hp.congr rfl (by simp [emitL]) ⟨fun _ c hc => by simp [emitL] at hc, fun _ => trivial⟩
  · rw [if_neg h0]
    have hpos := List.length_pos_iff.2 h0
    have c1 : igt (flen o.Cells) 0 = true := igt_tt (by rw [flen_eq]; omega)
    have c2 : ieq (flen o.Cells) 0 = false := ieq_ff (by rw [flen_eq]; omega)
    have ha : atAfter o a = cellAt o.Cells.l (o.Cells.l.length - 1) := by unfold atAfter; rw [if_pos ⟨hk, h0⟩]
    have hl : fget o.Cells (isub .i64 (flen o.Cells) 1) = some (cellAt o.Cells.l (o.Cells.l.length - 1)) := by
      have e : isub .i64 (flen o.Cells) 1 = ((o.Cells.l.length - 1 : Nat) : Int) := by rw [flen_eq, isub_eq (by omega) (by omega)]; omega
      rw [e]
      exact fget_nat (cellAt_get (by omega))
    by_cases h1 : 1 ≤ o.Speed ∧ o.Speed ≤ 1048576
    · rw [if_pos h1]
      have c3 : bor (ilt o.Speed 1) (igt o.Speed 1048576) = false := by rw [← Bool.not_eq_true, bor_iff, ilt_iff, igt_iff]; omega
      obtain ⟨e1, e2⟩ := speed_ok hv hg h40 h1
      have hfirst : fget o.Cells 0 = some (cellAt o.Cells.l 0) := fget_nat (i := 0) (cellAt_get hpos)
      by_cases k3 : o.Kind = 3
      · have q3 : ieq o.Kind 3 = true := ieq_tt k3
        have hc : celAfter o n = n + o.Cells.l.length := by unfold celAfter; rw [if_pos k3]
        rw [if_neg (show ¬ o.Kind = 2 by omega)]
        by_cases ht : cellAt o.Cells.l 0 = a
        · have hrp : rawP s o a n = (⟨1, 8, 0, 0, 0, fil s (n + 1), 0, 0⟩, o.Speed * s.Pitch) :: rawQ s o a n 1 := by unfold rawP; rw [if_pos ht]
          have c4 : band (ieq (cellAt o.Cells.l 0).X p.At.X) (band (ieq (cellAt o.Cells.l 0).Y p.At.Y) true) = true := q_cell.2 (by rw [hp.noz]; exact ht)
          have hfil : t_additiveref40_state_amount p 1 = some (fil s (n + 1)) := by
            have := ramount_ok p (by rw [hp.set]; exact hv) hp.cel (k := 1) (by omega)
            rwa [hp.set] at this
          have hok : RawOK (⟨1, 8, 0, 0, 0, fil s (n + 1), 0, 0⟩, o.Speed * s.Pitch) := ⟨rfl, .inr ⟨e2, by simp⟩⟩
          obtain ⟨p2, g1, g2⟩ := radd_ok hp (by omega) hok
          obtain ⟨z, ez, hz⟩ := fsl_drop (x := o.Cells) (i := 1) (by omega) h0
          obtain ⟨q, eq, hq⟩ := move_ok hv hg h40 h1 hn (first := 1) (by omega) g2 (by rw [List.length_append]; simp; omega) hz (.inl ⟨k3, rfl⟩)
          have e1p : imul .i64 o.Speed p.S.Pitch = o.Speed * s.Pitch := by rw [hp.set]; exact e1
          have hce : iadd .i64 q.Cells (flen o.Cells) = ((n + o.Cells.l.length : Nat) : Int) := by rw [hq.cel, flen_eq, iadd_eq (by omega) (by omega)]; omega
          rw [show ((1 : Nat) : Int) = 1 from rfl] at ez eq
          refine ⟨⟨q.S, cellAt o.Cells.l (o.Cells.l.length - 1), iadd .i64 q.Cells (flen o.Cells), q.Feed, q.Out, q.Bad⟩, ?_, ?_⟩
          · simp only [c1, c2, c3, band_f', band_t, Bool.false_eq_true, if_false, hb, show bor false false = false from rfl, q3, hfirst, gOpt_tt, Option.getD_some, c4, if_true] at g1 ⊢
            have hpe : (⟨p.S, p.At, p.Cells, p.Feed, p.Out, false⟩ : additiveref40_state) = p := by rw [← hb]
            simp only [hpe, hfil, e1p, g1, ez, eta_rf, eq, hl]
          · show RfS s (celAfter o n) (atAfter o a) _ _ _ _
            rw [hc, ha, hrp]
            have hq' : RfS s n a (feedL fd ((⟨1, 8, 0, 0, 0, fil s (n + 1), 0, 0⟩, o.Speed * s.Pitch) :: rawQ s o a n 1)) (out ++ emitL fd ((⟨1, 8, 0, 0, 0, fil s (n + 1), 0, 0⟩, o.Speed * s.Pitch) :: rawQ s o a n 1)) (AllV (emitL fd ((⟨1, 8, 0, 0, 0, fil s (n + 1), 0, 0⟩, o.Speed * s.Pitch) :: rawQ s o a n 1))) q := by
              refine hq.congr ?_ ?_ ?_
              · simp only [feedL]
              · simp only [emitL, List.append_assoc, List.singleton_append]
              · simp only [emitL, AllV, List.mem_cons, forall_eq_or_imp, true_and]
            exact ⟨hq'.set, hce, rfl, hq'.fee, hq'.out, hq'.yes⟩
        · have hrp : rawP s o a n = rawQ s o a n 0 := by unfold rawP; rw [if_neg ht]
          have c4 : band (ieq (cellAt o.Cells.l 0).X p.At.X) (band (ieq (cellAt o.Cells.l 0).Y p.At.Y) true) = false := by rw [← Bool.not_eq_true, q_cell, hp.noz]; exact ht
          obtain ⟨q, eq, hq⟩ := move_ok hv hg h40 h1 hn (first := 0) (by omega) hp (by omega) (z := o.Cells) rfl (.inl ⟨k3, rfl⟩)
          have hce : iadd .i64 q.Cells (flen o.Cells) = ((n + o.Cells.l.length : Nat) : Int) := by rw [hq.cel, flen_eq, iadd_eq (by omega) (by omega)]; omega
          rw [show ((0 : Nat) : Int) = 0 from rfl] at eq
          refine ⟨⟨q.S, cellAt o.Cells.l (o.Cells.l.length - 1), iadd .i64 q.Cells (flen o.Cells), q.Feed, q.Out, q.Bad⟩, ?_, ?_⟩
          · have hpe : (⟨p.S, p.At, p.Cells, p.Feed, p.Out, false⟩ : additiveref40_state) = p := by rw [← hb]
            simp only [c1, c2, c3, band_f', band_t, Bool.false_eq_true, if_false, hb, show bor false false = false from rfl, q3, hfirst, gOpt_tt, Option.getD_some, c4, if_true, hpe, eq, hl]
          · show RfS s (celAfter o n) (atAfter o a) _ _ _ _
            rw [hc, ha, hrp]
            have hq := hq.congr rfl rfl ⟨fun h => h.2, fun h => ⟨trivial, h⟩⟩
            exact ⟨hq.set, hce, rfl, hq.fee, hq.out, hq.yes⟩
      · have q3 : ieq o.Kind 3 = false := ieq_ff k3
        have hc : celAfter o n = n := by unfold celAfter; rw [if_neg k3]
        rw [if_pos (show o.Kind = 2 by omega)]
        obtain ⟨q, eq, hq⟩ := move_ok hv hg h40 h1 hn (first := 0) (by omega) hp (by omega) (z := o.Cells) rfl (.inr ⟨k3, rfl, rfl⟩)
        rw [show ((0 : Nat) : Int) = 0 from rfl] at eq
        refine ⟨⟨q.S, cellAt o.Cells.l (o.Cells.l.length - 1), q.Cells, q.Feed, q.Out, q.Bad⟩, ?_, ?_⟩
        · have hpe : (⟨p.S, p.At, p.Cells, p.Feed, p.Out, false⟩ : additiveref40_state) = p := by rw [← hb]
          simp only [c1, c2, c3, band_f', band_t, band_f, Bool.false_eq_true, if_false, hb, show bor false false = false from rfl, q3, gOpt_ff, Option.getD_none, hpe, eq, hl]
        · show RfS s (celAfter o n) (atAfter o a) _ _ _ _
          rw [hc, ha]
          have hq := hq.congr rfl rfl ⟨fun h => h.2, fun h => ⟨trivial, h⟩⟩
          exact ⟨hq.set, hq.cel, rfl, hq.fee, hq.out, hq.yes⟩
    · rw [if_neg h1]
      have c3 : bor (ilt o.Speed 1) (igt o.Speed 1048576) = true := by rw [bor_iff, ilt_iff, igt_iff]; omega
      refine ⟨⟨p.S, p.At, p.Cells, p.Feed, p.Out, true⟩, ?_, rfl⟩
      simp only [c1, c2, c3, band_t, if_true, bor_f]
theorem rone_res {q : RawC} {q' : additiveref40_state} (h1 : ¬ o.Kind = 2) (h2 : ¬ o.Kind = 3) (h : RfS s n a (spf fd q.2) (out ++ [spd fd q.1 q.2]) (True ∧ Vld (spd fd q.1 q.2)) q') : RfRes s n a fd out o (some [q]) q' := by
  have hc : celAfter o n = n := by unfold celAfter; rw [if_neg h2]
  have ha : atAfter o a = a := by unfold atAfter; rw [if_neg (by omega)]
  show RfS s (celAfter o n) (atAfter o a) _ _ _ _
  rw [hc, ha]
  refine h.congr rfl rfl ?_
  simp only [emitL, AllV, List.mem_singleton, forall_eq, true_and]
omit hv hn hout hp hg h40 in
theorem ok107 : RawOK (⟨1107, 0, 0, 0, 0, 0, 0, 0⟩, 0) := ⟨rfl, .inl ⟨rfl, by simp⟩⟩
omit hv hn hout hp hg h40 in
theorem ok106 (v : Int) : RawOK (⟨1106, 32, 0, 0, 0, 0, 0, v⟩, 0) := ⟨rfl, .inl ⟨rfl, by simp⟩⟩
theorem rfan_op (k6 : o.Kind = 6) (e : Int) : ∃ q, (o.Speed = 0 → t_additiveref40_state_add p (⟨1107, 0, 0, 0, 0, 0, 0, 0⟩ : api_Cmd) 0 = some q) ∧ (¬ o.Speed = 0 → t_additiveref40_state_add p (⟨1106, 32, 0, 0, 0, 0, 0, o.Speed⟩ : api_Cmd) 0 = some q) ∧ RfRes s n a fd out o (rawOp s o e a n) q := by
  have hr : rawOp s o e a n = some [(if o.Speed = 0 then ⟨1107, 0, 0, 0, 0, 0, 0, 0⟩ else ⟨1106, 32, 0, 0, 0, 0, 0, o.Speed⟩, 0)] := by unfold rawOp; rw [if_neg (by omega), if_neg (by omega), if_neg (by omega), if_pos k6]
  rw [hr]
  by_cases h0 : o.Speed = 0
  · obtain ⟨p2, g1, g2⟩ := radd_ok hp (by omega) ok107
    simp only at g1
    refine ⟨p2, fun _ => g1, fun h => absurd h0 h, ?_⟩
    rw [if_pos h0]
    exact rone_res hv hn hout hp hg h40 (by omega) (by omega) g2
  · obtain ⟨p2, g1, g2⟩ := radd_ok hp (by omega) (ok106 o.Speed)
    simp only at g1
    refine ⟨p2, fun h => absurd h h0, fun _ => g1, ?_⟩
    rw [if_neg h0]
    exact rone_res hv hn hout hp hg h40 (by omega) (by omega) g2
theorem rop_ok (e : Int) : ∃ q, t_additiveref40_state_op p o e = some q ∧ RfRes s n a fd out o (rawOp s o e a n) q := by
  have hs := okS_of hv
  unfold t_additiveref40_state_op
  by_cases k1 : o.Kind = 1
  · have ht : 0 < s.Travel := by have := hs.t0; omega
    have hr : rawOp s o e a n = some [(⟨0, 4, 0, 0, o.Z, 0, 0, 0⟩, s.Travel)] := by unfold rawOp; rw [if_pos k1]
    have hok : RawOK (⟨0, 4, 0, 0, o.Z, 0, 0, 0⟩, s.Travel) := ⟨rfl, .inr ⟨ht, by simp⟩⟩
    obtain ⟨p2, g1, g2⟩ := radd_ok hp (by omega) hok
    simp only at g1
    have g1' : t_additiveref40_state_add p ⟨0, 4, 0, 0, o.Z, 0, 0, 0⟩ p.S.Travel = some p2 := by rw [hp.set]; exact g1
    refine ⟨p2, by rw [ieq_tt k1, if_pos rfl, eta_rf, g1'], ?_⟩
    rw [hr]
    exact rone_res hv hn hout hp hg h40 (by omega) (by omega) g2
  have q1 := ieq_ff k1
  by_cases k2 : o.Kind = 2
  · obtain ⟨q, eq, hq⟩ := path_op hv hn hout hp hg h40 (.inl k2) e
    exact ⟨q, by rw [q1, if_neg (by simp), ieq_tt k2, if_pos rfl, eta_rf, eq], hq⟩
  have q2 := ieq_ff k2
  by_cases k3 : o.Kind = 3
  · obtain ⟨q, eq, hq⟩ := path_op hv hn hout hp hg h40 (.inr k3) e
    exact ⟨q, by rw [q1, if_neg (by simp), q2, if_neg (by simp), ieq_tt k3, if_pos rfl, eta_rf, eq], hq⟩
  have q3 := ieq_ff k3
  by_cases k45 : o.Kind = 4 ∨ o.Kind = 5
  · have hr : rawOp s o e a n = some [(⟨1, 8, 0, 0, 0, e, 0, 0⟩, 0)] := by unfold rawOp; rw [if_neg (by omega), if_neg (by omega), if_pos k45]
    have hok : RawOK (⟨1, 8, 0, 0, 0, e, 0, 0⟩, 0) := ⟨rfl, .inl ⟨rfl, by simp⟩⟩
    obtain ⟨p2, g1, g2⟩ := radd_ok hp (by omega) hok
    simp only at g1
    refine ⟨p2, ?_, ?_⟩
    · by_cases k4 : o.Kind = 4
      · rw [q1, if_neg (by simp), q2, if_neg (by simp), q3, if_neg (by simp), ieq_tt k4, if_pos rfl, eta_rf, g1]
      · rw [q1, if_neg (by simp), q2, if_neg (by simp), q3, if_neg (by simp), ieq_ff k4, if_neg (by simp), ieq_tt (show o.Kind = 5 by omega), if_pos rfl, eta_rf, g1]
    · rw [hr]
      exact rone_res hv hn hout hp hg h40 (by omega) (by omega) g2
  have q4 := ieq_ff (show ¬ o.Kind = 4 by omega)
  have q5 := ieq_ff (show ¬ o.Kind = 5 by omega)
  by_cases k6 : o.Kind = 6
  · obtain ⟨q, eq, eq', hq⟩ := rfan_op hv hn hout hp hg h40 k6 e
    refine ⟨q, ?_, hq⟩
    by_cases h0 : o.Speed = 0
    · rw [q1, if_neg (by simp), q2, if_neg (by simp), q3, if_neg (by simp), q4, if_neg (by simp), q5, if_neg (by simp), ieq_tt k6, if_pos rfl, ieq_tt h0, if_pos rfl, eta_rf, eq h0]
    · rw [q1, if_neg (by simp), q2, if_neg (by simp), q3, if_neg (by simp), q4, if_neg (by simp), q5, if_neg (by simp), ieq_tt k6, if_pos rfl, ieq_ff h0, if_neg (by simp), eta_rf, eq' h0]
  · have hr : rawOp s o e a n = some [] := by unfold rawOp; rw [if_neg (by omega), if_neg (by omega), if_neg (by omega), if_neg (by omega)]
    have hc : celAfter o n = n := by unfold celAfter; rw [if_neg (by omega)]
    have ha : atAfter o a = a := by unfold atAfter; rw [if_neg (by omega)]
    refine ⟨p, by rw [q1, if_neg (by simp), q2, if_neg (by simp), q3, if_neg (by simp), q4, if_neg (by simp), q5, if_neg (by simp), ieq_ff k6, if_neg (by simp), eta_rf], ?_⟩
    rw [hr]
    show RfS s (celAfter o n) (atAfter o a) _ _ _ _
    rw [hc, ha]
    exact hp.congr rfl (by simp [emitL]) ⟨fun _ c hc => by simp [emitL] at hc, fun _ => trivial⟩
end
theorem rin_ok {x : FS api_Op} {y : FS Int} {i : Nat} {o : api_Op} (hx : x.l[i]? = some o) (h40 : o.Cells.l.length ≤ 40) (p : additiveref40_state) :
    ∃ v, loopT (t_additiveref40_Commands_L0 x y p (i : Int)) bigN 0 = some v ∧ (((∀ c ∈ o.Cells.l, OnG c) ∧ v = .inr ()) ∨ (¬ (∀ c ∈ o.Cells.l, OnG c) ∧ v = .inl (.nil, 8))) := by
  have hok : ∀ c : api_Cell, u_additiveref40_ok c = true ↔ OnG c := fun c => by simp only [u_additiveref40_ok, band_iff, ige_iff, ilt_iff, OnG]; omega
  refine loop_ok (body := t_additiveref40_Commands_L0 x y p (i : Int)) (fun s => ∃ j : Nat, s = j ∧ j ≤ o.Cells.l.length ∧ ∀ k, k < j → ∀ d, o.Cells.l[k]? = some d → OnG d) (fun s => ((o.Cells.l.length : Int) - s).toNat) _ ?_
    bigN 0 ⟨0, rfl, by omega, fun j hj => by omega⟩ (bigN_gt (by omega))
  rintro _ ⟨j, rfl, hj, hjj⟩
  by_cases h : j < o.Cells.l.length
  · have c1 : ilt (j : Int) (flen o.Cells) = true := ilt_tt (by rw [flen_eq]; omega)
    have g := fget_at h
    by_cases hg : OnG o.Cells.l[j]
    · left
      have ho : bnot (u_additiveref40_ok o.Cells.l[j]) = false := by rw [(hok _).2 hg]; rfl
      refine ⟨((j + 1 : Nat) : Int), ?_, ⟨j + 1, rfl, by omega, fun k hk d hd => ?_⟩, by omega⟩
      · simp only [t_additiveref40_Commands_L0, fget_nat hx, c1, if_true, g, ho, Bool.false_eq_true, if_false, isucc (i := j) (by omega)]
      · by_cases hkj : k < j
        · exact hjj k hkj d hd
        · have : k = j := by omega
          subst this
          rw [List.getElem?_eq_getElem h] at hd
          cases hd
          exact hg
    · right
      have ho : bnot (u_additiveref40_ok o.Cells.l[j]) = true := by rw [bnot_iff, hok]; exact hg
      exact ⟨.inl (.nil, 8), by simp only [t_additiveref40_Commands_L0, fget_nat hx, c1, if_true, g, ho], .inr ⟨fun hh => hg (hh _ (List.getElem_mem h)), rfl⟩⟩
  · right
    have c1 : ilt (j : Int) (flen o.Cells) = false := ilt_ff (by rw [flen_eq]; omega)
    refine ⟨.inr (), by simp only [t_additiveref40_Commands_L0, fget_nat hx, c1, Bool.false_eq_true, if_false], .inl ⟨fun c hc => ?_, rfl⟩⟩
    obtain ⟨k, hk, rfl⟩ := List.getElem_of_mem hc
    exact hjj k (by omega) _ (List.getElem?_eq_getElem hk)
theorem rcmds_loop {s : api_Settings} (hv : u_flow_Valid s = true) {x : FS api_Op} (hF : Few x.l) {y : FS Int} (hyl : y.l.length = x.l.length) : ∀ (rest : List api_Op) (i n : Nat) (a : api_Cell) (fd : Int) (out : List api_Cmd) (p : additiveref40_state) (m : Nat), x.l.drop i = rest → n ≤ 40 * i → out.length ≤ 42 * i → RfS s n a fd out True p → rest.length < m →
    ∃ v, loopT (t_additiveref40_Commands_L1 x y) m (p, (i : Int)) = some v ∧ ((cmdsR s rest (y.l.drop i) a n fd out = none ∧ v = .inl (.nil, 8)) ∨ ∃ p', v = .inr p' ∧ cmdsR s rest (y.l.drop i) a n fd out = some p'.Out.l)
  | [], i, n, a, fd, out, p, m, hr, hn, ho, hp, hm => by
    obtain ⟨m, rfl⟩ : ∃ k, m = k + 1 := ⟨m - 1, by omega⟩
    have hlen : x.l.length ≤ i := by
      have := congrArg List.length hr
      rw [List.length_drop] at this
      simp at this
      omega
    have c1 : ilt (i : Int) (flen x) = false := ilt_ff (by rw [flen_eq]; omega)
    refine ⟨.inr p, loop_dn (by simp only [t_additiveref40_Commands_L1, c1, Bool.false_eq_true, if_false, eta_rf]), .inr ⟨p, rfl, ?_⟩⟩
    rw [hp.out]; rfl
  | o :: rest, i, n, a, fd, out, p, m, hr, hn, ho, hp, hm => by
    obtain ⟨m, rfl⟩ : ∃ k, m = k + 1 := ⟨m - 1, by omega⟩
    obtain ⟨g1, g2, g3, g4⟩ := get_drop hr
    have hx := hF.1
    have h40 := hF.2 o (List.mem_of_getElem? g1)
    have hyi : i < y.l.length := by omega
    have hye := fget_nat (List.getElem?_eq_getElem hyi)
    have hyd : y.l.drop i = y.l[i] :: y.l.drop (i + 1) := List.drop_eq_getElem_cons hyi
    have c1 : ilt (i : Int) (flen x) = true := ilt_tt (by rw [flen_eq]; omega)
    obtain ⟨w, ew, hw⟩ := rin_ok (y := y) g1 h40 p
    rw [hyd]
    unfold cmdsR
    rcases hw with ⟨hg, rfl⟩ | ⟨hg, rfl⟩
    · obtain ⟨q, eq, hq⟩ := rop_ok hv (by omega) (by omega) hp hg h40 y.l[i]
      rw [if_pos hg]
      simp only [List.headD_cons, List.tail_cons]
      have body : t_additiveref40_Commands_L1 x y (p, (i : Int)) = if q.Bad = true then some (.dn (.inl (.nil, 8))) else some (.nx (q, ((i + 1 : Nat) : Int))) := by
        simp only [t_additiveref40_Commands_L1, c1, if_true, eta_rf, ew, fget_nat g1, hye, eq, isucc (i := i) (by omega)]
      cases hr' : rawOp s o y.l[i] a n with
      | none =>
        rw [hr'] at hq
        have hc : q.Bad = true := hq
        rw [if_pos hc] at body
        exact ⟨_, loop_dn body, .inl ⟨rfl, rfl⟩⟩
      | some w =>
        rw [hr'] at hq
        have hq : RfS s (celAfter o n) (atAfter o a) (feedL fd w) (out ++ emitL fd w) (AllV (emitL fd w)) q := hq
        have hwl := rawOp_len hr' h40
        simp only
        by_cases hA : AllV (emitL fd w)
        · rw [if_pos hA]
          have c2 := hq.yes.2 hA
          rw [c2, if_neg (by simp)] at body
          obtain ⟨v, ev, hv'⟩ := rcmds_loop hv hF hyl rest (i + 1) (celAfter o n) (atAfter o a) (feedL fd w) (out ++ emitL fd w) q m g2 (by unfold celAfter; split <;> omega) (by rw [List.length_append, emitL_len]; omega) (hq.congr rfl rfl ⟨fun _ => trivial, fun _ => hA⟩) (by simp at hm ⊢; omega)
          exact ⟨v, by rw [loop_nx body, ev], hv'⟩
        · rw [if_neg hA]
          have c2 : q.Bad = true := by
            cases hb : q.Bad with
            | true => rfl
            | false => exact absurd (hq.yes.1 hb) hA
          rw [if_pos c2] at body
          exact ⟨_, loop_dn body, .inl ⟨rfl, rfl⟩⟩
    · rw [if_neg hg]
      exact ⟨_, loop_dn (by simp only [t_additiveref40_Commands_L1, c1, if_true, eta_rf, ew]), .inl ⟨rfl, rfl⟩⟩
theorem rCommands_ok {s : api_Settings} (x : FS api_Op) (hF : Few x.l) : ∃ y e, t_additiveref40_Commands x s = some (y, e) ∧ (y.l, e) = cmdsS s x.l := by
  obtain ⟨y, ey, hy⟩ := rAmounts_ok (s := s) x hF
  have hx := hF.1
  unfold t_additiveref40_Commands cmdsS
  rw [ey]
  rcases hy with ⟨hv, rfl⟩ | ⟨hv, hy⟩
  · rw [hv]
    exact ⟨_, _, rfl, rfl⟩
  · rw [hv]
    rcases hy with ⟨h0, h1, h2⟩ | ⟨h0, rfl⟩
    · have c1 : ine y.2 0 = false := by rw [h1]; rfl
      have hyl : y.1.l.length = x.l.length := by rw [h2, amtR_len s x.l 0 false [] h0]; simp
      obtain ⟨v, ev, hv'⟩ := rcmds_loop hv hF hyl x.l 0 0 ⟨0, 0⟩ 0 [] ⟨s, ⟨0, 0⟩, 0, 0, .nil, false⟩ bigN rfl (by omega) (by simp) ⟨rfl, rfl, rfl, rfl, rfl, ⟨fun _ => trivial, fun _ => rfl⟩⟩ (bigN_gt (by omega))
      rw [List.drop_zero, h2] at hv'
      change loopT (t_additiveref40_Commands_L1 x y.1) bigN (⟨s, ⟨0, 0⟩, 0, 0, .nil, false⟩, 0) = _ at ev
      simp only [c1, Bool.false_eq_true, if_false, ev, if_true, h0]
      rcases hv' with ⟨e1, rfl⟩ | ⟨p', rfl, e1⟩
      · rw [e1]; exact ⟨_, _, rfl, rfl⟩
      · rw [e1]; exact ⟨_, _, rfl, rfl⟩
    · have c1 : ine (11 : Int) 0 = true := rfl
      simp only [c1, if_true, h0]
      exact ⟨_, _, rfl, rfl⟩
theorem sameCmds_ok (x y : FS api_Cmd) (h : x.l = y.l) (hlen : x.l.length ≤ 1000000) : t_additiveref40_SameCmds x y = some true := by
  obtain ⟨v, e, hr⟩ := loop_ok (body := t_additiveref40_SameCmds_L0 x y) (fun s => 0 ≤ s ∧ s ≤ x.l.length) (fun s => (x.l.length - s).toNat) (fun v => v = .inr ())
    (fun s ⟨h0, h1⟩ => by
      by_cases hlt : s < x.l.length
      · left
        obtain ⟨n, rfl⟩ := Int.eq_ofNat_of_zero_le h0
        have hn : n < x.l.length := by omega
        have c1 : ilt (n : Int) (flen x) = true := ilt_tt (by rw [flen_eq]; omega)
        have g1 := fget_at (x := x) hn
        have g2 : fget y (n : Int) = some x.l[n] := fget_nat (by rw [← h]; exact List.getElem?_eq_getElem hn)
        have q : ∀ a : Int, ieq a a = true := fun a => ieq_tt rfl
        refine ⟨((n + 1 : Nat) : Int), ?_, ⟨by omega, by omega⟩, by omega⟩
        simp only [t_additiveref40_SameCmds_L0, c1, if_true, g1, g2, q, band_t, bnot_t, Bool.false_eq_true, if_false, isucc (i := n) (by omega)]
      · right
        refine ⟨.inr (), ?_, rfl⟩
        have c1 : ilt s (flen x) = false := ilt_ff (by rw [flen_eq]; omega)
        simp only [t_additiveref40_SameCmds_L0, c1, Bool.false_eq_true, if_false]) bigN 0 ⟨by omega, by omega⟩ (bigN_gt (by omega))
  have c0 : ine (flen x) (flen y) = false := by rw [flen_eq, flen_eq, h]; simp [ine]
  unfold t_additiveref40_SameCmds
  rw [c0, e, hr]
  rfl
theorem cmdsR_len (s : api_Settings) : ∀ (l : List api_Op) (es : List Int) (a : api_Cell) (n : Nat) (fd : Int) (out out' : List api_Cmd), (∀ o ∈ l, o.Cells.l.length ≤ 40) → cmdsR s l es a n fd out = some out' → out'.length ≤ out.length + 41 * l.length
  | [], es, a, n, fd, out, out', hl, h => by unfold cmdsR at h; cases h; simp
  | o :: r, es, a, n, fd, out, out', hl, h => by
    unfold cmdsR at h
    split at h
    · split at h
      · cases h
      · rename_i q hq
        split at h
        · have := cmdsR_len s r _ _ _ _ _ _ (fun o ho => hl o (by simp [ho])) h
          have h2 := rawOp_len hq (hl o (by simp))
          rw [List.length_append, emitL_len] at this
          simp only [List.length_cons]; omega
        · cases h
    · cases h
theorem cmdsS_len {s : api_Settings} {l : List api_Op} (hF : Few l) : (cmdsS s l).1.length ≤ 100000 := by
  have hl := hF.1
  unfold cmdsS
  split
  · split
    · split
      · simp
      · rename_i out hout
        have := cmdsR_len s l _ _ _ _ _ _ hF.2 hout
        simp only [List.length_nil] at this ⊢; omega
    · simp
  · simp
theorem emitCommands_true (x : FS api_Op) (s : api_Settings) : t_additivelaw40_EmitCommands x s = some true := by
  obtain ⟨y, ey, hF⟩ := few_ok x
  obtain ⟨a, e, h1, h2⟩ := Commands_ok (s := s) y hF
  obtain ⟨b, f, h3, h4⟩ := rCommands_ok (s := s) y hF
  have hab : a.l = b.l ∧ e = f := by rw [← h4] at h2; exact ⟨congrArg Prod.fst h2, congrArg Prod.snd h2⟩
  obtain ⟨hab, rfl⟩ := hab
  have hlen : a.l.length ≤ 1000000 := by
    have := cmdsS_len (s := s) hF
    rw [← h2] at this
    simp only at this
    omega
  have h5 := sameCmds_ok a b hab hlen
  unfold t_additivelaw40_EmitCommands
  simp only [ey, h1, h3, h5, ieq_tt (rfl : e = e)]
  rfl
end Go.Proofs.Ytchiiiahgmfofaa
