/- emit: what Commands answers, in plain Lean. Conditions: none. -/
import Derived.Test.YtchiiiahgmfofaaQc
namespace Go.Proofs.Ytchiiiahgmfofaa
open Go Go.Vv Go.Proofs
set_option linter.unusedSimpArgs false
set_option linter.unusedVariables false
set_option linter.unusedSectionVars false
set_option maxRecDepth 10000
open Classical in
/-- The commands of operations; none: out of range. -/
noncomputable def cmdsR (s : api_Settings) : List api_Op → List Int → api_Cell → Nat → Int → List api_Cmd → Option (List api_Cmd)
  | [], _, _, _, _, out => some out
  | o :: r, es, a, n, fd, out =>
    if ∀ c ∈ o.Cells.l, OnG c then
      match rawOp s o (es.headD 0) a n with
      | none => none
      | some q => if AllV (emitL fd q) then cmdsR s r es.tail (atAfter o a) (celAfter o n) (feedL fd q) (out ++ emitL fd q) else none
    else none
theorem rawOp_len {s : api_Settings} {o : api_Op} {e : Int} {a : api_Cell} {n : Nat} {q : List RawC} (h : rawOp s o e a n = some q) (h40 : o.Cells.l.length ≤ 40) : q.length ≤ 41 := by
  have h1 := corn_len o.Cells.l a 0
  have h2 := corn_len (o.Cells.l.drop 0) a 0
  have h3 := corn_len (o.Cells.l.drop 1) a 0
  rw [List.length_drop] at h2 h3
  unfold rawOp at h
  split at h
  · cases h; simp
  · split at h
    · split at h
      · cases h; simp
      · split at h
        · cases h
          split
          · unfold rawT; rw [List.length_map]; omega
          · unfold rawP
            split
            · simp only [List.length_cons]; unfold rawQ; rw [List.length_map]; omega
            · unfold rawQ; rw [List.length_map]; omega
        · cases h
    · split at h
      · cases h; simp
      · split at h
        · cases h; simp
        · cases h; simp
section
variable {s : api_Settings} (hv : u_flow_Valid s = true) {n : Nat} (hn : n ≤ 2000) {a : api_Cell} {fd : Int} {out : List api_Cmd} (hout : out.length ≤ 5000) {p : emit_emitter} (hp : EmS s n a fd out True p) {o : api_Op} (hg : ∀ c ∈ o.Cells.l, OnG c) (h40 : o.Cells.l.length ≤ 40)
include hv hn hout hp hg h40
theorem one_res {q : RawC} {f : Int} {q' : emit_emitter} (h1 : ¬ o.Kind = 2) (h2 : ¬ o.Kind = 3) (h : EmS s n a f (out ++ [spd fd q.1 q.2]) (True ∧ Vld (spd fd q.1 q.2)) q') (hf : f = spf fd q.2) : OpRes s n a fd out o (some [q]) q' := by
  have hc : celAfter o n = n := by unfold celAfter; rw [if_neg h2]
  have ha : atAfter o a = a := by unfold atAfter; rw [if_neg (by omega)]
  show EmS s (celAfter o n) (atAfter o a) _ _ _ _
  rw [hc, ha]
  refine h.congr hf rfl ?_
  simp only [emitL, AllV, List.mem_singleton, forall_eq, true_and]
theorem layer_op (hk : o.Kind = 1) (e : Int) : ∃ q, t_emit_emitter_layer p o = some q ∧ OpRes s n a fd out o (rawOp s o e a n) q := by
  have hs := okS_of hv
  have hr : rawOp s o e a n = some [(⟨0, 4, 0, 0, o.Z, 0, 0, 0⟩, s.Travel)] := by unfold rawOp; rw [if_pos hk]
  have ht : 0 < s.Travel := by have := hs.t0; omega
  obtain ⟨p1, f1, f2, -⟩ := fast_ok hp (c := ⟨0, 4, 0, 0, o.Z, 0, 0, 0⟩) ht rfl (by simp)
  obtain ⟨p2, g1, g2, -⟩ := add_ok f2 (by omega) (c := spd fd ⟨0, 4, 0, 0, o.Z, 0, 0, 0⟩ s.Travel) (spd_pair (q := (⟨0, 4, 0, 0, o.Z, 0, 0, 0⟩, s.Travel)) ⟨rfl, .inr ⟨ht, by simp⟩⟩ _)
  have e1 : t_emit_emitter_fast p ⟨0, 4, 0, 0, o.Z, 0, 0, 0⟩ p.settings.Travel = some (spd fd ⟨0, 4, 0, 0, o.Z, 0, 0, 0⟩ s.Travel, p1) := by rw [hp.set]; exact f1
  refine ⟨p2, ?_, ?_⟩
  · unfold t_emit_emitter_layer
    simp only [eta_em, e1, g1]
  · rw [hr]
    exact one_res hv hn hout hp hg h40 (by omega) (by omega) g2 (spf_pos ht).symm
theorem feed_op (hk : o.Kind = 4 ∨ o.Kind = 5) : ∃ q, t_emit_emitter_feed p o = some q ∧ OpRes s n a fd out o (rawOp s o p.amount a n) q := by
  have hr : rawOp s o p.amount a n = some [(⟨1, 8, 0, 0, 0, p.amount, 0, 0⟩, 0)] := by unfold rawOp; rw [if_neg (by omega), if_neg (by omega), if_pos hk]
  have hsd : spd fd ⟨1, 8, 0, 0, 0, p.amount, 0, 0⟩ 0 = ⟨1, 8, 0, 0, 0, p.amount, 0, 0⟩ := by unfold spd; rw [if_neg (by omega)]
  obtain ⟨p2, g1, g2, -⟩ := add_ok hp (by omega) (c := ⟨1, 8, 0, 0, 0, p.amount, 0, 0⟩) (by simp [Pair, kinds])
  refine ⟨p2, ?_, ?_⟩
  · unfold t_emit_emitter_feed
    simp only [eta_em, g1]
  · rw [hr]
    exact one_res hv hn hout hp hg h40 (by omega) (by omega) (by simp only [hsd]; exact g2) (by simp [spf])
theorem fan_op (hk : o.Kind = 6) (e : Int) : ∃ q, t_emit_emitter_fan p o = some q ∧ OpRes s n a fd out o (rawOp s o e a n) q := by
  have hr : rawOp s o e a n = some [(if o.Speed = 0 then ⟨1107, 0, 0, 0, 0, 0, 0, 0⟩ else ⟨1106, 32, 0, 0, 0, 0, 0, o.Speed⟩, 0)] := by unfold rawOp; rw [if_neg (by omega), if_neg (by omega), if_neg (by omega), if_pos hk]
  have hsd : ∀ c : api_Cmd, spd fd c 0 = c := fun c => by unfold spd; rw [if_neg (by omega)]
  rw [hr]
  unfold t_emit_emitter_fan
  by_cases h0 : o.Speed = 0
  · have c1 : ieq o.Speed 0 = true := ieq_tt h0
    obtain ⟨p2, g1, g2, -⟩ := add_ok hp (by omega) (c := ⟨1107, 0, 0, 0, 0, 0, 0, 0⟩) (by simp [Pair, kinds])
    refine ⟨p2, by simp only [c1, if_true, eta_em, g1], ?_⟩
    rw [if_pos h0]
    exact one_res hv hn hout hp hg h40 (by omega) (by omega) (by simp only [hsd]; exact g2) (by simp [spf])
  · have c1 : ieq o.Speed 0 = false := ieq_ff h0
    obtain ⟨p2, g1, g2, -⟩ := add_ok hp (by omega) (c := ⟨1106, 32, 0, 0, 0, 0, 0, o.Speed⟩) (by simp [Pair, kinds])
    refine ⟨p2, by simp only [c1, Bool.false_eq_true, if_false, eta_em, g1], ?_⟩
    rw [if_neg h0]
    exact one_res hv hn hout hp hg h40 (by omega) (by omega) (by simp only [hsd]; exact g2) (by simp [spf])
theorem none_op (hk : ¬ (1 ≤ o.Kind ∧ o.Kind ≤ 6)) (e : Int) : ∃ q, t_emit_emitter_nothing p o = some q ∧ OpRes s n a fd out o (rawOp s o e a n) q := by
  have hr : rawOp s o e a n = some [] := by unfold rawOp; rw [if_neg (by omega), if_neg (by omega), if_neg (by omega), if_neg (by omega)]
  have hc : celAfter o n = n := by unfold celAfter; rw [if_neg (by omega)]
  have ha : atAfter o a = a := by unfold atAfter; rw [if_neg (by omega)]
  refine ⟨p, rfl, ?_⟩
  rw [hr]
  show EmS s (celAfter o n) (atAfter o a) _ _ _ _
  rw [hc, ha]
  exact hp.congr rfl (by simp [emitL]) ⟨fun _ c hc => by simp [emitL] at hc, fun _ => trivial⟩
end
theorem EmS.amount {s : api_Settings} {n : Nat} {a : api_Cell} {fd : Int} {out : List api_Cmd} {ok : Prop} {p : emit_emitter} (h : EmS s n a fd out ok p) (e : Int) : EmS s n a fd out ok ⟨p.settings, e, p.cells, p.nozzle, p.speed, p.has, p.out, p.code⟩ := ⟨h.set, h.cel, h.noz, h.fee, h.yes, h.no⟩
/-- One operation in the loop. -/
theorem body_ok {s : api_Settings} (hv : u_flow_Valid s = true) {n : Nat} (hn : n ≤ 2000) {a : api_Cell} {fd : Int} {out : List api_Cmd} (hout : out.length ≤ 5000) {p : emit_emitter} (hp : EmS s n a fd out True p) {o : api_Op} (h40 : o.Cells.l.length ≤ 40)
    {x : FS api_Op} {y : FS Int} {i : Nat} (hx : x.l[i]? = some o) {e : Int} (hy : y.l[i]? = some e) (hi : i ≤ 1000) :
    (¬ (∀ c ∈ o.Cells.l, OnG c) → t_emit_Commands_L0 y x (flen x) (p, (i : Int)) = some (.dn (.inl (.nil, 8)))) ∧
    ((∀ c ∈ o.Cells.l, OnG c) → ∃ q, OpRes s n a fd out o (rawOp s o e a n) q ∧ t_emit_Commands_L0 y x (flen x) (p, (i : Int)) = if ine q.code 0 = true then some (.dn (.inl (.nil, q.code))) else some (.nx (q, ((i + 1 : Nat) : Int)))) := by
  have c1 : ilt (i : Int) (flen x) = true := ilt_tt (by rw [flen_eq]; have := (List.getElem?_eq_some_iff.1 hx).1; omega)
  obtain ⟨v, ev, hvv⟩ := inside_ok o.Cells (by omega)
  constructor
  · intro hg
    have : v = false := by rw [← Bool.not_eq_true]; exact fun h => hg (hvv.1 h)
    subst this
    simp only [t_emit_Commands_L0, c1, if_true, fget_nat hx, ev, bnot_f]
  · intro hg
    have := hvv.2 hg
    subst this
    have hp' := hp.amount e
    have i1 := isucc (i := i) (by omega)
    by_cases k1 : o.Kind = 1
    · obtain ⟨q, eq, hq⟩ := layer_op hv hn hout hp' hg h40 k1 e
      refine ⟨q, hq, ?_⟩
      have hh : t_emit_handler o.Kind = some 100 := by unfold t_emit_handler; rw [ieq_tt k1, if_pos rfl]
      simp only [t_emit_Commands_L0, c1, if_true, fget_nat hx, ev, bnot_t, Bool.false_eq_true, if_false, fget_nat hy, hh, eq, eta_em, i1]
    by_cases k2 : o.Kind = 2
    · obtain ⟨q, eq, hq⟩ := travel_op hv hn hout hp' hg h40 k2 e
      refine ⟨q, hq, ?_⟩
      have hh : t_emit_handler o.Kind = some 101 := by unfold t_emit_handler; rw [ieq_ff k1, ieq_tt k2, if_neg (by simp), if_pos rfl]
      simp only [t_emit_Commands_L0, c1, if_true, fget_nat hx, ev, bnot_t, Bool.false_eq_true, if_false, fget_nat hy, hh, eq, eta_em, i1, show ¬ (101 : Nat) = 100 by decide]
    by_cases k3 : o.Kind = 3
    · obtain ⟨q, eq, hq⟩ := print_op hv hn hout hp' hg h40 k3 e
      refine ⟨q, hq, ?_⟩
      have hh : t_emit_handler o.Kind = some 102 := by unfold t_emit_handler; rw [ieq_ff k1, ieq_ff k2, ieq_tt k3, if_neg (by simp), if_neg (by simp), if_pos rfl]
      simp only [t_emit_Commands_L0, c1, if_true, fget_nat hx, ev, bnot_t, Bool.false_eq_true, if_false, fget_nat hy, hh, eq, eta_em, i1, show ¬ (102 : Nat) = 100 by decide, show ¬ (102 : Nat) = 101 by decide]
    by_cases k4 : o.Kind = 4 ∨ o.Kind = 5
    · obtain ⟨q, eq, hq⟩ := feed_op hv hn hout hp' hg h40 k4
      refine ⟨q, hq, ?_⟩
      have hh : t_emit_handler o.Kind = some 103 := by
        unfold t_emit_handler
        rw [ieq_ff k1, ieq_ff k2, ieq_ff k3]
        rcases k4 with k4 | k4 <;> rw [k4] <;> rfl
      simp only [t_emit_Commands_L0, c1, if_true, fget_nat hx, ev, bnot_t, Bool.false_eq_true, if_false, fget_nat hy, hh, eq, eta_em, i1, show ¬ (103 : Nat) = 100 by decide, show ¬ (103 : Nat) = 101 by decide, show ¬ (103 : Nat) = 102 by decide]
    by_cases k6 : o.Kind = 6
    · obtain ⟨q, eq, hq⟩ := fan_op hv hn hout hp' hg h40 k6 e
      refine ⟨q, hq, ?_⟩
      have hh : t_emit_handler o.Kind = some 104 := by rw [k6]; rfl
      simp only [t_emit_Commands_L0, c1, if_true, fget_nat hx, ev, bnot_t, Bool.false_eq_true, if_false, fget_nat hy, hh, eq, eta_em, i1, show ¬ (104 : Nat) = 100 by decide, show ¬ (104 : Nat) = 101 by decide, show ¬ (104 : Nat) = 102 by decide, show ¬ (104 : Nat) = 103 by decide]
    · obtain ⟨q, eq, hq⟩ := none_op hv hn hout hp' hg h40 (o := o) (by omega) e
      refine ⟨q, hq, ?_⟩
      have hh : t_emit_handler o.Kind = some 105 := by
        unfold t_emit_handler
        rw [ieq_ff k1, ieq_ff k2, ieq_ff k3, ieq_ff (show ¬ o.Kind = 4 by omega), ieq_ff (show ¬ o.Kind = 5 by omega), ieq_ff k6]
        rfl
      simp only [t_emit_Commands_L0, c1, if_true, fget_nat hx, ev, bnot_t, Bool.false_eq_true, if_false, fget_nat hy, hh, eq, eta_em, i1, show ¬ (105 : Nat) = 100 by decide, show ¬ (105 : Nat) = 101 by decide, show ¬ (105 : Nat) = 102 by decide, show ¬ (105 : Nat) = 103 by decide, show ¬ (105 : Nat) = 104 by decide]
theorem cmds_loop {s : api_Settings} (hv : u_flow_Valid s = true) {x : FS api_Op} (hF : Few x.l) {y : FS Int} (hyl : y.l.length = x.l.length) : ∀ (rest : List api_Op) (i n : Nat) (a : api_Cell) (fd : Int) (out : List api_Cmd) (p : emit_emitter) (m : Nat), x.l.drop i = rest → n ≤ 40 * i → out.length ≤ 42 * i → EmS s n a fd out True p → rest.length < m →
    ∃ v, loopT (t_emit_Commands_L0 y x (flen x)) m (p, (i : Int)) = some v ∧ ((cmdsR s rest (y.l.drop i) a n fd out = none ∧ v = .inl (.nil, 8)) ∨ ∃ p', v = .inr p' ∧ cmdsR s rest (y.l.drop i) a n fd out = some p'.out.l)
  | [], i, n, a, fd, out, p, m, hr, hn, ho, hp, hm => by
    obtain ⟨m, rfl⟩ : ∃ k, m = k + 1 := ⟨m - 1, by omega⟩
    have hlen : x.l.length ≤ i := by
      have := congrArg List.length hr
      rw [List.length_drop] at this
      simp at this
      omega
    have c1 : ilt (i : Int) (flen x) = false := ilt_ff (by rw [flen_eq]; omega)
    refine ⟨.inr p, loop_dn (by simp only [t_emit_Commands_L0, c1, Bool.false_eq_true, if_false, eta_em]), .inr ⟨p, rfl, ?_⟩⟩
    rw [(hp.yes trivial).2]; rfl
  | o :: rest, i, n, a, fd, out, p, m, hr, hn, ho, hp, hm => by
    obtain ⟨m, rfl⟩ : ∃ k, m = k + 1 := ⟨m - 1, by omega⟩
    obtain ⟨g1, g2, g3, g4⟩ := get_drop hr
    have hx := hF.1
    have h40 := hF.2 o (List.mem_of_getElem? g1)
    have hyi : i < y.l.length := by omega
    have hye := List.getElem?_eq_getElem hyi
    have hyd : y.l.drop i = y.l[i] :: y.l.drop (i + 1) := List.drop_eq_getElem_cons hyi
    obtain ⟨b1, b2⟩ := body_ok hv (by omega) (by omega) hp h40 g1 hye (by omega)
    rw [hyd]
    unfold cmdsR
    by_cases hg : ∀ c ∈ o.Cells.l, OnG c
    · obtain ⟨q, hq, eb⟩ := b2 hg
      rw [if_pos hg]
      simp only [List.headD_cons, List.tail_cons]
      cases hr' : rawOp s o y.l[i] a n with
      | none =>
        rw [hr'] at hq
        have hc : q.code = 8 := hq
        have c2 : ine q.code 0 = true := by rw [hc]; rfl
        rw [if_pos c2] at eb
        exact ⟨_, loop_dn eb, .inl ⟨rfl, by rw [hc]⟩⟩
      | some w =>
        rw [hr'] at hq
        have hq : EmS s (celAfter o n) (atAfter o a) (feedL fd w) (out ++ emitL fd w) (AllV (emitL fd w)) q := hq
        have hwl := rawOp_len hr' h40
        simp only
        by_cases hA : AllV (emitL fd w)
        · rw [if_pos hA]
          have c2 : ine q.code 0 = false := by rw [(hq.yes hA).1]; rfl
          rw [c2, if_neg (by simp)] at eb
          obtain ⟨v, ev, hv'⟩ := cmds_loop hv hF hyl rest (i + 1) (celAfter o n) (atAfter o a) (feedL fd w) (out ++ emitL fd w) q m g2 (by unfold celAfter; split <;> omega) (by rw [List.length_append, emitL_len]; omega) (hq.congr rfl rfl ⟨fun _ => trivial, fun _ => hA⟩) (by simp at hm ⊢; omega)
          exact ⟨v, by rw [loop_nx eb, ev], hv'⟩
        · rw [if_neg hA]
          have hc := hq.no hA
          have c2 : ine q.code 0 = true := by rw [hc]; rfl
          rw [if_pos c2] at eb
          exact ⟨_, loop_dn eb, .inl ⟨rfl, by rw [hc]⟩⟩
    · rw [if_neg hg]
      exact ⟨_, loop_dn (b1 hg), .inl ⟨rfl, rfl⟩⟩
theorem amtR_len (s : api_Settings) : ∀ (l : List api_Op) (n : Nat) (b : Bool) (out : List Int), (amtR s l n b out).1 = 0 → (amtR s l n b out).2.length = out.length + l.length
  | [], n, b, out, _ => rfl
  | o :: r, n, b, out, h => by
    rw [amtR] at h ⊢
    split at h
    · cases h
    · rename_i hc
      rw [if_neg hc, amtR_len s r _ _ _ h]
      simp only [List.length_append, List.length_cons, List.length_nil]; omega
/-- What Commands answers: the commands and the error. -/
noncomputable def cmdsS (s : api_Settings) (l : List api_Op) : List api_Cmd × Int :=
  if u_flow_Valid s = true then
    if (amtR s l 0 false []).1 = 0 then
      match cmdsR s l (amtR s l 0 false []).2 ⟨0, 0⟩ 0 0 [] with
      | none => ([], 8)
      | some out => (out, 0)
    else ([], 11)
  else ([], 1)
theorem Commands_ok {s : api_Settings} (x : FS api_Op) (hF : Few x.l) : ∃ y e, t_emit_Commands x s = some (y, e) ∧ (y.l, e) = cmdsS s x.l := by
  obtain ⟨y, ey, hy⟩ := Amounts_ok (s := s) x hF
  have hx := hF.1
  unfold t_emit_Commands cmdsS
  rw [ey]
  rcases hy with ⟨hv, rfl⟩ | ⟨hv, hy⟩
  · rw [hv]
    exact ⟨_, _, rfl, rfl⟩
  · rw [hv]
    rcases hy with ⟨h0, h1, h2⟩ | ⟨h0, rfl⟩
    · have c1 : ine y.2 0 = false := by rw [h1]; rfl
      have hyl : y.1.l.length = x.l.length := by rw [h2, amtR_len s x.l 0 false [] h0]; simp
      obtain ⟨v, ev, hv'⟩ := cmds_loop hv hF hyl x.l 0 0 ⟨0, 0⟩ 0 [] ⟨s, 0, 0, ⟨0, 0⟩, 0, false, .nil, 0⟩ bigN rfl (by omega) (by simp) ⟨rfl, rfl, rfl, .inl ⟨rfl, rfl⟩, fun _ => ⟨rfl, rfl⟩, fun h => absurd trivial h⟩ (bigN_gt (by omega))
      rw [List.drop_zero, h2] at hv'
      change loopT (t_emit_Commands_L0 y.1 x (flen x)) bigN (⟨s, 0, 0, ⟨0, 0⟩, 0, false, .nil, 0⟩, 0) = _ at ev
      simp only [c1, Bool.false_eq_true, if_false, ev, if_true, h0]
      rcases hv' with ⟨e1, rfl⟩ | ⟨p', rfl, e1⟩
      · rw [e1]; exact ⟨_, _, rfl, rfl⟩
      · rw [e1]; exact ⟨_, _, rfl, rfl⟩
    · have c1 : ine (11 : Int) 0 = true := rfl
      simp only [c1, if_true, h0]
      exact ⟨_, _, rfl, rfl⟩
end Go.Proofs.Ytchiiiahgmfofaa
