/- emit: the commands' speed words and their last amount, in plain Lean. Conditions: none. -/
import Derived.Test.YtchiiiahgmfofaaQm
namespace Go.Proofs.Ytchiiiahgmfofaa
open Go Go.Vv Go.Proofs
set_option linter.unusedSimpArgs false
set_option linter.unusedVariables false
set_option linter.unusedSectionVars false
set_option maxRecDepth 10000
def hasE (c : api_Cmd) : Bool := ine (iand .i64 c.Has 8) 0
def hasF (c : api_Cmd) : Bool := ine (iand .i64 c.Has 16) 0
/-- The speed and the amount behind commands; none: a speed that was there already. -/
def scanV : Int → Int → List api_Cmd → Option (Int × Int)
  | fd, la, [] => some (fd, la)
  | fd, la, c :: r => if hasF c = true ∧ c.F = fd then none else scanV (if hasF c = true then c.F else fd) (if hasE c = true then c.E else la) r
def lastR : Int → List RawC → Int
  | la, [] => la
  | la, q :: r => lastR (if q.1.Has = 8 ∨ q.1.Has = 11 then q.1.E else la) r
theorem lastR_snoc (q : RawC) : ∀ (l : List RawC) (la : Int), lastR la (l ++ [q]) = if q.1.Has = 8 ∨ q.1.Has = 11 then q.1.E else lastR la l
  | [], la => rfl
  | x :: l, la => by simp only [List.cons_append, lastR, lastR_snoc q l]
theorem lastR_no : ∀ (l : List RawC) (la : Int), (∀ q ∈ l, ¬ (q.1.Has = 8 ∨ q.1.Has = 11)) → lastR la l = la
  | [], la, _ => rfl
  | x :: l, la, h => by
    rw [lastR, if_neg (h x (by simp)), lastR_no l la (fun q hq => h q (by simp [hq]))]
theorem has_tbl : ∀ h ∈ [(4 : Int), 3, 8, 11], ine (iand .i64 h 16) 0 = false ∧ ine (iand .i64 (h + 16) 16) 0 = true ∧ (ine (iand .i64 h 8) 0 = decide (h = 8 ∨ h = 11)) ∧ (ine (iand .i64 (h + 16) 8) 0 = decide (h = 8 ∨ h = 11)) := by decide
theorem has_tbl0 : ∀ h ∈ [(8 : Int), 0, 32], ine (iand .i64 h 16) 0 = false ∧ (ine (iand .i64 h 8) 0 = decide (h = 8 ∨ h = 11)) := by decide
theorem scan_one {q : RawC} (hq : RawOK q) (fd la : Int) (r : List api_Cmd) : scanV fd la (spd fd q.1 q.2 :: r) = scanV (spf fd q.2) (if q.1.Has = 8 ∨ q.1.Has = 11 then q.1.E else la) r := by
  obtain ⟨-, ⟨h0, h1⟩ | ⟨h0, h1⟩⟩ := hq
  · have e1 : spd fd q.1 q.2 = q.1 := by unfold spd; rw [if_neg (by omega)]
    have e2 : spf fd q.2 = fd := by unfold spf; rw [if_neg (by omega)]
    have hm : q.1.Has ∈ [(8 : Int), 0, 32] := by
      simp only [List.mem_cons, List.not_mem_nil, or_false, Prod.mk.injEq] at h1 ⊢
      omega
    obtain ⟨t1, t2⟩ := has_tbl0 _ hm
    rw [e1, e2, scanV]
    unfold hasF hasE
    rw [t1, t2]
    simp
  · have hm : q.1.Has ∈ [(4 : Int), 3, 8, 11] := by
      simp only [List.mem_cons, List.not_mem_nil, or_false, Prod.mk.injEq] at h1 ⊢
      omega
    obtain ⟨t1, t2, t3, t4⟩ := has_tbl _ hm
    have e2 : spf fd q.2 = q.2 := by unfold spf; rw [if_pos (by omega)]
    rw [e2]
    by_cases e : q.2 = fd
    · have e1 : spd fd q.1 q.2 = q.1 := by unfold spd; rw [if_neg (by omega)]
      rw [e1, scanV]
      unfold hasF hasE
      rw [t1, t3]
      simp [e]
    · have e1 : spd fd q.1 q.2 = ⟨q.1.Code, q.1.Has + 16, q.1.X, q.1.Y, q.1.Z, q.1.E, q.2, q.1.S⟩ := by unfold spd; rw [if_pos ⟨by omega, e⟩]
      rw [e1, scanV]
      unfold hasF hasE
      simp only
      rw [t2, t4]
      simp [e]
theorem scan_emit : ∀ (l : List RawC) (fd la : Int) (r : List api_Cmd), (∀ q ∈ l, RawOK q) → scanV fd la (emitL fd l ++ r) = scanV (feedL fd l) (lastR la l) r
  | [], fd, la, r, _ => rfl
  | x :: l, fd, la, r, h => by
    rw [emitL, List.cons_append, scan_one (h x (by simp)), scan_emit l _ _ r (fun q hq => h q (by simp [hq]))]
    rfl
theorem emitL_pair : ∀ (l : List RawC) (fd : Int), (∀ q ∈ l, RawOK q) → ∀ c ∈ emitL fd l, Pair c
  | [], fd, _, c, hc => by simp [emitL] at hc
  | x :: l, fd, h, c, hc => by
    rw [emitL, List.mem_cons] at hc
    rcases hc with rfl | hc
    · exact spd_pair (h x (by simp)) fd
    · exact emitL_pair l _ (fun q hq => h q (by simp [hq])) c hc
theorem rawOp_ok {s : api_Settings} (hs : OkS s) {o : api_Op} {e : Int} {a : api_Cell} {n : Nat} {q : List RawC} (h : rawOp s o e a n = some q) : ∀ x ∈ q, RawOK x := by
  have ht := hs.t0
  have hp := hs.p0
  unfold rawOp at h
  split at h
  · cases h
    intro x hx
    rw [List.mem_singleton] at hx
    subst hx
    exact ⟨rfl, .inr ⟨by simp only; omega, by simp⟩⟩
  · split at h
    · split at h
      · cases h; intro x hx; cases hx
      · split at h
        · rename_i hsp
          have e2 : 0 < o.Speed * s.Pitch := Int.mul_pos (by omega) (by omega)
          cases h
          have hQ : ∀ first, ∀ x ∈ rawQ s o a n first, RawOK x := fun first x hx => by
            unfold rawQ at hx
            obtain ⟨k, -, rfl⟩ := List.mem_map.1 hx
            exact ⟨rfl, .inr ⟨e2, by simp [mv]⟩⟩
          split
          · intro x hx
            unfold rawT at hx
            obtain ⟨k, -, rfl⟩ := List.mem_map.1 hx
            exact ⟨rfl, .inr ⟨e2, by simp [mv]⟩⟩
          · unfold rawP
            split
            · intro x hx
              rcases List.mem_cons.1 hx with rfl | hx
              · exact ⟨rfl, .inr ⟨e2, by simp⟩⟩
              · exact hQ 1 x hx
            · exact hQ 0
        · cases h
    · split at h
      · cases h
        intro x hx
        rw [List.mem_singleton] at hx
        subst hx
        exact ⟨rfl, .inl ⟨rfl, by simp⟩⟩
      · split at h
        · cases h
          intro x hx
          rw [List.mem_singleton] at hx
          subst hx
          split
          · exact ⟨rfl, .inl ⟨rfl, by simp⟩⟩
          · exact ⟨rfl, .inl ⟨rfl, by simp⟩⟩
        · cases h; intro x hx; cases hx
theorem corn_last : ∀ (l : List api_Cell) (a : api_Cell) (i : Nat), l ≠ [] → ∃ t, corn l a i = t ++ [i + (l.length - 1)]
  | [], a, i, h => absurd rfl h
  | [c], a, i, _ => ⟨[], by simp [corn]⟩
  | c :: d :: r, a, i, _ => by
    obtain ⟨t, e⟩ := corn_last (d :: r) c (i + 1) (by simp)
    rw [corn, e]
    have e3 : i + 1 + ((d :: r).length - 1) = i + ((c :: d :: r).length - 1) := by simp only [List.length_cons]; omega
    rw [e3]
    split
    · exact ⟨i :: t, rfl⟩
    · exact ⟨t, rfl⟩
theorem rawQ_last (s : api_Settings) (o : api_Op) (a : api_Cell) (n first : Nat) (la : Int) (h : first < o.Cells.l.length) : lastR la (rawQ s o a n first) = fil s (n + o.Cells.l.length) := by
  obtain ⟨t, e⟩ := corn_last (o.Cells.l.drop first) a 0 (by intro hh; have := congrArg List.length hh; simp at this; omega)
  unfold rawQ
  rw [e, List.map_append, List.map_singleton, lastR_snoc, if_pos (.inr rfl)]
  simp only [mv, List.length_drop]
  congr 1
  omega
/-- The amount behind the operations so far. -/
def cur (s : api_Settings) (n : Nat) (b : Bool) : Int := if b = true then fil s n - s.Retract else fil s n
theorem rawOp_last {s : api_Settings} {o : api_Op} {e : Int} {a : api_Cell} {n : Nat} {q : List RawC} (h : rawOp s o e a n = some q) (la : Int) :
    (o.Kind = 3 → la = fil s n → lastR la q = fil s (n + o.Cells.l.length)) ∧ (o.Kind = 4 ∨ o.Kind = 5 → lastR la q = e) ∧ (¬ (o.Kind = 3 ∨ o.Kind = 4 ∨ o.Kind = 5) → lastR la q = la) := by
  unfold rawOp at h
  split at h
  · rename_i k1
    cases h
    exact ⟨fun h => by omega, fun h => by omega, fun _ => rfl⟩
  · split at h
    · rename_i k1 k2
      refine ⟨fun k3 hla => ?_, fun h => by omega, fun k3 => ?_⟩
      · split at h
        · rename_i hc
          cases h
          rw [hc]
          exact hla
        · rename_i hc
          have hl : 0 < o.Cells.l.length := List.length_pos_iff.2 hc
          split at h
          · cases h
            rw [if_neg (by omega)]
            unfold rawP
            split
            · rw [lastR, if_pos (.inl rfl)]
              by_cases h1 : 1 < o.Cells.l.length
              · exact rawQ_last s o a n 1 _ h1
              · have e1 : o.Cells.l.length = 1 := by omega
                have e2 : o.Cells.l.drop 1 = [] := List.drop_eq_nil_of_le (by omega)
                unfold rawQ
                rw [e2, e1]
                rfl
            · exact rawQ_last s o a n 0 _ hl
          · cases h
      · split at h
        · cases h; rfl
        · split at h
          · cases h
            rw [if_pos (by omega)]
            apply lastR_no
            intro x hx
            unfold rawT at hx
            obtain ⟨k, -, rfl⟩ := List.mem_map.1 hx
            simp [mv]
          · cases h
    · split at h
      · rename_i k1 k2 k3
        cases h
        exact ⟨fun h => by omega, fun _ => rfl, fun h => by omega⟩
      · rename_i k1 k2 k3
        refine ⟨fun h => by omega, fun h => by omega, fun _ => ?_⟩
        split at h
        · cases h
          apply lastR_no
          intro x hx
          rw [List.mem_singleton] at hx
          subst hx
          split <;> simp
        · cases h; rfl
theorem run_valid {s : api_Settings} (hs : OkS s) : ∀ (l : List api_Op) (es acc : List Int) (a : api_Cell) (n : Nat) (b : Bool) (fd : Int) (out o' : List api_Cmd), amtR s l n b acc = (0, acc ++ es) → cmdsR s l es a n fd out = some o' →
    ∃ t fd', o' = out ++ t ∧ (∀ c ∈ t, Pair c ∧ Vld c) ∧ ∀ r, scanV fd (cur s n b) (t ++ r) = scanV fd' (es.getLastD (cur s n b)) r
  | [], es, acc, a, n, b, fd, out, o', hA, hC => by
    unfold cmdsR at hC
    cases hC
    have : es = [] := by
      have := congrArg Prod.snd hA
      simpa [amtR] using this
    subst this
    exact ⟨[], fd, by simp, fun c hc => absurd hc (by simp), fun r => rfl⟩
  | o :: r, es, acc, a, n, b, fd, out, o', hA, hC => by
    rw [amtR] at hA
    split at hA
    · cases hA
    rename_i hno
    simp only at hA
    obtain ⟨t0, e0⟩ := amtR_out s r _ _ _ (congrArg Prod.fst hA)
    have e1 := congrArg Prod.snd hA
    rw [e0, List.append_assoc] at e1
    have e1 : _ = es := List.append_cancel_left e1
    subst e1
    rw [← List.append_assoc] at hA
    unfold cmdsR at hC
    split at hC
    · split at hC
      · cases hC
      · rename_i q hq
        split at hC
        · rename_i hV
          simp only [List.singleton_append, List.tail_cons] at hC hA
          have hc : (if o.Kind = 3 then n + o.Cells.l.length else n) = celAfter o n := rfl
          rw [hc] at hA
          obtain ⟨t, fd', h1, h2, h3⟩ := run_valid hs r _ _ _ _ _ _ _ _ hA hC
          have hok := rawOp_ok hs hq
          obtain ⟨l1, l2, l3⟩ := rawOp_last hq (cur s n b)
          refine ⟨emitL fd q ++ t, fd', by rw [h1, List.append_assoc], ?_, fun r' => ?_⟩
          · intro c hc
            rcases List.mem_append.1 hc with hc | hc
            · exact ⟨emitL_pair q fd hok c hc, hV c hc⟩
            · exact h2 c hc
          · have hla : lastR (cur s n b) q = cur s (celAfter o n) (if o.Kind = 4 then true else if o.Kind = 5 then false else b) := by
              by_cases k3 : o.Kind = 3
              · have hb : b = false := by
                  cases b with
                  | false => rfl
                  | true => exact absurd (.inl ⟨rfl, .inl k3⟩) hno
                subst hb
                rw [l1 k3 (by simp [cur])]
                simp [cur, celAfter, k3]
              · by_cases k45 : o.Kind = 4 ∨ o.Kind = 5
                · rw [l2 k45]
                  simp only [List.singleton_append, List.headD_cons, celAfter, if_neg k3, cur]
                · rw [l3 (by omega)]
                  simp only [celAfter, if_neg k3]
                  rw [if_neg (by omega), if_neg (by omega)]
            rw [List.append_assoc, scan_emit q _ _ _ hok, hla, h3 r']
            simp only [List.singleton_append, List.getLastD_cons]
            rfl
        · cases hC
    · cases hC
end Go.Proofs.Ytchiiiahgmfofaa
