/- The evaluator's calls are right of the model's calls. Conditions: 'EnvOK': the code of each function is the compilation of the model's. -/
import Derived.Test.YtchiiiahgmfofaaVl
namespace Go.Vv
open Go

def compRes (P : Program) : ResultVar → Option RV
  | .tmp t => some (.tmp t)
  | .cell t ty =>
    match aggT P ty, szT P ty with
    | some ag, some n => if ag ∨ n = 1 then some (.cell t ag n) else none
    | _, _ => none
def compRess (P : Program) : List ResultVar → Option (List RV)
  | [] => some []
  | r :: l =>
    match compRes P r, compRess P l with
    | some x, some m => some (x :: m)
    | _, _ => none
/-- The compilation of a function. -/
def compF (P : Program) (hi : Hints) (pm : Bool) (fn : Func) : Option LFunc :=
  match fn.body with
  | none => none
  | some c =>
    if (fn.name == "runtime.NumGoroutine") || fn.ntmps < fn.params.size + fn.nfree then none else
    match compC P hi fn.ntmps c hi.loops, compRess P fn.results.toList with
    | some (lc, _), some rs => some ⟨fn.params.size + fn.nfree, rs, pm, lc⟩
    | _, _ => none
structure EnvOK (P : Program) (Γ : Env) : Prop where
  mixed : P.follows .mixedOrders = true
  code : ∀ f lf, Γ.code f = some lf → ∃ fn hi, P.funcs[f]? = some fn ∧ compF P hi lf.pm fn = some lf
  ext : CallOK P Γ.ext

/-- The value of a result. -/
def getRes (a : Act) : ResultVar → Sem Value
  | .tmp t => pure (a.tmps.getD t undef)
  | .cell b t => do loadVar t (← asAddr (a.tmps.getD b undef))
section
variable {P : Program} {w : World} {S : Nat → Prop} {σ : St} {μ : Gh} {a : Act} {nt : Nat}
theorem res_run (hs : RepS nt w S σ μ a) : ∀ {l : List ResultVar} {rs : List RV} {vs : List AV}, compRess P l = some rs → rs.mapM (RV.get σ) = some vs →
    ∃ cs : List Value, (l.mapM (getRes a)).run P w = .ok cs w ∧ cs.length = vs.length ∧ ∀ i x, vs[i]? = some x → Rep w S σ.h μ x (cs.getD i undef)
  | [], rs, vs, hc, hv => by
    simp [compRess] at hc
    subst hc
    simp at hv
    subst hv
    exact ⟨[], by simp, rfl, fun i x hi => by simp at hi⟩
  | r :: l, rs, vs, hc, hv => by
    unfold compRess at hc
    split at hc
    · rename_i x m hx hm
      injection hc with hc
      subst hc
      rw [List.mapM_cons] at hv
      cases hgx : RV.get σ x with
      | none => rw [hgx] at hv; cases hv
      | some v =>
        cases hgm : m.mapM (RV.get σ) with
        | none => rw [hgx, hgm] at hv; cases hv
        | some us =>
          rw [hgx, hgm] at hv
          injection hv with hv
          subst hv
          obtain ⟨cs, h1, h2, h3⟩ := res_run hs hm hgm
          have one : ∃ cv, (getRes a r).run P w = .ok cv w ∧ Rep w S σ.h μ v cv := by
            cases r with
            | tmp t =>
              simp [compRes] at hx
              subst hx
              simp [RV.get] at hgx
              subst hgx
              exact ⟨_, by simp [getRes], hs.fr t⟩
            | cell b t =>
              simp only [compRes] at hx
              split at hx
              · rename_i ag n hag hn
                split at hx
                · rename_i hone
                  injection hx with hx
                  subst hx
                  simp only [RV.get] at hgx
                  have hd : ∃ ad, a.tmps.getD b undef = .pointer (some ad) := by
                    unfold loadV at hgx
                    split at hgx
                    · rename_i l' off hd
                      obtain ⟨ad, e, _⟩ := deref_sound hs.hp (hs.fr b) hd
                      exact ⟨ad, e⟩
                    · cases hgx
                  obtain ⟨ad, e⟩ := hd
                  obtain ⟨cv, r1, r2⟩ := load_sound (P := P) hs.hp hag hn hone (hs.fr b) hgx
                  refine ⟨cv, ?_, r2⟩
                  rw [e] at r1
                  simp only [getRes, e]
                  simpa [Instr.loadAt, Instr.sureAddr, asAddr] using r1
                · cases hx
              · cases hx
          obtain ⟨cv, o1, o2⟩ := one
          refine ⟨cv :: cs, ?_, by simp [h2], fun i y hi => ?_⟩
          · rw [List.mapM_cons]
            simp only [Sem.run_bind, o1, h1, Result.andThen_ok, Sem.run_pure]
          · cases i with
            | zero => simp at hi; subst hi; simpa using o2
            | succ i => simpa using h3 i y (by simpa using hi)
    · cases hc
theorem results_run (hs : RepS nt w S σ μ a) {fn : Func} {rs : List RV} {v : AV} (hc : compRess P fn.results.toList = some rs) (hv : resV σ rs = some v) :
    ∃ cv, (results fn a.tmps).run P w = .ok cv w ∧ Rep w S σ.h μ v cv := by
  unfold resV at hv
  cases hm : rs.mapM (RV.get σ) with
  | none => rw [hm] at hv; cases hv
  | some vs =>
    rw [hm] at hv
    obtain ⟨cs, h1, h2, h3⟩ := res_run hs hc hm
    have hrun : (results fn a.tmps).run P w = .ok (if h : cs.toArray.size = 1 then cs.toArray[0] else .tuple cs.toArray) w := by
      have e : results fn a.tmps = (do let vs ← fn.results.mapM (getRes a); pure (if h : vs.size = 1 then vs[0] else .tuple vs)) := by
        unfold results
        congr 2
      rw [e, Array.mapM_eq_mapM_toList]
      simp only [Sem.run_bind, Sem.run_map, h1, Result.andThen_ok, Sem.run_pure]
    refine ⟨_, hrun, ?_⟩
    clear hm hrun
    cases vs with
    | nil =>
      simp only at hv
      injection hv with hv
      subst hv
      have : cs = [] := List.eq_nil_of_length_eq_zero h2
      subst this
      exact .tup [] #[] rfl (fun i x hi => by simp at hi)
    | cons u1 r =>
      cases r with
      | nil =>
        simp only at hv
        injection hv with hv
        subst hv
        have hsz : cs.toArray.size = 1 := by simpa using h2
        rw [dif_pos hsz]
        have := h3 0 u1 rfl
        match cs, h2 with
        | [c], _ => simpa using this
      | cons u2 r =>
        simp only at hv
        injection hv with hv
        subst hv
        have hsz : ¬ cs.toArray.size = 1 := by simp at h2 ⊢; omega
        rw [dif_neg hsz]
        exact .tup _ _ (by simp [h2]) (fun i x hi => by simpa using h3 i x hi)
end
theorem repH_empty {w : World} {S : Nat → Prop} (hS : ∀ b, S b → b < w.heap.size) (μ : Gh) : RepH w S (fun _ => none) μ :=
  ⟨fun _ _ ho => (by cases ho), fun _ _ _ _ ho => (by cases ho), fun _ _ ho => (by cases ho), hS⟩
theorem body_calls {P : Program} {Γ : Env} (hΓ : EnvOK P Γ) {n : Nat} (ih : CallOK P (evalF Γ n)) {f : FuncId} {lf : LFunc} (hf : Γ.code f = some lf) {args : List AV} {cargs : Array Value} {w : World} {S : Nat → Prop} {h : Heap} {μ : Gh} {pins : List Nat} {r : AV × Heap}
    (hp : RepH w S h μ) (hpn : PinOK pins h μ μ) (hsz : cargs.size = args.length) (ha : ∀ i x, args[i]? = some x → Rep w S h μ x (cargs.getD i undef))
    (he : finish lf pins (evalL n (evalF Γ n) pins 0 lf.body ⟨fr (argsF 0 args), h⟩) = some r) {R : Ending → World → Prop}
    (hR : ∀ (w' : World) (S' : Nat → Prop) (σ' : St) (μ' : Gh) (v : AV) (cv : Value), RepH w' S' σ'.h μ' → Rep w' S' σ'.h μ' v cv → Evo w S h μ w' S' σ'.h μ' → PinOK pins σ'.h μ' μ →
      (if lf.pm = true then finishP σ'.h (some v) else finishR pins σ'.h (some v)) = some r → R (.returned cv) w') : Calls P f cargs w R := by
  obtain ⟨fn, hi, h1, h2⟩ := hΓ.code f lf hf
  unfold compF at h2
  split at h2
  · cases h2
  · rename_i c hc
    split at h2
    · cases h2
    · rename_i hn
      split at h2
      · rename_i lc ls rs hlc hrs
        injection h2 with h2
        have e1 : lf.body = lc := by rw [← h2]
        have e2 : lf.res = rs := by rw [← h2]
        clear h2
        unfold finish at he
        split at he
        · cases he
        · rename_i e σ' hne hev
          cases hv : resV σ' lf.res with
          | none => rw [hv] at he; split at he <;> simp [finishP, finishR] at he
          | some v =>
            rw [hv] at he
            refine calls_of_wp h1 hc (wp_mono (code_wp ih hΓ.mixed n c hlc (e1 ▸ hev) (enter_rep (nt := fn.ntmps) hp hsz ha) hpn) fun x a' w' hcame => ?_)
            obtain ⟨c1, S', μ', c2, c3, c4⟩ := hcame
            obtain ⟨cv, q1, q2⟩ := results_run c2 hrs (e2 ▸ hv)
            have fin : bodyPost P fn R .ret a' w' := ⟨c2.df, cv, q1, hR w' S' σ' μ' v cv c2.hp q2 c3 c4 he⟩
            cases x with
            | normal => exact fin
            | ret => exact fin
            | exit j => cases e <;> simp only [LE.is] at c1; first | exact (hne _ _ rfl).elim | exact hne.elim | simp_all
            | _ => cases e <;> simp only [LE.is] at c1
        · cases he
      · cases h2
theorem pins_some {vs : List AV} {w : World} {S : Nat → Prop} {h : Heap} {μ : Gh} {cargs : Array Value} : ∀ (l : List AV) (k : Nat), (∀ i x, l[i]? = some x → Rep w S h μ x (cargs.getD (k + i) undef)) → ∀ i ∈ pinsOf k l, ∃ o, h i = some o
  | [], k, _, i, hi => by cases hi
  | v :: r, k, ha, i, hi => by
    rw [pinsOf, List.mem_append] at hi
    rcases hi with hi | hi
    · have h0 := ha 0 v rfl
      cases v <;> simp only [refNo] at hi <;> try (cases hi; done)
      all_goals
        split at hi
        · rename_i e
          rw [List.mem_singleton] at hi
          subst hi
          subst e
          cases h0 with
          | pure hp => cases hp
          | _ => exact ⟨_, by assumption⟩
        · cases hi
    · exact pins_some (vs := vs) r (k + 1) (fun i x hx => by
        have := ha (i + 1) x (by simpa using hx)
        rwa [show k + (i + 1) = k + 1 + i by omega] at this) i hi
theorem any_rep {nt : Nat} {w : World} {S : Nat → Prop} {h : Heap} {μ : Gh} (hp : RepH w S h μ) : RepS nt w S ⟨fun _ => .any, h⟩ μ { tmps := Array.replicate nt undef, defers := [] } :=
  ⟨fun _ => .any _, hp, rfl, by simp⟩
theorem evalF_ok {P : Program} {Γ : Env} (hΓ : EnvOK P Γ) : ∀ n, CallOK P (evalF Γ n)
  | 0 => ⟨fun f vs m r h => by simp [evalF] at h, fun f vs v h' h => by simp [evalF] at h, fun f vs h0 b v h' h => by simp [evalF] at h⟩
  | n + 1 => by
    have ih := evalF_ok hΓ n
    refine ⟨fun f vs m r h => ?_, fun f vs v h' h w S cargs hS hsz ha => ?_, fun f vs h0 b v h' h w S μ cargs hp hsz ha => ?_⟩
    · simp only [evalF] at h
      split at h
      · exact hΓ.ext.fn _ _ _ _ h
      · rename_i lf hlf
        obtain ⟨fn, hi, h1, h2⟩ := hΓ.code f lf hlf
        unfold compF at h2
        split at h2
        · cases h2
        · rename_i c hc
          split at h2
          · cases h2
          · rename_i hn
            simp only [Bool.or_eq_true, not_or] at hn
            exact ⟨fn, h1, by rw [hc]; rfl, by simpa using hn.1⟩
    · simp only [evalF] at h
      split at h
      · exact hΓ.ext.pure _ _ _ _ h w S cargs hS hsz ha
      · rename_i lf hlf
        split at h
        · rename_i hlen
          split at h
          · rename_i hpm _
            refine body_calls hΓ ih hlf (μ := ⟨fun _ => 0, fun _ => 0⟩) (repH_empty hS _) (fun i hi => by cases hi) hsz (fun i x hi => .pure (ha i x hi)) h fun w' S' σ' μ' u cv r1 r2 r3 r4 r5 => ?_
            rw [if_pos hpm] at r5
            unfold finishP at r5
            simp only at r5
            split at r5
            · rename_i u' ns hsn
              injection r5 with r5
              simp only [Prod.mk.injEq] at r5
              obtain ⟨rfl, _⟩ := r5
              have noOwn : ∀ b, ¬ Own (fun _ => none) (⟨fun _ => 0, fun _ => 0⟩ : Gh) b := fun b ⟨g, o, ho, _⟩ => by cases ho
              have hS' : ∀ b, S' b → AndNew S w w' b := fun b hb => by
                rcases r3.st2 b hb with h1 | h1 | h1
                · exact .inl h1
                · exact .inr ⟨h1, r1.lt b hb⟩
                · exact (noOwn b h1).elim
              refine ⟨cv, rfl, snap_sound r1 hS' depth hsn r2 (fun g hg => ?_), r3.os, r3.tape, r3.output, r3.size, fun b hb => r3.keep b hb (noOwn b)⟩
              obtain ⟨o1, hg1, _⟩ := snap_names depth hsn g hg
              cases hz1 : o1.fz with
              | true =>
                have hob := r1.ob g _ hg1
                cases o1 with
                | box v c => cases hz1
                | arr v e t c z => obtain ⟨_, _, _, _, h4⟩ := hob; exact hS' _ (h4 hz1)
                | map v es z => obtain ⟨_, _, _, _, h4, _⟩ := hob; exact hS' _ (h4 hz1)
              | false =>
                rcases r3.ow (μ'.b g) ⟨g, _, hg1, hz1, rfl⟩ with h1 | h1
                · exact (noOwn _ h1).elim
                · exact .inr ⟨h1, (r1.ob g _ hg1).lt⟩
            · cases r5
          · rename_i hpm hm; cases hm
          · cases h
        · cases h
    · simp only [evalF] at h
      split at h
      · exact hΓ.ext.byref _ _ _ _ _ _ h w S μ cargs hp hsz ha
      · rename_i lf hlf
        split at h
        · rename_i hlen
          split at h
          · rename_i hpm hm; cases hm
          · rename_i h1 b1 hpm hm
            injection hm with hm
            simp only [Prod.mk.injEq] at hm
            obtain ⟨rfl, rfl⟩ := hm
            have pin0 : PinOK (pinsOf 0 vs) h0 μ μ := fun i hi => by
              obtain ⟨o, ho⟩ := pins_some (vs := vs) vs 0 (fun i x hx => by rw [Nat.zero_add]; exact ha i x hx) i hi
              exact ⟨o, ho, fun _ => ⟨rfl, rfl⟩⟩
            refine body_calls hΓ ih hlf hp pin0 hsz ha h fun w' S' σ' μ' u cv r1 r2 r3 r4 r5 => ?_
            rw [hpm] at r5
            rw [if_neg (by decide)] at r5
            unfold finishR at r5
            simp only at r5
            split at r5
            · rename_i hptr
              unfold endR at r5
              split at r5
              · rename_i τ hτ
                cases r5
                obtain ⟨μ2, n1, n2, n3⟩ := norm_sound (any_rep (nt := 0) r1) r4 hτ
                refine ⟨cv, S', μ2, rfl, ?_, n1.hp, r3.trans n2, n3⟩
                -- a pointer to a name that is held
                unfold ptrIn at hptr
                split at hptr
                · rename_i g off
                  have hg : g ∈ pinsOf 0 vs := by simpa using hptr
                  obtain ⟨o, ho, hoo⟩ := r4 g hg
                  obtain ⟨o2, ho2, hoo2⟩ := n3 g hg
                  obtain ⟨o1, ho1, e1⟩ : ∃ o1, σ'.h g = some o1 ∧ o1.ver = 0 := by
                    unfold norm at hτ
                    split at hτ
                    · rename_i tb0 hpin
                      obtain ⟨-, -, t3⟩ := mkPin_ok _ .nil hpin
                      obtain ⟨o, h1, h2, -⟩ := t3 g hg
                      exact ⟨o, h1, h2⟩
                    · cases hτ
                  rw [ho] at ho1
                  cases ho1
                  obtain ⟨a1, a2⟩ := hoo e1
                  cases r2 with
                  | pure hp => cases hp
                  | ptr _ _ _ _ o3 ho3 hv3 h13 hr3 =>
                    rw [ho] at ho3
                    cases ho3
                    refine .ptr g 0 off cv o2 ho2 (Nat.zero_le _) h13 fun e => ?_
                    obtain ⟨b1, b2⟩ := hoo2 e.symm
                    rw [b1, b2, ← a1, ← a2]
                    exact hr3 e1.symm
                · cases hptr
              · cases r5
            · unfold endS at r5
              split at r5
              · rename_i u' ns hsn
                unfold endR at r5
                split at r5
                · rename_i τ hτ
                  cases r5
                  obtain ⟨f1, f2, f3⟩ := freeze_ok r1 (fun g hg => snap_names depth hsn g hg)
                  have hsd := snap_sound r1 (S' := fun b => S' b ∨ ∃ g ∈ ns, μ'.b g = b) (fun b hb => .inl hb) depth hsn r2 (fun g hg => .inr ⟨g, hg, rfl⟩)
                  obtain ⟨μ2, n1, n2, n3⟩ := norm_sound (any_rep (nt := 0) f1) (r4.step f3) hτ
                  exact ⟨cv, _, μ2, rfl, .pure hsd, n1.hp, (r3.trans f2).trans n2, n3⟩
                · cases r5
              · cases r5
          · cases h
        · cases h
end Go.Vv
