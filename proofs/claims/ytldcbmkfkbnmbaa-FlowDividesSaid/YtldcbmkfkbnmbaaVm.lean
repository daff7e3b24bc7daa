/- The evaluator's calls are right of the model's calls. Conditions: 'EnvOK': the code of each function is the compilation of the model's. -/
import Derived.Test.YtldcbmkfkbnmbaaVl
namespace Go.Vv
open Go

def compRes (P : Program) : ResultVar → Option RV
  | .tmp t => some (.tmp t)
  | .cell t ty =>
    match aggT P ty, szT P ty with
    | some ag, some n => if ag ∨ n = 1 then some (.cell t ag n) else none
    | _, _ => none
def compRess (P : Program) : List ResultVar → Option (List RV)
  | [] => some []
  | r :: l =>
    match compRes P r, compRess P l with
    | some x, some m => some (x :: m)
    | _, _ => none
/-- The compilation of a function. -/
def compF (P : Program) (hi : Hints) (pm : Bool) (fn : Func) : Option LFunc :=
  match fn.body with
  | none => none
  | some c =>
    if (fn.name == "runtime.NumGoroutine") || fn.ntmps < fn.params.size then none else
    match compC P hi fn.ntmps c hi.loops, compRess P fn.results.toList with
    | some (lc, _), some rs => some ⟨fn.params.size, rs, pm, lc⟩
    | _, _ => none
structure EnvOK (P : Program) (Γ : Env) : Prop where
  mixed : P.follows .mixedOrders = true
  code : ∀ f lf, Γ.code f = some lf → ∃ fn hi, P.funcs[f]? = some fn ∧ compF P hi lf.pm fn = some lf
  ext : CallOK P Γ.ext

/-- The value of a result. -/
def getRes (a : Act) : ResultVar → Sem Value
  | .tmp t => pure (a.tmps.getD t undef)
  | .cell b t => do loadVar t (← asAddr (a.tmps.getD b undef))
section
variable {P : Program} {w : World} {S : Nat → Prop} {σ : St} {μ : Gh} {a : Act} {nt : Nat}
theorem res_run (hs : RepS nt w S σ μ a) : ∀ {l : List ResultVar} {rs : List RV} {vs : List AV}, compRess P l = some rs → rs.mapM (RV.get σ) = some vs →
    ∃ cs : List Value, (l.mapM (getRes a)).run P w = .ok cs w ∧ cs.length = vs.length ∧ ∀ i x, vs[i]? = some x → Rep w S σ.h μ x (cs.getD i undef)
  | [], rs, vs, hc, hv => by
    simp [compRess] at hc
    subst hc
    simp at hv
    subst hv
    exact ⟨[], by simp, rfl, fun i x hi => by simp at hi⟩
  | r :: l, rs, vs, hc, hv => by
    unfold compRess at hc
    split at hc
    · rename_i x m hx hm
      injection hc with hc
      subst hc
      rw [List.mapM_cons] at hv
      cases hgx : RV.get σ x with
      | none => rw [hgx] at hv; cases hv
      | some v =>
        cases hgm : m.mapM (RV.get σ) with
        | none => rw [hgx, hgm] at hv; cases hv
        | some us =>
          rw [hgx, hgm] at hv
          injection hv with hv
          subst hv
          obtain ⟨cs, h1, h2, h3⟩ := res_run hs hm hgm
          have one : ∃ cv, (getRes a r).run P w = .ok cv w ∧ Rep w S σ.h μ v cv := by
            cases r with
            | tmp t =>
              simp [compRes] at hx
              subst hx
              simp [RV.get] at hgx
              subst hgx
              exact ⟨_, by simp [getRes], hs.fr t⟩
            | cell b t =>
              simp only [compRes] at hx
              split at hx
              · rename_i ag n hag hn
                split at hx
                · rename_i hone
                  injection hx with hx
                  subst hx
                  simp only [RV.get] at hgx
                  have hd : ∃ ad, a.tmps.getD b undef = .pointer (some ad) := by
                    unfold loadV at hgx
                    split at hgx
                    · rename_i l' off hd
                      obtain ⟨ad, e, _⟩ := deref_sound hs.hp (hs.fr b) hd
                      exact ⟨ad, e⟩
                    · cases hgx
                  obtain ⟨ad, e⟩ := hd
                  obtain ⟨cv, r1, r2⟩ := load_sound (P := P) hs.hp hag hn hone (hs.fr b) hgx
                  refine ⟨cv, ?_, r2⟩
                  rw [e] at r1
                  simp only [getRes, e]
                  simpa [Instr.loadAt, Instr.sureAddr, asAddr] using r1
                · cases hx
              · cases hx
          obtain ⟨cv, o1, o2⟩ := one
          refine ⟨cv :: cs, ?_, by simp [h2], fun i y hi => ?_⟩
          · rw [List.mapM_cons]
            simp only [Sem.run_bind, o1, h1, Result.andThen_ok, Sem.run_pure]
          · cases i with
            | zero => simp at hi; subst hi; simpa using o2
            | succ i => simpa using h3 i y (by simpa using hi)
    · cases hc
theorem results_run (hs : RepS nt w S σ μ a) {fn : Func} {rs : List RV} {v : AV} (hc : compRess P fn.results.toList = some rs) (hv : resV σ rs = some v) :
    ∃ cv, (results fn a.tmps).run P w = .ok cv w ∧ Rep w S σ.h μ v cv := by
  unfold resV at hv
  cases hm : rs.mapM (RV.get σ) with
  | none => rw [hm] at hv; cases hv
  | some vs =>
    rw [hm] at hv
    obtain ⟨cs, h1, h2, h3⟩ := res_run hs hc hm
    have hrun : (results fn a.tmps).run P w = .ok (if h : cs.toArray.size = 1 then cs.toArray[0] else .tuple cs.toArray) w := by
      have e : results fn a.tmps = (do let vs ← fn.results.mapM (getRes a); pure (if h : vs.size = 1 then vs[0] else .tuple vs)) := by
        unfold results
        congr 2
      rw [e, Array.mapM_eq_mapM_toList]
      simp only [Sem.run_bind, Sem.run_map, h1, Result.andThen_ok, Sem.run_pure]
    refine ⟨_, hrun, ?_⟩
    clear hm hrun
    cases vs with
    | nil =>
      simp only at hv
      injection hv with hv
      subst hv
      have : cs = [] := List.eq_nil_of_length_eq_zero h2
      subst this
      exact .tup [] #[] rfl (fun i x hi => by simp at hi)
    | cons u1 r =>
      cases r with
      | nil =>
        simp only at hv
        injection hv with hv
        subst hv
        have hsz : cs.toArray.size = 1 := by simpa using h2
        rw [dif_pos hsz]
        have := h3 0 u1 rfl
        match cs, h2 with
        | [c], _ => simpa using this
      | cons u2 r =>
        simp only at hv
        injection hv with hv
        subst hv
        have hsz : ¬ cs.toArray.size = 1 := by simp at h2 ⊢; omega
        rw [dif_neg hsz]
        exact .tup _ _ (by simp [h2]) (fun i x hi => by simpa using h3 i x hi)
end
theorem argsF_get : ∀ (l : List AV) (k d : Nat), fr (argsF k l) d = if k ≤ d then (l[d - k]?).getD .any else .any
  | [], k, d => by simp [argsF, fr]
  | v :: l, k, d => by
    simp only [argsF, fr]
    by_cases h : d = k
    · subst h; simp
    · rw [if_neg h, argsF_get l (k + 1) d]
      by_cases h2 : k + 1 ≤ d
      · rw [if_pos h2, if_pos (by omega), show d - k = (d - (k + 1)) + 1 by omega]; simp
      · rw [if_neg h2, if_neg (by omega)]
theorem enter_rep {w : World} {S : Nat → Prop} {h : Heap} {μ : Gh} {args : List AV} {cargs : Array Value} {nt : Nat} (hp : RepH w S h μ) (hsz : cargs.size = args.length) (ha : ∀ i x, args[i]? = some x → Rep w S h μ x (cargs.getD i undef)) :
    RepS nt w S ⟨fr (argsF 0 args), h⟩ μ { tmps := cargs ++ Array.replicate (nt - cargs.size) undef, defers := [] } := by
  refine ⟨fun d => ?_, hp, rfl, by simp; omega⟩
  simp only [argsF_get, Nat.zero_le, if_true, Nat.sub_zero]
  cases hd : args[d]? with
  | none => exact .any _
  | some x =>
    have hlt : d < cargs.size := by have := (List.getElem?_eq_some_iff.1 hd).1; omega
    have e : (cargs ++ Array.replicate (nt - cargs.size) undef).getD d undef = cargs.getD d undef := by
      simp only [Array.getD_eq_getD_getElem?]
      rw [Array.getElem?_append_left hlt]
    rw [e]
    exact ha d x hd
theorem repH_empty {w : World} {S : Nat → Prop} (hS : ∀ b, S b → b < w.heap.size) (μ : Gh) : RepH w S (fun _ => none) μ :=
  ⟨fun _ _ ho => (by cases ho), fun _ _ _ _ ho => (by cases ho), fun _ _ ho => (by cases ho), hS⟩
theorem body_calls {P : Program} {Γ : Env} (hΓ : EnvOK P Γ) {n : Nat} (ih : CallOK P (evalF Γ n)) {f : FuncId} {lf : LFunc} (hf : Γ.code f = some lf) {args : List AV} {cargs : Array Value} {w : World} {S : Nat → Prop} {h : Heap} {μ : Gh} {base : Nat} {r : AV × Heap}
    (hp : RepH w S h μ) (_ : args.length = lf.np) (hsz : cargs.size = args.length) (ha : ∀ i x, args[i]? = some x → Rep w S h μ x (cargs.getD i undef))
    (he : finish lf (evalL n (evalF Γ n) lf.pm base lf.body ⟨fr (argsF 0 args), h⟩) = some r) {R : Ending → World → Prop}
    (hR : ∀ (w' : World) (S' : Nat → Prop) (σ' : St) (μ' : Gh) (v : AV) (cv : Value), RepH w' S' σ'.h μ' → Rep w' S' σ'.h μ' v cv → Evo w S h μ w' S' σ'.h μ' → (lf.pm = false → EvoV h μ σ'.h μ') →
      (if lf.pm then (match snap σ'.h depth v with | some (u, _) => some (u, fun _ => none) | none => none) else some (v, σ'.h)) = some r → R (.returned cv) w') : Calls P f cargs w R := by
  obtain ⟨fn, hi, h1, h2⟩ := hΓ.code f lf hf
  unfold compF at h2
  split at h2
  · cases h2
  · rename_i c hc
    split at h2
    · cases h2
    · rename_i hn
      split at h2
      · rename_i lc ls rs hlc hrs
        injection h2 with h2
        have e1 : lf.body = lc := by rw [← h2]
        have e2 : lf.res = rs := by rw [← h2]
        clear h2
        unfold finish at he
        split at he
        · cases he
        · rename_i e σ' hne hev
          split at he
          · rename_i v hv
            refine calls_of_wp h1 hc (wp_mono (code_wp ih hΓ.mixed n c hlc (e1 ▸ hev) (enter_rep (nt := fn.ntmps) hp hsz ha)) fun x a' w' hcame => ?_)
            obtain ⟨c1, S', μ', c2, c3, c4⟩ := hcame
            obtain ⟨cv, q1, q2⟩ := results_run c2 hrs (e2 ▸ hv)
            have fin : bodyPost P fn R .ret a' w' := ⟨c2.df, cv, q1, hR w' S' σ' μ' v cv c2.hp q2 c3 c4 he⟩
            cases x with
            | normal => exact fin
            | ret => exact fin
            | exit j => cases e <;> simp only [LE.is] at c1; first | exact (hne _ _ rfl).elim | exact hne.elim | simp_all
            | _ => cases e <;> simp only [LE.is] at c1
          · cases he
        · cases he
      · cases h2
theorem evalF_ok {P : Program} {Γ : Env} (hΓ : EnvOK P Γ) : ∀ n, CallOK P (evalF Γ n)
  | 0 => ⟨fun f vs m r h => by simp [evalF] at h, fun f vs v h' h => by simp [evalF] at h, fun f vs h0 b v h' h => by simp [evalF] at h⟩
  | n + 1 => by
    have ih := evalF_ok hΓ n
    refine ⟨fun f vs m r h => ?_, fun f vs v h' h w S cargs hS hsz ha => ?_, fun f vs h0 b v h' h w S μ cargs hp hsz ha => ?_⟩
    · simp only [evalF] at h
      split at h
      · exact hΓ.ext.fn _ _ _ _ h
      · rename_i lf hlf
        obtain ⟨fn, hi, h1, h2⟩ := hΓ.code f lf hlf
        unfold compF at h2
        split at h2
        · cases h2
        · rename_i c hc
          split at h2
          · cases h2
          · rename_i hn
            simp only [Bool.or_eq_true, not_or] at hn
            exact ⟨fn, h1, by rw [hc]; rfl, by simpa using hn.1⟩
    · simp only [evalF] at h
      split at h
      · exact hΓ.ext.pure _ _ _ _ h w S cargs hS hsz ha
      · rename_i lf hlf
        split at h
        · rename_i hlen
          split at h
          · rename_i hpm _
            rw [← hpm] at h
            refine body_calls hΓ ih hlf (μ := ⟨fun _ => 0, fun _ => 0⟩) (repH_empty hS _) hlen hsz (fun i x hi => .pure (ha i x hi)) h fun w' S' σ' μ' u cv r1 r2 r3 r4 r5 => ?_
            rw [hpm] at r5
            simp only [if_true] at r5
            split at r5
            · rename_i u' ns hsn
              injection r5 with r5
              simp only [Prod.mk.injEq] at r5
              obtain ⟨rfl, _⟩ := r5
              have noOwn : ∀ b, ¬ Own (fun _ => none) (⟨fun _ => 0, fun _ => 0⟩ : Gh) b := fun b ⟨g, o, ho, _⟩ => by cases ho
              have hS' : ∀ b, S' b → AndNew S w w' b := fun b hb => by
                rcases r3.st2 b hb with h1 | h1 | h1
                · exact .inl h1
                · exact .inr ⟨h1, r1.lt b hb⟩
                · exact (noOwn b h1).elim
              refine ⟨cv, rfl, snap_sound r1 hS' depth hsn r2 (fun g hg => ?_), r3.os, r3.tape, r3.output, r3.size, fun b hb => r3.keep b hb (noOwn b)⟩
              obtain ⟨v1, e1, t1, c1, z1, hg1⟩ := snap_names depth hsn g hg
              cases z1 with
              | true => obtain ⟨_, _, _, _, h4⟩ := r1.ob g _ hg1; exact hS' _ (h4 rfl)
              | false =>
                rcases r3.ow (μ'.b g) ⟨g, _, hg1, rfl, rfl⟩ with h1 | h1
                · exact (noOwn _ h1).elim
                · exact .inr ⟨h1, (r1.ob g _ hg1).lt⟩
            · cases r5
          · rename_i hpm hm; cases hm
          · cases h
        · cases h
    · simp only [evalF] at h
      split at h
      · exact hΓ.ext.byref _ _ _ _ _ _ h w S μ cargs hp hsz ha
      · rename_i lf hlf
        split at h
        · rename_i hlen
          split at h
          · rename_i hpm hm; cases hm
          · rename_i h1 b1 hpm hm
            injection hm with hm
            simp only [Prod.mk.injEq] at hm
            obtain ⟨rfl, rfl⟩ := hm
            rw [← hpm] at h
            refine body_calls hΓ ih hlf hp hlen hsz ha h fun w' S' σ' μ' u cv r1 r2 r3 r4 r5 => ?_
            rw [hpm] at r5
            simp only [Bool.false_eq_true, if_false] at r5
            injection r5 with r5
            simp only [Prod.mk.injEq] at r5
            obtain ⟨rfl, rfl⟩ := r5
            exact ⟨cv, rfl, S', μ', r2, r1, r3, r4 hpm⟩
          · cases h
        · cases h
end Go.Vv
