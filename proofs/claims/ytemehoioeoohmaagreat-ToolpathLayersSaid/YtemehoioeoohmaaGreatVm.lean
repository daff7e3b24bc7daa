/- The evaluator's calls are right of the model's calls. Conditions: 'EnvOK': the code of each function is the compilation of the model's. -/
import Derived.Test.YtemehoioeoohmaaGreatVl
namespace Go.Vv
open Go
open List renaming eq_nil_of_length_eq_zero → Aa, mapM_cons → Ab
open Nat renaming zero_add → Ac
def Jwg (P : Program) : ResultVar → Option RV
 | .tmp t => some (.tmp t)
 | .cell t ty =>
  match aggT P ty, szT P ty with
  | some ag, some n => if ag ∨ n = 1 then some (.cell t ag n) else none
  | _, _ => none
def Jlz (P : Program) : List ResultVar → Option (List RV)
 | [] => some []
 | r :: l =>
  match Jwg P r, Jlz P l with
  | some x, some m => some (x :: m)
  | _, _ => none
def Qw (P : Program) (hi : Qt) (pm : Bool) (fn : Func) : Option LFunc :=
 match fn.body with
 | none => none
 | some c =>
  if (fn.name == "runtime.NumGoroutine") || fn.ntmps < fn.params.size + fn.nfree then none else
  match Ji8 P hi fn.ntmps c hi.loops, Jlz P fn.results.toList with
  | some (lc, _), some rs => some ⟨fn.params.size + fn.nfree, rs, pm, lc⟩
  | _, _ => none
structure J3u (P : Program) (Γ : Env) : Prop where
 mixed : P.follows .mixedOrders = true
 code : ∀ f lf, Γ.code f = some lf → ∃ fn hi, P.funcs[f]? = some fn ∧ Qw P hi lf.pm fn = some ⟨lf.np, lf.res.map RV.base, lf.pm, lf.body⟩
 ext : Jjx P Γ.ext
def Jtn (a : Act) : ResultVar → Sem Value
 | .tmp t => pure (a.tmps.getD t undef)
 | .cell b t => do loadVar t (← asAddr (a.tmps.getD b undef))
section
variable {P : Program} {w : World} {S : Nat → Prop} {σ : St} {μ : Gh} {a : Act} {nt : Nat}
theorem J7f (hs : RepS nt w S σ μ a) : ∀ {l : List ResultVar} {rs : List RV} {vs : List AV}, Jlz P l = some rs → rs.mapM (RV.get σ) = some vs →
  ∃ cs : List Value, (l.mapM (Jtn a)).run P w = .ok cs w ∧ cs.length = vs.length ∧ ∀ i x, vs[i]? = some x → Rep w S σ.h μ x (cs.getD i undef)
 | [], rs, vs, hc, hv => by
  simp [Jlz] at hc
  subst hc
  simp at hv
  subst hv
  exact ⟨[], by simp, rfl, fun i x hi => by simp at hi⟩
 | r :: l, rs, vs, hc, hv => by
  unfold Jlz at hc
  split at hc
  ·rename_i x m hx hm
   injection hc with hc
   subst hc
   rw [Ab] at hv
   cases hgx : RV.get σ x with
   | none => rw [hgx] at hv; cases hv
   | some v =>
    cases hgm : m.mapM (RV.get σ) with
    | none => rw [hgx, hgm] at hv; cases hv
    | some us =>
     rw [hgx, hgm] at hv
     injection hv with hv
     subst hv
     obtain ⟨cs, h1, h2, h3⟩ := J7f hs hm hgm
     have one : ∃ cv, (Jtn a r).run P w = .ok cv w ∧ Rep w S σ.h μ v cv := by
      cases r with
      | tmp t =>
       simp [Jwg] at hx
       subst hx
       simp [RV.get] at hgx
       subst hgx
       exact ⟨_, by simp [Jtn], hs.fr t⟩
      | cell b t =>
       simp only [Jwg] at hx
       split at hx
       ·rename_i ag n hag hn
        split at hx
        ·rename_i hone
         injection hx with hx
         subst hx
         simp only [RV.get] at hgx
         have hd : ∃ ad, a.tmps.getD b undef = .pointer (some ad) := by
          unfold Jql at hgx
          split at hgx
          ·rename_i l' off hd
           obtain ⟨ad, e, _⟩ := Jpf hs.hp (hs.fr b) hd
           exact ⟨ad, e⟩
          ·cases hgx
         obtain ⟨ad, e⟩ := hd
         obtain ⟨cv, r1, r2⟩ := Jrb (P := P) hs.hp hag hn hone (hs.fr b) hgx
         refine ⟨cv, ?_, r2⟩
         rw [e] at r1
         simp only [Jtn, e]
         simpa [Instr.loadAt, Instr.sureAddr, asAddr] using r1
        ·cases hx
       ·cases hx
     obtain ⟨cv, o1, o2⟩ := one
     refine ⟨cv :: cs, ?_, by simp [h2], fun i y hi => ?_⟩
     ·rw [Ab]
      simp only [Sem.run_bind, o1, h1, Result.andThen_ok, Sem.run_pure]
     ·cases i with
      | zero => simp at hi; subst hi; simpa using o2
      | succ i => simpa using h3 i y (by simpa using hi)
  ·cases hc
theorem Jvg (hs : RepS nt w S σ μ a) {fn : Func} {rs : List RV} {v : AV} (hc : Jlz P fn.results.toList = some rs) (hv : resV σ rs = some v) :
  ∃ cv, (results fn a.tmps).run P w = .ok cv w ∧ Rep w S σ.h μ v cv := by
 unfold resV at hv
 cases hm : rs.mapM (RV.get σ) with
 | none => rw [hm] at hv; cases hv
 | some vs =>
  rw [hm] at hv
  obtain ⟨cs, h1, h2, h3⟩ := J7f hs hc hm
  have hrun : (results fn a.tmps).run P w = .ok (if h : cs.toArray.size = 1 then cs.toArray[0] else .tuple cs.toArray) w := by
   have e : results fn a.tmps = (do let vs ← fn.results.mapM (Jtn a); pure (if h : vs.size = 1 then vs[0] else .tuple vs)) := by
    unfold results
    congr 2
   rw [e, Array.mapM_eq_mapM_toList]
   simp only [Sem.run_bind, Sem.run_map, h1, Result.andThen_ok, Sem.run_pure]
  refine ⟨_, hrun, ?_⟩
  clear hm hrun
  cases vs with
  | nil =>
   simp only at hv
   injection hv with hv
   subst hv
   have : cs = [] := Aa h2
   subst this
   exact .tup [] #[] rfl (fun i x hi => by simp at hi)
  | cons u1 r =>
   cases r with
   | nil =>
    simp only at hv
    injection hv with hv
    subst hv
    have hsz : cs.toArray.size = 1 := by simpa using h2
    rw [dif_pos hsz]
    have := h3 0 u1 rfl
    match cs, h2 with
    | [c], _ => simpa using this
   | cons u2 r =>
    simp only at hv
    injection hv with hv
    subst hv
    have hsz : ¬ cs.toArray.size = 1 := by simp at h2 ⊢; omega
    rw [dif_neg hsz]
    exact .tup _ _ (by simp [h2]) (fun i x hi => by simpa using h3 i x hi)
end
theorem get_base (σ : St) (r : RV) : RV.get σ r.base = RV.get σ r := by cases r <;> rfl
theorem Jte (σ : St) : ∀ l : List RV, (l.map RV.base).mapM (RV.get σ) = l.mapM (RV.get σ)
 | [] => rfl
 | r :: l => by rw [List.map_cons, Ab, Ab, get_base, Jte σ l]
theorem J6b (σ : St) (l : List RV) : resV σ (l.map RV.base) = resV σ l := by
 unfold resV
 rw [Jte]
theorem pack_inv {w : World} {S : Nat → Prop} {h : Heap} {μ : Gh} {vs : List AV} {cv : Value} (hr : Rep w S h μ (Jq4 vs) cv) :
  ∃ cs : Array Value, cs.size = vs.length ∧ (∀ i x, vs[i]? = some x → Rep w S h μ x (cs.getD i undef)) ∧ ∀ (us : List AV) (w' : World) (S' : Nat → Prop) (h' : Heap) (μ' : Gh), us.length = vs.length → (∀ i x, us[i]? = some x → Rep w' S' h' μ' x (cs.getD i undef)) → Rep w' S' h' μ' (Jq4 us) cv := by
 match vs, hr with
 | [v], hr =>
  refine ⟨#[cv], rfl, fun i x hi => ?_, fun us w' S' h' μ' hl hu => ?_⟩
  ·cases i with
   | zero => simp at hi; subst hi; exact hr
   | succ i => simp at hi
  ·match us, hl with
   | [u], _ => exact hu 0 u rfl
 | [], hr =>
  obtain ⟨cs, e, h1, h2⟩ := hr.tup_inv
  refine ⟨cs, h1.symm, h2, fun us w' S' h' μ' hl hu => ?_⟩
  have : us = [] := Aa hl
  subst this
  rw [e]
  exact .tup [] cs h1 hu
 | a :: b :: r, hr =>
  obtain ⟨cs, e, h1, h2⟩ := hr.tup_inv
  refine ⟨cs, h1.symm, h2, fun us w' S' h' μ' hl hu => ?_⟩
  match us, hl with
  | x :: y :: z, hl =>
   rw [e]
   exact .tup _ cs (by rw [hl]; exact h1) hu
theorem Jr8 {w : World} {S S' : Nat → Prop} {h h' : Heap} {μ : Gh} (hp : RepH w S h μ) (hS : ∀ b, S b → S' b) (hev : ∀ x c, Rep w S h μ x c → Rep w S' h' μ x c) {cs : Array Value} : ∀ (rs : List RV) (vs : List AV) (k : Nat) {us : List AV} {ns : List Nat},
  rs.length = vs.length → Jm4 h rs vs = some (us, ns) → (∀ i x, vs[i]? = some x → Rep w S h μ x (cs.getD (k + i) undef)) → (∀ g ∈ ns, S' (μ.b g)) →
  us.length = vs.length ∧ ∀ i x, us[i]? = some x → Rep w S' h' μ x (cs.getD (k + i) undef)
 | [], [], k, us, ns, hl, ho, hv, hn => by
  cases ho
  exact ⟨rfl, fun i x hi => by simp at hi⟩
 | r :: rs, v :: vs, k, us, ns, hl, ho, hv, hn => by
  rw [Jm4] at ho
  cases h1 : outV h r v with
  | none => rw [h1] at ho; cases ho
  | some p =>
   cases h2 : Jm4 h rs vs with
   | none => rw [h1, h2] at ho; cases ho
   | some q =>
    rw [h1, h2] at ho
    cases ho
    obtain ⟨a1, a2⟩ := Jr8 hp hS hev rs vs (k + 1) (by simpa using hl) h2 (fun i x hi => by
     have := hv (i + 1) x (by simpa using hi)
     rwa [show k + (i + 1) = k + 1 + i by omega] at this) (fun g hg => hn g (List.mem_append_right _ hg))
    refine ⟨by simp [a1], fun i x hi => ?_⟩
    cases i with
    | zero =>
     simp at hi
     subst hi
     have h0 := hv 0 v rfl
     have sn : snap h depth v = some p → Rep w S' h' μ p.1 (cs.getD (k + 0) undef) := fun hs => .pure (Je0 hp hS depth (u := p.1) (ns := p.2) hs h0 fun g hg => hn g (List.mem_append_left _ hg))
     cases r with
     | own t => injection h1 with h1; subst h1; exact hev _ _ h0
     | tmp t => exact sn h1
     | cell t a n => exact sn h1
    | succ i =>
     have := a2 i x (by simpa using hi)
     rwa [show k + 1 + i = k + (i + 1) by omega] at this
 | [], _ :: _, k, us, ns, hl, ho, hv, hn => by simp at hl
 | _ :: _, [], k, us, ns, hl, ho, hv, hn => by simp at hl
theorem Jrf {h : Heap} : ∀ (rs : List RV) (vs : List AV) {us : List AV} {ns : List Nat}, Jm4 h rs vs = some (us, ns) → ∀ g ∈ ns, ∃ o, h g = some o ∧ o.freeze.fz = true
 | [], vs, us, ns, ho => by cases ho; exact fun g hg => by cases hg
 | r :: rs, [], us, ns, ho => by cases ho; exact fun g hg => by cases hg
 | r :: rs, v :: vs, us, ns, ho => by
  rw [Jm4] at ho
  cases h1 : outV h r v with
  | none => rw [h1] at ho; cases ho
  | some p =>
   cases h2 : Jm4 h rs vs with
   | none => rw [h1, h2] at ho; cases ho
   | some q =>
    rw [h1, h2] at ho
    cases ho
    intro g hg
    rcases List.mem_append.1 hg with hg | hg
    ·cases r with
     | own t => injection h1 with h1; subst h1; cases hg
     | tmp t => exact Jea depth (u := p.1) (ns := p.2) h1 g hg
     | cell t a n => exact Jea depth (u := p.1) (ns := p.2) h1 g hg
    ·exact Jrf rs vs h2 g hg
theorem own_end {w0 w : World} {S0 S : Nat → Prop} {h0 h : Heap} {μ0 μ : Gh} {pins : List Nat} {rs : List RV} {vs : List AV} {cv : Value} {r : AV × Heap} (hp : RepH w S h μ) (hr : Rep w S h μ (Jq4 vs) cv) (hl : rs.length = vs.length) (ev : Evo w0 S0 h0 μ0 w S h μ) (pn : PinOK pins h μ μ0)
  (he : Jla pins h rs (some vs) = some r) : ∃ S' μ', Rep w S' r.2 μ' r.1 cv ∧ RepH w S' r.2 μ' ∧ Evo w0 S0 h0 μ0 w S' r.2 μ' ∧ PinOK pins r.2 μ' μ0 := by
 obtain ⟨cs, c1, c2, c3⟩ := pack_inv hr
 have he : finO pins h (Jm4 h rs vs) = some r := he
 cases ho : Jm4 h rs vs with
 | none => rw [ho] at he; cases he
 | some p =>
  obtain ⟨us, ns⟩ := p
  rw [ho] at he
  unfold finO endO at he
  simp only at he
  split at he
  ·rename_i τ hτ
   cases he
   obtain ⟨f1, f2, f3⟩ := Jk6 hp (Jrf rs vs ho)
   obtain ⟨a1, a2⟩ := Jr8 (k := 0) hp (S' := fun b => S b ∨ ∃ g ∈ ns, μ.b g = b) (h' := Kg h ns) (fun b hb => .inl hb) (fun x c hx => hx.evo hp f2 f3) rs vs hl ho (fun i x hi => by rw [Ac]; exact c2 i x hi) (fun g hg => .inr ⟨g, hg, rfl⟩)
   have hs : RepS 0 w (fun b => S b ∨ ∃ g ∈ ns, μ.b g = b) ⟨fr (Jg1 resB us), Kg h ns⟩ μ { tmps := Array.replicate resB undef ++ cs, defers := [] } := by
    refine ⟨fun d => ?_, f1, rfl, Nat.zero_le _⟩
    show Rep _ _ _ _ (fr (Jg1 resB us) d) _
    rw [Jqg]
    split
    ·rename_i hd
     cases hu : us[d - resB]? with
     | none => exact .any _
     | some x =>
      have := a2 _ x hu
      rw [Ac] at this
      have e : (Array.replicate resB undef ++ cs).getD d undef = cs.getD (d - resB) undef := by
       simp only [Array.getD_eq_getD_getElem?]
       rw [Array.getElem?_append_right (by rw [Array.size_replicate]; exact hd), Array.size_replicate]
      rw [e]
      exact this
    ·exact .any _
   obtain ⟨μ2, n1, n2, n3⟩ := Jjn hs (pn.step f3) hτ
   refine ⟨_, μ2, c3 _ _ _ _ _ (by rw [Jv9, a1]) (fun i x hi => ?_), n1.hp, (ev.trans f2).trans n2, n3⟩
   obtain ⟨h2, rfl⟩ := Jve _ _ _ _ _ hi
   have := n1.fr (resB + i)
   have e : (Array.replicate resB undef ++ cs).getD (resB + i) undef = cs.getD i undef := by
    simp only [Array.getD_eq_getD_getElem?]
    rw [Array.getElem?_append_right (by rw [Array.size_replicate]; exact Nat.le_add_right _ _), Array.size_replicate, Nat.add_sub_cancel_left]
   rw [e] at this
   exact this
  ·cases he
theorem Jyr {w : World} {S : Nat → Prop} (hS : ∀ b, S b → b < w.heap.size) (μ : Gh) : RepH w S (fun _ => none) μ :=
 ⟨fun _ _ ho => (by cases ho), fun _ _ _ _ ho => (by cases ho), fun _ _ ho => (by cases ho), hS⟩
theorem Jrq {P : Program} {Γ : Env} (hΓ : J3u P Γ) {n : Nat} (ih : Jjx P (Jew Γ n)) {f : FuncId} {lf : LFunc} (hf : Γ.code f = some lf) {args : List AV} {cargs : Array Value} {w : World} {S : Nat → Prop} {h : Heap} {μ : Gh} {pins : List Nat} {r : AV × Heap}
  (hp : RepH w S h μ) (hpn : PinOK pins h μ μ) (hsz : cargs.size = args.length) (ha : ∀ i x, args[i]? = some x → Rep w S h μ x (cargs.getD i undef))
  (he : Jhy lf pins (Jcx n (Jew Γ n) pins 0 lf.body ⟨fr (Jg1 0 args), h⟩) = some r) {R : Ending → World → Prop}
  (hR : ∀ (w' : World) (S' : Nat → Prop) (σ' : St) (μ' : Gh) (v : AV) (cv : Value), RepH w' S' σ'.h μ' → Rep w' S' σ'.h μ' v cv → Evo w S h μ w' S' σ'.h μ' → PinOK pins σ'.h μ' μ →
   (if lf.pm = true then Jkz σ'.h (some v) = some r else if lf.res.any RV.isOwn = true then ∃ vs, lf.res.length = vs.length ∧ v = Jq4 vs ∧ Jla pins σ'.h lf.res (some vs) = some r else Jk4 pins σ'.h (some v) = some r) → R (.returned cv) w') : Calls P f cargs w R := by
 obtain ⟨fn, hi, h1, h2⟩ := hΓ.code f lf hf
 unfold Qw at h2
 split at h2
 ·cases h2
 ·rename_i c hc
  split at h2
  ·cases h2
  ·rename_i hn
   split at h2
   ·rename_i lc ls rs hlc hrs
    injection h2 with h2
    injection h2 with h2a h2b h2c h2d
    have e1 : lf.body = lc := h2d.symm
    have e2 : ∀ (σ : St) (v : AV), resV σ lf.res = some v → resV σ rs = some v := fun σ v h => by rw [h2b, J6b]; exact h
    unfold Jhy at he
    split at he
    ·cases he
    ·rename_i e σ' hne hev
     cases hv : resV σ' lf.res with
     | none =>
      have hm : lf.res.mapM (RV.get σ') = none := by
       unfold resV at hv
       split at hv
       ·cases hv
       ·cases hv
       ·assumption
      rw [hv, hm] at he
      split at he
      ·simp [Jkz] at he
      ·split at he
       ·simp [Jla] at he
       ·simp [Jk4] at he
     | some v =>
      rw [hv] at he
      have he' : if lf.pm = true then Jkz σ'.h (some v) = some r else if lf.res.any RV.isOwn = true then ∃ vs, lf.res.length = vs.length ∧ v = Jq4 vs ∧ Jla pins σ'.h lf.res (some vs) = some r else Jk4 pins σ'.h (some v) = some r := by
       split
       ·rename_i hpm
        rw [if_pos hpm] at he; exact he
       ·rename_i hpm
        rw [if_neg hpm] at he
        split
        ·rename_i hown
         rw [if_pos hown] at he
         unfold resV at hv
         split at hv
         ·rename_i u hm
          cases hv
          rw [hm] at he
          exact ⟨[v], (Jgd hm).1.symm, rfl, he⟩
         ·rename_i us hne2 hm
          cases hv
          rw [hm] at he
          refine ⟨us, (Jgd hm).1.symm, ?_, he⟩
          unfold Jq4
          split
          ·rename_i u; exact (hne2 u rfl).elim
          ·rfl
         ·cases hv
        ·rename_i hown
         rw [if_neg hown] at he; exact he
      refine calls_of_wp h1 hc (wp_mono (code_wp ih hΓ.mixed n c hlc (e1 ▸ hev) (Jtm (nt := fn.ntmps) hp hsz ha) hpn) fun x a' w' hcame => ?_)
      obtain ⟨c1, S', μ', c2, c3, c4⟩ := hcame
      obtain ⟨cv, q1, q2⟩ := Jvg c2 hrs (e2 _ _ hv)
      have fin : bodyPost P fn R .ret a' w' := ⟨c2.df, cv, q1, hR w' S' σ' μ' v cv c2.hp q2 c3 c4 he'⟩
      cases x with
      | normal => exact fin
      | ret => exact fin
      | exit j => clear fin he' he hR e2 hv h2a h2b h2c h2d q1 q2 hev; cases e <;> simp only [LE.is] at c1; first | exact (hne _ _ rfl).elim | exact hne.elim | simp_all
      | _ => cases e <;> simp only [LE.is] at c1
    ·cases he
   ·cases h2
theorem Jul {vs : List AV} {w : World} {S : Nat → Prop} {h : Heap} {μ : Gh} {cargs : Array Value} : ∀ (l : List AV) (k : Nat), (∀ i x, l[i]? = some x → Rep w S h μ x (cargs.getD (k + i) undef)) → ∀ i ∈ Jh3 k l, ∃ o, h i = some o
 | [], k, _, i, hi => by cases hi
 | v :: r, k, ha, i, hi => by
  rw [Jh3, List.mem_append] at hi
  rcases hi with hi | hi
  ·have h0 := ha 0 v rfl
   cases v <;> simp only [Jmm] at hi <;> try (cases hi; done)
   all_goals
    split at hi
    ·rename_i e
     rw [List.mem_singleton] at hi
     subst hi
     subst e
     cases h0 with
     | pure hp => cases hp
     | _ => exact ⟨_, by assumption⟩
    ·cases hi
  ·exact Jul (vs := vs) r (k + 1) (fun i x hx => by
    have := ha (i + 1) x (by simpa using hx)
    rwa [show k + (i + 1) = k + 1 + i by omega] at this) i hi
theorem J4l {nt : Nat} {w : World} {S : Nat → Prop} {h : Heap} {μ : Gh} (hp : RepH w S h μ) : RepS nt w S ⟨fun _ => .any, h⟩ μ { tmps := Array.replicate nt undef, defers := [] } :=
 ⟨fun _ => .any _, hp, rfl, by simp⟩
theorem Jo3 {P : Program} {Γ : Env} (hΓ : J3u P Γ) : ∀ n, Jjx P (Jew Γ n)
 | 0 => ⟨fun f vs m r h => by simp [Jew] at h, fun f vs v h' h => by simp [Jew] at h, fun f vs h0 b v h' h => by simp [Jew] at h⟩
 | n + 1 => by
  have ih := Jo3 hΓ n
  refine ⟨fun f vs m r h => ?_, fun f vs v h' h w S cargs hS hsz ha => ?_, fun f vs h0 b v h' h w S μ cargs hp hsz ha => ?_⟩
  ·simp only [Jew] at h
   split at h
   ·exact hΓ.ext.fn _ _ _ _ h
   ·rename_i lf hlf
    obtain ⟨fn, hi, h1, h2⟩ := hΓ.code f lf hlf
    unfold Qw at h2
    split at h2
    ·cases h2
    ·rename_i c hc
     split at h2
     ·cases h2
     ·rename_i hn
      simp only [Bool.or_eq_true, not_or] at hn
      exact ⟨fn, h1, by rw [hc]; rfl, by simpa using hn.1⟩
  ·simp only [Jew] at h
   split at h
   ·exact hΓ.ext.pure _ _ _ _ h w S cargs hS hsz ha
   ·rename_i lf hlf
    split at h
    ·rename_i hlen
     split at h
     ·rename_i hpm _
      refine Jrq hΓ ih hlf (μ := ⟨fun _ => 0, fun _ => 0⟩) (Jyr hS _) (fun i hi => by cases hi) hsz (fun i x hi => .pure (ha i x hi)) h fun w' S' σ' μ' u cv r1 r2 r3 r4 r5 => ?_
      rw [if_pos hpm] at r5
      unfold Jkz at r5
      simp only at r5
      split at r5
      ·rename_i u' ns hsn
       injection r5 with r5
       simp only [Prod.mk.injEq] at r5
       obtain ⟨rfl, _⟩ := r5
       have noOwn : ∀ b, ¬ Own (fun _ => none) (⟨fun _ => 0, fun _ => 0⟩ : Gh) b := fun b ⟨g, o, ho, _⟩ => by cases ho
       have hS' : ∀ b, S' b → Jum S w w' b := fun b hb => by
        rcases r3.st2 b hb with h1 | h1 | h1
        ·exact .inl h1
        ·exact .inr ⟨h1, r1.lt b hb⟩
        ·exact (noOwn b h1).elim
       refine ⟨cv, rfl, Je0 r1 hS' depth hsn r2 (fun g hg => ?_), r3.os, r3.tape, r3.output, r3.size, fun b hb => r3.keep b hb (noOwn b)⟩
       obtain ⟨o1, hg1, _⟩ := Jea depth hsn g hg
       cases hz1 : o1.fz with
       | true =>
        have hob := r1.ob g _ hg1
        cases o1 with
        | box v c => cases hz1
        | arr v e t c z => obtain ⟨_, _, _, _, h4⟩ := hob; exact hS' _ (h4 hz1)
        | map v es z => obtain ⟨_, _, _, _, h4, _⟩ := hob; exact hS' _ (h4 hz1)
       | false =>
        rcases r3.ow (μ'.b g) ⟨g, _, hg1, hz1, rfl⟩ with h1 | h1
        ·exact (noOwn _ h1).elim
        ·exact .inr ⟨h1, (r1.ob g _ hg1).lt⟩
      ·cases r5
     ·rename_i hpm hm; cases hm
     ·cases h
    ·cases h
  ·simp only [Jew] at h
   split at h
   ·exact hΓ.ext.byref _ _ _ _ _ _ h w S μ cargs hp hsz ha
   ·rename_i lf hlf
    split at h
    ·rename_i hlen
     split at h
     ·rename_i hpm hm; cases hm
     ·rename_i h1 b1 hpm hm
      injection hm with hm
      simp only [Prod.mk.injEq] at hm
      obtain ⟨rfl, rfl⟩ := hm
      have pin0 : PinOK (Jh3 0 vs) h0 μ μ := fun i hi => by
       obtain ⟨o, ho⟩ := Jul (vs := vs) vs 0 (fun i x hx => by rw [Ac]; exact ha i x hx) i hi
       exact ⟨o, ho, fun _ => ⟨rfl, rfl⟩⟩
      refine Jrq hΓ ih hlf hp pin0 hsz ha h fun w' S' σ' μ' u cv r1 r2 r3 r4 r5 => ?_
      rw [hpm] at r5
      rw [if_neg (by decide)] at r5
      by_cases hown : lf.res.any RV.isOwn = true
      ·rw [if_pos hown] at r5
       obtain ⟨vs', l1, rfl, r5⟩ := r5
       obtain ⟨S2, μ2, o1, o2, o3, o4⟩ := own_end r1 r2 l1 r3 r4 r5
       exact ⟨cv, S2, μ2, rfl, o1, o2, o3, o4⟩
      rw [if_neg hown] at r5
      unfold Jk4 at r5
      simp only at r5
      split at r5
      ·rename_i hptr
       unfold endR at r5
       split at r5
       ·rename_i τ hτ
        cases r5
        obtain ⟨μ2, n1, n2, n3⟩ := Jjn (J4l (nt := 0) r1) r4 hτ
        refine ⟨cv, S', μ2, rfl, ?_, n1.hp, r3.trans n2, n3⟩
        unfold Jp1 at hptr
        split at hptr
        ·rename_i g off
         have hg : g ∈ Jh3 0 vs := by simpa using hptr
         obtain ⟨o, ho, hoo⟩ := r4 g hg
         obtain ⟨o2, ho2, hoo2⟩ := n3 g hg
         obtain ⟨o1, ho1, e1⟩ : ∃ o1, σ'.h g = some o1 ∧ o1.ver = 0 := by
          unfold norm at hτ
          split at hτ
          ·rename_i tb0 hpin
           obtain ⟨-, -, t3⟩ := Jsp _ .nil hpin
           obtain ⟨o, h1, h2, -⟩ := t3 g hg
           exact ⟨o, h1, h2⟩
          ·cases hτ
         rw [ho] at ho1
         cases ho1
         obtain ⟨a1, a2⟩ := hoo e1
         cases r2 with
         | pure hp => cases hp
         | ptr _ _ _ _ o3 ho3 hv3 h13 hr3 =>
          rw [ho] at ho3
          cases ho3
          refine .ptr g 0 off cv o2 ho2 (Nat.zero_le _) h13 fun e => ?_
          obtain ⟨b1, b2⟩ := hoo2 e.symm
          rw [b1, b2, ← a1, ← a2]
          exact hr3 e1.symm
        ·cases hptr
       ·cases r5
      ·unfold endS at r5
       split at r5
       ·rename_i u' ns hsn
        unfold endR at r5
        split at r5
        ·rename_i τ hτ
         cases r5
         obtain ⟨f1, f2, f3⟩ := Jk6 r1 (fun g hg => Jea depth hsn g hg)
         have hsd := Je0 r1 (S' := fun b => S' b ∨ ∃ g ∈ ns, μ'.b g = b) (fun b hb => .inl hb) depth hsn r2 (fun g hg => .inr ⟨g, hg, rfl⟩)
         obtain ⟨μ2, n1, n2, n3⟩ := Jjn (J4l (nt := 0) f1) (r4.step f3) hτ
         exact ⟨cv, _, μ2, rfl, .pure hsd, n1.hp, (r3.trans f2).trans n2, n3⟩
        ·cases r5
       ·cases r5
     ·cases h
    ·cases h
end Go.Vv
