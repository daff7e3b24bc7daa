/- Regions in order of the typed evaluator; calls that are entered in place. Conditions: none. -/
import Derived.Test.YtmiobebagbhffaaGreatDB
namespace Go.Dn
open Go Go.Vv
set_option linter.unusedVariables false
set_option linter.unusedSimpArgs false
def HdAt (P : Program) (fs : List Fm) (j : Nat) (h : Hd) : Prop :=
 ∃ pre fr post r, fs = pre ++ fr :: post ∧ post.length = j ∧ fr.lo = some (j, r) ∧ r.state = .ready ∧ r.pending = none ∧ r.tmps = fr.act.tmps ∧ r.params.toList = h.ps ∧ compC P fr.nt r.assign = some h.a ∧ compC P fr.nt r.body = some h.b ∧
  (∀ t ∈ h.ps, t < fr.nt) ∧ h.ps.Nodup
def HsOK (P : Program) (hs : List (Nat × Hd)) (fs : List Fm) : Prop := ∀ j h, look j hs = some h → HdAt P fs j h
def FsOK (fs : List Fm) : Prop := ∀ pre fr post, fs = pre ++ fr :: post → ∀ j r, fr.lo = some (j, r) → j = post.length
theorem HsOK.push {P : Program} {hs : List (Nat × Hd)} {fs : List Fm} (h : HsOK P hs fs) (f : Fm) : HsOK P hs (f :: fs) := fun j x hx => by
 obtain ⟨pre, fr, post, r, e, rest⟩ := h j x hx
 exact ⟨f :: pre, fr, post, r, by rw [e]; rfl, rest⟩
theorem FsOK.push {fs : List Fm} (h : FsOK fs) {nt d : Nat} {a : Act} {lo : Option (Nat × Loop)} (hl : ∀ j r, lo = some (j, r) → j = fs.length) : FsOK (⟨nt, a, lo, d⟩ :: fs) := by
 intro pre fr post e j r hj
 cases pre with
 | nil =>
  injection e with e1 e2
  subst e1
  subst e2
  exact hl j r hj
 | cons p pre =>
  injection e with e1 e2
  exact h pre fr post e2 j r hj
theorem FsOK.tail {f : Fm} {fs : List Fm} (h : FsOK (f :: fs)) : FsOK fs := fun pre fr post e => h (f :: pre) fr post (by rw [e]; rfl)
def InlOK (P : Program) (hs : List (Nat × Hd)) (inl : Inl) : Prop :=
 ∀ {α : Type} {f : FuncId} {base : Nat} {vs : List (V Ty.T)} {s : S Ty.T} {k : V Ty.T → S Ty.T → Option α} {r : α}, inl val f base vs s k = some r →
  (Nat.ble yB f = false → FnOK P f) ∧ ∀ {n0 : Nat} {w : World} {S : Nat → Prop} {μ : Gh} {a0 : Act} {fr : Fm} {fs : List Fm} {cargs : Array Value}, RepF n0 w S s μ a0 (fr :: fs) → HsOK P hs (fr :: fs) → FsOK (fr :: fs) → (∀ v ∈ vs, okV s v) → cargs.size = vs.length →
   (∀ (i : Nat) (x : V Ty.T), vs[i]? = some x → Rep w S (encH s) μ (encV s x) (cargs.getD i undef)) → ∀ {R : Ending → World → Prop},
   fr.d = w.heap.size → (∀ w' S' μ' v s' cv, RepF fr.nt w' S' s' μ' fr.act fs → okV s' v → Rep w' S' (encH s') μ' (encV s' v) cv → Evo w S (encH s) μ w' S' (encH s') μ' → k v s' = some r → R (.returned cv) w') →
   (Nat.ble yB f = false → Calls P f cargs w R) ∧
   (∀ j, f = yB + j → fr.lo = none → ∃ q, w.heap[μ.l j]? = some (.loop q) ∧ cargs.size = q.params.size ∧ RoundIn Fence.wide 0 P (μ.l j) q.fn ((q.params.zip cargs).foldl (fun tmps (t, a) => tmps.setIfInBounds t a) q.tmps) q.assign q.body w R)
section
variable {s : Dn.S Ty.T} {α : Type} {r : α}
theorem enc_at {s : Dn.S Ty.T} {g : Nat} {v : V Ty.T} (h : s.at g = v) : (enc s).f g = encV s v := by subst h; rfl
theorem guard_cases {o : LOper} {run skip : S Ty.T → Option α} (hi : Inv s) (h : guardD val s o run skip = some r) :
  (∃ s1, enc s1 = enc s ∧ On s s1 ∧ Inv s1 ∧ (∀ g want, o.guard = some (g, want) → (enc s).f g = .bool want) ∧ run s1 = some r) ∨
  (∃ s1 g want, enc s1 = enc s ∧ On s s1 ∧ Inv s1 ∧ o.guard = some (g, want) ∧ ((enc s).f g = .bool (!want) ∨ (enc s).f g = .tup []) ∧ skip s1 = some r) := by
 unfold guardD at h
 split at h
 ·rename_i hg
  exact .inl ⟨s, rfl, .refl s, hi, fun g w e => (by rw [hg] at e; cases e), h⟩
 ·rename_i g want hg
  split at h
  ·rename_i b hb
   have hf : (enc s).f g = .bool b := enc_at hb
   split at h
   ·rename_i e
    subst e
    exact .inl ⟨s, rfl, .refl s, hi, fun g' w e => (by rw [hg] at e; injection e with e; injection e with e1 e2; subst e1; subst e2; exact hf), h⟩
   ·rename_i e
    exact .inr ⟨s, g, want, rfl, .refl s, hi, hg, .inl (by rw [hf]; cases b <;> cases want <;> simp_all), h⟩
  ·rename_i t ht
   have hf : ∀ q : Bool, (t : Bool) = q → (enc s).f g = .bool q := fun q e => by rw [enc_at ht, ← e]; rfl
   have run' : ∀ q : Bool, (t : Bool) = q → want = q → run (s.put (some g) (.c (.kb q))) = some r →
     ∃ s1, enc s1 = enc s ∧ On s s1 ∧ Inv s1 ∧ (∀ g want, o.guard = some (g, want) → (enc s).f g = .bool want) ∧ run s1 = some r := fun q e1 e2 h =>
    ⟨_, put_same (hf q e1), .put s _ _, hi.put okKb _, fun g' w e3 => (by rw [hg] at e3; injection e3 with e3; injection e3 with e4 e5; subst e4; subst e5; rw [hf q e1, e2]), h⟩
   have skp : ∀ q : Bool, (t : Bool) = q → want = !q → skip (s.put (some g) (.c (.kb q))) = some r →
     ∃ s1 g want, enc s1 = enc s ∧ On s s1 ∧ Inv s1 ∧ o.guard = some (g, want) ∧ ((enc s).f g = .bool (!want) ∨ (enc s).f g = .tup []) ∧ skip s1 = some r := fun q e1 e2 h =>
    ⟨_, g, want, put_same (hf q e1), .put s _ _, hi.put okKb _, hg, .inl (by rw [hf q e1, e2, Bool.not_not]), h⟩
   split at h
   ·rename_i hw
    rcases br_some h with ⟨e, h⟩ | ⟨e, h⟩
    ·exact .inl (run' true e hw h)
    ·exact .inr (skp false e hw h)
   ·rename_i hw
    have hw : want = false := by simpa using hw
    rcases br_some h with ⟨e, h⟩ | ⟨e, h⟩
    ·exact .inr (skp true e hw h)
    ·exact .inl (run' false e hw h)
  ·rename_i ht
   exact .inr ⟨s, g, want, rfl, .refl s, hi, hg, .inr (by rw [enc_at ht]; rfl), h⟩
  ·cases h
theorem RepF.alike {nt : Nat} {w : World} {S : Nat → Prop} {s s1 : Dn.S Ty.T} {μ : Gh} {a : Act} {fs : List Fm} (h : RepF nt w S s μ a fs) (e : enc s1 = enc s) (on : On s s1) (hi : Inv s1) : RepF nt w S s1 μ a fs := by
 have eh : encH s1 = encH s := congrArg St.h e
 refine h.step rfl (by rw [e]; exact h.fr) on hi (by rw [eh]; exact .refl) (by rw [eh]; exact .refl _ _)
theorem _root_.Go.Vv.Rep.yld_inv {w : World} {S : Nat → Prop} {h : Heap} {μ : Gh} {j : Nat} {v : Value} (hr : Rep w S h μ (.yld j) v) : v = .func (.yield (μ.l j)) #[] #[] := by
 cases hr with
 | pure hp => cases hp
 | yld => rfl
theorem enter_of {P : Program} {nt : Nat} {ops : Array Oper} {w : World} {S : Nat → Prop} {μ : Gh} {a : Act} {o : Oper} {lo : LOper} {cx : Cx} {f : FuncId} {vs : List (V Ty.T)} (hs : RepS nt w S (enc s) μ a) (hc : comp P [] nt ops o = some lo) (hi : Inv s) (hf : inlF val cx s lo.op = some (f, vs)) :
  (∀ v ∈ vs, okV s v) ∧ ∃ cargs : Array Value, cargs.size = vs.length ∧ (∀ (i : Nat) (x : V Ty.T), vs[i]? = some x → Rep w S (encH s) μ (encV s x) (cargs.getD i undef)) ∧
   (Nat.ble yB f = false → FnOK P f → (execOp a.eval o).run P w = .ok (.enter f cargs) w) ∧ (Nat.ble yB f = true → ∃ j, f = yB + j ∧ (execOp a.eval o).run P w = (Instr.yield (μ.l j) cargs).run P w) := by
 obtain ⟨lop, hop, hl⟩ : ∃ lop, compOp P [] o.dst o.op = some lop ∧ lo.op = lop := by
  unfold comp at hc
  cases hq : compOp P [] o.dst o.op with
  | none => rw [hq] at hc; cases hc
  | some lop =>
   rw [hq] at hc
   simp only at hc
   refine ⟨lop, rfl, ?_⟩
   split at hc
   ·split at hc
    ·injection hc with hc; rw [← hc]
    ·split at hc
     ·split at hc
      ·injection hc with hc; rw [← hc]
      ·cases hc
     ·cases hc
   ·cases hc
 rw [hl] at hf
 clear hl hc
 have evs : ∀ l : List LO, ∀ v ∈ l.map (ev val s), okV s v := fun l v hv => by
  obtain ⟨x, -, rfl⟩ := List.mem_map.1 hv
  exact ev_ok hi x
 have args : ∀ {l : Array Operand} {m : List LO}, cLOs l.toList = some m → (l.map a.eval).size = (m.map (ev val s)).length ∧ ∀ (i : Nat) (x : V Ty.T), (m.map (ev val s))[i]? = some x → Rep w S (encH s) μ (encV s x) ((l.map a.eval).getD i undef) := fun {l m} hm => by
  obtain ⟨r1, r2⟩ := args_rep hs hm
  refine ⟨by rw [r1]; simp, fun i x hx => ?_⟩
  rw [List.getElem?_map] at hx
  cases hq : m[i]? with
  | none => rw [hq] at hx; cases hx
  | some y =>
   rw [hq] at hx
   injection hx with hx
   subst hx
   rw [← ev_enc]
   exact r2 i _ (by rw [List.getElem?_map, hq]; rfl)
 obtain ⟨dst, oop, oty, opos, oafter, ogd⟩ := o
 simp only at hop
 unfold inlF at hf
 cases oop
 case call c =>
  obtain ⟨callee, cargs, argTypes⟩ := c
  simp only [compOp] at hop
  cases callee
  case value x =>
   cases x
   case func g =>
    simp only at hop
    split at hop
    ·rename_i m hm
     have : modeOf [] dst = .p := rfl
     rw [this] at hop
     injection hop with hop
     subst hop
     simp only at hf
     split at hf
     ·rename_i hcnd
      simp only [Bool.and_eq_true, Bool.not_eq_true'] at hcnd
      injection hf with hf
      simp only [Prod.mk.injEq] at hf
      obtain ⟨rfl, rfl⟩ := hf
      obtain ⟨r1, r2⟩ := args hm
      refine ⟨evs m, _, r1, r2, fun _ hk => ?_, fun q => (by rw [hcnd.2] at q; cases q)⟩
      simp [execOp, resolve, Act.eval, Deferred.ofValue, invoke, run_callFunc hk]
     ·cases hf
    ·cases hop
   case tmp x =>
    simp only at hop
    obtain ⟨m, hm, rfl⟩ := optOut hop
    simp only at hf
    split at hf
    ·rename_i g caps hx
     split at hf
     ·cases hf
     rename_i hble
     have hble : Nat.ble yB g = false := eq_false_of_ne_true hble
     injection hf with hf
     simp only [Prod.mk.injEq] at hf
     obtain ⟨rfl, rfl⟩ := hf
     obtain ⟨r1, r2⟩ := args hm
     have hv : Rep w S (encH s) μ (encV s (.c (.fn g caps))) (a.tmps.getD x undef) := by
      have := hs.fr x
      rw [show (enc s).f x = encV s (.c (.fn g caps)) by rw [← hx]; rfl] at this
      exact this
     obtain ⟨cs, e, c1, c2⟩ := hv.fn_inv
     simp only [List.length_map] at c1
     have okf : okC s (.fn g caps) := by
      have := ev_ok hi (.t x)
      rw [hx] at this
      exact this _ (List.mem_singleton.2 rfl)
     refine ⟨fun v hv => ?_, cargs.map a.eval ++ cs, by simp [← c1] at r1 ⊢; omega, fun i y hy => ?_, fun _ hk => ?_, fun q => (by rw [hble] at q; cases q)⟩
     ·rcases List.mem_append.1 hv with hv | hv
      ·exact evs m v hv
      ·obtain ⟨c, hc, rfl⟩ := List.mem_map.1 hv
       refine okV_c fun r hr => ?_
       have := List.mem_singleton.1 hr
       subst this
       exact okf (c.1, c.2.1) (List.mem_map.2 ⟨c, hc, rfl⟩)
     ·by_cases hlt : i < (m.map (ev val s)).length
      ·rw [List.getElem?_append_left hlt] at hy
       have e : (cargs.map a.eval ++ cs).getD i undef = (cargs.map a.eval).getD i undef := by
        simp only [Array.getD_eq_getD_getElem?]
        rw [Array.getElem?_append_left (by omega)]
       rw [e]
       exact r2 i y hy
      ·rw [List.getElem?_append_right (by omega)] at hy
       have e : (cargs.map a.eval ++ cs).getD i undef = cs.getD (i - (m.map (ev val s)).length) undef := by
        simp only [Array.getD_eq_getD_getElem?]
        rw [Array.getElem?_append_right (by omega), r1]
       rw [e]
       rw [List.getElem?_map] at hy
       cases hq : caps[i - (m.map (ev val s)).length]? with
       | none => rw [hq] at hy; cases hy
       | some c =>
        rw [hq] at hy
        injection hy with hy
        subst hy
        exact c2 _ _ (by rw [List.getElem?_map, hq]; rfl)
     ·have hev : a.eval (.tmp x) = .func (.func g) #[] cs := e
      simp [execOp, resolve, hev, Deferred.ofValue, invoke, run_callFunc hk]
    ·rename_i j hx
     injection hf with hf
     simp only [Prod.mk.injEq] at hf
     obtain ⟨rfl, rfl⟩ := hf
     obtain ⟨r1, r2⟩ := args hm
     have hv : Rep w S (encH s) μ (.yld j) (a.tmps.getD x undef) := by
      have := hs.fr x
      rw [show (enc s).f x = encV s (.c (.yl j)) by rw [← hx]; rfl] at this
      exact this
     have hev : a.eval (.tmp x) = .func (.yield (μ.l j)) #[] #[] := hv.yld_inv
     refine ⟨evs m, _, r1, r2, fun q => ?_, fun _ => ⟨j, rfl, ?_⟩⟩
     ·rw [Nat.ble_eq_true_of_le (Nat.le_add_right yB j)] at q; cases q
     ·simp [execOp, resolve, hev, Deferred.ofValue, invoke]
    ·rename_i g t u hx
     split at hf
     ·cases hf
     rename_i hble
     have hble : Nat.ble yB g = false := eq_false_of_ne_true hble
     injection hf with hf
     simp only [Prod.mk.injEq] at hf
     obtain ⟨rfl, rfl⟩ := hf
     obtain ⟨r1, r2⟩ := args hm
     have hv : Rep w S (encH s) μ (.bfn g (t.cs u)) (a.tmps.getD x undef) := by
      have := hs.fr x
      rw [show (enc s).f x = encV s (.c (.lf (.bf g t) u)) by rw [← hx]; rfl] at this
      exact this
     obtain ⟨cs, e, hag⟩ := hv.bfn_inv
     refine ⟨fun v hv => ?_, #[.agg cs] ++ cargs.map a.eval, by simp at r1 ⊢; omega, fun i y hy => ?_, fun _ hk => ?_, fun q => (by rw [hble] at q; cases q)⟩
     ·rcases List.mem_cons.1 hv with rfl | hv
      ·exact expl_ok s t u
      ·exact evs m v hv
     ·cases i with
      | zero =>
       simp only [List.getElem?_cons_zero, Option.some.injEq] at hy
       subst hy
       have e1 : (#[Value.agg cs] ++ cargs.map a.eval).getD 0 undef = .agg cs := by simp [Array.getD_eq_getD_getElem?, Array.getElem?_append]
       rw [e1]
       have e2 : encV s (V.ag (expl val t (val.ub u))) = .agg (t.cs u) := congrArg AV.agg (expl_enc s t (val.ub u))
       rw [e2]
       exact hag
      | succ i =>
       simp only [List.getElem?_cons_succ] at hy
       have e1 : (#[Value.agg cs] ++ cargs.map a.eval).getD (i + 1) undef = (cargs.map a.eval).getD i undef := by
        simp only [Array.getD_eq_getD_getElem?]
        rw [Array.getElem?_append_right (by simp)]
        simp
       rw [e1]
       exact r2 i y hy
     ·have hev : a.eval (.tmp x) = .func (.func g) #[.agg cs] #[] := e
      simp [execOp, resolve, hev, Deferred.ofValue, invoke, run_callFunc hk]
    ·cases hf
   all_goals cases hop
  case builtin b =>
   exfalso
   cases b <;> simp only at hop <;> repeat' split at hop
   all_goals first | (cases hop; done) | (injection hop with hop; subst hop; cases hf; done) | (simp at hop; done) | skip
  all_goals cases hop
 all_goals
  exfalso
  simp only [compOp] at hop
  repeat' split at hop
  all_goals first | (cases hop; done) | contradiction | (injection hop with hop; subst hop; cases hf; done) | (obtain ⟨m, hm, rfl⟩ := optOut hop; cases hf; done) | skip
end
end Go.Dn
namespace Go.Dn
open Go Go.Vv
set_option linter.unusedVariables false
set_option linter.unusedSimpArgs false
def vOf : AV → Value
 | .int k n => .int k n
 | .bool b => .bool b
 | .str x => .string x
 | _ => undef
theorem scl_vOf {v : AV} (h : Scl v) {w : World} {S : Nat → Prop} : RepP w S v (vOf v) ∧ (vOf v).oneCell' = true := by
 rcases h with ⟨b, rfl⟩ | ⟨k, n, rfl⟩ | ⟨x, rfl⟩
 ·exact ⟨.bool b, rfl⟩
 ·exact ⟨.int k n, rfl⟩
 ·exact ⟨.str x, rfl⟩
theorem vOf_eq {v : AV} (h : Scl v) {w : World} {S : Nat → Prop} {hh : Heap} {μ : Gh} {c : Value} (hr : Rep w S hh μ v c) : c = vOf v := by
 rcases h with ⟨b, rfl⟩ | ⟨k, n, rfl⟩ | ⟨x, rfl⟩
 ·exact hr.bool_inv
 ·exact hr.int_inv
 ·exact hr.str_inv
def SCt.tl (x : SCt) : Array Value := if x.two then #[.func (.func x.g) #[] #[]] else #[]
structure RowBut (w w' : World) (b off n : Nat) (cs : Array Value) (new : List AV) : Prop where
 os : w'.os = w.os
 tape : w'.tape = w.tape
 output : w'.output = w.output ∧ w.drawn ≤ w'.drawn
 size : w.heap.size ≤ w'.heap.size
 keep : ∀ k, k < w.heap.size → k ≠ b → w'.heap[k]? = w.heap[k]?
 row : ∀ el, w.heap[b]? = some (.cells cs el (0, 0)) → ∃ cs' : Array Value, w'.heap[b]? = some (.cells cs' el (0, 0)) ∧ cs'.size = cs.size ∧ (∀ (i : Nat) (v : AV), new[i]? = some v → cs'.getD (off + i) undef = vOf v)
structure SGood (P : Program) (x : SCt) : Prop where
 fn : FnOK P x.id
 id : x.id < yB
 flat : x.t.flat = true
 len : ∀ l r, x.fn l = some r → r.length = l.length
 run : ∀ l r, x.fn l = some r → l ≠ [] → ∀ (w : World) (b off cap : Nat) (cs : Array Value) (el : TypeId), w.heap[b]? = some (.cells cs el (0, 0)) → off + l.length * x.t.sz ≤ cs.size → l.length ≤ cap → (∀ (i : Nat) (v : AV), (l.flatMap x.t.cs)[i]? = some v → cs.getD (off + i) undef = vOf v) →
  Calls P x.id (#[.slice (some ⟨b, off, none⟩) l.length cap] ++ x.tl) w fun e w' => e = .returned (.tuple #[]) ∧ RowBut w w' b off (l.length * x.t.sz) cs (r.flatMap x.t.cs)
 emp : ∀ r, x.fn [] = some r → ∀ (w : World) (A : Option Addr), Calls P x.id (#[.slice A 0 0] ++ x.tl) w fun e w' => e = .returned (.tuple #[]) ∧ Old w w'
 nilq : ∀ (w : World), Calls P x.id (#[.slice none 0 0] ++ x.tl) w fun e w' => e = .returned (.tuple #[]) ∧ Old w w'
def soL : List SCt → FuncId → FuncId → Option SCt
 | [], _, _ => none
 | x :: r, f, g => match Nat.beq x.id f, Nat.beq x.g g with | true, true => some x | _, _ => soL r f g
theorem soL_ok {P : Program} {so : List SCt} (h : ∀ x ∈ so, SGood P x) : ∀ f g x, soL so f g = some x → x.id = f ∧ x.g = g ∧ SGood P x := by
 induction so with
 | nil => intro f g x hx; cases hx
 | cons y r ih =>
  intro f g x hx
  simp only [soL] at hx
  split at hx
  ·rename_i h1 h2
   injection hx with hx
   subst hx
   exact ⟨Nat.eq_of_beq_eq_true h1, Nat.eq_of_beq_eq_true h2, h y List.mem_cons_self⟩
  ·exact ih (fun x hx => h x (List.mem_cons_of_mem _ hx)) f g x hx
def SoOK (P : Program) (cx : Cx) : Prop := ∀ f g x, cx.so f g = some x → x.id = f ∧ x.g = g ∧ SGood P x
section
variable {nt : Nat} {w : World} {S : Nat → Prop} {s : Dn.S Ty.T} {μ : Gh} {a : Act} {fs : List Fm}
theorem old_evo {w' : World} {h : Heap} (o : Old w w') : Evo w S h μ w' S h μ :=
 ⟨o.os, o.tape, o.output, o.size, fun b hb _ => o.keep b hb, fun b cs el z hc => ⟨cs, (o.keep b (Array.getElem?_eq_some_iff.1 hc).1).trans hc, rfl⟩, fun _ h => h, fun _ h => .inl h, fun _ h => .inl h, rfl⟩
theorem RepF.old {w' : World} (hF : RepF nt w S s μ a fs) (o : Old w w') : RepF nt w' S s μ a fs := by
 have ev := old_evo (S := S) (μ := μ) (h := encH s) o
 have hp : RepH w' S (encH s) μ := ⟨fun g ob ho => (hF.fr.hp.ob g ob ho).evo hF.fr.hp ev (.refl _ _) fun hl => o.keep _ ((hF.fr.hp.ob g ob ho).lt hl), hF.fr.hp.inj, hF.fr.hp.own, fun b hb => Nat.lt_of_lt_of_le (hF.fr.hp.lt b hb) o.size⟩
 exact hF.step rfl ⟨fun d => (hF.fr.fr d).evo hF.fr.hp ev (.refl _ _), hp, hF.fr.hp.marks hF.fr.df ev, hF.fr.sz⟩ (.refl s) hF.iv ev (.refl _ _)
theorem sort_row {P : Program} {x : SCt} (hx : SGood P x) (hF : RepF nt w S s μ a fs) {g v e : Nat} {el : TypeId} {l r : List x.t.T} (ho : look g s.ob = some (.row v e el x.t l [] none false)) (he : e = x.t.sz) (he0 : 0 < e) (hr : x.fn l = some r) {cv : Value}
  (hv : Rep w S (encH s) μ (encC s (.own g v)) cv) {R : Ending → World → Prop} (hR : ∀ w', RepF nt w' S (s.obj g (.row v e el x.t r [] none false)) μ a fs → Evo w S (encH s) μ w' S (encH (s.obj g (.row v e el x.t r [] none false))) μ → R (.returned (.tuple #[])) w') :
  Calls P x.id (#[cv] ++ x.tl) w R := by
 have hlen := hx.len l r hr
 have st : Stab s (s.obj g (.row v e el x.t r [] none false)) := stab_obj fun o0 h0 => by
  rw [ho] at h0
  injection h0 with h0
  subst h0
  exact ⟨rfl, by simp only [Ob.lenO]; show List.length (α := x.t.T) l + _ = List.length (α := x.t.T) r + _; rw [hlen]⟩
 have hlk : ∀ g', look g' (s.obj g (.row v e el x.t r [] none false)).ob = if g = g' then some (.row v e el x.t r [] none false) else look g' s.ob := fun g' => look_obj g g' _
 have iv := inv_obj hF.iv st hlk (fun c hc => by cases hc)
 have hh := encH_obj hF.iv st hlk
 have he1 : encO (s.obj g (.row v e el x.t r [] none false)) (.row v e el x.t r [] none false) = .arr v e el (r.flatMap x.t.cs) false := by simp [encO, nestC]
 rw [he1] at hh
 have hg : encH s g = some (.arr v e el (l.flatMap x.t.cs) false) := by rw [encH_some ho]; simp [encO, nestC]
 have hl0 : lenAt s g v = l.length := by simp [lenAt, ho, Ob.ver, Ob.lenO]
 simp only [encC, hl0] at hv
 have hnl : (l.flatMap x.t.cs = [] ↔ r.flatMap x.t.cs = []) := nil_iff_len (by rw [flatMap_len, flatMap_len, hlen])
 have vv : EvoV (encH s) μ (encH (s.obj g (.row v e el x.t r [] none false))) μ := by
  intro g1 o1 h1
  rw [hh]
  by_cases e1 : g1 = g
  ·subst e1
   rw [hg] at h1
   injection h1 with h1
   subst h1
   exact ⟨_, upd_same _ _ _, Nat.le_refl _, fun _ => ⟨⟨rfl, rfl⟩, rfl, rfl, hnl⟩⟩
  ·exact ⟨o1, by rw [upd_other _ _ _ _ e1]; exact h1, Nat.le_refl _, fun _ => ⟨⟨rfl, rfl⟩, .refl o1⟩⟩
 have own_back : ∀ b, Own (encH (s.obj g (.row v e el x.t r [] none false))) μ b → Own (encH s) μ b := fun b ⟨g1, o1, h1, hz, hl, e1⟩ => by
  rw [hh] at h1
  by_cases e2 : g1 = g
  ·subst e2
   rw [upd_same] at h1
   injection h1 with h1
   subst h1
   exact ⟨g1, _, hg, rfl, live_ne.2 fun q => live_ne.1 hl (hnl.1 q), e1⟩
  ·rw [upd_other _ _ _ _ e2] at h1
   exact ⟨g1, o1, h1, hz, hl, e1⟩
 cases hr0 : hv with
 | pure hp => cases hp
 | arr _ _ _ _ _ o1 ho1 hv1 h11 hr1 =>
  rw [hg] at ho1
  injection ho1 with ho1
  subst ho1
  obtain ⟨esz, el', cells, fz, eo, hk⟩ := hr1 rfl
  injection eo with eo1 eo2 eo3 eo4 eo5
  subst eo2
  subst eo4
  by_cases hne : l.flatMap x.t.cs = []
  ·-- nothing to sort
   obtain ⟨-, hl00, A, rfl⟩ := hk.1 hne
   have hln : l = [] := List.eq_nil_of_length_eq_zero hl00
   subst hln
   have hrn : r = [] := List.eq_nil_of_length_eq_zero (by rw [hlen]; rfl)
   subst hrn
   refine (hx.emp [] hr w A).mono fun e w' ⟨e1, o⟩ => ?_
   subst e1
   have h2 := hF.old o
   have eh : encH (s.obj g (.row v e el x.t ([] : List x.t.T) [] none false)) = encH s := by
    rw [hh]
    funext g1
    by_cases e1 : g1 = g
    ·subst e1; rw [upd_same, hg]
    ·rw [upd_other _ _ _ _ e1]
   refine hR w' (h2.step rfl ⟨fun d => ?_, by show RepH w' S (encH _) μ; rw [eh]; exact h2.fr.hp, h2.fr.df, h2.fr.sz⟩ st.on iv (by rw [eh]; exact .refl) (by rw [eh]; exact .refl _ _)) (by rw [eh]; exact old_evo o)
   rw [enc_stab hF.iv st]
   show Rep w' S (encH _) μ _ _
   rw [eh]
   exact h2.fr.fr d
  ·obtain ⟨A, cap, cs0, el0, z0, rfl, hcap, hb0, hsz0, hA⟩ := hk.2 hne
   obtain ⟨cs, hb, hsz, hold, -⟩ := hF.fr.hp.ob g _ hg hne
   have hln : l ≠ [] := fun q => by subst q; exact hne rfl
   have hlp : 0 < l.length := List.length_pos_iff.2 hln
   have hA := hA (by omega)
   rw [Nat.zero_mul, Nat.add_zero] at hA
   subst hA
   have hcl : (l.flatMap x.t.cs).length = l.length * x.t.sz := flatMap_len l
   have scl : ∀ {m : List x.t.T} {i : Nat} {y : AV}, (m.flatMap x.t.cs)[i]? = some y → Scl y := fun {m i y} hy => by
    obtain ⟨u, _, hu⟩ := List.mem_flatMap.1 (List.mem_of_getElem? hy)
    exact flat_scl hx.flat u y hu
   refine (hx.run l r hr hln w (μ.b g) (μ.o g) cap cs el hb (by omega) hcap fun i y hy => vOf_eq (scl hy) (hold i y hy).1).mono fun e2 w' ⟨e1, rb⟩ => ?_
   subst e1
   obtain ⟨cs', hb', hsz', hnew⟩ := rb.row el hb
   have hown : Own (encH s) μ (μ.b g) := ⟨g, _, hg, rfl, live_ne.2 hne, rfl⟩
   have ev : Evo w S (encH s) μ w' S (encH (s.obj g (.row v e el x.t r [] none false))) μ := by
    refine ⟨rb.os, rb.tape, rb.output, rb.size, fun b hb1 hn => rb.keep b hb1 fun q => hn (q ▸ hown), fun b c1 el1 z1 hc1 => ?_, fun _ h => h, fun _ h => .inl h, fun b ho => .inl (own_back b ho), rfl⟩
    by_cases hbe : b = μ.b g
    ·subst hbe
     rw [hb] at hc1
     injection hc1 with hc1
     injection hc1 with q1 q2 q3
     subst q1
     subst q2
     subst q3
     exact ⟨cs', hb', hsz'⟩
    ·exact ⟨c1, (rb.keep b (Array.getElem?_eq_some_iff.1 hc1).1 hbe).trans hc1, rfl⟩
   have hp' : RepH w' S (encH (s.obj g (.row v e el x.t r [] none false))) μ := by
    refine ⟨fun g1 o1 h1 => ?_, fun g1 g2 o1 o2 h1 h2 l1 l2 e1 => ?_, fun g1 o1 h1 hz hl hs => ?_, fun b hb1 => Nat.lt_of_lt_of_le (hF.fr.hp.lt b hb1) rb.size⟩
    ·by_cases e1 : g1 = g
     ·subst e1
      rw [hh, upd_same] at h1
      injection h1 with h1
      subst h1
      refine fun _ => ⟨cs', hb', by rw [hsz', flatMap_len, hlen, ← flatMap_len]; exact hsz, fun i y hy => ?_, fun q => by cases q⟩
      rw [hnew i y hy]
      exact ⟨.pure (scl_vOf (scl hy)).1, (scl_vOf (w := w) (S := S) (scl hy)).2⟩
     ·have h1' : encH s g1 = some o1 := by rw [hh, upd_other _ _ _ _ e1] at h1; exact h1
      exact (hF.fr.hp.ob g1 o1 h1').evo hF.fr.hp ev vv fun hl => rb.keep _ ((hF.fr.hp.ob g1 o1 h1').lt hl) fun q => e1 (hF.fr.hp.inj g1 g _ _ h1' hg hl (live_ne.2 hne) q)
    ·have back : ∀ g1 o1, encH (s.obj g (.row v e el x.t r [] none false)) g1 = some o1 → o1.live = true → ∃ o2, encH s g1 = some o2 ∧ o2.live = true := fun g1 o1 h1 hl => by
      rw [hh] at h1
      by_cases e2 : g1 = g
      ·subst e2; exact ⟨_, hg, live_ne.2 hne⟩
      ·rw [upd_other _ _ _ _ e2] at h1; exact ⟨o1, h1, hl⟩
     obtain ⟨p1, q1, r1⟩ := back g1 o1 h1 l1
     obtain ⟨p2, q2, r2⟩ := back g2 o2 h2 l2
     exact hF.fr.hp.inj g1 g2 p1 p2 q1 q2 r1 r2 e1
    ·obtain ⟨g2, o2, h2, hz2, hl2, e2⟩ := own_back (μ.b g1) ⟨g1, o1, h1, hz, hl, rfl⟩
     exact hF.fr.hp.own g2 o2 h2 hz2 hl2 (e2 ▸ hs)
   refine hR w' (hF.step rfl ⟨fun d => ?_, hp', hF.fr.hp.marks hF.fr.df ev, hF.fr.sz⟩ st.on iv ev vv) ev
   rw [enc_stab hF.iv st]
   exact (hF.fr.fr d).evo hF.fr.hp ev vv
theorem comp_op {P : Program} {ops : Array Oper} {o : Oper} {lo : LOper} (hc : comp P [] nt ops o = some lo) : compOp P [] o.dst o.op = some lo.op := by
 unfold comp at hc
 cases hq : compOp P [] o.dst o.op with
 | none => rw [hq] at hc; cases hc
 | some lop =>
  rw [hq] at hc
  simp only at hc
  split at hc
  ·split at hc
   ·injection hc with hc; rw [← hc]
   ·split at hc
    ·split at hc
     ·injection hc with hc; rw [← hc]
     ·cases hc
    ·cases hc
  ·cases hc
theorem callp_of {P : Program} {ops : Array Oper} {o : Oper} {lo : LOper} {f : FuncId} {m : List LO} (hc : comp P [] nt ops o = some lo) (hl : lo.op = .callp f m) : ∃ args : Array Operand, cLOs args.toList = some m ∧ ∀ {w : World}, FnOK P f → (execOp a.eval o).run P w = .ok (.enter f (args.map a.eval)) w := by
 have hop := comp_op hc
 rw [hl] at hop
 obtain ⟨dst, oop, oty, opos, oafter, ogd⟩ := o
 simp only at hop
 cases oop
 case call c =>
  obtain ⟨callee, cargs, argTypes⟩ := c
  simp only [compOp] at hop
  cases callee
  case value x =>
   cases x
   case func g =>
    simp only at hop
    split at hop
    ·rename_i m' hm
     have : modeOf [] dst = .p := rfl
     rw [this] at hop
     injection hop with hop
     injection hop with h1 h2
     subst h1
     subst h2
     exact ⟨cargs, hm, fun {w} hk => by simp [execOp, resolve, Act.eval, Deferred.ofValue, invoke, run_callFunc hk]⟩
    ·cases hop
   case tmp x =>
    simp only at hop
    obtain ⟨m', hm, e⟩ := optOut hop
    cases e
   all_goals cases hop
  case builtin b =>
   exfalso
   cases b <;> simp only at hop <;> repeat' split at hop
   all_goals first | (cases hop; done) | (injection hop with hop; cases hop; done) | (simp at hop; done) | skip
  all_goals cases hop
 all_goals
  exfalso
  simp only [compOp] at hop
  repeat' split at hop
  all_goals first | (cases hop; done) | contradiction | (injection hop with hop; cases hop; done) | (obtain ⟨m', hm, e⟩ := optOut hop; cases e; done) | skip
theorem srt_of {P : Program} {ops : Array Oper} {o : Oper} {lo : LOper} {cx : Cx} {c : SCt} {v : V Ty.T} (hso : SoOK P cx) (hs : RepS nt w S (enc s) μ a) (hc : comp P [] nt ops o = some lo) (hi : Inv s) (hf : srtF val cx s lo.op = some (c, v)) :
  ∃ cv, SGood P c ∧ Rep w S (encH s) μ (encV s v) cv ∧ (execOp a.eval o).run P w = .ok (.enter c.id (#[cv] ++ c.tl)) w := by
 unfold srtF at hf
 split at hf
 ·rename_i f x y hl
  split at hf
  ·rename_i g hy
   cases hso' : cx.so f g with
   | none => rw [hso'] at hf; cases hf
   | some c' =>
    rw [hso'] at hf
    simp only [Option.bind_some] at hf
    split at hf
    ·rename_i h2
     injection hf with hf
     simp only [Prod.mk.injEq] at hf
     obtain ⟨rfl, rfl⟩ := hf
     obtain ⟨e1, e2, sg⟩ := hso f g _ hso'
     obtain ⟨args, hm, hrun⟩ := callp_of (a := a) hc hl
     obtain ⟨r1, r2⟩ := args_rep hs hm
     have q0 := r2 0 _ rfl
     have q1 := r2 1 _ rfl
     rw [ev_enc] at q0 q1
     rw [hy] at q1
     have q1 : Rep w S (encH s) μ (.fn g []) ((args.map a.eval).getD 1 undef) := q1
     obtain ⟨cs, e3, e4, -⟩ := q1.fn_inv
     have e5 : cs = #[] := Array.eq_empty_of_size_eq_zero e4.symm
     have hsz : (args.map a.eval).size = 2 := by rw [r1]; rfl
     refine ⟨(args.map a.eval).getD 0 undef, sg, q0, ?_⟩
     rw [← e1] at hrun
     rw [hrun sg.fn]
     congr 2
     rw [show c'.tl = #[.func (.func c'.g) #[] #[]] by simp [SCt.tl, h2], e2]
     apply Array.ext
     ·rw [hsz]; rfl
     ·intro i hi1 hi2
      rw [hsz] at hi1
      match i, hi1 with
      | 0, _ =>
       have : (args.map a.eval)[0] = (args.map a.eval).getD 0 undef := by rw [Array.getD_eq_getD_getElem?, Array.getElem?_eq_getElem (by omega : 0 < (args.map a.eval).size)]; rfl
       rw [this]
       rfl
      | 1, _ =>
       have : (args.map a.eval)[1] = (args.map a.eval).getD 1 undef := by rw [Array.getD_eq_getD_getElem?, Array.getElem?_eq_getElem (by omega : 1 < (args.map a.eval).size)]; rfl
       rw [this, e3, e5]
       rfl
    ·cases hf
  ·cases hf
 ·rename_i f x hl
  cases hso' : cx.so f 0 with
  | none => rw [hso'] at hf; cases hf
  | some c' =>
   rw [hso'] at hf
   simp only [Option.bind_some] at hf
   split at hf
   ·cases hf
   ·rename_i h2
    have h2 : c'.two = false := by simpa using h2
    injection hf with hf
    simp only [Prod.mk.injEq] at hf
    obtain ⟨rfl, rfl⟩ := hf
    obtain ⟨e1, e2, sg⟩ := hso f 0 _ hso'
    obtain ⟨args, hm, hrun⟩ := callp_of (a := a) hc hl
    obtain ⟨r1, r2⟩ := args_rep hs hm
    have q0 := r2 0 _ rfl
    rw [ev_enc] at q0
    have hsz : (args.map a.eval).size = 1 := by rw [r1]; rfl
    refine ⟨(args.map a.eval).getD 0 undef, sg, q0, ?_⟩
    rw [← e1] at hrun
    rw [hrun sg.fn]
    congr 2
    rw [show c'.tl = #[] by simp [SCt.tl, h2]]
    apply Array.ext
    ·rw [hsz]; rfl
    ·intro i hi1 hi2
     rw [hsz] at hi1
     have : i = 0 := by omega
     subst this
     have : (args.map a.eval)[0] = (args.map a.eval).getD 0 undef := by rw [Array.getD_eq_getD_getElem?, Array.getElem?_eq_getElem (by omega : 0 < (args.map a.eval).size)]; rfl
     rw [this]
     rfl
 ·cases hf
theorem nil_of {P : Program} {ro : Option Nat} {ops : Array Oper} {o : Oper} {lo : LOper} {ne : Bool} {m : Ty.T I} (hs : RepS nt w S (enc s) μ a) (hc : comp P [] nt ops o = some lo) (hf : nilOf val s lo.op = some (ne, m)) :
  ∃ b0 : Bool, (b0 = true → m = (0 : Int)) ∧ ∀ {K : Act → World → Prop} {Q : Exit → Act → World → Prop}, K (a.put o.dst (.bool (if ne then !b0 else b0))) w → wpO ro P o a w K Q := by
 unfold nilOf at hf
 split at hf
 ·rename_i ne' x hl
  split at hf
  ·rename_i t l hx
   injection hf with hf
   simp only [Prod.mk.injEq] at hf
   obtain ⟨rfl, rfl⟩ := hf
   have hop := comp_op hc
   rw [hl] at hop
   obtain ⟨dst, oop, oty, opos, oafter, ogd⟩ := o
   simp only at hop
   have key : ∃ (op : BinOp) (t' e : TypeId) (X Y : Operand) (yt : TypeId), oop = .binOp op t' X Y yt ∧ P.underlying t' = some (.slice e) ∧ cLO X = some x ∧ cLO Y = some (.c .nils) ∧ op = (if ne' then .neq else .eql) := by
    cases oop
    case binOp op t' X Y yt =>
     simp only [compOp] at hop
     split at hop
     ·split at hop
      ·split at hop <;> first | (injection hop with hop; cases hop; done) | cases hop
      ·split at hop <;> first | (injection hop with hop; cases hop; done) | cases hop
      ·injection hop with hop; cases hop
     ·rename_i e x' hu h1 h2
      split at hop
      ·injection hop with hop; injection hop with q1 q2; subst q1; subst q2; exact ⟨_, _, e, X, Y, yt, rfl, hu, h1, h2, rfl⟩
      ·injection hop with hop; injection hop with q1 q2; subst q1; subst q2; exact ⟨_, _, e, X, Y, yt, rfl, hu, h1, h2, rfl⟩
      ·cases hop
     ·split at hop
      ·split at hop <;> first | (injection hop with hop; cases hop; done) | cases hop
      ·split at hop <;> first | (injection hop with hop; cases hop; done) | cases hop
      ·cases hop
     ·cases hop
    all_goals
     exfalso
     simp only [compOp] at hop
     repeat' split at hop
     all_goals first | (cases hop; done) | contradiction | (injection hop with hop; cases hop; done) | (obtain ⟨m', hm, e⟩ := optOut hop; cases e; done) | skip
   obtain ⟨op, t', e, X, Y, yt, rfl, hu, h1, h2, rfl⟩ := key
   have hX := cLO_rep hs h1
   rw [ev_enc, hx] at hX
   have hX : Rep w S (encH s) μ (.lst (List.length (α := t.T) l) (List.flatMap (α := t.T) t.cs l)) (a.eval X) := hX
   have hY := cLO_rep hs h2
   have hY : a.eval Y = .slice none 0 0 := Rep.nils_inv (h := (enc s).h) (by simpa [St.ev] using hY)
   have kk : ∃ b0 : Bool, (b0 = true ∧ a.eval X = .slice none 0 0 ∧ List.length (α := t.T) l = 0) ∨ (b0 = false ∧ ∃ A n c, a.eval X = .slice (some A) n c) := by
    generalize hL : List.length (α := t.T) l = L at hX
    generalize List.flatMap (α := t.T) t.cs l = C at hX
    generalize a.eval X = V at hX
    cases hX with
    | pure hp =>
     cases hp with
     | lst0 => exact ⟨true, .inl ⟨rfl, rfl, rfl⟩⟩
     | lst n l a' cap cv => exact ⟨false, .inr ⟨rfl, a', _, cap, rfl⟩⟩
   obtain ⟨b0, hb⟩ := kk
   have hq : (Op.equal t' (a.eval X) (.slice none 0 0)).run P w = .ok b0 w := by
    have hd : ∀ d, (Op.equalIn (d + 1) t' (a.eval X) (.slice none 0 0)).run P w = .ok b0 w := fun d => by
     rcases hb with ⟨rfl, e1, -⟩ | ⟨rfl, A, n, c, e1⟩
     ·rw [e1]; simp [Op.equalIn, run_underlying hu]
     ·rw [e1]; simp [Op.equalIn, run_underlying hu]
    exact hd 9999
   have hg : ∃ q n c, a.eval X = .slice q n c := by
    rcases hb with ⟨rfl, e1, -⟩ | ⟨rfl, A, n, c, e1⟩
    ·exact ⟨_, _, _, e1⟩
    ·exact ⟨_, _, _, e1⟩
   obtain ⟨q, n, c, e1⟩ := hg
   refine ⟨b0, fun h => ?_, fun {K Q} hK => ?_⟩
   ·rcases hb with ⟨-, -, e2⟩ | ⟨e2, -⟩
    ·show ((List.length (α := t.T) l : Nat) : Int) = 0
     omega
    ·rw [e2] at h; cases h
   ·refine Vv.wp_value (cv := .bool (if ne' then !b0 else b0)) (w' := w) ?_ hK
    have e3 : ∀ op, execOp a.eval { dst := dst, op := .binOp op t' X Y yt, type := oty, pos := opos, after := oafter, guard := ogd } = (do pure (.value (← (do eqGuard op t' X Y (a.eval X) (a.eval Y); binOp op t' (a.eval X) (a.eval Y))))) := fun op => by
     simp only [execOp] <;> rfl
    rw [e3, hY]
    rw [e1] at hq ⊢
    cases ne' with
    | true => simp [eqGuard, binOp, Sem.run_bind, hq, Result.andThen]
    | false => simp [eqGuard, binOp, Sem.run_bind, hq, Result.andThen]
  ·cases hf
 ·cases hf
end
end Go.Dn
namespace Go.Dn
open Go Go.Vv
set_option linter.unusedVariables false
set_option linter.unusedSimpArgs false
section
variable {s s' : Dn.S Ty.T}
theorem encC_ob (ho : s'.ob = s.ob) (hn : s'.ln = s.ln) : encC s' = encC s := by
 funext c
 cases c <;> simp only [encC, lenAt, ho, hn]
theorem encV_ob (ho : s'.ob = s.ob) (hn : s'.ln = s.ln) (v : V Ty.T) : encV s' v = encV s v := by
 cases v <;> simp only [encV, encC_ob ho hn]
theorem encH_ob (ho : s'.ob = s.ob) (hn : s'.ln = s.ln) : encH s' = encH s := by
 funext g
 simp only [encH, ho]
 cases look g s.ob with
 | none => rfl
 | some o => cases o <;> simp only [Option.map_some, encO, encC_ob ho hn]
def act0 : Act := { tmps := #[], defers := [] }
theorem rep0 {w : World} {S : Nat → Prop} {h : Heap} {μ : Gh} (hp : RepH w S h μ) : RepS 0 w S ⟨fun _ => .any, h⟩ μ act0 := ⟨fun _ => .any _, hp, .nil, Nat.zero_le _⟩
theorem enc_nil {lo : List (List (Nat × V Ty.T))} {ob : List (Nat × Ob Ty.T)} {ln : List (Nat × Nat × Ty.T I)} : enc (⟨[], lo, ob, ln⟩ : Dn.S Ty.T) = ⟨fun _ => .any, encH ⟨[], lo, ob, ln⟩⟩ := rfl
theorem comp_dst {P : Program} {nt : Nat} {ops : Array Oper} {o : Oper} {lo : LOper} (hc : comp P [] nt ops o = some lo) : okDst nt lo.dst = true := by
 unfold comp at hc
 split at hc
 ·cases hc
 ·split at hc
  ·rename_i hd
   split at hc
   ·injection hc with hc; subst hc; exact hd
   ·split at hc
    ·split at hc
     ·injection hc with hc; subst hc; exact hd
     ·cases hc
    ·cases hc
  ·cases hc
theorem RepF.put {nt : Nat} {w : World} {S : Nat → Prop} {s : Dn.S Ty.T} {μ : Gh} {a : Act} {fs : List Fm} (h : RepF nt w S s μ a fs) {d : Option Nat} (hd : okDst nt d = true) {v : V Ty.T} {cv : Value} (ok : okV s v) (hr : Rep w S (encH s) μ (encV s v) cv) :
  RepF nt w S (s.put d v) μ (a.put d cv) fs := by
 have eh := encH_put s d v
 refine h.step (by cases d <;> rfl) ?_ (.put s d v) (h.iv.put ok d) (by rw [eh]; exact .refl) (by rw [eh]; exact .refl _ _)
 rw [enc_put]
 exact put_sound h.fr hd hr h.fr.hp .refl (.refl _ _)
end
theorem to_in {ro : Option Nat} {P : Program} {nt : Nat} {cm : List (Nat × CM)} {ops : Array Oper} {o : Oper} {lo : LOper} {a : Act} {w : World} {K : Act → World → Prop} {Q : Exit → Act → World → Prop} (hc : comp P cm nt ops o = some lo)
  (h : if Region.wanted o (yielded ops a.tmps) = true then wpO ro P o a w K Q else K (a.put o.dst undef) w) :
  if Region.wanted o (yielded ops a.tmps) = true then o.wpIn (Fr ro) 0 P a w K Q else (∀ f, o.about P w a.eval = some f → (Fr ro).fn f) ∧ K (a.put o.dst undef) w := by
 by_cases hw : Region.wanted o (yielded ops a.tmps) = true
 ·rw [if_pos hw] at h ⊢
  exact wpO_in (comp_plain hc) h
 ·rw [if_neg hw] at h ⊢
  exact ⟨fun _ _ => trivial, h⟩
theorem round_fr {ro : Option Nat} {n : Nat} {P : Program} {l : Nat} {f : FuncId} {tmps : Array Value} {x y : Code} {w : World} {R : Ending → World → Prop} (h : RoundIn Fence.wide n P l f tmps x y w R) : RoundIn (Fr ro) n P l f tmps x y w R := by
 cases ro with
 | none => exact h
 | some l => exact h
theorem ite_no {α : Type} {c : Prop} [Decidable c] {x : Option α} {y : α} (h : (if c then x else val.no) = some y) : c ∧ x = some y := by
 split at h
 ·exact ⟨by assumption, h⟩
 ·cases h
theorem nlv_some {n : Int} {α : Type} {k : Bool → Option α} {r : α} {b : Bool} (hb : b = true → n = 0) (h : val.nq n k = some r) : k b = some r := by
 have h : nlv n k = some r := h
 unfold nlv at h
 split at h
 ·split at h
  ·rename_i e
   cases b with
   | false => exact h
   | true => rw [e]; exact h
  ·cases h
 ·rename_i hn
  cases b with
  | false => exact h
  | true => exact (hn (hb rfl)).elim
theorem sort_den {P : Program} {nt : Nat} {w : World} {S : Nat → Prop} {s : Dn.S Ty.T} {μ : Gh} {a : Act} {fs : List Fm} {c : SCt} (hx : SGood P c) (hF : RepF nt w S s μ a fs) {v : V Ty.T} {cv : Value} (hv : Rep w S (encH s) μ (encV s v) cv) {α : Type} {r : α} {k : Dn.S Ty.T → Option α}
  (hd : sortD val c s v k = some r) {R : Ending → World → Prop} (hR : ∀ w' s', RepF nt w' S s' μ a fs → Evo w S (encH s) μ w' S (encH s') μ → k s' = some r → R (.returned (.tuple #[])) w') : Calls P c.id (#[cv] ++ c.tl) w R := by
 unfold sortD at hd
 split at hd
 ·rename_i g ver
  split at hd
  ·rename_i v' e el t l ho
   obtain ⟨⟨e1, e2, he0⟩, h2⟩ := ite_no hd
   subst e1
   subst e2
   obtain ⟨l2, hl2, h3⟩ := orNo_some h2
   obtain ⟨et, hl3⟩ := cast_some hl2
   injection et with et
   subst et
   have hl4 : l2 = l := hl3
   subst hl4
   have h4 : obind (c.fn l2) (fun l' => k (s.obj g (.row v' c.t.sz el c.t l' [] none false))) = some r := h3
   cases hq : c.fn l2 with
   | none => rw [hq] at h4; cases h4
   | some l' =>
    rw [hq] at h4
    exact sort_row hx hF ho rfl he0 hq hv fun w' r1 r2 => hR w' _ r1 r2 h4
  ·cases hd
 ·have e : cv = .slice none 0 0 := Rep.nils_inv (h := encH s) hv
  subst e
  refine (hx.nilq w).mono fun e w' ⟨e1, o⟩ => ?_
  subst e1
  exact hR w' s (hF.old o) (old_evo o) hd
 ·cases hd
theorem ops_den {ro : Option Nat} {P : Program} {nt : Nat} {ops : Array Oper} {call : Vv.Call} {base : Nat} {cx : Cx} {inl : Inl} {n : List Nat} {hs : List (Nat × Hd)} {Q : Exit → Act → World → Prop} (hC : CallSim call cx.ct) (hcall : CallOK P call) (hI : InlOK P hs inl) (hso : SoOK P cx) {α : Type} {r : α} {k : Dn.S Ty.T → Option α} {fs : List Fm} (hh : HsOK P hs fs) (hfs : FsOK fs) :
  ∀ {l : List Nat} {os : List Oper} {L : List (Nat × LOper)} {w : World} {S : Nat → Prop} {s : Dn.S Ty.T} {μ : Gh} {a : Act}, compD P [] nt ops l = some L → l.map (fun i => ops[i]?) = os.map some → RepF nt w S s μ a fs → denOps val inl cx base n L s k = some r →
  (∀ a' w' S' μ' s', RepF nt w' S' s' μ' a' fs → Evo w S (encH s) μ w' S' (encH s') μ' → k s' = some r → Q .normal a' w') → wpListIn (Fr ro) 0 P ops Q os a w
 | [], os, L, w, S, s, μ, a, hc, ho, h, hd, hQ => by
  cases os with
  | cons o os => simp at ho
  | nil =>
   injection hc with hc
   subst hc
   exact hQ _ _ _ _ _ h .refl hd
 | i :: l, [], L, w, S, s, μ, a, hc, ho, h, hd, hQ => by simp at ho
 | i :: l, o :: os, L, w, S, s, μ, a, hc, ho, h, hd, hQ => by
  simp only [List.map_cons, List.cons.injEq] at ho
  obtain ⟨ho1, ho2⟩ := ho
  simp only [compD, ho1] at hc
  cases hx : comp P [] nt ops o with
  | none => rw [hx] at hc; cases hc
  | some lo =>
   cases hl : compD P [] nt ops l with
   | none => rw [hx, hl] at hc; cases hc
   | some L' =>
    rw [hx, hl] at hc
    injection hc with hc
    subst hc
    refine wpListIn_step fun K hK => to_in hx ?_
    have next : ∀ {a1 w1 S1 μ1 s1}, RepF nt w1 S1 s1 μ1 a1 fs → Evo w S (encH s) μ w1 S1 (encH s1) μ1 → denOps val inl cx base n L' s1 k = some r → K a1 w1 := fun r1 e1 d1 =>
     hK _ _ (ops_den hC hcall hI hso hh hfs hl ho2 r1 d1 fun a2 w2 S2 μ2 s2 q1 q2 q3 => hQ _ _ _ _ _ q1 (e1.trans q2) q3)
    simp only [denOps] at hd
    split at hd
    ·rcases guard_cases h.iv hd with ⟨s1, e1, on1, i1, hg, hd⟩ | ⟨s1, g, want, e1, on1, i1, hg, hv, hd⟩
     ·have h1 := h.alike e1 on1 i1
      have eh : encH s1 = encH s := congrArg St.h e1
      obtain ⟨wd, wn, ws⟩ := wanted_of h1.fr hx
      have hw : Region.wanted o (yielded ops a.tmps) = true := by
       cases hgd : lo.guard with
       | none => exact wn hgd
       | some p =>
        obtain ⟨g, want⟩ := p
        have := (ws g want hgd).1 want (by rw [e1]; exact hg g want hgd)
        rw [this]
        cases want <;> rfl
      split at hd
      ·rename_i c v hf
       rw [if_pos hw]
       obtain ⟨cv, sg, hr, hrun⟩ := srt_of hso h1.fr hx i1 hf
       have fin : Calls P c.id (#[cv] ++ c.tl) w fun e w' => ∃ cv, e = .returned cv ∧ K (a.put o.dst cv) w' := by
        refine sort_den sg h1 hr hd fun w' s2 r1 r2 r3 => ⟨_, rfl, ?_⟩
        rw [← wd]
        refine next (r1.put (comp_dst hx) (v := .tp []) (fun c hc => (by cases hc)) (.pure (.tup [] #[] rfl fun i x h => (by cases h)))) ?_ r3
        rw [encH_put]
        rw [eh] at r2
        exact r2
       exact wp_enter hrun fin fun e w' he => he
      split at hd
      ·rename_i f vs hf
       rw [if_pos hw]
       obtain ⟨okv, cargs, c1, c2, c3, c4⟩ := enter_of (cx := cx) (w := w) h1.fr hx i1 hf
       obtain ⟨fk, hcall'⟩ := hI hd
       have hps : RepF 0 w S (s1.push (sortN (liveOps L' n)) []) μ act0 (⟨nt, a, none, w.heap.size⟩ :: fs) := h1.push (fun p hp => by cases hp) (fun j r h => by cases h) (by
        rw [enc_nil]
        have : encH (⟨[], kept s1.sl (sortN (liveOps L' n)) :: s1.lo, s1.ob, s1.ln⟩ : Dn.S Ty.T) = encH s1 := encH_ob rfl rfl
        rw [this]
        exact rep0 h1.fr.hp) rfl
       have eh2 : encH (s1.push (sortN (liveOps L' n)) []) = encH s1 := encH_ob rfl rfl
       have hcs := hcall' hps (hh.push _) (hfs.push (by intro j r h; cases h)) okv c1 (fun i x hx => by
        rw [eh2, show encV (s1.push (sortN (liveOps L' n)) []) x = encV s1 x from encV_ob rfl rfl x]
        exact c2 i x hx) (R := fun e w' => ∃ cv, e = .returned cv ∧ K (a.put o.dst cv) w') rfl fun w' S' μ' v s' cv r1 r2 r3 r4 r5 => ⟨cv, rfl, by
        rw [eh2, eh] at r4
        rw [← wd]
        refine next (r1.put (comp_dst hx) r2 r3) ?_ r5
        rw [encH_put]
        exact r4⟩
       cases hb : Nat.ble yB f with
       | false => exact wp_enter (c3 hb (fk hb)) (hcs.1 hb) fun e w' he => he
       | true =>
        obtain ⟨j, e2, hrun⟩ := c4 hb
        obtain ⟨q, q1, q2, q3⟩ := hcs.2 j e2 rfl
        unfold wpO
        rw [hrun, run_yield q1 q2, Oper.uponIn_round]
        refine ⟨fun h => (by cases h), (round_fr q3).mono fun e w' he => ?_⟩
        obtain ⟨cv, rfl, hk⟩ := he
        exact hk
      ·obtain ⟨op', s2, al, st, iv2, on2, hk⟩ := run_sim (call := call) (o := lo) (k := fun _ s' => denOps val inl cx base n L' s' k) hC i1 (fun g want e => by rw [e1]; exact hg g want e) hd
       obtain ⟨cm, hcm⟩ := alt_comp hx al
       refine step_wp hcall h1.fr hcm st fun a' w' S' μ' r0 r1 r2 r3 => next (h1.step r0 r1 on2 iv2 r2 r3) ?_ hk
       rw [← eh]; exact r2
     ·have h1 := h.alike e1 on1 i1
      have eh : encH s1 = encH s := congrArg St.h e1
      obtain ⟨op', s2, al, st, iv2, on2, hk⟩ := skip_sim (call := call) (base := base) (o := lo) (k := fun _ s' => denOps val inl cx base n L' s' k) i1 hg (by rw [e1]; exact hv) hd
      obtain ⟨cm, hcm⟩ := alt_comp hx al
      refine step_wp hcall h1.fr hcm st fun a' w' S' μ' r0 r1 r2 r3 => next (h1.step r0 r1 on2 iv2 r2 r3) ?_ hk
      rw [← eh]; exact r2
    ·split at hd
     ·rename_i ne m hn hgd
      obtain ⟨wd, wn, ws⟩ := wanted_of h.fr hx
      rw [if_pos (wn hgd)]
      obtain ⟨b0, hz, hwp⟩ := nil_of (P := P) (ro := ro) h.fr hx hn
      refine hwp ?_
      rw [← wd]
      refine next (h.put (comp_dst hx) (v := .c (.lf .bool (if ne = true then val.nt b0 else b0))) (okV_c (okC_leaf _ rfl)) ?_) ?_ (nlv_some hz hd)
      ·cases ne <;> exact .pure (.bool _)
      ·rw [encH_put]
       exact .refl
     ·exact step_den hC hcall h hx hd fun a' w' S' μ' s' op' r1 r2 r3 => next r1 r2 r3
end Go.Dn
namespace Go.Dn
open Go Go.Vv
set_option linter.unusedVariables false
set_option linter.unusedSimpArgs false
def Gh.lab (μ : Gh) (j x : Nat) : Gh := ⟨μ.b, μ.o, upd μ.l j x⟩
section
variable {w : World} {S : Nat → Prop} {s : Dn.S Ty.T} {h : Heap} {μ : Gh} {j x : Nat}
theorem rep_lab {c : C Ty.T} (hn : noYc j c = true) {v : Value} (hr : Rep w S h μ (encC s c) v) : Rep w S h (Gh.lab μ j x) (encC s c) v := by
 have fl : ∀ {y : AV}, y.flat = true → Rep w S h μ y v → Rep w S h (Gh.lab μ j x) y v := fun hf hr => .pure (hr.flat hf)
 have ar : ∀ {g ver off len : Nat} {v : Value}, Rep w S h μ (.arr g ver off len) v → Rep w S h (Gh.lab μ j x) (.arr g ver off len) v := fun hr => by
  cases hr with
  | pure hp => exact .pure hp
  | arr _ _ _ _ _ o ho hv h1 hr => exact .arr _ _ _ _ _ o ho hv h1 hr
 have pr : ∀ {g ver off : Nat} {v : Value}, Rep w S h μ (.ptr g ver off) v → Rep w S h (Gh.lab μ j x) (.ptr g ver off) v := fun hr => by
  cases hr with
  | pure hp => exact .pure hp
  | ptr _ _ _ _ o ho hv h1 hr => exact .ptr _ _ _ _ o ho hv h1 hr
 cases c with
 | any => exact .any _
 | lf t y =>
  rcases oneOf_flat (cs_flat t y) with e | e
  ·simp only [encC]; rw [e]; exact .any _
  ·exact fl e hr
 | kb b => exact fl rfl hr
 | k y => exact fl hn hr
 | rp t y o => exact fl rfl hr
 | own g ver => exact ar hr
 | part g ver a b => exact ar hr
 | ptr g ver o => exact pr hr
 | pti g ver e i o => exact pr hr
 | map g ver =>
  cases hr with
  | pure hp => exact .pure hp
  | map _ _ _ o ho hv h1 hr => exact .map _ _ _ o ho hv h1 hr
 | fn f l =>
  obtain ⟨cs, e, h1, h2⟩ := hr.fn_inv
  subst e
  refine .fn f _ cs h1 fun i y hy => ?_
  have := h2 i y hy
  rw [List.getElem?_map] at hy
  cases hq : l[i]? with
  | none => rw [hq] at hy; cases hy
  | some p => rw [hq] at hy; injection hy with hy; subst hy; exact pr this
 | yl i =>
  have := hr.yld_inv
  subst this
  have hi : i ≠ j := fun e => by subst e; simp [noYc] at hn
  have := Rep.yld (w := w) (S := S) (h := h) (μ := Gh.lab μ j x) i
  simp only [Gh.lab, upd_other _ _ _ _ hi] at this
  exact this
theorem repV_lab {v : V Ty.T} (hn : noYv j v = true) {cv : Value} (hr : Rep w S h μ (encV s v) cv) : Rep w S h (Gh.lab μ j x) (encV s v) cv := by
 cases v with
 | c y => exact rep_lab hn hr
 | ag l =>
  have hr : Rep w S h μ (.agg (l.map (encC s))) cv := hr
  obtain ⟨cs, e, h1, h2⟩ := hr.agg_inv
  subst e
  refine .agg _ cs h1 (fun i y hy => (h2 i y hy).2) fun i y hy => ?_
  have := (h2 i y hy).1
  rw [List.getElem?_map] at hy
  cases hq : l[i]? with
  | none => rw [hq] at hy; cases hy
  | some p => rw [hq] at hy; injection hy with hy; subst hy; exact rep_lab (List.all_eq_true.1 hn p (List.mem_of_getElem? hq)) this
 | tp l =>
  have hr : Rep w S h μ (.tup (l.map fun p => if p.1 then .agg (p.2.map (encC s)) else oneOf (p.2.map (encC s)))) cv := hr
  obtain ⟨cs, e, h1, h2⟩ := hr.tup_inv
  subst e
  refine .tup _ cs h1 fun i y hy => ?_
  have hk := h2 i y hy
  rw [List.getElem?_map] at hy
  cases hq : l[i]? with
  | none => rw [hq] at hy; cases hy
  | some p =>
   rw [hq] at hy
   injection hy with hy
   have hp := List.all_eq_true.1 hn p (List.mem_of_getElem? hq)
   subst hy
   obtain ⟨b, q⟩ := p
   cases b with
   | true =>
    have hk : Rep w S h μ (.agg (q.map (encC s))) _ := hk
    obtain ⟨cs', e, k1, k2⟩ := hk.agg_inv
    show Rep w S h (Gh.lab μ j x) (.agg (q.map (encC s))) _
    rw [e]
    refine .agg _ cs' k1 (fun i y hy => (k2 i y hy).2) fun i y hy => ?_
    have := (k2 i y hy).1
    rw [List.getElem?_map] at hy
    cases hq : q[i]? with
    | none => rw [hq] at hy; cases hy
    | some p => rw [hq] at hy; injection hy with hy; subst hy; exact rep_lab (List.all_eq_true.1 hp p (List.mem_of_getElem? hq)) this
   | false =>
    have hk : Rep w S h μ (oneOf (q.map (encC s))) _ := hk
    show Rep w S h (Gh.lab μ j x) (oneOf (q.map (encC s))) _
    match q, hp, hk with
    | [], _, _ => exact .any _
    | [c], hp, hk => exact rep_lab (List.all_eq_true.1 hp c (List.mem_singleton.2 rfl)) hk
    | _ :: _ :: _, _, _ => exact .any _
def AObj.cells : AObj → List AV
 | .box _ c => c
 | .arr _ _ _ c _ => c
 | .map .. => []
theorem encO_cells (o : Ob Ty.T) : ∀ y ∈ AObj.cells (encO s o), y.flat = true ∨ ∃ c ∈ o.kids, y = encC s c := by
 intro y hy
 cases o with
 | box v cs => obtain ⟨c, hc, rfl⟩ := List.mem_map.1 hy; exact .inr ⟨c, hc, rfl⟩
 | lit v e el cs z => obtain ⟨c, hc, rfl⟩ := List.mem_map.1 hy; exact .inr ⟨c, hc, rfl⟩
 | row v e el t l y' nest z =>
  rcases List.mem_append.1 hy with hy | hy
  ·cases nest with
   | none => exact .inl (List.all_eq_true.1 (csL_flat t l) y hy)
   | some p =>
    rcases List.mem_or_eq_of_mem_set hy with hy | rfl
    ·exact .inl (List.all_eq_true.1 (csL_flat t l) y hy)
    ·exact .inr ⟨p.2, List.mem_append_left _ (List.mem_singleton.2 rfl), rfl⟩
  ·obtain ⟨c, hc, rfl⟩ := List.mem_map.1 hy
   exact .inr ⟨c, List.mem_append_right _ hc, rfl⟩
theorem noYs_iff (hn : noYs j s = true) : (∀ p ∈ s.sl, noYv j p.2 = true) ∧ (∀ l ∈ s.lo, ∀ p ∈ l, noYv j p.2 = true) ∧ ∀ p ∈ s.ob, ∀ c ∈ p.2.kids, noYc j c = true := by
 unfold noYs at hn
 simp only [Bool.and_eq_true] at hn
 exact ⟨fun p hp => List.all_eq_true.1 hn.1.1 p hp, fun l hl p hp => List.all_eq_true.1 (List.all_eq_true.1 hn.1.2 l hl) p hp, fun p hp c hc => List.all_eq_true.1 (List.all_eq_true.1 hn.2 p hp) c hc⟩
theorem repH_lab (hn : noYs j s = true) (hp : RepH w S (encH s) μ) : RepH w S (encH s) (Gh.lab μ j x) := by
 refine ⟨fun g o ho => ?_, hp.inj, hp.own, hp.lt⟩
 obtain ⟨ob, hob, rfl⟩ : ∃ ob, look g s.ob = some ob ∧ o = encO s ob := by
  unfold encH at ho
  cases hl : look g s.ob with
  | none => rw [hl] at ho; cases ho
  | some ob => rw [hl] at ho; injection ho with ho; exact ⟨ob, rfl, ho.symm⟩
 have h1 := hp.ob g _ ho
 have key : ∀ y ∈ AObj.cells (encO s ob), ∀ {v : Value}, Rep w S (encH s) μ y v → Rep w S (encH s) (Gh.lab μ j x) y v := fun y hy v hr => by
  rcases encO_cells ob y hy with hf | ⟨c, hc, rfl⟩
  ·exact .pure (hr.flat hf)
  ·exact rep_lab ((noYs_iff hn).2.2 _ (look_mem hob) c hc) hr
 cases ho' : encO s ob with
 | box v c =>
  rw [ho'] at h1 key
  obtain ⟨cs, el, a1, a2, a3⟩ := h1
  exact ⟨cs, el, a1, a2, fun i y hy => ⟨key y (List.mem_of_getElem? hy) (a3 i y hy).1, (a3 i y hy).2⟩⟩
 | arr v e t c z =>
  rw [ho'] at h1 key
  intro hne
  obtain ⟨cs, a1, a2, a3, a4⟩ := h1 hne
  exact ⟨cs, a1, a2, fun i y hy => ⟨key y (List.mem_of_getElem? hy) (a3 i y hy).1, (a3 i y hy).2⟩, a4⟩
 | map v es z => cases ob <;> simp [encO] at ho'
theorem RepF.lab {nt : Nat} {a : Act} {fs : List Fm} (hF : RepF nt w S s μ a fs) (hn : noYs j s = true) (hj : ∀ p ∈ fs, ∀ i r, p.lo = some (i, r) → i ≠ j) : RepF nt w S s (Gh.lab μ j x) a fs := by
 obtain ⟨n1, n2, n3⟩ := noYs_iff hn
 refine ⟨⟨fun d => ?_, repH_lab hn hF.fr.hp, hF.fr.df, hF.fr.sz⟩, hF.len, fun i l b hl hb d v hv => repV_lab (n2 l (List.mem_of_getElem? hl) (d, v) (look_mem hv)) (hF.lo i l b hl hb d v hv), hF.sz, hF.md, fun p hp i r hl => ?_, hF.iv⟩
 ·have := hF.fr.fr d
  show Rep w S (encH s) _ (encV s (s.at d)) _
  refine repV_lab ?_ this
  unfold Dn.S.at
  cases hd : look d s.sl with
  | none => rfl
  | some v => exact n1 (d, v) (look_mem hd)
 ·have := hF.lp p hp i r hl
  simp only [Gh.lab, upd_other _ _ _ _ (hj p hp i r hl)]
  exact ⟨this.1, this.2.1, fun p' hp' i' q hq hne => by rw [upd_other _ _ _ _ (hj p' hp' i' q hq)]; exact this.2.2 p' hp' i' q hq hne⟩
theorem evo_lab {w' : World} {S' : Nat → Prop} {h' : Heap} {μ' : Gh} (L : Nat → Nat) (ev : Evo w S h μ w' S' h' μ') : Evo w S h ⟨μ.b, μ.o, L⟩ w' S' h' ⟨μ'.b, μ'.o, L⟩ :=
 ⟨ev.os, ev.tape, ev.output, ev.size, ev.keep, ev.shape, ev.st, ev.st2, ev.ow, rfl⟩
theorem evo_lay (ob : Obj) : Evo w S h μ (w.alloc ob) S h μ :=
 ⟨rfl, rfl, ⟨rfl, Nat.le_refl _⟩, by simp, fun b hb _ => heap_alloc_old w ob b hb, fun b cs el z hc => ⟨cs, by rw [heap_alloc_old w ob b (Array.getElem?_eq_some_iff.1 hc).1]; exact hc, rfl⟩, fun _ h => h, fun _ h => .inl h, fun _ h => .inl h, rfl⟩
theorem repH_lay (hp : RepH w S h μ) (ob : Obj) : RepH (w.alloc ob) S h μ :=
 ⟨fun g o ho => (hp.ob g o ho).evo hp (evo_lay ob) (.refl _ _) fun hl => heap_alloc_old w ob _ ((hp.ob g o ho).lt hl), hp.inj, hp.own, fun b hb => by have := hp.lt b hb; simp; omega⟩
theorem RepF.lay {nt : Nat} {a : Act} {fs : List Fm} (hF : RepF nt w S s μ a fs) (ob : Obj) : RepF nt (w.alloc ob) S s μ a fs :=
 hF.step rfl ⟨fun d => (hF.fr.fr d).evo hF.fr.hp (evo_lay ob) (.refl _ _), repH_lay hF.fr.hp ob, hF.fr.hp.marks hF.fr.df (evo_lay (h := encH s) (μ := μ) (S := S) ob), hF.fr.sz⟩ (.refl s) hF.iv (evo_lay ob) (.refl _ _)
theorem heap_put {l : Nat} {o : Obj} {b : Nat} (h : b ≠ l) : (w.putObj l o).heap[b]? = w.heap[b]? := World.putObj_heap_other h
theorem repP_put {l : Nat} {o : Obj} (hS : ¬ S l) {y : AV} {v : Value} (hr : RepP w S y v) : RepP (w.putObj l o) S y v := hr.mono (fun _ h => h) fun b hb => heap_put fun e => hS (e ▸ hb)
theorem arrV_put {l : Nat} {o : Obj} {cells : List AV} {b k e off len : Nat} {v : Value} (hb : cells ≠ [] → b ≠ l) (ha : ArrV w cells b k e off len v) : ArrV (w.putObj l o) cells b k e off len v :=
 ⟨ha.1, fun hne => by
  obtain ⟨a, cap, cs, el, z, h1, h2, h3, h4, h5⟩ := ha.2 hne
  exact ⟨a, cap, cs, el, z, h1, h2, (heap_put (hb hne)).trans h3, h4, h5⟩⟩
theorem rep_put {l : Nat} {o : Obj} (hS : ¬ S l) (hl : ∀ g ob, h g = some ob → ob.live = true → μ.b g ≠ l) {y : AV} {v : Value} (hr : Rep w S h μ y v) : Rep (w.putObj l o) S h μ y v := by
 induction hr with
 | any v => exact .any v
 | pure hp => exact .pure (repP_put hS hp)
 | fn f l cs hl hr ih => exact .fn f l cs hl ih
 | agg l cs hl h1 hr ih => exact .agg l cs hl h1 ih
 | tup l cs hl hr ih => exact .tup l cs hl ih
 | arr g ver off len v ob ho hv h1 hr =>
  refine .arr g ver off len v ob ho hv h1 fun e => ?_
  obtain ⟨esz, el, cells, fz, eq, hk⟩ := hr e
  exact ⟨esz, el, cells, fz, eq, arrV_put (fun hne => hl g ob ho (by rw [eq]; exact live_ne.2 hne)) hk⟩
 | ptr g ver off v ob ho hv h1 hr => exact .ptr g ver off v ob ho hv h1 hr
 | map g ver v ob ho hv h1 hr => exact .map g ver v ob ho hv h1 hr
 | yld j => exact .yld j
theorem repH_put {l : Nat} {o : Obj} (hS : ¬ S l) (hl : ∀ g ob, h g = some ob → ob.live = true → μ.b g ≠ l) (hp : RepH w S h μ) : RepH (w.putObj l o) S h μ := by
 refine ⟨fun g ob ho => ?_, hp.inj, hp.own, fun b hb => by simpa using hp.lt b hb⟩
 have h1 := hp.ob g ob ho
 cases ob with
 | box v c =>
  obtain ⟨cs, el, a1, a2, a3⟩ := h1
  exact ⟨cs, el, (heap_put (hl g _ ho rfl)).trans a1, a2, fun i y hy => ⟨rep_put hS hl (a3 i y hy).1, (a3 i y hy).2⟩⟩
 | arr v e t c z =>
  intro hne
  obtain ⟨cs, a1, a2, a3, a4⟩ := h1 hne
  exact ⟨cs, (heap_put (hl g _ ho (live_ne.2 hne))).trans a1, a2, fun i y hy => ⟨rep_put hS hl (a3 i y hy).1, (a3 i y hy).2⟩, a4⟩
 | map v es z =>
  obtain ⟨es', clock, a1, a2, a3, a4⟩ := h1
  refine ⟨es', clock, (heap_put (hl g _ ho rfl)).trans a1, a2, a3, fun i k v hi => ?_⟩
  obtain ⟨e, b1, b2, b3⟩ := a4 i k v hi
  exact ⟨e, b1, repP_put hS b2, rep_put hS hl b3⟩
theorem not_named (hp : RepH w S h μ) {l : Nat} {r : Loop} (hr : w.heap[l]? = some (.loop r)) : ∀ g ob, h g = some ob → ob.live = true → μ.b g ≠ l := by
 rintro g ob ho hl rfl
 have := hp.ob g ob ho
 cases ob with
 | box v cells => obtain ⟨cs, el, q, _⟩ := this; rw [hr] at q; cases q
 | arr v e t cells z => obtain ⟨cs, q, _⟩ := this (live_ne.1 hl); rw [hr] at q; cases q
 | map v es z => obtain ⟨es', clock, q, _⟩ := this; rw [hr] at q; cases q
theorem marks_put {l : Nat} {r : Loop} {o : Obj} (hr : w.heap[l]? = some (.loop r)) {ds : List Deferred} (hd : Marks w S ds) : Marks (w.putObj l o) S ds := ⟨hd.1, fun d hm => by
 obtain ⟨b, e, hb, hs⟩ := hd.2 d hm
 exact ⟨b, e, (heap_put fun q => by subst q; rw [hr] at hb; cases hb).trans hb, hs⟩⟩
theorem RepF.putL {nt : Nat} {a : Act} {fs : List Fm} (hF : RepF nt w S s μ a fs) {l : Nat} {r : Loop} (hr : w.heap[l]? = some (.loop r)) (hS : ¬ S l) (hfs : ∀ p ∈ fs, ∀ j q, p.lo = some (j, q) → μ.l j ≠ l) (o : Obj) : RepF nt (w.putObj l o) S s μ a fs := by
 have hl := not_named hF.fr.hp hr
 exact ⟨⟨fun d => rep_put hS hl (hF.fr.fr d), repH_put hS hl hF.fr.hp, marks_put hr hF.fr.df, hF.fr.sz⟩, hF.len, fun i l' b h1 h2 d v hv => rep_put hS hl (hF.lo i l' b h1 h2 d v hv), fun p hp => ⟨marks_put hr (hF.sz p hp).1, (hF.sz p hp).2.1, by simpa using (hF.sz p hp).2.2⟩, hF.md,
  fun p hp j q hj => ⟨(heap_put (hfs p hp j q hj)).trans (hF.lp p hp j q hj).1, (hF.lp p hp j q hj).2.1, (hF.lp p hp j q hj).2.2⟩, hF.iv⟩
end
end Go.Dn
namespace Go.Dn
open Go Go.Vv
set_option linter.unusedVariables false
set_option linter.unusedSimpArgs false
def LE.is : LE → Exit → Prop
 | .normal, .normal => True
 | .exit i, .exit j => i = j
 | .ret, .ret => True
 | _, _ => False
theorem least (p : Nat → Prop) (h : ∃ k, p k) : ∃ k, p k ∧ ∀ j, p j → k ≤ j := by
 obtain ⟨k, hk⟩ := h
 induction k using Nat.strongRecOn with
 | _ k ih =>
  by_cases hj : ∃ j, j < k ∧ p j
  ·obtain ⟨j, h1, h2⟩ := hj
   exact ih j h1 h2
  ·exact ⟨k, hk, fun j hpj => Nat.le_of_not_lt fun hlt => hj ⟨j, hlt, hpj⟩⟩
open Classical in
noncomputable def leastOf (p : Nat → Prop) : Nat := if h : ∃ k, p k then Classical.choose (least p h) else 0
theorem leastOf_spec {p : Nat → Prop} (h : ∃ k, p k) : p (leastOf p) ∧ ∀ j, p j → leastOf p ≤ j := by
 unfold leastOf
 rw [dif_pos h]
 exact Classical.choose_spec (least p h)
theorem obind_some {α β : Type} {x : Option α} {k : α → Option β} {r : β} (h : obind x k = some r) : ∃ y, x = some y ∧ k y = some r := by
 cases x with
 | none => cases h
 | some y => exact ⟨y, rfl, h⟩
theorem exIn_out {α : Type} {k : LE → Dn.S Ty.T → Option α} {r : α} {e : LE} {s : Dn.S Ty.T} : ∀ {xs : List (LE × S U)} {h : Ex Ty.T xs}, exIn (dL wv) xs e s = some h → exOut k xs h = some r → ∃ (p : S U) (hl : HL Ty.T p.lt), p.fit (dL wv) s = some hl ∧ k e (p.mk' hl) = some r
 | [], h, hi, _ => by cases hi
 | [(a, p)], h, hi, ho => by
  simp only [exIn] at hi
  have hc := ite_some hi
  clear hi
  obtain ⟨e1, hi⟩ := hc
  subst e1
  exact ⟨p, h, hi, ho⟩
 | (a, p) :: q :: r', h, hi, ho => by
  simp only [exIn] at hi
  split at hi
  ·rename_i e1
   subst e1
   cases hf : p.fit (dL wv) s with
   | none => rw [hf] at hi; cases hi
   | some hl =>
    rw [hf] at hi
    injection hi with hi
    subst hi
    exact ⟨p, hl, hf, ho⟩
  ·cases hf : exIn (dL wv) (q :: r') e s with
   | none => rw [hf] at hi; cases hi
   | some h2 =>
    rw [hf] at hi
    injection hi with hi
    subst hi
    exact exIn_out (h := h2) hf ho
theorem caps_args {w : World} {S : Nat → Prop} {s : Dn.S Ty.T} {μ μ' : Gh} {h' : Heap} {w' : World} {caps : List (Nat × Nat × Nat)} {cs : Array Value} {y : Value} (hl : (caps.map fun c => AV.ptr c.1 c.2.1 c.2.2).length = cs.size)
  (hr : ∀ (i : Nat) (x : AV), (caps.map fun c => AV.ptr c.1 c.2.1 c.2.2)[i]? = some x → Rep w S (encH s) μ x (cs.getD i undef)) (tr : ∀ {g v o : Nat} {cv : Value}, Rep w S (encH s) μ (.ptr g v o) cv → Rep w' S h' μ' (.ptr g v o) cv) {j : Nat} (hy : Rep w' S h' μ' (.yld j) y) :
  (#[y] ++ cs).size = (V.c (ι := Ty.T) (.yl j) :: caps.map fun c => V.c (C.ptr c.1 c.2.1 c.2.2)).length ∧ ∀ (i : Nat) (x : V Ty.T), (V.c (ι := Ty.T) (.yl j) :: caps.map fun c => V.c (C.ptr c.1 c.2.1 c.2.2))[i]? = some x → ∀ s', Rep w' S h' μ' (encV s' x) ((#[y] ++ cs).getD i undef) := by
 refine ⟨by simp at hl ⊢; omega, fun i x hx s' => ?_⟩
 cases i with
 | zero =>
  simp only [List.getElem?_cons_zero, Option.some.injEq] at hx
  subst hx
  have e : (#[y] ++ cs).getD 0 undef = y := by simp [Array.getD_eq_getD_getElem?, Array.getElem?_append]
  rw [e]
  exact hy
 | succ i =>
  simp only [List.getElem?_cons_succ, List.getElem?_map] at hx
  have e : (#[y] ++ cs).getD (i + 1) undef = cs.getD i undef := by
   simp only [Array.getD_eq_getD_getElem?]
   rw [Array.getElem?_append_right (by simp)]
   simp
  rw [e]
  cases hq : caps[i]? with
  | none => rw [hq] at hx; cases hx
  | some c =>
   rw [hq] at hx
   injection hx with hx
   subst hx
   exact tr (hr i _ (by rw [List.getElem?_map, hq]; rfl))
section
variable {P : Program} {nt : Nat} {call : Vv.Call} {base : Nat} {cx : Cx} {mk : Cx → Inl} {fs : List Fm} {ro : Option Nat}
theorem rng_den (hC : CallSim call cx.ct) (hcall : CallOK P call) (hI : ∀ hs, InlOK P hs (mk { cx with hs := hs, rd := false })) (hso : SoOK P cx) (hro : cx.rd = false → ro = none) (hh : HsOK P cx.hs fs) (hfs : FsOK fs) {g : Operand} {ps : Array Tmp} {x y : Code} {lc : LC} (hc : compC P nt (.rangeFunc g ps x y) = some lc) {n : List Nat} {ex : List (Nat × List Nat)} {rt : List Nat} {α : Type} {k : LE → Dn.S Ty.T → Option α} {r : α}
  {w : World} {S : Nat → Prop} {s : Dn.S Ty.T} {μ : Gh} {a : Act} {Q : Exit → Act → World → Prop} (h : RepF nt w S s μ a fs) (hd : denC mk cx base lc n ex rt val s k = some r)
  (hQ : ∀ e x a' w' S' μ' s', LE.is e x → RepF nt w' S' s' μ' a' fs → Evo w S (encH s) μ w' S' (encH s') μ' → k e s' = some r → Q x a' w') : (Code.rangeFunc g ps x y).wpIn (Fr ro) 0 P Q a w := by
 simp only [compC] at hc
 cases hg : cLO g with
 | none => rw [hg] at hc; cases hc
 | some g' =>
  rw [hg] at hc
  simp only [Option.bind_some] at hc
  cases hx : compC P nt x with
  | none => rw [hx] at hc; cases hc
  | some lx =>
   rw [hx] at hc
   simp only [Option.bind_some] at hc
   cases hy : compC P nt y with
   | none => rw [hy] at hc; cases hc
   | some ly =>
    rw [hy] at hc
    simp only [Option.bind_some] at hc
    have hc := ite_some hc
    obtain ⟨hps, hc⟩ := hc
    injection hc with hc
    subst hc
    simp only [Bool.and_eq_true] at hps
    have hps1 : ∀ t ∈ ps.toList, t < nt := fun t ht => by
     have := List.all_eq_true.1 hps.1 t ht
     have : t + 1 ≤ nt := by simpa [Nat.blt] using this
     exact this
    simp only [denC] at hd
    split at hd
    ·rename_i f caps hv
     have hd := ite_no hd
     obtain ⟨⟨hrd, hble, hny⟩, hd⟩ := hd
     have hro := hro hrd
     subst hro
     have hval := cLO_rep h.fr hg
     rw [ev_enc, hv] at hval
     have hval : Rep w S (encH s) μ (.fn f (caps.map fun c => .ptr c.1 c.2.1 c.2.2)) (a.eval g) := hval
     obtain ⟨cs, ea, c1, c2⟩ := hval.fn_inv
     have hlen := h.len
     refine wpIn_rangeFunc fun fn _ => ?_
     obtain ⟨rc, hrc⟩ : ∃ rc : Loop, rc = { state := .ready, pending := none, fn, tmps := a.tmps, params := ps, assign := x, body := y, defers := w.heap.size } := ⟨_, rfl⟩
     obtain ⟨w1, hw1⟩ : ∃ w1 : World, w1 = (w.alloc (.deferred (some []))).alloc (.loop rc) := ⟨_, rfl⟩
     obtain ⟨a1, ha1⟩ : ∃ a1 : Act, a1 = { a with defers := [{ target := .collected w.heap.size, args := #[] }] ++ a.defers } := ⟨_, rfl⟩
     obtain ⟨hfk, hcl⟩ := hI _ hd
     have hF1 : RepF nt w1 S s μ a fs := hw1 ▸ (h.lay _).lay _
     have ev1 : Evo w S (encH s) μ w1 S (encH s) μ := hw1 ▸ (evo_lay _).trans (evo_lay _)
     have hb0 : w1.heap[w.heap.size]? = some (.deferred (some [])) := by
      rw [hw1, heap_alloc_old _ _ _ (by simp)]
      exact World.alloc_heap_new w _
     have hl0 : w1.heap[w.heap.size + 1]? = some (.loop rc) := by
      have := World.alloc_heap_new (w.alloc (.deferred (some []))) (.loop rc)
      rw [World.size_alloc] at this
      rw [hw1]
      exact this
     have hfresh : ∀ d ∈ a.defers, d ≠ { target := .collected w.heap.size, args := #[] } := fun d hd e => by
      obtain ⟨q, e2, hq, -⟩ := h.fr.df.2 d hd
      rw [e2] at e
      injection e with e
      injection e with e
      have := (Array.getElem?_eq_some_iff.1 hq).1
      omega
     have hF1' : RepF nt w1 S s μ a1 fs := by
      rw [ha1]
      refine ⟨⟨hF1.fr.fr, hF1.fr.hp, ⟨List.nodup_cons.2 ⟨fun q => hfresh _ q rfl, hF1.fr.df.1⟩, fun d hd => ?_⟩, hF1.fr.sz⟩, hF1.len, hF1.lo, hF1.sz, ?_, hF1.lp, hF1.iv⟩
      ·rcases List.mem_cons.1 hd with hd | hd
       ·exact ⟨_, hd, hb0, fun q => by have := h.fr.hp.lt _ q; omega⟩
       ·exact hF1.fr.df.2 d hd
      ·cases fs with
       | nil => trivial
       | cons f fs =>
        refine ⟨fun d hd => ?_, h.md.2⟩
        rcases List.mem_cons.1 hd with hd | hd
        ·exact ⟨_, hd, (h.sz f List.mem_cons_self).2.2⟩
        ·exact h.md.1 d hd
     have hlow : ∀ p ∈ fs, ∀ i q, p.lo = some (i, q) → i ≠ s.lo.length ∧ μ.l i ≠ w.heap.size + 1 := fun p hp i q hi => by
      obtain ⟨pre, post, e⟩ := List.append_of_mem hp
      have h1 := hfs pre p post e i q hi
      have h2 : fs.length = pre.length + (post.length + 1) := by rw [e]; simp
      have h3 := (Array.getElem?_eq_some_iff.1 (h.lp p hp i q hi).1).1
      omega
     have hF2 : RepF nt w1 S s (Gh.lab μ s.lo.length (w.heap.size + 1)) a1 fs := hF1'.lab hny fun p hp i q hi => (hlow p hp i q hi).1
     have hlab : (Gh.lab μ s.lo.length (w.heap.size + 1)).l s.lo.length = w.heap.size + 1 := upd_same _ _ _
     have hnS : ¬ S (w.heap.size + 1) := fun q => by have := h.fr.hp.lt _ q; omega
     have eh2 : encH (s.push (sortN (adds ((liveC lx (liveC ly [] [] []) [] []).filter fun x => !memN x ps.toList) n)) []) = encH s := encH_ob rfl rfl
     have hps2 : RepF 0 w1 S (s.push (sortN (adds ((liveC lx (liveC ly [] [] []) [] []).filter fun x => !memN x ps.toList) n)) []) (Gh.lab μ s.lo.length (w.heap.size + 1)) act0 (⟨nt, a1, some (s.lo.length, rc), w1.heap.size⟩ :: fs) :=
      hF2.push (fun p hp => by cases hp) (fun i q hi => by injection hi with hi; injection hi with e1 e2; subst e1; subst e2; rw [hlab]; exact ⟨hl0, hnS, fun p' hp' i' q' hq' hne => by simp only [Gh.lab, upd_other _ _ _ _ hne]; exact (hlow p' hp' i' q' hq').2⟩) (by
       rw [enc_nil]
       have : encH (⟨[], kept s.sl (sortN (adds ((liveC lx (liveC ly [] [] []) [] []).filter fun x => !memN x ps.toList) n)) :: s.lo, s.ob, s.ln⟩ : Dn.S Ty.T) = encH s := encH_ob rfl rfl
       rw [this]
       exact rep0 hF2.fr.hp) rfl
     have hhs : HsOK P ((s.lo.length, ⟨base, ps.toList, lx, ly⟩) :: cx.hs) (⟨nt, a1, some (s.lo.length, rc), w1.heap.size⟩ :: fs) := by
      intro i hd' hi
      rw [look_cons] at hi
      split at hi
      ·rename_i e
       injection hi with hi
       subst hi
       subst e
       exact ⟨[], _, fs, rc, rfl, hlen, rfl, by rw [hrc], by rw [hrc], by rw [hrc, ha1], by rw [hrc], by rw [hrc]; exact hx, by rw [hrc]; exact hy, hps1, nodupN_iff hps.2⟩
      ·exact (hh.push _) i hd' hi
     have hfs2 : FsOK (⟨nt, a1, some (s.lo.length, rc), w1.heap.size⟩ :: fs) := hfs.push fun i q hi => by injection hi with hi; injection hi with e1 e2; rw [← e1, hlen]
     have hyl : Rep w1 S (encH s) (Gh.lab μ s.lo.length (w.heap.size + 1)) (.yld s.lo.length) (.func (.yield (w.heap.size + 1)) #[] #[]) := by
      have := Rep.yld (w := w1) (S := S) (h := encH s) (μ := Gh.lab μ s.lo.length (w.heap.size + 1)) s.lo.length
      rw [hlab] at this
      exact this
     obtain ⟨as1, as2⟩ := caps_args (s := s) c1 c2 (fun {g v o cv} hr => rep_lab (s := s) (j := s.lo.length) (x := w.heap.size + 1) (c := .ptr g v o) rfl (hr.evo h.fr.hp ev1 (.refl _ _))) hyl
     have okf : okC s (.fn f caps) := by
      have := ev_ok h.iv g'
      rw [hv] at this
      exact this _ (List.mem_singleton.2 rfl)
     have okv : ∀ v ∈ (V.c (ι := Ty.T) (.yl s.lo.length) :: caps.map fun c => V.c (C.ptr c.1 c.2.1 c.2.2)), okV s v := fun v hv => by
      rcases List.mem_cons.1 hv with rfl | hv
      ·exact okV_c (okC_leaf s rfl)
      ·obtain ⟨c, hc, rfl⟩ := List.mem_map.1 hv
       refine okV_c fun r hr => ?_
       have := List.mem_singleton.1 hr
       subst this
       exact okf (c.1, c.2.1) (List.mem_map.2 ⟨c, hc, rfl⟩)
     have hcs := (hcl hps2 hhs hfs2 okv as1 (fun i x hx => by rw [eh2]; exact as2 i x hx _) (R := rangePost (Fr none) 0 P (w.heap.size + 1) Q a1) rfl fun w' S' μ' v s' cv r1 r2 r3 r4 r5 => ?_).1 hble
     ·have hres : (resolve a.eval (rangeCall g (w.heap.size + 1)) 0).run P w1 = .ok { target := .fn (.func f) cs, args := #[.func (.yield (w.heap.size + 1)) #[] #[]] } w1 := by
       have e1 : resolve a.eval (rangeCall g (w.heap.size + 1)) 0 = Deferred.ofValue (a.eval g) #[.func (.yield (w.heap.size + 1)) #[] #[]] := by simp [resolve, rangeCall, Act.eval]
       rw [e1, ea]
       rfl
      have hent : (Instr.enterLoop fn a.tmps ps x y (Fr none).round).run P w = .ok (w.heap.size + 1, [{ target := .collected w.heap.size, args := #[] }]) w1 := by
       rw [hw1, hrc]
       exact run_enterLoop_outer fn a.tmps ps x y
      rw [ha1] at hcs
      exact ⟨w.heap.size + 1, [{ target := .collected w.heap.size, args := #[] }], w1, _, w1, f, _, w1, hent, hres, fun _ _ => trivial, run_callFunc (hfk hble) _ _, fun q => (by cases q), calls_fr hcs⟩
     ·-- the function has returned
      have hl1 : w'.heap[w.heap.size + 1]? = some (.loop rc) := (r4.keep _ (Array.getElem?_eq_some_iff.1 hl0).1 (hps2.fr.hp.no_own hl0 (by intros; simp) (by intros; simp))).trans hl0
      have hnS' : ¬ S' (w.heap.size + 1) := fun q => by
       rcases r4.st2 _ q with q | q | q
       ·exact hnS q
       ·have := (Array.getElem?_eq_some_iff.1 hl0).1; omega
       ·exact hps2.fr.hp.no_own hl0 (by intros; simp) (by intros; simp) q
      have r5 := ite_no r5
      obtain ⟨hny', r5⟩ := r5
      have hμ : Gh.lab μ' s.lo.length (μ.l s.lo.length) = ⟨μ'.b, μ'.o, μ.l⟩ := by
       unfold Gh.lab
       congr 1
       funext i
       rw [r4.lp]
       simp only [Gh.lab, upd]
       split
       ·rename_i e; rw [e]
       ·rfl
      have r1' : RepF nt w' S' s' ⟨μ'.b, μ'.o, μ.l⟩ a1 fs := hμ ▸ r1.lab hny' fun p hp i q hi => (hlow p hp i q hi).1
      have r1'' := r1'.putL hl1 hnS' (fun p hp i q hi => (hlow p hp i q hi).2) (.loop { rc with state := .exhausted })
      refine ⟨none, w'.putObj (w.heap.size + 1) (.loop { rc with state := .exhausted }), ?_, ?_⟩
      ·have hp : rc.pending = none := by rw [hrc]
       have := run_endLoop (P := P) hl1 (by rw [hrc]; intro q; cases q)
       rw [this, hp]
      have ev2 : Evo w S (encH s) μ w' S' (encH s') ⟨μ'.b, μ'.o, μ.l⟩ := ev1.trans (by have := evo_lab μ.l r4; rw [eh2] at this; exact this)
      refine hQ .normal .normal _ _ _ _ _ trivial r1'' ⟨ev2.os, ev2.tape, ev2.output, by simpa using ev2.size, fun b hb hn => (heap_put (by omega)).trans (ev2.keep b hb hn), fun b cs el z hc => ?_, ev2.st, ev2.st2, ev2.ow, ev2.lp⟩ r5
      obtain ⟨cs', q1, q2⟩ := ev2.shape b cs el z hc
      exact ⟨cs', (heap_put (by have := (Array.getElem?_eq_some_iff.1 hc).1; omega)).trans q1, q2⟩
    ·cases hd
theorem splitL_app (cx : Cx) : ∀ l : List (Nat × LOper), (splitL cx l).1 ++ (splitL cx l).2 = l
 | [] => rfl
 | p :: r => by
  have ih := splitL_app cx r
  simp only [splitL]
  split
  ·rfl
  ·simp only [List.cons_append, ih]
theorem den_wp (hC : CallSim call cx.ct) (hcall : CallOK P call) (hI : ∀ hs, InlOK P hs (mk { cx with hs := hs, rd := false })) (hm : P.follows .mixedOrders = true) (hso : SoOK P cx) (hro : cx.rd = false → ro = none) (hh : HsOK P cx.hs fs) (hfs : FsOK fs) : ∀ (c : Code) {lc : LC} (hc : compC P nt c = some lc) {n : List Nat} {ex : List (Nat × List Nat)} {rt : List Nat} {α : Type} {k : LE → Dn.S Ty.T → Option α} {r : α}
  {w : World} {S : Nat → Prop} {s : Dn.S Ty.T} {μ : Gh} {a : Act} {Q : Exit → Act → World → Prop}, RepF nt w S s μ a fs → denC mk cx base lc n ex rt val s k = some r →
  (∀ e x a' w' S' μ' s', LE.is e x → RepF nt w' S' s' μ' a' fs → Evo w S (encH s) μ w' S' (encH s') μ' → k e s' = some r → Q x a' w') → c.wpIn (Fr ro) 0 P Q a w := by
 intro c
 induction c with
 | skip =>
  intro lc hc n ex rt α k r w S s μ a Q h hd hQ
  injection hc with hc
  subst hc
  exact Go.wpIn_skip (hQ .normal .normal _ _ _ _ _ trivial h .refl hd)
 | region id ops draw =>
  intro lc hc n ex rt α k r w S s μ a Q h hd hQ
  simp only [compC] at hc
  obtain ⟨L, hL, rfl⟩ := optOut hc
  simp only [denC] at hd
  have fin : ∀ {a' w' S' μ' s'}, RepF nt w' S' s' μ' a' fs → Evo w S (encH s) μ w' S' (encH s') μ' → k .normal (settle val cx.ty (cx.keep id) s.ob.length s') = some r → Q .normal a' w' := fun r1 r2 r3 => by
   obtain ⟨S2, μ2, q1, q2⟩ := settle_ok cx.ty (cx.keep id) s.ob.length r1
   exact hQ .normal .normal _ _ _ _ _ trivial q1 (r2.trans q2) r3
  cases draw with
  | true =>
   rw [if_pos rfl] at hd
   split at hd
   ·refine draw_den hC hcall hm h hL hd (fun L' L2 s' hk => ?_) fun a' w' S' μ' s' L' L2 r1 r2 r3 => ?_
    ·split at hk
     ·rename_i hb
      rcases Bool.or_eq_true_iff.1 hb with q | q
      ·exact .inl q
      ·exact .inr q
     ·cases hk
    ·split at r3
     ·exact fin r1 r2 r3
     ·cases r3
   ·rename_i A p R hsp
    have hAB : L = A ++ (p :: R) := by rw [← splitL_app cx L, hsp]
    rw [hAB] at hL
    refine split_den hC hcall hm h hL hd (fun L' L2 s' hk => ?_) fun a' w' S' μ' s' L' L2 os r1 r2 r3 r4 r5 => ?_
    ·split at hk
     ·assumption
     ·cases hk
    ·split at r3
     ·exact ops_den hC hcall (hI cx.hs) hso hh hfs r4 r5 r1 r3 fun a2 w2 S2 μ2 s2 q1 q2 q3 => fin q1 (r2.trans q2) q3
     ·cases r3
  | false =>
   rw [if_neg (by decide)] at hd
   refine wpIn_region_list (ops_den hC hcall (hI cx.hs) hso hh hfs hL ?_ h hd fun a' w' S' μ' s' r1 r2 r3 => fin r1 r2 r3)
   apply List.ext_getElem?
   intro i
   simp only [List.getElem?_map, Array.getElem?_toList]
   by_cases hi : i < ops.size
   ·rw [List.getElem?_range hi]
    simp [hi]
   ·rw [List.getElem?_eq_none (by simpa using hi)]
    simp [hi]
 | seq x y ihx ihy =>
  intro lc hc n ex rt α k r w S s μ a Q h hd hQ
  simp only [compC] at hc
  cases hx : compC P nt x with
  | none => rw [hx] at hc; cases hc
  | some lx =>
   rw [hx] at hc
   simp only [Option.bind_some] at hc
   obtain ⟨ly, hy, rfl⟩ := optOut hc
   simp only [denC] at hd
   split at hd
   case h_2 =>
    generalize joinX (denC mk cx base lx (liveC ly n ex rt) ex rt (α := Unit) stat (erS s) fun e s' => [(e, canon stat (keepE (sortN (liveC ly n ex rt)) ex rt e) s')]) = xs at hd
    replace hd : obind (denC mk cx base lx (liveC ly n ex rt) ex rt val s fun e s' => exIn (dL wv) xs e (canon val (keepE (sortN (liveC ly n ex rt)) ex rt e) s')) (exOut (fun e s' => match e with | .normal => denC mk cx base ly n ex rt val s' k | e => k e s') xs) = some r := hd
    obtain ⟨e0, hb, hex⟩ := obind_some hd
    refine wpIn_seq (ihx hx h hb fun e x' a' w' S' μ' s' is r1 r2 r3 => ?_)
    obtain ⟨S3, μ3, d1, d2⟩ := canon_ok (keepE (sortN (liveC ly n ex rt)) ex rt e) r1
    obtain ⟨p, hp, g1, g2⟩ := exIn_out r3 hex
    obtain ⟨S4, μ4, d3, d4⟩ := fit_ok d1 g1
    cases e with
    | normal =>
     cases x' <;> simp only [LE.is] at is
     exact ihy hy d3 g2 fun e2 x2 a2 w2 S2 μ2 s2 is2 q1 q2 q3 => hQ e2 x2 _ _ _ _ _ is2 q1 (r2.trans (d2.trans (d4.trans q2))) q3
    | exit i =>
     cases x' <;> simp only [LE.is] at is
     subst is
     exact hQ (.exit i) (.exit i) _ _ _ _ _ rfl d3 (r2.trans (d2.trans d4)) g2
    | ret =>
     cases x' <;> simp only [LE.is] at is
     exact hQ .ret .ret _ _ _ _ _ trivial d3 (r2.trans (d2.trans d4)) g2
   refine wpIn_seq (ihx hx h hd fun e x' a' w' S' μ' s' is r1 r2 r3 => ?_)
   cases e with
   | normal =>
    cases x' <;> simp only [LE.is] at is
    exact ihy hy r1 r3 fun e2 x2 a2 w2 S2 μ2 s2 is2 q1 q2 q3 => hQ e2 x2 _ _ _ _ _ is2 q1 (r2.trans q2) q3
   | exit i =>
    cases x' <;> simp only [LE.is] at is
    subst is
    exact hQ (.exit i) (.exit i) _ _ _ _ _ rfl r1 r2 r3
   | ret =>
    cases x' <;> simp only [LE.is] at is
    exact hQ .ret .ret _ _ _ _ _ trivial r1 r2 r3
 | cond c x y ihx ihy =>
  intro lc hc n ex rt α k r w S s μ a Q h hd hQ
  simp only [compC] at hc
  cases hcc : cLO c with
  | none => rw [hcc] at hc; cases hc
  | some c' =>
   rw [hcc] at hc
   simp only [Option.bind_some] at hc
   cases hx : compC P nt x with
   | none => rw [hx] at hc; cases hc
   | some lx =>
    rw [hx] at hc
    simp only [Option.bind_some] at hc
    obtain ⟨ly, hy, rfl⟩ := optOut hc
    simp only [denC] at hd
    have hb := cLO_rep h.fr hcc
    rw [ev_enc] at hb
    split at hd
    ·rename_i t ht
     rw [ht] at hb
     have hb : Rep w S (encH s) μ (.bool t) (a.eval c) := hb
     refine wpIn_cond hb.bool_inv ?_
     cases t with
     | true => rw [if_pos rfl] at hd ⊢; exact ihx hx h hd hQ
     | false => rw [if_neg (by decide)] at hd ⊢; exact ihy hy h hd hQ
    ·rename_i t ht
     rw [ht] at hb
     obtain ⟨t, rfl⟩ : ∃ T : Bool, (show Ty.T .bool from T) = t := ⟨t, rfl⟩
     have hb : Rep w S (encH s) μ (.bool t) (a.eval c) := hb
     refine wpIn_cond hb.bool_inv ?_
     split at hd
     ·rename_i d
      have hf : ∀ q : Bool, (t : Bool) = q → (enc s).f d = .bool q := fun q e => by
       have : s.at d = .c (.lf .bool t) := ht
       rw [enc_at this, ← e]; rfl
      have al : ∀ q : Bool, (t : Bool) = q → RepF nt w S (s.put (some d) (.c (.kb q))) μ a fs := fun q e => h.alike (put_same (hf q e)) (.put s _ _) (h.iv.put okKb _)
      have eh : ∀ q : Bool, encH (s.put (some d) (.c (.kb q))) = encH s := fun q => encH_put _ _ _
      rcases br_some hd with ⟨e, hd⟩ | ⟨e, hd⟩
      ·have e : t = true := e
       rw [if_pos e]
       exact ihx hx (al true e) hd fun e2 x2 a2 w2 S2 μ2 s2 is2 q1 q2 q3 => hQ e2 x2 _ _ _ _ _ is2 q1 (by rw [eh] at q2; exact q2) q3
      ·have e : t = false := e
       rw [if_neg (by rw [e]; decide)]
       exact ihy hy (al false e) hd fun e2 x2 a2 w2 S2 μ2 s2 is2 q1 q2 q3 => hQ e2 x2 _ _ _ _ _ is2 q1 (by rw [eh] at q2; exact q2) q3
     ·cases hd
    ·cases hd
 | block id b ih =>
  intro lc hc n ex rt α k r w S s μ a Q h hd hQ
  simp only [compC] at hc
  obtain ⟨lb, hb, rfl⟩ := optOut hc
  simp only [denC] at hd
  refine wpIn_block (ih hb h hd fun e x a' w' S' μ' s' is r1 r2 r3 => ?_)
  cases e with
  | normal =>
   cases x <;> simp only [LE.is] at is
   rw [if_neg (by intro q; cases q)] at r3
   exact hQ .normal .normal _ _ _ _ _ trivial r1 r2 r3
  | ret =>
   cases x <;> simp only [LE.is] at is
   rw [if_neg (by intro q; cases q)] at r3
   exact hQ .ret .ret _ _ _ _ _ trivial r1 r2 r3
  | exit i =>
   cases x <;> simp only [LE.is] at is
   subst is
   simp only [Exit.inBlock]
   by_cases hi : i = id
   ·subst hi
    rw [if_pos rfl] at r3 ⊢
    exact hQ .normal .normal _ _ _ _ _ trivial r1 r2 r3
   ·rw [if_neg (by intro q; injection q with q; exact hi q)] at r3
    rw [if_neg hi]
    exact hQ (.exit i) (.exit i) _ _ _ _ _ rfl r1 r2 r3
 | loop b ih =>
  intro lc hc n ex rt α k r w S s μ a Q h hd hQ
  simp only [compC] at hc
  obtain ⟨lb, hb, rfl⟩ := optOut hc
  simp only [denC] at hd
  generalize fixS (fun sh => denC mk cx base lb (sortN (liveC lb [] ex rt)) ex rt (α := Unit) stat sh fun e s' => [(e, canon stat (keepE (sortN (liveC lb [] ex rt)) ex rt e) s')]) 4 (erS (canon val (sortN (liveC lb [] ex rt)) s)) = fx at hd
  obtain ⟨sh, xs⟩ := fx
  simp only at hd
  generalize hh : sortN (liveC lb [] ex rt) = hk at hd
  replace hd : loopV wv (dL wv) sh xs (fun e s' => canon val (keepE hk ex rt e) s') (fun s' k' => denC mk cx base lb hk ex rt val s' k') (canon val hk s) k = some r := hd
  unfold loopV at hd
  split at hd
  ·cases hd
  ·rename_i h0 hf0
   generalize hB : (fun h => denC mk cx base lb hk ex rt val (sh.mk' h) fun e s' => (match e with
    | .normal => (sh.fit (dL wv) (canon val (keepE hk ex rt .normal) s')).map Nx.go
    | e => (exIn (dL wv) xs e (canon val (keepE hk ex rt e) s')).map Nx.out : Option (Nx (HL Ty.T sh.lt) (Ex Ty.T xs)))) = B
   have hd : obind (loopN B bigN h0) (exOut k xs) = some r := by rw [← hB]; exact hd
   obtain ⟨e, hl, hex⟩ := obind_some hd
   obtain ⟨S0, μ0, c1, c2⟩ := canon_ok hk h
   obtain ⟨S1, μ1, c3, c4⟩ := fit_ok c1 hf0
   let J : Nat → Act → World → Prop := fun m a1 w1 => ∃ hm Sm μm, loopN B m hm = some e ∧ RepF nt w1 Sm (sh.mk' hm) μm a1 fs ∧ Evo w S (encH s) μ w1 Sm (encH (sh.mk' hm)) μm
   refine wpIn_loop (fun a1 w1 => ∃ m, J m a1 w1) (fun a1 w1 => leastOf fun m => J m a1 w1) ⟨bigN, h0, S1, μ1, hl, c3, c2.trans c4⟩ fun a1 w1 hI' => ?_
   have hmin := (leastOf_spec hI').1
   generalize (leastOf fun m => J m a1 w1) = m at hmin ⊢
   obtain ⟨hm', Sm, μm, j1, j2, j3⟩ := hmin
   cases m with
   | zero => cases j1
   | succ m =>
    simp only [loopN] at j1
    cases hBm : B hm' with
    | none => rw [hBm] at j1; cases j1
    | some nx =>
     rw [hBm] at j1
     have hbd := hBm
     rw [← hB] at hbd
     refine ih hb j2 hbd fun e1 x1 a2 w2 S2 μ2 s2 is q1 q2 q3 => ?_
     obtain ⟨S3, μ3, d1, d2⟩ := canon_ok (keepE hk ex rt e1) q1
     cases e1 with
     | normal =>
      cases x1 <;> simp only [LE.is] at is
      obtain ⟨h', hf', rfl⟩ := optOut q3
      obtain ⟨S4, μ4, d3, d4⟩ := fit_ok d1 hf'
      simp only [Exit.then]
      have hJ : J m a2 w2 := ⟨h', S4, μ4, j1, d3, j3.trans (q2.trans (d2.trans d4))⟩
      exact ⟨⟨m, hJ⟩, Nat.lt_succ_of_le ((leastOf_spec ⟨m, hJ⟩).2 m hJ)⟩
     | exit i =>
      cases x1 <;> simp only [LE.is] at is
      subst is
      obtain ⟨h', hf', rfl⟩ := optOut q3
      injection j1 with j1
      subst j1
      obtain ⟨p, hp, g1, g2⟩ := exIn_out hf' hex
      obtain ⟨S4, μ4, d3, d4⟩ := fit_ok d1 g1
      exact hQ (.exit i) (.exit i) _ _ _ _ _ rfl d3 (j3.trans (q2.trans (d2.trans d4))) g2
     | ret =>
      cases x1 <;> simp only [LE.is] at is
      obtain ⟨h', hf', rfl⟩ := optOut q3
      injection j1 with j1
      subst j1
      obtain ⟨p, hp, g1, g2⟩ := exIn_out hf' hex
      obtain ⟨S4, μ4, d3, d4⟩ := fit_ok d1 g1
      exact hQ .ret .ret _ _ _ _ _ trivial d3 (j3.trans (q2.trans (d2.trans d4))) g2
 | exit id =>
  intro lc hc n ex rt α k r w S s μ a Q h hd hQ
  injection hc with hc
  subst hc
  exact wpIn_exit (hQ (.exit id) (.exit id) _ _ _ _ _ rfl h .refl hd)
 | ret =>
  intro lc hc n ex rt α k r w S s μ a Q h hd hQ
  injection hc with hc
  subst hc
  exact wpIn_ret (hQ .ret .ret _ _ _ _ _ trivial h .refl hd)
 | rangeFunc g ps x y ihx ihy =>
  intro lc hc n ex rt α k r w S s μ a Q h hd hQ
  exact rng_den hC hcall hI hso hro hh hfs hc h hd hQ
 | _ => intro lc hc; cases hc
end
end Go.Dn
namespace Go.Dn
open Go Go.Vv
set_option linter.unusedVariables false
set_option linter.unusedSimpArgs false
def getRes (a : Act) : ResultVar → Sem Value
 | .tmp t => pure (a.tmps.getD t undef)
 | .cell b t => do loadVar t (← asAddr (a.tmps.getD b undef))
section
variable {P : Program} {w : World} {S : Nat → Prop} {σ : St} {μ : Gh} {a : Act} {nt : Nat}
theorem res_run (hs : RepS nt w S σ μ a) : ∀ {l : List ResultVar} {rs : List RV} {vs : List AV}, mapL (compRV P) l = some rs → rs.mapM (RV.get σ) = some vs →
  ∃ cs : List Value, (l.mapM (getRes a)).run P w = .ok cs w ∧ cs.length = vs.length ∧ ∀ i x, vs[i]? = some x → Rep w S σ.h μ x (cs.getD i undef)
 | [], rs, vs, hc, hv => by
  injection hc with hc
  subst hc
  simp at hv
  subst hv
  exact ⟨[], by simp, rfl, fun i x hi => by simp at hi⟩
 | r :: l, rs, vs, hc, hv => by
  simp only [mapL] at hc
  cases hx : compRV P r with
  | none => rw [hx] at hc; cases hc
  | some x =>
   rw [hx] at hc
   simp only [Option.bind_some] at hc
   obtain ⟨m, hm, rfl⟩ := optOut hc
   rw [List.mapM_cons] at hv
   cases hgx : RV.get σ x with
   | none => rw [hgx] at hv; cases hv
   | some v =>
    cases hgm : m.mapM (RV.get σ) with
    | none => rw [hgx, hgm] at hv; cases hv
    | some us =>
     rw [hgx, hgm] at hv
     injection hv with hv
     subst hv
     obtain ⟨cs, h1, h2, h3⟩ := res_run hs hm hgm
     have one : ∃ cv, (getRes a r).run P w = .ok cv w ∧ Rep w S σ.h μ v cv := by
      cases r with
      | tmp t =>
       simp [compRV] at hx
       subst hx
       simp [RV.get] at hgx
       subst hgx
       exact ⟨_, by simp [getRes], hs.fr t⟩
      | cell b t =>
       simp only [compRV] at hx
       cases hag : aggT P t with
       | none => rw [hag] at hx; cases hx
       | some ag =>
        cases hn : szT P t with
        | none => rw [hag, hn] at hx; cases hx
        | some n =>
         rw [hag, hn] at hx
         simp only [Option.bind_some] at hx
         have hx := ite_some hx
         obtain ⟨hone, hx⟩ := hx
         injection hx with hx
         subst hx
         simp only [RV.get] at hgx
         have hd : ∃ ad, a.tmps.getD b undef = .pointer (some ad) := by
          unfold loadV at hgx
          split at hgx
          ·rename_i l' off hd
           obtain ⟨ad, e, _⟩ := deref_sound hs.hp (hs.fr b) hd
           exact ⟨ad, e⟩
          ·cases hgx
         obtain ⟨ad, e⟩ := hd
         obtain ⟨cv, r1, r2⟩ := load_sound (P := P) hs.hp hag hn hone (hs.fr b) hgx
         refine ⟨cv, ?_, r2⟩
         rw [e] at r1
         simp only [getRes, e]
         simpa [Instr.loadAt, Instr.sureAddr, asAddr] using r1
     obtain ⟨cv, o1, o2⟩ := one
     refine ⟨cv :: cs, ?_, by simp [h2], fun i y hi => ?_⟩
     ·rw [List.mapM_cons]
      simp only [Sem.run_bind, o1, h1, Result.andThen_ok, Sem.run_pure]
     ·cases i with
      | zero => simp at hi; subst hi; simpa using o2
      | succ i => simpa using h3 i y (by simpa using hi)
theorem resD_some {s : Dn.S Ty.T} (hi : Inv s) {α : Type} {r : α} : ∀ {rs : List RV} {k : List (V Ty.T) → Option α}, resD val s rs k = some r → ∃ l, rs.mapM (RV.get (enc s)) = some (l.map (encV s)) ∧ (∀ v ∈ l, okV s v) ∧ k l = some r
 | [], k, h => ⟨[], rfl, fun v hv => (by cases hv), h⟩
 | .tmp t :: rs, k, h => by
  simp only [resD] at h
  obtain ⟨l, a, b, c⟩ := resD_some hi h
  refine ⟨s.at t :: l, ?_, fun v hv => ?_, c⟩
  ·rw [List.mapM_cons, a]; rfl
  ·rcases List.mem_cons.1 hv with rfl | hv
   ·exact hi.at t
   ·exact b v hv
 | .cell t ag n :: rs, k, h => by
  simp only [resD] at h
  obtain ⟨v, v1, v2, h⟩ := load_sim hi (hi.at t) h
  obtain ⟨l, a, b, c⟩ := resD_some hi h
  refine ⟨v :: l, ?_, fun u hu => ?_, c⟩
  ·rw [List.mapM_cons, a]
   have : RV.get (enc s) (.cell t ag n) = some (encV s v) := v1
   rw [this]
   rfl
  ·rcases List.mem_cons.1 hu with rfl | hu
   ·exact v2
   ·exact b u hu
theorem packL_enc (s : Dn.S Ty.T) (l : List (V Ty.T)) (ok : ∀ v ∈ l, okV s v) {cs : List Value} (hl : cs.length = l.length) (hr : ∀ (i : Nat) (x : AV), (l.map (encV s))[i]? = some x → Rep w S (encH s) μ x (cs.getD i undef)) :
  okV s (packL l) ∧ Rep w S (encH s) μ (encV s (packL l)) (if h : cs.toArray.size = 1 then cs.toArray[0] else .tuple cs.toArray) := by
 have tp : okV s (.tp (l.map V.toP)) ∧ Rep w S (encH s) μ (encV s (.tp (l.map V.toP))) (.tuple cs.toArray) := by
  refine ⟨fun c hc => ?_, ?_⟩
  ·simp only [V.all, List.mem_flatMap, List.mem_map] at hc
   obtain ⟨p, ⟨v, hv, rfl⟩, hc⟩ := hc
   cases v with
   | c x => exact ok _ hv c hc
   | ag l => exact ok _ hv c hc
   | tp l => cases hc
  ·refine .tup _ _ (by simp [hl]) fun i x hx => ?_
   rw [List.getElem?_map, List.getElem?_map] at hx
   cases hv : l[i]? with
   | none => rw [hv] at hx; cases hx
   | some v =>
    rw [hv] at hx
    injection hx with hx
    have := hr i (encV s v) (by rw [List.getElem?_map, hv]; rfl)
    have e : cs.toArray.getD i undef = cs.getD i undef := by simp
    rw [e, ← hx]
    cases v with
    | c y => exact this
    | ag m => exact this
    | tp m => exact .any _
 match l, hl, tp with
 | [], hl, tp =>
  have : cs = [] := List.eq_nil_of_length_eq_zero hl
  subst this
  exact ⟨tp.1, tp.2⟩
 | [v], hl, tp =>
  match cs, hl with
  | [c], _ => exact ⟨ok v (List.mem_singleton.2 rfl), by simpa [packL] using hr 0 _ rfl⟩
 | u :: v :: m, hl, tp =>
  have hsz : ¬ cs.toArray.size = 1 := by simp at hl ⊢; omega
  rw [dif_neg hsz]
  exact tp
theorem results_run {s : Dn.S Ty.T} (hs : RepS nt w S (enc s) μ a) (hi : Inv s) {fn : Func} {rs : List RV} {α : Type} {r : α} {k : List (V Ty.T) → Option α} (hc : mapL (compRV P) fn.results.toList = some rs) (hv : resD val s rs k = some r) :
  ∃ l cv, (results fn a.tmps).run P w = .ok cv w ∧ okV s (packL l) ∧ Rep w S (encH s) μ (encV s (packL l)) cv ∧ k l = some r := by
 obtain ⟨l, a1, a2, a3⟩ := resD_some hi hv
 obtain ⟨cs, h1, h2, h3⟩ := res_run hs hc a1
 obtain ⟨p1, p2⟩ := packL_enc (w := w) (S := S) (μ := μ) s l a2 (by simpa using h2) h3
 refine ⟨l, _, ?_, p1, p2, a3⟩
 have e : results fn a.tmps = (do let vs ← fn.results.mapM (getRes a); pure (if h : vs.size = 1 then vs[0] else .tuple vs)) := by
  unfold results
  congr 2
 rw [e, Array.mapM_eq_mapM_toList]
 simp only [Sem.run_bind, Sem.run_map, h1, Result.andThen_ok, Sem.run_pure]
end
def CodeOK (P : Program) (cx : Cx) : Prop := ∀ f lf, cx.code f = some lf → compF P f = some lf
theorem argSl_look : ∀ {vs : List (V Ty.T)} {j d : Nat}, look d (argSl j vs) = if j ≤ d then vs[d - j]? else none
 | [], j, d => by simp [argSl, look]
 | v :: r, j, d => by
  simp only [argSl]
  rw [look_cons, argSl_look]
  by_cases h1 : j = d
  ·subst h1; simp
  ·rw [if_neg h1]
   by_cases h2 : j ≤ d
   ·rw [if_pos (by omega), if_pos h2, show d - j = (d - (j + 1)) + 1 by omega, List.getElem?_cons_succ]
   ·rw [if_neg (by omega), if_neg h2]
theorem argSl_mem : ∀ {vs : List (V Ty.T)} {j : Nat} {p : Nat × V Ty.T}, p ∈ argSl j vs → p.2 ∈ vs
 | [], j, p, h => by cases h
 | v :: r, j, p, h => by
  rcases List.mem_cons.1 h with rfl | h
  ·exact List.mem_cons_self
  ·exact List.mem_cons_of_mem _ (argSl_mem h)
structure Beh (D : Nat) (w w' : World) : Prop where
 os : w'.os = w.os
 tape : w'.tape = w.tape
 output : w'.output = w.output
 drawn : w'.drawn = w.drawn
 size : w'.heap.size = w.heap.size
 low : ∀ b, b < D → w'.heap[b]? = w.heap[b]?
 cells : ∀ (b : Nat) (cs : Array Value) (el : TypeId) (z : Nat × Nat), w.heap[b]? = some (.cells cs el z) → w'.heap[b]? = some (.cells cs el z)
theorem Beh.refl (D : Nat) (w : World) : Beh D w w := ⟨rfl, rfl, rfl, rfl, rfl, fun _ _ => rfl, fun _ _ _ _ h => h⟩
theorem Beh.trans {D : Nat} {a b c : World} (h : Beh D a b) (k : Beh D b c) : Beh D a c :=
 ⟨k.os.trans h.os, k.tape.trans h.tape, k.output.trans h.output, k.drawn.trans h.drawn, k.size.trans h.size, fun b hb => (k.low b hb).trans (h.low b hb), fun b cs el z hc => k.cells b cs el z (h.cells b cs el z hc)⟩
theorem evo_beh {w w' w2 : World} {S S' : Nat → Prop} {h h' : Heap} {μ μ' : Gh} (ev : Evo w S h μ w' S' h' μ') (b : Beh w.heap.size w' w2) : Evo w S h μ w2 S' h' μ' :=
 ⟨b.os.trans ev.os, b.tape.trans ev.tape, ⟨b.output.trans ev.output.1, by rw [b.drawn]; exact ev.output.2⟩, by rw [b.size]; exact ev.size, fun k hk hn => (b.low k hk).trans (ev.keep k hk hn), fun k cs el z hc => by
  obtain ⟨cs', h1, h2⟩ := ev.shape k cs el z hc
  exact ⟨cs', b.cells _ _ _ _ h1, h2⟩, ev.st, ev.st2, ev.ow, ev.lp⟩
section
variable {P : Program} {nt : Nat} {S : Nat → Prop} {s : Dn.S Ty.T} {μ : Gh} {f : Fm} {fs : List Fm} {tmps : Array Value}
theorem leaves_marks {fn : Func} {R : Ending → World → Prop} : ∀ (ds : List Deferred) {w : World}, RepF nt w S s μ { tmps := tmps, defers := ds } (f :: fs) →
  (∀ w2, RepF nt w2 S s μ { tmps := tmps, defers := [] } (f :: fs) → Beh f.d w w2 → LeavesIn (Fr none) 0 P fn tmps R [] .returning w2) → LeavesInM (Fr none) 0 P fn tmps R ds .returning w
 | [], w, h, hR => hR w h (.refl _ _)
 | d :: ds, w, h, hR => by
  obtain ⟨r, e, hr, hs⟩ := h.fr.df.2 d List.mem_cons_self
  obtain ⟨q, e2, hq⟩ := h.md.1 d List.mem_cons_self
  have hqr : q = r := by rw [e] at e2; injection e2 with e2; injection e2 with e2; exact e2.symm
  subst hqr
  have hnd := List.nodup_cons.1 h.fr.df.1
  have hnm : ∀ g ob, encH s g = some ob → ob.live = true → μ.b g ≠ q := by
   rintro g ob ho hl rfl
   have := h.fr.hp.ob g ob ho
   cases ob with
   | box v cells => obtain ⟨cs, el, x, _⟩ := this; rw [hr] at x; cases x
   | arr v e t cells z => obtain ⟨cs, x, _⟩ := this (live_ne.1 hl); rw [hr] at x; cases x
   | map v es z => obtain ⟨es', clock, x, _⟩ := this; rw [hr] at x; cases x
  have mput : ∀ {l : List Deferred}, (({ target := .collected q, args := #[] } : Deferred) ∉ l) → Marks w S l → Marks (w.putObj q (.deferred none)) S l := fun {l} hn hm => ⟨hm.1, fun x hx => by
   obtain ⟨b, e1, hb, hb2⟩ := hm.2 x hx
   refine ⟨b, e1, (heap_put fun e3 => hn ?_).trans hb, hb2⟩
   rw [← e3, ← e1]
   exact hx⟩
  have h2 : RepF nt (w.putObj q (.deferred none)) S s μ { tmps := tmps, defers := ds } (f :: fs) := by
   refine ⟨⟨fun d => rep_put hs hnm (h.fr.fr d), repH_put hs hnm h.fr.hp, mput (e ▸ hnd.1) ⟨hnd.2, fun x hx => h.fr.df.2 x (List.mem_cons_of_mem _ hx)⟩, h.fr.sz⟩, h.len, fun i l' b h1 h2 d v hv => rep_put hs hnm (h.lo i l' b h1 h2 d v hv),
    fun p hp => ⟨mput (fun x => ?_) (h.sz p hp).1, (h.sz p hp).2.1, by simpa using (h.sz p hp).2.2⟩, ⟨fun d hd => h.md.1 d (List.mem_cons_of_mem _ hd), h.md.2⟩, fun p hp j r hj => ?_, h.iv⟩
   ·have := h.md.lt p hp q x
    omega
   ·obtain ⟨l1, l2, l3⟩ := h.lp p hp j r hj
    exact ⟨(heap_put fun e => by rw [e, hr] at l1; cases l1).trans l1, l2, l3⟩
  have b1 : Beh f.d w (w.putObj q (.deferred none)) := ⟨rfl, rfl, rfl, rfl, by simp, fun b hb => heap_put (by omega), fun b cs el z hc => (heap_put fun e => by rw [e, hr] at hc; cases hc).trans hc⟩
  refine ⟨(by intro h; cases h), .inl ⟨q, w.putObj q (.deferred none), by rw [e], run_takeDeferred hr, leaves_marks ds h2 fun w2 hw2 hb => hR w2 hw2 (b1.trans hb)⟩⟩
end
section
variable {P : Program} {call : Vv.Call} {cx : Cx} {mk : Cx → Inl}
theorem body_fn (hC : CallSim call cx.ct) (hcall : CallOK P call) (hm : P.follows .mixedOrders = true) (hso : SoOK P cx) (hcd : CodeOK P cx) (hI : ∀ hs, InlOK P hs (mk { cx with hs := hs, rd := false })) (hrd : cx.rd = false)
  {α : Type} {f : FuncId} {base : Nat} {vs : List (V Ty.T)} {s : S Ty.T} {k : V Ty.T → S Ty.T → Option α} {r : α} (hb : Nat.ble yB f = false) (hd : bodyD mk cx val f base vs s k = some r) :
  FnOK P f ∧ ∀ {n0 : Nat} {w : World} {S : Nat → Prop} {μ : Gh} {a0 : Act} {fr : Fm} {fs : List Fm} {cargs : Array Value}, RepF n0 w S s μ a0 (fr :: fs) → HsOK P cx.hs (fr :: fs) → FsOK (fr :: fs) → (∀ v ∈ vs, okV s v) → cargs.size = vs.length →
   (∀ (i : Nat) (x : V Ty.T), vs[i]? = some x → Rep w S (encH s) μ (encV s x) (cargs.getD i undef)) → ∀ {R : Ending → World → Prop}, fr.d = w.heap.size →
   (∀ w' S' μ' v s' cv, RepF fr.nt w' S' s' μ' fr.act fs → okV s' v → Rep w' S' (encH s') μ' (encV s' v) cv → Evo w S (encH s) μ w' S' (encH s') μ' → k v s' = some r → R (.returned cv) w') → Calls P f cargs w R := by
 simp only [bodyD, hb] at hd
 cases hcf : cx.code f with
 | none => rw [hcf] at hd; cases hd
 | some lf =>
  rw [hcf] at hd
  simp only at hd
  have h := hcd f lf hcf
  unfold compF at h
  cases hf : P.funcs[f]? with
  | none => rw [hf] at h; cases h
  | some fn =>
   rw [hf] at h
   simp only [Option.bind_some] at h
   cases hb : fn.body with
   | none => rw [hb] at h; cases h
   | some c =>
    rw [hb] at h
    simp only [Option.bind_some] at h
    split at h
    ·cases h
    ·rename_i hname
     cases hlc : compC P fn.ntmps c with
     | none => rw [hlc] at h; cases h
     | some b =>
      rw [hlc] at h
      simp only [Option.bind_some] at h
      obtain ⟨rs, hrs, rfl⟩ := optOut h
      split at hd
      ·rename_i hnp
       refine ⟨⟨fn, hf, by rw [hb]; rfl, by simpa using hname⟩, fun {n0 w S μ a0 fr fs cargs} hrep hh hfs okv hsz hargs {R} hd0 hR => ?_⟩
       have ho : encH (⟨argSl 0 vs, s.lo, s.ob, s.ln⟩ : Dn.S Ty.T) = encH s := encH_ob rfl rfl
       have hv : ∀ v, encV (⟨argSl 0 vs, s.lo, s.ob, s.ln⟩ : Dn.S Ty.T) v = encV s v := fun v => encV_ob rfl rfl v
       have hrs0 : RepS fn.ntmps w S (enc (⟨argSl 0 vs, s.lo, s.ob, s.ln⟩ : Dn.S Ty.T)) μ { tmps := cargs ++ Array.replicate (fn.ntmps - cargs.size) undef, defers := [] } := by
        refine ⟨fun d => ?_, by show RepH w S (encH _) μ; rw [ho]; exact hrep.fr.hp, .nil, by simp; omega⟩
        show Rep w S (encH _) μ (encV _ (Dn.S.at _ d)) _
        rw [ho]
        unfold Dn.S.at
        simp only [argSl_look, Nat.zero_le, if_true, Nat.sub_zero]
        cases hvd : vs[d]? with
        | none => exact .any _
        | some v =>
         simp only
         rw [hv]
         have hlt : d < cargs.size := by have := (List.getElem?_eq_some_iff.1 hvd).1; omega
         have e : (cargs ++ Array.replicate (fn.ntmps - cargs.size) undef).getD d undef = cargs.getD d undef := by
          simp only [Array.getD_eq_getD_getElem?]
          rw [Array.getElem?_append_left hlt]
         rw [e]
         exact hargs d v hvd
       have hF : RepF fn.ntmps w S (⟨argSl 0 vs, s.lo, s.ob, s.ln⟩ : Dn.S Ty.T) μ { tmps := cargs ++ Array.replicate (fn.ntmps - cargs.size) undef, defers := [] } (fr :: fs) :=
        ⟨hrs0, hrep.len, fun i l b hl hb' d v hd' => by rw [ho, hv]; exact hrep.lo i l b hl hb' d v hd', hrep.sz, ⟨fun d hd => (by cases hd), hrep.md.2⟩, hrep.lp, ⟨fun p hp => okv _ (argSl_mem hp), hrep.iv.lo, hrep.iv.ob⟩⟩
       refine callsIn_wide.1 (callsIn_of_wp_marks (F := Fr none) (n := 0) hf hb trivial (wpIn_mono (den_wp hC hcall hI hm hso (fun _ => rfl) hh hfs c hlc hF hd (Q := bodyPostM (Fr none) 0 P fn R) fun e x a' w' S' μ' s' is r1 r2 r3 => ?_) fun _ _ _ q => q))
       have fin : resD val s' rs (fun l => k (packL l) s'.pop) = some r → bodyPostM (Fr none) 0 P fn R .ret a' w' := fun h3 => by
        have r1' : RepF fn.ntmps w' S' s' μ' { tmps := a'.tmps, defers := a'.defers } (fr :: fs) := r1
        refine leaves_marks a'.defers r1' fun w2 r1 hbeh => ?_
        obtain ⟨l, cv, q1, q2, q3, q4⟩ := results_run (P := P) r1.fr r1.iv hrs h3
        have hp := r1.pop
        have e1 : s'.pop.ob = s'.ob ∧ s'.pop.ln = s'.ln := by
         unfold Dn.S.pop
         split <;> exact ⟨rfl, rfl⟩
        rw [hd0] at hbeh
        refine ⟨cv, q1, hR w2 S' μ' (packL l) s'.pop cv hp (fun c hc => ?_) ?_ ?_ q4⟩
        ·have := q2 c hc
         intro r hr
         rw [e1.1]
         exact this r hr
        ·rw [encH_ob e1.1 e1.2, encV_ob e1.1 e1.2]; exact q3
        ·rw [encH_ob e1.1 e1.2]
         rw [ho] at r2
         exact evo_beh r2 hbeh
       cases e with
       | exit i => cases r3
       | normal => cases x <;> simp only [LE.is] at is; exact fin r3
       | ret => cases x <;> simp only [LE.is] at is; exact fin r3
      ·cases hd
end
end Go.Dn
namespace Go.Dn
open Go Go.Vv
set_option linter.unusedVariables false
set_option linter.unusedSimpArgs false
theorem fold_get : ∀ (l : List (Nat × Value)) (T : Array Value) (d : Nat), (l.map (·.1)).Nodup → (∀ p ∈ l, p.1 < T.size) →
  (l.foldl (fun t p => t.setIfInBounds p.1 p.2) T).size = T.size ∧ (l.foldl (fun t p => t.setIfInBounds p.1 p.2) T).getD d undef = (match look d l with | some v => v | none => T.getD d undef)
 | [], T, d, _, _ => ⟨rfl, rfl⟩
 | (p, v) :: l, T, d, hn, hs => by
  simp only [List.map_cons, List.nodup_cons] at hn
  obtain ⟨h1, h2⟩ := fold_get l (T.setIfInBounds p v) d hn.2 (fun x hx => by simpa using hs x (List.mem_cons_of_mem _ hx))
  simp only [List.foldl_cons]
  refine ⟨by rw [h1]; simp, ?_⟩
  rw [h2, look_cons]
  by_cases hd : p = d
  ·subst hd
   rw [if_pos rfl]
   have : look p l = none := by
    cases hl : look p l with
    | none => rfl
    | some u => exact (hn.1 (List.mem_map.2 ⟨(p, u), look_mem hl, rfl⟩)).elim
   rw [this]
   have := hs (p, v) List.mem_cons_self
   simp at this
   simp [this]
  ·rw [if_neg hd]
   cases look d l with
   | some u => rfl
   | none => simp [Array.getD_eq_getD_getElem?, Array.getElem?_setIfInBounds_ne hd]
theorem ps_look : ∀ (ps : List Nat) (vs : List (V Ty.T)) (cl : List Value), ps.length = vs.length → cl.length = vs.length → ∀ d, (look d (psSl ps vs) = none ∧ look d (ps.zip cl) = none) ∨ ∃ (i : Nat) (v : V Ty.T) (cv : Value), vs[i]? = some v ∧ cl[i]? = some cv ∧ look d (psSl ps vs) = some v ∧ look d (ps.zip cl) = some cv
 | [], _, _, _, _, d => .inl ⟨by simp [psSl, look], by simp [look]⟩
 | p :: ps, [], _, h, _, d => by simp at h
 | p :: ps, v :: vs, [], _, h, d => by simp at h
 | p :: ps, v :: vs, c :: cl, h1, h2, d => by
  simp only [psSl, List.zip_cons_cons]
  rw [look_cons, look_cons]
  by_cases hd : p = d
  ·rw [if_pos hd, if_pos hd]
   exact .inr ⟨0, v, c, rfl, rfl, rfl, rfl⟩
  ·rw [if_neg hd, if_neg hd]
   rcases ps_look ps vs cl (by simpa using h1) (by simpa using h2) d with h | ⟨i, v', c', a, b, e, f⟩
   ·exact .inl h
   ·exact .inr ⟨i + 1, v', c', by simpa using a, by simpa using b, e, f⟩
theorem look_append {α : Type} {d : Nat} : ∀ {a b : List (Nat × α)}, look d (a ++ b) = (match look d a with | some v => some v | none => look d b)
 | [], b => rfl
 | (k, v) :: a, b => by
  rw [List.cons_append, look_cons, look_cons]
  split
  ·rfl
  ·exact look_append
theorem look_filter {α : Type} {i j : Nat} {h : α} : ∀ {l : List (Nat × α)}, look i (l.filter fun p => Nat.blt p.1 j) = some h → look i l = some h ∧ i < j
 | [], hl => by cases hl
 | (k, v) :: l, hl => by
  rw [List.filter_cons] at hl
  split at hl
  ·rename_i hk
   rw [look_cons] at hl ⊢
   split at hl
   ·rename_i e
    rw [if_pos e]
    have hk : k + 1 ≤ j := by simpa [Nat.blt] using hk
    exact ⟨hl, by omega⟩
   ·rename_i e
    rw [if_neg e]
    exact look_filter hl
  ·rename_i hk
   obtain ⟨h1, h2⟩ := look_filter hl
   rw [look_cons]
   refine ⟨?_, h2⟩
   rw [if_neg (fun e => hk ?_)]
   ·exact h1
   ·subst e
    exact Nat.ble_eq_true_of_le h2
theorem split_deep {α : Type} {x y f : α} {p q : List α} : ∀ {pre : List α}, x :: y :: p = pre ++ f :: q → q.length < p.length → ∃ pre2, p = pre2 ++ f :: q
 | [], e, h => by injection e with e1 e2; subst e2; simp at h; omega
 | [a], e, h => by injection e with e1 e2; injection e2 with e2 e3; subst e3; omega
 | a :: b :: pre, e, h => by injection e with e1 e2; injection e2 with e2 e3; exact ⟨pre, e3⟩
theorem evo_round {w w1 w2 : World} {S S1 S2 : Nat → Prop} {h h1 h2 : Heap} {μ μ1 μ2 : Gh} {l : Nat} {q : Loop} {X : Obj} (e1 : Evo w S h μ w1 S1 h1 μ1) (e2 : Evo (w1.putObj l X) S1 h1 μ1 w2 S2 h2 μ2) (hl : w.heap[l]? = some (.loop q)) :
  Evo w S h μ (w2.putObj l (.loop q)) S2 h2 μ2 := by
 have sz1 : w.heap.size ≤ w1.heap.size := e1.size
 have sz2 : w1.heap.size ≤ w2.heap.size := by simpa using e2.size
 have hlt := (Array.getElem?_eq_some_iff.1 hl).1
 refine ⟨e2.os.trans e1.os, e2.tape.trans e1.tape, ⟨e2.output.1.trans e1.output.1, Nat.le_trans e1.output.2 e2.output.2⟩, by simp; omega, fun b hb hn => ?_, fun b cs el z hc => ?_, fun b hb => e2.st b (e1.st b hb), fun b hb => ?_, fun b hb => ?_, e2.lp.trans e1.lp⟩
 ·by_cases hbl : b = l
  ·subst hbl
   rw [World.putObj_heap_same (by omega), hl]
  ·rw [heap_put hbl, e2.keep b (by simp; omega) (fun ho => (e1.ow b ho).elim hn (by omega)), heap_put hbl]
   exact e1.keep b hb hn
 ·have hbl : b ≠ l := fun e => by subst e; rw [hl] at hc; cases hc
  obtain ⟨c1, q1, q2⟩ := e1.shape b cs el z hc
  obtain ⟨c2, q3, q4⟩ := e2.shape b c1 el z ((heap_put hbl).trans q1)
  exact ⟨c2, (heap_put hbl).trans q3, q4.trans q2⟩
 ·rcases e2.st2 b hb with x | x | x
  ·exact e1.st2 b x
  ·exact .inr (.inl (by simp at x; omega))
  ·rcases e1.ow b x with y | y
   ·exact .inr (.inr y)
   ·exact .inr (.inl y)
 ·rcases e2.ow b hb with x | x
  ·exact e1.ow b x
  ·exact .inr (by simp at x; omega)
section
variable {P : Program} {call : Vv.Call} {cx : Cx} {mk : Cx → Inl}
theorem body_yield (hC : CallSim call cx.ct) (hcall : CallOK P call) (hm : P.follows .mixedOrders = true) (hso : SoOK P cx) (hI : ∀ hs, InlOK P hs (mk { cx with hs := hs, rd := false }))
  {α : Type} {j base : Nat} {vs : List (V Ty.T)} {s : S Ty.T} {k : V Ty.T → S Ty.T → Option α} {r : α} (hd : bodyD mk cx val (yB + j) base vs s k = some r)
  {n0 : Nat} {w : World} {S : Nat → Prop} {μ : Gh} {a0 : Act} {fr : Fm} {fs : List Fm} {cargs : Array Value} (hrep : RepF n0 w S s μ a0 (fr :: fs)) (hh : HsOK P cx.hs (fr :: fs)) (hfs : FsOK (fr :: fs)) (okv : ∀ v ∈ vs, okV s v) (hsz : cargs.size = vs.length)
  (hargs : ∀ (i : Nat) (x : V Ty.T), vs[i]? = some x → Rep w S (encH s) μ (encV s x) (cargs.getD i undef)) {R : Ending → World → Prop}
  (hR : ∀ w' S' μ' v s' cv, RepF fr.nt w' S' s' μ' fr.act fs → okV s' v → Rep w' S' (encH s') μ' (encV s' v) cv → Evo w S (encH s) μ w' S' (encH s') μ' → k v s' = some r → R (.returned cv) w') (hlo : fr.lo = none) :
  ∃ q, w.heap[μ.l j]? = some (.loop q) ∧ cargs.size = q.params.size ∧ RoundIn Fence.wide 0 P (μ.l j) q.fn ((q.params.zip cargs).foldl (fun tmps (t, a) => tmps.setIfInBounds t a) q.tmps) q.assign q.body w R := by
 have hb : Nat.ble yB (yB + j) = true := Nat.ble_eq_true_of_le (Nat.le_add_right _ _)
 simp only [bodyD, hb, Nat.add_sub_cancel_left] at hd
 cases hlk : look j cx.hs with
 | none => rw [hlk] at hd; cases hd
 | some h =>
  obtain ⟨pre, fr2, post, q, efs, epost, elo, eready, epend, etmps, eps, eas, ebd, epn, epnd⟩ := hh j h hlk
  rw [hlk] at hd
  obtain ⟨sl, lo, ob, ln⟩ := s
  match lo, hd, hrep, okv, hargs, hR with
  | [], hd, hrep, okv, hargs, hR => cases hd
  | [_], hd, hrep, okv, hargs, hR => cases hd
  | l0 :: c :: lr, hd, hrep, okv, hargs, hR =>
   have hd : (if lr.length = j ∧ vs.length = h.ps.length then
    denSeq mk { cx with hs := cx.hs.filter (fun p => Nat.blt p.1 j), rd := true } h.base h.a h.b val ⟨psSl h.ps vs ++ c, l0 :: c :: lr, ob, ln⟩ fun e s' => (match e with
     | .normal => k (.c (.kb true)) s'.pop
     | _ => val.no) else val.no) = some r := hd
   obtain ⟨⟨hlr, hvl⟩, hd⟩ := ite_no hd
   have hlen := hrep.len
   simp only [List.length_cons] at hlen
   obtain ⟨rfl, rfl⟩ : pre = [fr] ∧ fs = fr2 :: post := by
    have e1 : (fr :: fs).length = pre.length + (post.length + 1) := by rw [efs]; simp
    simp only [List.length_cons] at e1
    match pre, efs, e1 with
    | [], efs, e1 => simp at e1; omega
    | [x], efs, e1 => injection efs with e2 e3; subst e2; exact ⟨rfl, e3⟩
    | x :: y :: z, efs, e1 => simp at e1; omega
   clear efs hlen
   obtain ⟨hlp1, hlp2, hlp3⟩ := hrep.lp fr2 (List.mem_cons_of_mem _ List.mem_cons_self) j q elo
   have hlow : ∀ p ∈ post, ∀ i q', p.lo = some (i, q') → i ≠ j ∧ μ.l i ≠ μ.l j := fun p hp i q' hi => by
    obtain ⟨pre2, post2, e⟩ := List.append_of_mem hp
    have h1 := hfs (fr :: fr2 :: pre2) p post2 (by rw [e]; rfl) i q' hi
    have h2 : post.length = pre2.length + (post2.length + 1) := by rw [e]; simp
    have : i ≠ j := by omega
    exact ⟨this, hlp3 p (List.mem_cons_of_mem _ (List.mem_cons_of_mem _ hp)) i q' hi this⟩
   have hsz2 := hrep.sz fr2 (List.mem_cons_of_mem _ List.mem_cons_self)
   have epl : h.ps.length = q.params.size := by rw [← eps]; simp
   refine ⟨q, hlp1, by omega, ?_⟩
   obtain ⟨aR, haR⟩ : ∃ aR : Act, aR = { tmps := (q.params.zip cargs).foldl (fun tmps (t, a) => tmps.setIfInBounds t a) q.tmps, defers := [] } := ⟨_, rfl⟩
   obtain ⟨fr2', hfr2⟩ : ∃ f : Fm, f = ⟨fr2.nt, fr2.act, none, fr2.d⟩ := ⟨_, rfl⟩
   have hfold : ∀ d, aR.tmps.size = fr2.act.tmps.size ∧ aR.tmps.getD d undef = (match look d (h.ps.zip cargs.toList) with | some v => v | none => fr2.act.tmps.getD d undef) := fun d => by
    have e1 : aR.tmps = (h.ps.zip cargs.toList).foldl (fun t p => t.setIfInBounds p.1 p.2) q.tmps := by
     rw [haR, ← Array.foldl_toList, Array.toList_zip, eps]
    have hmap : (h.ps.zip cargs.toList).map (·.1) = h.ps := List.map_fst_zip (by simp; omega)
    have := fold_get (h.ps.zip cargs.toList) q.tmps d (by rw [hmap]; exact epnd) fun p hp => by
     have : p.1 ∈ h.ps := by rw [← hmap]; exact List.mem_map.2 ⟨p, hp, rfl⟩
     have := epn _ this
     rw [etmps]
     omega
    rw [e1]
    refine ⟨by rw [this.1, etmps], by rw [this.2, etmps]⟩
   have eo : encH (⟨psSl h.ps vs ++ c, l0 :: c :: lr, ob, ln⟩ : Dn.S Ty.T) = encH ⟨sl, l0 :: c :: lr, ob, ln⟩ := encH_ob rfl rfl
   have ev : ∀ v, encV (⟨psSl h.ps vs ++ c, l0 :: c :: lr, ob, ln⟩ : Dn.S Ty.T) v = encV ⟨sl, l0 :: c :: lr, ob, ln⟩ v := fun v => encV_ob rfl rfl v
   have hF : RepF fr2.nt w S (⟨psSl h.ps vs ++ c, l0 :: c :: lr, ob, ln⟩ : Dn.S Ty.T) μ aR (fr :: fr2' :: post) := by
    refine ⟨⟨fun d => ?_, by show RepH w S (encH _) μ; rw [eo]; exact hrep.fr.hp, by rw [haR]; exact .nil, by rw [(hfold 0).1]; exact hsz2.2.1⟩, hrep.len, fun i l b hl hb d v hv => ?_, fun p hp => ?_, ?_, fun p hp i q' hi => ?_, ⟨fun p hp => ?_, hrep.iv.lo, hrep.iv.ob⟩⟩
    ·show Rep w S (encH _) μ (encV _ (Dn.S.at _ d)) _
     rw [eo, ev, (hfold d).2]
     unfold Dn.S.at
     simp only [look_append]
     rcases ps_look h.ps vs cargs.toList hvl.symm (by simpa using hsz) d with ⟨x1, x2⟩ | ⟨i, v, cv, x1, x2, x3, x4⟩
     ·rw [x1, x2]
      simp only
      cases hc : look d c with
      | none => exact .any _
      | some v => exact hrep.lo 1 c fr2 rfl rfl d v hc
     ·rw [x3, x4]
      have := hargs i v x1
      have e2 : cargs.getD i undef = cv := by
       rw [Array.getElem?_toList] at x2
       simp [Array.getD_eq_getD_getElem?, x2]
      rw [e2] at this
      exact this
    ·rw [eo, ev]
     match i, hl, hb with
     | 0, hl, hb => exact hrep.lo 0 l b hl hb d v hv
     | 1, hl, hb =>
      have hb : fr2' = b := by simpa using hb
      subst hb
      rw [hfr2]
      exact hrep.lo 1 l fr2 hl rfl d v hv
     | i + 2, hl, hb => exact hrep.lo (i + 2) l b hl (by simpa using hb) d v hv
    ·rcases List.mem_cons.1 hp with rfl | hp
     ·exact hrep.sz _ List.mem_cons_self
     ·rcases List.mem_cons.1 hp with rfl | hp
      ·rw [hfr2]; exact hsz2
      ·exact hrep.sz p (List.mem_cons_of_mem _ (List.mem_cons_of_mem _ hp))
    ·obtain ⟨m1, m2, m3, m4⟩ := hrep.md
     rw [haR, hfr2]
     refine ⟨fun d hd => (by cases hd), m2, fun p hp => ?_, m4⟩
     rcases List.mem_cons.1 hp with rfl | hp
     ·exact m3 fr2 List.mem_cons_self
     ·exact m3 p (List.mem_cons_of_mem _ hp)
    ·have sub : ∀ p' ∈ fr :: fr2' :: post, ∀ i q', p'.lo = some (i, q') → p' ∈ post := fun p' hp' i q' hi => by
      rcases List.mem_cons.1 hp' with rfl | hp'
      ·rw [hlo] at hi; cases hi
      ·rcases List.mem_cons.1 hp' with rfl | hp'
       ·rw [hfr2] at hi; cases hi
       ·exact hp'
     have hp0 := sub p hp i q' hi
     obtain ⟨x1, x2, x3⟩ := hrep.lp p (List.mem_cons_of_mem _ (List.mem_cons_of_mem _ hp0)) i q' hi
     exact ⟨x1, x2, fun p' hp' i' q'' hi' hne => x3 p' (List.mem_cons_of_mem _ (List.mem_cons_of_mem _ (sub p' hp' i' q'' hi'))) i' q'' hi' hne⟩
    ·rcases List.mem_append.1 hp with hp | hp
     ·have : ∀ (ps : List Nat) (vs : List (V Ty.T)) (p : Nat × V Ty.T), p ∈ psSl ps vs → p.2 ∈ vs := by
       intro ps
       induction ps with
       | nil => intro vs p hp; cases hp
       | cons a ps ih =>
        intro vs p hp
        cases vs with
        | nil => cases hp
        | cons v vs =>
         rcases List.mem_cons.1 hp with rfl | hp
         ·exact List.mem_cons_self
         ·exact List.mem_cons_of_mem _ (ih vs p hp)
      exact okv _ (this _ _ _ hp)
     ·exact hrep.iv.lo c (List.mem_cons_of_mem _ List.mem_cons_self) p hp
   have hfs' : FsOK (fr :: fr2' :: post) := by
    have h1 : FsOK post := hfs.tail.tail
    have h2 : FsOK (fr2' :: post) := by rw [hfr2]; exact h1.push (by intro j r h; cases h)
    obtain ⟨nt, a, lo, d⟩ := fr
    exact h2.push (by intro j r h; rw [show lo = none from hlo] at h; cases h)
   have hh' : HsOK P (cx.hs.filter fun p => Nat.blt p.1 j) (fr :: fr2' :: post) := fun i h' hi => by
    obtain ⟨hi1, hi2⟩ := look_filter hi
    obtain ⟨pre, f', post', q', e1, e2, rest⟩ := hh i h' hi1
    obtain ⟨pre2, e3⟩ := split_deep e1 (by omega)
    exact ⟨fr :: fr2' :: pre2, f', post', q', by rw [e3]; rfl, e2, rest⟩
   unfold denSeq at hd
   have hfrl : ∀ {μ1 : Gh}, μ1.l = μ.l → ∀ p ∈ fr :: fr2' :: post, ∀ i q', p.lo = some (i, q') → μ1.l i ≠ μ.l j := fun e p hp i q' hi => by
    rw [e]
    rcases List.mem_cons.1 hp with rfl | hp
    ·rw [hlo] at hi; cases hi
    ·rcases List.mem_cons.1 hp with rfl | hp
     ·rw [hfr2] at hi; cases hi
     ·exact (hlow p hp i q' hi).2
   have run := @den_wp P fr2.nt call h.base { cx with hs := cx.hs.filter (fun p => Nat.blt p.1 j), rd := true } mk (fr :: fr2' :: post) (some (μ.l j)) hC hcall (fun hs => hI hs) hm hso (fun q => by cases q) hh' hfs'
   suffices goal : q.assign.wpIn (Fr (some (μ.l j))) 0 P (Exit.then (fun a₁ w₁ => ∃ w₂, (Instr.beginRound (μ.l j)).run P w₁ = .ok () w₂ ∧ q.body.wpIn (Fr (some (μ.l j))) 0 P (roundPost P (μ.l j) R) a₁ w₂) (fun _ _ _ => False)) aR w by
    rw [haR] at goal
    exact roundIn_of_wpIn trivial goal
   refine run q.assign eas hF hd fun e x a1 w1 S1 μ1 s1 is r1 r2 r3 => ?_
   ·cases e with
    | exit i => cases r3
    | ret => cases r3
    | normal =>
     cases x <;> simp only [LE.is] at is
     simp only [Exit.then]
     rw [eo] at r2
     have hno := hrep.fr.hp.no_own hlp1 (by intros; simp) (by intros; simp)
     have hl1 : w1.heap[μ.l j]? = some (.loop q) := (r2.keep _ (Array.getElem?_eq_some_iff.1 hlp1).1 hno).trans hlp1
     have hS1 : ¬ S1 (μ.l j) := fun x => by
      rcases r2.st2 _ x with y | y | y
      ·exact hlp2 y
      ·have := (Array.getElem?_eq_some_iff.1 hlp1).1; omega
      ·exact hno y
     refine ⟨_, run_beginRound hl1 eready, ?_⟩
     have rb := r1.putL hl1 hS1 (hfrl r2.lp) (.loop { q with state := .busy })
     have hlb : (w1.putObj (μ.l j) (.loop { q with state := .busy })).heap[μ.l j]? = some (.loop { q with state := .busy }) := World.putObj_heap_same (Array.getElem?_eq_some_iff.1 hl1).1
     refine run q.body ebd rb r3 (Q := roundPost P (μ.l j) R) fun e2 x2 a2 w2 S2 μ2 s2 is2 q1 q2 q3 => ?_
     cases e2 with
     | exit i => cases q3
     | ret => cases q3
     | normal =>
      cases x2 <;> simp only [LE.is] at is2
      have hno2 := rb.fr.hp.no_own hlb (by intros; simp) (by intros; simp)
      have hl2 : w2.heap[μ.l j]? = some (.loop { q with state := .busy }) := (q2.keep _ (Array.getElem?_eq_some_iff.1 hlb).1 hno2).trans hlb
      have hS2 : ¬ S2 (μ.l j) := fun x => by
       rcases q2.st2 _ x with y | y | y
       ·exact hS1 y
       ·have := (Array.getElem?_eq_some_iff.1 hlb).1; omega
       ·exact hno2 y
      have eq : ({ ({ q with state := .busy } : Loop) with state := if (none : Option Code).isNone then .ready else .done, pending := none } : Loop) = q := by
       obtain ⟨a, b, c, d, e, f, g, i⟩ := q
       simp only at eready epend
       subst eready
       subst epend
       rfl
      have hend := run_endRound (P := P) none hl2
      rw [eq] at hend
      refine ⟨_, _, hend, ?_⟩
      have elp : μ2.l = μ.l := q2.lp.trans r2.lp
      have rc := q1.putL hl2 hS2 (hfrl elp) (.loop q)
      have e1 : s2.pop.ob = s2.ob ∧ s2.pop.ln = s2.ln := by
       unfold Dn.S.pop
       split <;> exact ⟨rfl, rfl⟩
      have hl3 : (w2.putObj (μ.l j) (.loop q)).heap[μ2.l j]? = some (.loop q) := by rw [elp]; exact World.putObj_heap_same (Array.getElem?_eq_some_iff.1 hl2).1
      have rp : RepF fr.nt (w2.putObj (μ.l j) (.loop q)) S2 s2.pop μ2 fr.act (fr2' :: post) := by
       obtain ⟨nt, a, lo, d⟩ := fr
       exact rc.pop
      have rp2 : RepF fr.nt (w2.putObj (μ.l j) (.loop q)) S2 s2.pop μ2 fr.act (fr2 :: post) := by
       rw [hfr2] at rp
       refine ⟨rp.fr, rp.len, fun i l b hl hb d v hv => ?_, fun p hp => ?_, ⟨rp.md.1, rp.md.2.1, rp.md.2.2.1, rp.md.2.2.2⟩, fun p hp i q' hi => ?_, rp.iv⟩
       ·match i, hl, hb with
        | 0, hl, hb =>
         have hb : fr2 = b := by simpa using hb
         subst hb
         exact rp.lo 0 l _ hl rfl d v hv
        | i + 1, hl, hb => exact rp.lo (i + 1) l b hl (by simpa using hb) d v hv
       ·rcases List.mem_cons.1 hp with rfl | hp
        ·exact rp.sz (⟨p.nt, p.act, none, p.d⟩ : Fm) List.mem_cons_self
        ·exact rp.sz p (List.mem_cons_of_mem _ hp)
       ·have dist : ∀ p' ∈ fr2 :: post, ∀ i' q'', p'.lo = some (i', q'') → p' = fr2 ∨ p' ∈ post := fun p' hp' _ _ _ => by
         rcases List.mem_cons.1 hp' with h | h
         ·exact .inl h
         ·exact .inr h
        rcases List.mem_cons.1 hp with rfl | hpp
        ·rw [elo] at hi
         injection hi with hi
         injection hi with h1 h2
         subst h1
         subst h2
         refine ⟨hl3, by rw [elp]; exact hS2, fun p' hp' i' q'' hi' hne => ?_⟩
         rcases List.mem_cons.1 hp' with rfl | hp'
         ·rw [elo] at hi'; injection hi' with hi'; injection hi' with h1 h2; exact (hne h1.symm).elim
         ·rw [elp]; exact (hlow p' hp' i' q'' hi').2
        ·obtain ⟨x1, x2, x3⟩ := rp.lp p (List.mem_cons_of_mem _ hpp) i q' hi
         refine ⟨x1, x2, fun p' hp' i' q'' hi' hne => ?_⟩
         rcases List.mem_cons.1 hp' with rfl | hp'
         ·rw [elo] at hi'
          injection hi' with hi'
          injection hi' with h1 h2
          subst h1
          rw [elp]
          exact (hlow p hpp i q' hi).2.symm
         ·exact x3 p' (List.mem_cons_of_mem _ hp') i' q'' hi' hne
      refine hR _ S2 μ2 (.c (.kb true)) s2.pop (.bool true) rp2 (okV_c (okC_leaf _ rfl)) (.pure (.bool true)) ?_ q3
      rw [encH_ob e1.1 e1.2]
      exact evo_round r2 q2 hlp1
end
section
variable {P : Program} {call : Vv.Call}
theorem den_ok (hcall : CallOK P call) (hm : P.follows .mixedOrders = true) (n : Nat) : ∀ {cx : Cx} (hC : CallSim call cx.ct) (hso : SoOK P cx) (hcd : CodeOK P cx) (hrd : cx.rd = false), InlOK P cx.hs (den n cx) := by
 induction n with
 | zero => intro cx _ _ _ _ α f base vs s k r h; cases h
 | succ n ih =>
  intro cx hC hso hcd hrd α f base vs s k r hd
  have hd : bodyD (den n) cx val f base vs s k = some r := hd
  have hI : ∀ hs, InlOK P hs (den n { cx with hs := hs, rd := false }) := fun hs => ih (cx := { cx with hs := hs, rd := false }) hC hso hcd rfl
  cases hb : Nat.ble yB f with
  | false =>
   obtain ⟨h1, h2⟩ := body_fn hC hcall hm hso hcd hI hrd hb hd
   refine ⟨fun _ => h1, fun {n0 w S μ a0 fr fs cargs} hrep hh hfs okv hsz hargs {R} hd0 hR => ⟨fun _ => h2 hrep hh hfs okv hsz hargs hd0 hR, fun j e => ?_⟩⟩
   subst e
   rw [Nat.ble_eq_true_of_le (Nat.le_add_right _ _)] at hb
   cases hb
  | true =>
   refine ⟨fun q => (by cases q), fun {n0 w S μ a0 fr fs cargs} hrep hh hfs okv hsz hargs {R} hd0 hR => ⟨fun q => (by cases q), fun j e hlo => ?_⟩⟩
   subst e
   exact body_yield hC hcall hm hso hI hd hrep hh hfs okv hsz hargs hR hlo
end
end Go.Dn
namespace Go.Dn
open Go Go.Vv
set_option linter.unusedVariables false
set_option linter.unusedSimpArgs false
structure Good (P : Program) (c : Ctr) : Prop where
 fn : FnOK P c.id
 ok : c.ok = true
 rk : c.rs.all rkOK = true
 run : ∀ x r, c.fn x = some r → ∀ (w : World) (S : Nat → Prop) (cargs : Array Value), (∀ b, S b → b < w.heap.size) → cargs.size = (argsA c.as x).length → (∀ (i : Nat) (y : AV), (argsA c.as x)[i]? = some y → RepP w S y (cargs.getD i undef)) →
  Calls P c.id cargs w fun e w' => ∃ cv, e = .returned cv ∧ RepP w' (AndNew S w w') (resA c.rs r) cv ∧ Old w w'
def GoodL (P : Program) (Γ : FuncId → Option Ctr) : Prop := ∀ f c, Γ f = some c → c.id = f ∧ Good P c
theorem good_call {P : Program} {Γ : FuncId → Option Ctr} (hΓ : GoodL P Γ) : CallOK P (callC Γ) := by
 refine ⟨fun f vs m r h => ?_, fun f vs v h' h w S cargs hS hsz ha => ?_⟩
 ·obtain ⟨v, h'⟩ := r
  obtain ⟨c, x, r, h1, -⟩ := callC_some h
  obtain ⟨rfl, g⟩ := hΓ f c h1
  exact g.fn
 ·obtain ⟨c, x, r, h1, -, hu, hr, rfl⟩ := callC_some h
  obtain ⟨rfl, g⟩ := hΓ f c h1
  refine g.run x r hr w S cargs hS (by rw [hsz, hu.len]) fun i y hy => ?_
  obtain ⟨z, hz, up⟩ := hu.back hy
  exact up.rep (ha i z hz)
theorem good_sim {P : Program} {Γ : FuncId → Option Ctr} (hΓ : GoodL P Γ) : CallSim (callC Γ) Γ := call_sim fun f c h => ⟨(hΓ f c h).2.ok, (hΓ f c h).2.rk⟩
def resAs : (rs : List (Bool × Ty)) → (prodT (rs.map (·.2))).T → List AV
 | [], _ => []
 | [a], x => [argA (rk a) x]
 | a :: b :: r, (x, y) => argA (rk a) x :: resAs (b :: r) y
section
variable {s : S Ty.T}
theorem unp_enc (p : Bool × List (C Ty.T)) : encV s (unpack1 p) = if p.1 then .agg (p.2.map (encC s)) else oneOf (p.2.map (encC s)) := by
 obtain ⟨b, l⟩ := p
 cases b with
 | true => rfl
 | false =>
  match l with
  | [] => rfl
  | [c] => rfl
  | _ :: _ :: _ => rfl
theorem unp_isPtr_arg {a : Bool × Ty} {v : V Ty.T} {α : Type} {k : (rk a).2.T → Option α} {r : α} (h : argL val s.ob (rk a) v k = some r) : isPtr v = false := by
 obtain ⟨b, t⟩ := a
 cases v with
 | ag l => rfl
 | tp l => rfl
 | c c =>
  cases c with
  | ptr g ver off =>
   exfalso
   cases b with
   | true => simp only [argL, rk, if_true] at h; cases h
   | false =>
    simp only [argL, rk, Bool.false_eq_true, if_false, oneL] at h
    obtain ⟨x, hx, -⟩ := orNo_some h
    simp [leafW, leafOf] at hx
  | _ => rfl
theorem resGo_some {α : Type} {r : α} : ∀ {rs : List (Bool × Ty)} (hok : rs.all rkOK = true) {vs : List (V Ty.T)} {k : (prodT (rs.map (·.2))).T → Option α}, resGo val s.ob rs vs k = some r →
  ∃ x, k x = some r ∧ ∃ N, SnL (encH s) depth (vs.map (encV s)) (resAs rs x) N
 | [], hok, [], k, h => ⟨(), h, [], .nil⟩
 | [a], hok, [v], k, h => by
  have h : argL val s.ob (rk a) v k = some r := h
  have ha : akOK (rk a) = true := by
   simp only [List.all_cons, List.all_nil, Bool.and_true] at hok
   unfold rkOK at hok
   unfold rk akOK
   cases h1 : a.1 with
   | true => rfl
   | false => rw [h1] at hok; simpa using hok
  obtain ⟨x, hx, u, ns, -, q2, q3⟩ := argL_some ha h
  obtain ⟨q4, q5⟩ := q3 (unp_isPtr_arg h)
  exact ⟨x, hx, _, .cons q4 q2 q5 .nil⟩
 | a :: b :: rs, hok, v :: vs, k, h => by
  have h : argL val s.ob (rk a) v (fun x => resGo val s.ob (b :: rs) vs fun y => k (val.pr x y)) = some r := h
  have hok' := hok
  rw [List.all_cons, Bool.and_eq_true] at hok
  have ha : akOK (rk a) = true := by
   have hok := hok.1
   unfold rkOK at hok
   unfold rk akOK
   cases h1 : a.1 with
   | true => rfl
   | false => rw [h1] at hok; simpa using hok
  obtain ⟨x, hx, u, ns, -, q2, q3⟩ := argL_some ha h
  obtain ⟨q4, q5⟩ := q3 (unp_isPtr_arg h)
  obtain ⟨y, hy, N, hN⟩ := resGo_some hok.2 hx
  exact ⟨_, hy, _, .cons q4 q2 q5 hN⟩
 | [], hok, _ :: _, k, h => by cases h
 | [a], hok, [], k, h => by cases h
 | [a], hok, _ :: _ :: _, k, h => by cases h
 | a :: b :: rs, hok, [], k, h => by cases h
theorem unL_enc {a : Bool × Ty} (ha : rkOK a = true) (x : a.2.T) : (if a.1 then AV.agg ((expl val a.2 x).map (encC s)) else oneOf ((expl val a.2 x).map (encC s))) = argA (rk a) x := by
 obtain ⟨b, t⟩ := a
 cases b with
 | true => simp only [if_true, rk, argA]; rw [expl_enc]
 | false => simp only [Bool.false_eq_true, if_false, rk, argA]; rw [expl_enc]
theorem unpackL_res : ∀ {rs : List (Bool × Ty)} (hok : rs.all rkOK = true) (x : (prodT (rs.map (·.2))).T), (unpackL val rs x).map (fun p => if p.1 then AV.agg (p.2.map (encC s)) else oneOf (p.2.map (encC s))) = resAs rs x
 | [], hok, x => rfl
 | [a], hok, x => by
  simp only [List.all_cons, List.all_nil, Bool.and_true] at hok
  simp only [unpackL, List.map_cons, List.map_nil, resAs, unL]
  exact congrArg (fun v => [v]) (unL_enc hok x)
 | a :: b :: rs, hok, (x, y) => by
  rw [List.all_cons, Bool.and_eq_true] at hok
  simp only [unpackL, List.map_cons, resAs, unL]
  have e := unpackL_res hok.2 y
  exact (congrArg (fun l => _ :: l) e).trans (congrArg (fun v => v :: resAs (b :: rs) y) (unL_enc hok.1 x))
theorem resA_eq {rs : List (Bool × Ty)} (hok : rs.all rkOK = true) (x : (prodT (rs.map (·.2))).T) : resA rs x = (match resAs rs x with | [v] => v | l => .tup l) := by
 unfold resA unpack
 have e := unpackL_res (s := ⟨[], [], [], []⟩) hok x
 rw [← e]
 split
 ·rename_i p hp
  rw [hp]
  exact unp_enc p
 ·rename_i l hl
  cases hu : unpackL val rs x with
  | nil => rfl
  | cons p m =>
   cases m with
   | nil => exact (hl p hu).elim
   | cons q m => rfl
theorem resAs_len : ∀ (rs : List (Bool × Ty)) (x : (prodT (rs.map (·.2))).T), (resAs rs x).length = rs.length
 | [], x => rfl
 | [a], x => rfl
 | a :: b :: rs, (x, y) => by simp only [resAs, List.length_cons]; rw [resAs_len (b :: rs) y]; rfl
theorem argV_enc (a : AK × Ty) (x : a.2.T) (h : akOK a = true) : encV s (argV val a x) = argA a x := by
 obtain ⟨k, t⟩ := a
 cases k with
 | one =>
  simp only [argV, argA]
  have h : t.one = true := h
  have := expl_enc s t x
  split
  ·rename_i c hc
   rw [hc] at this
   rw [← this]
   rfl
  ·rename_i hne
   exfalso
   obtain ⟨v, hv⟩ := one_cs h x
   have hl := expl_len t x
   have : (expl val t x).length = 1 := by rw [hl, ← cs_len t x, hv]; rfl
   obtain ⟨c, hc⟩ := List.length_eq_one_iff.1 this
   exact hne c hc
 | ag => simp only [argV, argA, encV]; rw [expl_enc]
 | rp => simp only [argV, argA, encV, encC, List.drop_zero]
theorem argVs_enc : ∀ {as : List (AK × Ty)} (h : as.all akOK = true) (x : (prodT (as.map (·.2))).T), (argVs val as x).map (encV s) = argsA as x
 | [], h, x => rfl
 | [a], h, x => by
  simp only [List.all_cons, List.all_nil, Bool.and_true] at h
  simp only [argVs, List.map_cons, List.map_nil, argsA]
  exact congrArg (fun v => [v]) (argV_enc a x h)
 | a :: b :: r, h, (x, y) => by
  rw [List.all_cons, Bool.and_eq_true] at h
  simp only [argVs, List.map_cons, argsA]
  rw [show (argVs val (b :: r) (val.sn (x, y))).map (encV s) = argsA (b :: r) y from argVs_enc h.2 y]
  exact congrArg (fun v => v :: argsA (b :: r) y) (argV_enc a x h.1)
theorem argV_ok (a : AK × Ty) (x : a.2.T) : okV s (argV val a x) := by
 obtain ⟨k, t⟩ := a
 cases k with
 | one =>
  simp only [argV]
  split
  ·rename_i c hc
   exact okV_c (expl_ok s t x c (by rw [hc]; exact List.mem_singleton.2 rfl))
  ·exact okV_c (okC_leaf s rfl)
 | ag => exact expl_ok s t x
 | rp => exact okV_c (okC_leaf s rfl)
theorem argVs_ok : ∀ {as : List (AK × Ty)} (x : (prodT (as.map (·.2))).T), ∀ v ∈ argVs val as x, okV s v
 | [], x, v, h => by cases h
 | [a], x, v, h => by have := List.mem_singleton.1 h; subst this; exact argV_ok a x
 | a :: b :: r, x, v, h => by
  rcases List.mem_cons.1 h with rfl | h
  ·exact argV_ok a _
  ·exact argVs_ok _ v h
end
theorem repH_empty {w : World} {S : Nat → Prop} (hS : ∀ b, S b → b < w.heap.size) (μ : Gh) : RepH w S (fun _ => none) μ :=
 ⟨fun _ _ ho => (by cases ho), fun _ _ _ _ ho => (by cases ho), fun _ _ ho => (by cases ho), hS⟩
theorem good_of {P : Program} {cx : Cx} {Γ : FuncId → Option Ctr} (hct : cx.ct = Γ) (hΓ : GoodL P Γ) (hm : P.follows .mixedOrders = true) (hso : SoOK P cx) (hcd : CodeOK P cx) (hhs : cx.hs = []) (hrd : cx.rd = false) {c : Ctr} {n : Nat} (hok : c.ok = true) (hrk : c.rs.all rkOK = true) (hfn : FnOK P c.id)
  (hf : ∀ x r, c.fn x = some r → fnD val cx n c.id c.as c.rs x = some r) : Good P c := by
 subst hct
 refine ⟨hfn, hok, hrk, fun x r hr w S cargs hS hsz ha => ?_⟩
 have hd := hf x r hr
 unfold fnD at hd
 obtain ⟨-, hcl⟩ := den_ok (good_call hΓ) hm n (good_sim hΓ) hso hcd hrd hd
 have hs0 : encH (⟨[], [[]], [], []⟩ : Dn.S Ty.T) = fun _ => none := rfl
 have hrep : RepF 0 w S (⟨[], [[]], [], []⟩ : Dn.S Ty.T) ⟨fun _ => 0, fun _ => 0, fun _ => 0⟩ act0 [⟨0, act0, none, w.heap.size⟩] :=
  ⟨rep0 (repH_empty hS _), rfl, fun i l b hl hb d v hv => by
   cases i with
   | zero => simp at hl; subst hl; cases hv
   | succ i => simp at hl, fun p hp => (by have := List.mem_singleton.1 hp; subst this; exact ⟨.nil, Nat.zero_le _, Nat.le_refl _⟩), ⟨fun d hd => (by cases hd), fun q hq => (by cases hq), fun p hp => (by cases hp), trivial⟩, fun p hp j r hj => (by have := List.mem_singleton.1 hp; subst this; cases hj), ⟨fun p hp => (by cases hp), fun l hl p hp => (by have := List.mem_singleton.1 hl; subst this; cases hp), fun g o ho => (by cases ho)⟩⟩
 have enc := argVs_enc (s := ⟨[], [[]], [], []⟩) hok x
 have hble : Nat.ble yB c.id = false := by
  cases hb : Nat.ble yB c.id with
  | false => rfl
  | true =>
   exfalso
   cases n with
   | zero => cases hd
   | succ n =>
    have hd : bodyD (den n) cx val c.id 0 (argVs val c.as x) ⟨[], [[]], [], []⟩ (fun v s => resL val s.ob c.rs v some) = some r := hd
    simp only [bodyD, hb, hhs] at hd
    cases hd
 refine (hcl hrep (by rw [hhs]; intro j h hl; cases hl) (by
  intro pre f post e j q hj
  cases pre with
  | nil => injection e with e1 e2; subst e1; cases hj
  | cons p pre => injection e with e1 e2; simp at e2) (argVs_ok x) (by rw [hsz, ← enc]; simp) (fun i v hv => ?_) rfl fun w' S' μ' v s' cv r1 r2 r3 r4 r5 => ?_).1 hble
 ·refine .pure (ha i _ ?_)
  rw [← enc, List.getElem?_map, hv]
  rfl
 ·refine ⟨cv, rfl, ?_, ?_⟩
  ·have noOwn : ∀ b, ¬ Own (fun _ => none) (⟨fun _ => 0, fun _ => 0, fun _ => 0⟩ : Gh) b := fun b ⟨g, o, ho, _⟩ => by cases ho
   have hS' : ∀ b, S' b → AndNew S w w' b := fun b hb => by
    rcases r4.st2 b hb with h1 | h1 | h1
    ·exact .inl h1
    ·exact .inr ⟨h1, r1.fr.hp.lt b hb⟩
    ·exact (noOwn b h1).elim
   have met : ∀ {k : Nat} {v u : AV} {ns : List Nat}, snap (encH s') k v = some (u, ns) → Met (AndNew S w w') (encH s') μ' ns := fun hsn g hg o1 hg1 hl1 => by
    obtain ⟨o2, hg2, hfz⟩ := snap_names _ hsn g hg
    rw [hg1] at hg2
    injection hg2 with hg2
    subst hg2
    cases hz1 : o1.fz with
    | true =>
     have hob := r1.fr.hp.ob g _ hg1
     cases o1 with
     | box v c => cases hz1
     | arr v e t c z => obtain ⟨_, _, _, _, h4⟩ := hob (live_ne.1 hl1); exact hS' _ (h4 hz1)
     | map v es z => obtain ⟨_, _, _, _, h4, _⟩ := hob; exact hS' _ (h4 hz1)
    | false =>
     rcases r4.ow (μ'.b g) ⟨g, _, hg1, hz1, hl1, rfl⟩ with h1 | h1
     ·exact (noOwn _ h1).elim
     ·exact .inr ⟨h1, (r1.fr.hp.ob g _ hg1).lt hl1⟩
   have piece : ∀ {v : AV} {y : AV} {cv : Value}, (∃ u ns, snap (encH s') depth v = some (u, ns) ∧ Up u y) → Rep w' S' (encH s') μ' v cv → RepP w' (AndNew S w w') y cv := fun ⟨u, ns, h1, h2⟩ h3 => h2.rep (snap_sound r1.fr.hp hS' depth h1 h3 (met h1))
   unfold resL at r5
   obtain ⟨y, hy, N, ps, hN, hup, -⟩ := resGo_some hrk r5
   injection hy with hy
   subst hy
   obtain ⟨m1, m2⟩ := mapM_get hN
   have item : ∀ (i : Nat) (u : V Ty.T) (z : AV), (resIn c.rs v)[i]? = some u → (resAs c.rs y)[i]? = some z → ∃ u' ns, snap (encH s') depth (encV s' u) = some (u', ns) ∧ Up u' z := fun i u z hu hz => by
    obtain ⟨p, p1, p2⟩ := m2 i (encV s' u) (by rw [List.getElem?_map, hu]; rfl)
    exact ⟨p.1, p.2, p2, hup.at' i p.1 z (by rw [List.getElem?_map, p1]; rfl) hz⟩
   have hlen := resAs_len c.rs y
   have hlen2 : (resIn c.rs v).length = (resAs c.rs y).length := by
    have := hup.len
    simp only [List.length_map] at this m1
    omega
   rw [resA_eq hrk]
   generalize hA : resAs c.rs y = A at item hlen hlen2
   clear hup hN m1 m2 r5
   match hrs : c.rs, A, hlen with
   | [a], [z], _ =>
    rw [hrs] at item
    exact piece (item 0 v z rfl rfl) r3
   | [], [], _ =>
    rw [hrs] at hlen2
    cases v with
    | tp l =>
     have : l = [] := List.eq_nil_of_length_eq_zero (by simpa [resIn] using hlen2)
     subst this
     obtain ⟨cs, e, h1, h2⟩ := r3.tup_inv
     subst e
     exact .tup [] cs h1 fun i x hi => by simp at hi
    | _ => simp [resIn] at hlen2
   | a :: b :: rs, z1 :: z2 :: zs, hl =>
    rw [hrs] at item hlen2
    cases v with
    | tp l =>
     have h3 : Rep w' S' (encH s') μ' (.tup (l.map fun p => if p.1 then .agg (p.2.map (encC s')) else oneOf (p.2.map (encC s')))) cv := r3
     obtain ⟨cs, e, h1, h2⟩ := h3.tup_inv
     subst e
     have hll : l.length = (z1 :: z2 :: zs).length := by simpa [resIn] using hlen2
     refine .tup _ cs (by rw [← hll]; simpa using h1) fun i z hi => ?_
     cases hp : l[i]? with
     | none =>
      have := (List.getElem?_eq_some_iff.1 hi).1
      rw [List.getElem?_eq_none_iff] at hp
      omega
     | some p =>
      refine piece (item i (unpack1 p) z (by show (l.map unpack1)[i]? = _; rw [List.getElem?_map, hp]; rfl) hi) ?_
      rw [unp_enc]
      exact h2 i _ (by rw [List.getElem?_map, hp]; rfl)
    | c x => simp [resIn] at hlen2
    | ag l => simp [resIn] at hlen2
  ·exact ⟨r4.os, r4.tape, r4.output, r4.size, fun b hb => r4.keep b hb fun ⟨g, o, ho, _⟩ => by cases ho⟩
end Go.Dn
