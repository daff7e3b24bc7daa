/- Every operation of the evaluator is right of the model, calls included. Conditions: none. -/
import Derived.Test.YtldcbmkfkbnmbaaVh
namespace Go.Vv
open Go

/-- A function that can be entered. -/
def FnOK (P : Program) (f : FuncId) : Prop := ∃ fn, P.funcs[f]? = some fn ∧ fn.body.isSome = true ∧ (fn.name == "runtime.NumGoroutine") = false
/-- Nothing that was there has changed. -/
structure Old (w w' : World) : Prop where
  os : w'.os = w.os
  tape : w'.tape = w.tape
  output : w'.output = w.output
  size : w.heap.size ≤ w'.heap.size
  keep : ∀ b, b < w.heap.size → w'.heap[b]? = w.heap[b]?
def AndNew (S : Nat → Prop) (w w' : World) (b : Nat) : Prop := S b ∨ (w.heap.size ≤ b ∧ b < w'.heap.size)
/-- What the evaluator's calls say of the model's. -/
structure CallOK (P : Program) (call : Call) : Prop where
  fn : ∀ f vs m r, call f vs m = some r → FnOK P f
  pure : ∀ f vs v h', call f vs none = some (v, h') → ∀ (w : World) (S : Nat → Prop) (cargs : Array Value), (∀ b, S b → b < w.heap.size) → cargs.size = vs.length → (∀ i x, vs[i]? = some x → RepP w S x (cargs.getD i undef)) →
    Calls P f cargs w fun e w' => ∃ cv, e = .returned cv ∧ RepP w' (AndNew S w w') v cv ∧ Old w w'
  byref : ∀ f vs h base v h', call f vs (some (h, base)) = some (v, h') → ∀ (w : World) (S : Nat → Prop) (μ : Gh) (cargs : Array Value), RepH w S h μ → cargs.size = vs.length → (∀ i x, vs[i]? = some x → Rep w S h μ x (cargs.getD i undef)) →
    Calls P f cargs w fun e w' => ∃ cv, e = .returned cv ∧ Ran w S h μ v h' cv w'

section
variable {P : Program} {w : World} {S : Nat → Prop} {h : Heap} {μ : Gh}
theorem run_callFunc {f : FuncId} (hf : FnOK P f) (args : Array Value) (w : World) : (callFunc f args).run P w = .ok (.enter f args) w := by
  obtain ⟨fn, h1, h2, h3⟩ := hf
  have hn : fn.body ≠ none := by rintro e; rw [e] at h2; cases h2
  have hm : fn.name ≠ "runtime.NumGoroutine" := by simpa using h3
  simp [callFunc, program, Sem.run, h1, hm, hn]
theorem wp_value {o : Oper} {a : Act} {next : Act → World → Prop} {Q : Exit → Act → World → Prop} {cv : Value} {w' : World} (hrun : (execOp a.eval o).run P w = .ok (.value cv) w') (hk : next (a.put o.dst cv) w') : o.wp P a w next Q := by
  unfold Oper.wp
  rw [hrun]
  exact hk
theorem wp_skip {o : Oper} {a : Act} {next : Act → World → Prop} {Q : Exit → Act → World → Prop} {w' : World} (hrun : (execOp a.eval o).run P w = .ok .skip w') (hk : next (a.put o.dst undef) w') : o.wp P a w next Q := by
  unfold Oper.wp
  rw [hrun]
  exact hk
theorem wp_enter {o : Oper} {a : Act} {next : Act → World → Prop} {Q : Exit → Act → World → Prop} {f : FuncId} {args : Array Value} {R : Ending → World → Prop} (hrun : (execOp a.eval o).run P w = .ok (.enter f args) w) (hc : Calls P f args w R)
    (hk : ∀ e w', R e w' → ∃ cv, e = .returned cv ∧ next (a.put o.dst cv) w') : o.wp P a w next Q := by
  unfold Oper.wp
  rw [hrun]
  exact hc.mono fun e w' hr => by
    obtain ⟨cv, rfl, hn⟩ := hk e w' hr
    exact hn
/-- A pure call, for the caller. -/
theorem old_ran {S1 : Nat → Prop} {h1 : Heap} {v : AV} {cv : Value} {w' : World} (hp : RepH w S1 h1 μ) (ho : Old w w') (hr : RepP w' (AndNew S1 w w') v cv) : Ran w S1 h1 μ v h1 cv w' := by
  have ev : Evo w S1 h1 μ w' (AndNew S1 w w') h1 μ := by
    refine ⟨ho.os, ho.tape, ho.output, ho.size, fun b hb _ => ho.keep b hb, fun b cs el z hc => ⟨cs, ?_, rfl⟩, fun _ h => .inl h, fun b hb => ?_, fun _ h => .inl h⟩
    · rw [ho.keep b (Array.getElem?_eq_some_iff.1 hc).1]; exact hc
    · rcases hb with hb | hb
      · exact .inl hb
      · exact .inr (.inl hb.1)
  refine ⟨AndNew S1 w w', μ, .pure hr, ⟨fun g o hg => (hp.ob g o hg).evo hp ev (.refl _ _) (ho.keep _ (hp.ob g o hg).lt), hp.inj, fun g o hg hz hb => ?_, fun b hb => ?_⟩, ev, .refl _ _⟩
  · rcases hb with hb | hb
    · exact hp.own g o hg hz hb
    · have := (hp.ob g o hg).lt; omega
  · rcases hb with hb | hb
    · have := hp.lt b hb; have := ho.size; omega
    · exact hb.2
theorem Ran.after {S1 : Nat → Prop} {h1 : Heap} {v : AV} {h' : Heap} {cv : Value} {w' : World} (hr : Ran w S1 h1 μ v h' cv w') (ev : Evo w S h μ w S1 h1 μ) (vv : EvoV h μ h1 μ) : Ran w S h μ v h' cv w' := by
  obtain ⟨S', μ', r1, r2, r3, r4⟩ := hr
  exact ⟨S', μ', r1, r2, ev.trans r3, vv.trans r4⟩
theorem RepP.of_scalar {S' : Nat → Prop} {v : AV} {cv : Value} (hs : v.scalar = true) (hr : RepP w S v cv) : RepP w S' v cv := by
  have one : ∀ {x : AV} {c : Value}, (match x with | .bool _ | .int _ _ | .str _ => true | _ => false) = true → RepP w S x c → RepP w S' x c := by
    intro x c hx hr
    cases hr <;> simp at hx <;> constructor
  cases hr with
  | bool => exact .bool _
  | int => exact .int _ _
  | str => exact .str _
  | agg l cs hl h1 hr => exact .agg l cs hl h1 (fun i x hi => one (List.all_eq_true.1 (by simpa [AV.scalar] using hs) x (List.mem_of_getElem? hi)) (hr i x hi))
  | tup l cs hl hr =>
    refine .tup l cs hl (fun i x hi => ?_)
    have hx := List.all_eq_true.1 (show l.all _ = true from hs) x (List.mem_of_getElem? hi)
    have hrx := hr i x hi
    generalize cs.getD i undef = c at hrx ⊢
    cases hrx with
    | bool => exact .bool _
    | int => exact .int _ _
    | str => exact .str _
    | agg l' cs' hl' h1' hr' => exact .agg l' cs' hl' h1' (fun i x hi => one (List.all_eq_true.1 (by simpa using hx) x (List.mem_of_getElem? hi)) (hr' i x hi))
    | _ => simp at hx
  | _ => simp [AV.scalar] at hs

theorem call_pure {call : Call} (hc : CallOK P call) (hp : RepH w S h μ) {f : FuncId} {l vs : List AV} {ns : List Nat} {v : AV} {h0 : Heap} (hs : snaps h l = some (vs, ns)) (hv : call f vs none = some (v, h0)) {cargs : Array Value}
    (hsz : cargs.size = l.length) (hl : ∀ i x, l[i]? = some x → Rep w S h μ x (cargs.getD i undef)) :
    Calls P f cargs w fun e w' => ∃ cv, e = .returned cv ∧ ((ns = [] ∨ v.scalar = true) → Ran w S h μ v h cv w') ∧ Ran w S h μ v (freezeAll h ns) cv w' := by
  obtain ⟨f1, f2, f3⟩ := freeze_ok hp (snaps_names hs)
  obtain ⟨h1, h2⟩ := snaps_sound hp (S' := fun b => S b ∨ ∃ g ∈ ns, μ.b g = b) (fun b hb => .inl hb) hs (fun g hg => .inr ⟨g, hg, rfl⟩)
  refine (hc.pure f vs v h0 hv w _ cargs f1.lt (by omega) (fun i y hi => ?_)).mono fun e w' ⟨cv, he, hr, ho⟩ => ⟨cv, he, fun hcase => ?_, (old_ran f1 ho hr).after f2 f3⟩
  · obtain ⟨x, hx, hxr⟩ := h2 i y hi
    exact hxr _ (hl i x hx)
  · rcases hcase with hcase | hcase
    · subst hcase
      refine old_ran hp ho (hr.mono (fun b hb => ?_) (fun _ _ => rfl))
      rcases hb with (hb | ⟨g, hg, _⟩) | hb
      · exact .inl hb
      · cases hg
      · exact .inr hb
    · exact old_ran hp ho (hr.of_scalar hcase)
theorem mapGet {f : LO → AV} {l : List LO} {i : Nat} {x : AV} (hi : (l.map f)[i]? = some x) : ∃ y, l[i]? = some y ∧ f y = x := by
  rw [List.getElem?_map] at hi
  cases hy : l[i]? with
  | none => rw [hy] at hi; cases hi
  | some y => rw [hy] at hi; injection hi with hi; exact ⟨y, rfl, hi⟩
theorem args_rep {nt : Nat} {σ : St} {a : Act} (hs : RepS nt w S σ μ a) {l : Array Operand} {m : List LO} (hm : cLOs l.toList = some m) :
    (l.map a.eval).size = (m.map σ.ev).length ∧ ∀ i x, (m.map σ.ev)[i]? = some x → Rep w S σ.h μ x ((l.map a.eval).getD i undef) := by
  obtain ⟨h1, h2⟩ := cLOs_rep hs hm
  refine ⟨by simp [h1], fun i x hi => ?_⟩
  obtain ⟨y, hy, rfl⟩ := mapGet hi
  obtain ⟨z, hz, hr⟩ := h2 i y hy
  have e : (l.map a.eval).getD i undef = a.eval z := by
    have : l[i]? = some z := by simpa using hz
    simp [this]
  rw [e]
  exact hr
end
end Go.Vv
