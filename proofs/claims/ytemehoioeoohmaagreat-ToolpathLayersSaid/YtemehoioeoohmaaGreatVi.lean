/- Every operation of the evaluator is right of the model, calls included. Conditions: none. -/
import Derived.Test.YtemehoioeoohmaaGreatVhb
namespace Go.Vv
open Go
open Prod.mk renaming injEq → Aa
open List renaming mem_of_getElem? → Ab, getElem?_eq_some_iff → Ac, getElem?_eq_getElem → Ad, all_eq_true → Ae, mem_append → Af, mem_append_right → Ag, mem_append_left → Ah
def FnOK (P : Program) (f : FuncId) : Prop := ∃ fn, P.funcs[f]? = some fn ∧ fn.body.isSome = true ∧ (fn.name == "runtime.NumGoroutine") = false
structure Old (w w' : World) : Prop where
 os : w'.os = w.os
 tape : w'.tape = w.tape
 output : w'.output = w.output
 size : w.heap.size ≤ w'.heap.size
 keep : ∀ b, b < w.heap.size → w'.heap[b]? = w.heap[b]?
def Jum (S : Nat → Prop) (w w' : World) (b : Nat) : Prop := S b ∨ (w.heap.size ≤ b ∧ b < w'.heap.size)
structure Jjx (P : Program) (call : Call) : Prop where
 fn : ∀ f vs m r, call f vs m = some r → FnOK P f
 pure : ∀ f vs v h', call f vs none = some (v, h') → ∀ (w : World) (S : Nat → Prop) (cargs : Array Value), (∀ b, S b → b < w.heap.size) → cargs.size = vs.length → (∀ i x, vs[i]? = some x → RepP w S x (cargs.getD i undef)) →
  Calls P f cargs w fun e w' => ∃ cv, e = .returned cv ∧ RepP w' (Jum S w w') v cv ∧ Old w w'
 byref : ∀ f vs h base v h', call f vs (some (h, base)) = some (v, h') → ∀ (w : World) (S : Nat → Prop) (μ : Gh) (cargs : Array Value), RepH w S h μ → cargs.size = vs.length → (∀ i x, vs[i]? = some x → Rep w S h μ x (cargs.getD i undef)) →
  Calls P f cargs w fun e w' => ∃ cv S' μ', e = .returned cv ∧ Rep w' S' h' μ' v cv ∧ RepH w' S' h' μ' ∧ Evo w S h μ w' S' h' μ' ∧ PinOK (Jh3 0 vs) h' μ' μ
theorem Jlt (h : Heap) (k : Nat) (v : AV) (hv : v.flat = true) : snap h (k + 1) v = some (v, []) := by
 cases v <;> first | rfl | cases hv
section
variable {P : Program} {w : World} {S : Nat → Prop} {h : Heap} {μ : Gh}
theorem Jix {f : FuncId} (hf : FnOK P f) (args : Array Value) (w : World) : (callFunc f args).run P w = .ok (.enter f args) w := by
 obtain ⟨fn, h1, h2, h3⟩ := hf
 have hn : fn.body ≠ none := by rintro e; rw [e] at h2; cases h2
 have hm : fn.name ≠ "runtime.NumGoroutine" := by simpa using h3
 simp [callFunc, program, Sem.run, h1, hm, hn]
theorem Jc6 {o : Oper} {a : Act} {next : Act → World → Prop} {Q : Exit → Act → World → Prop} {cv : Value} {w' : World} (hrun : (execOp a.eval o).run P w = .ok (.value cv) w') (hk : next (a.put o.dst cv) w') : o.wp P a w next Q := by
 unfold Oper.wp
 rw [hrun]
 exact hk
theorem wp_skip {o : Oper} {a : Act} {next : Act → World → Prop} {Q : Exit → Act → World → Prop} {w' : World} (hrun : (execOp a.eval o).run P w = .ok .skip w') (hk : next (a.put o.dst undef) w') : o.wp P a w next Q := by
 unfold Oper.wp
 rw [hrun]
 exact hk
theorem Jkl {o : Oper} {a : Act} {next : Act → World → Prop} {Q : Exit → Act → World → Prop} {f : FuncId} {args : Array Value} {R : Ending → World → Prop} (hrun : (execOp a.eval o).run P w = .ok (.enter f args) w) (hc : Calls P f args w R)
  (hk : ∀ e w', R e w' → ∃ cv, e = .returned cv ∧ next (a.put o.dst cv) w') : o.wp P a w next Q := by
 unfold Oper.wp
 rw [hrun]
 exact hc.mono fun e w' hr => by
  obtain ⟨cv, rfl, hn⟩ := hk e w' hr
  exact hn
theorem Job {S1 : Nat → Prop} {h1 : Heap} {v : AV} {cv : Value} {w' : World} (hp : RepH w S1 h1 μ) (ho : Old w w') (hr : RepP w' (Jum S1 w w') v cv) : Ran w S1 h1 μ v h1 cv w' := by
 have ev : Evo w S1 h1 μ w' (Jum S1 w w') h1 μ := by
  refine ⟨ho.os, ho.tape, ho.output, ho.size, fun b hb _ => ho.keep b hb, fun b cs el z hc => ⟨cs, ?_, rfl⟩, fun _ h => .inl h, fun b hb => ?_, fun _ h => .inl h⟩
  ·rw [ho.keep b (Array.getElem?_eq_some_iff.1 hc).1]; exact hc
  ·rcases hb with hb | hb
   ·exact .inl hb
   ·exact .inr (.inl hb.1)
 refine ⟨Jum S1 w w', μ, .pure hr, ⟨fun g o hg => (hp.ob g o hg).evo hp ev (.refl _ _) (ho.keep _ (hp.ob g o hg).lt), hp.inj, fun g o hg hz hb => ?_, fun b hb => ?_⟩, ev, .refl _ _⟩
 ·rcases hb with hb | hb
  ·exact hp.own g o hg hz hb
  ·have := (hp.ob g o hg).lt; omega
 ·rcases hb with hb | hb
  ·have := hp.lt b hb; have := ho.size; omega
  ·exact hb.2
theorem Ran.after {S1 : Nat → Prop} {h1 : Heap} {v : AV} {h' : Heap} {cv : Value} {w' : World} (hr : Ran w S1 h1 μ v h' cv w') (ev : Evo w S h μ w S1 h1 μ) (vv : EvoV h μ h1 μ) : Ran w S h μ v h' cv w' := by
 obtain ⟨S', μ', r1, r2, r3, r4⟩ := hr
 exact ⟨S', μ', r1, r2, ev.trans r3, vv.trans r4⟩
theorem RepP.of_scalar {S' : Nat → Prop} {v : AV} {cv : Value} (hs : v.scalar = true) (hr : RepP w S v cv) : RepP w S' v cv := by
 have one : ∀ {x : AV} {c : Value}, (match x with | .bool _ | .int _ _ | .str _ => true | _ => false) = true → RepP w S x c → RepP w S' x c := by
  intro x c hx hr
  cases hr <;> simp at hx <;> constructor
 cases hr with
 | bool => exact .bool _
 | int => exact .int _ _
 | str => exact .str _
 | agg l cs hl h1 hr => exact .agg l cs hl h1 (fun i x hi => one (Ae.1 (by simpa [AV.scalar] using hs) x (Ab hi)) (hr i x hi))
 | tup l cs hl hr =>
  refine .tup l cs hl (fun i x hi => ?_)
  have hx := Ae.1 (show l.all _ = true from hs) x (Ab hi)
  have hrx := hr i x hi
  generalize cs.getD i undef = c at hrx ⊢
  cases hrx with
  | bool => exact .bool _
  | int => exact .int _ _
  | str => exact .str _
  | agg l' cs' hl' h1' hr' => exact .agg l' cs' hl' h1' (fun i x hi => one (Ae.1 (by simpa using hx) x (Ab hi)) (hr' i x hi))
  | _ => simp at hx
 | _ => simp [AV.scalar] at hs
theorem Jtq {call : Call} (hc : Jjx P call) (hp : RepH w S h μ) {f : FuncId} {l vs : List AV} {ns : List Nat} {v : AV} {h0 : Heap} (hs : Jjk h l = some (vs, ns)) (hv : call f vs none = some (v, h0)) {cargs : Array Value}
  (hsz : cargs.size = l.length) (hl : ∀ i x, l[i]? = some x → Rep w S h μ x (cargs.getD i undef)) :
  Calls P f cargs w fun e w' => ∃ cv, e = .returned cv ∧ ((ns = [] ∨ v.scalar = true) → Ran w S h μ v h cv w') ∧ Ran w S h μ v (Kg h ns) cv w' := by
 obtain ⟨f1, f2, f3⟩ := Jk6 hp (Jmh hs)
 obtain ⟨h1, h2⟩ := Jqu hp (S' := fun b => S b ∨ ∃ g ∈ ns, μ.b g = b) (fun b hb => .inl hb) hs (fun g hg => .inr ⟨g, hg, rfl⟩)
 refine (hc.pure f vs v h0 hv w _ cargs f1.lt (by omega) (fun i y hi => ?_)).mono fun e w' ⟨cv, he, hr, ho⟩ => ⟨cv, he, fun hcase => ?_, (Job f1 ho hr).after f2 f3⟩
 ·obtain ⟨x, hx, hxr⟩ := h2 i y hi
  exact hxr _ (hl i x hx)
 ·rcases hcase with hcase | hcase
  ·subst hcase
   refine Job hp ho (hr.mono (fun b hb => ?_) (fun _ _ => rfl))
   rcases hb with (hb | ⟨g, hg, _⟩) | hb
   ·exact .inl hb
   ·cases hg
   ·exact .inr hb
  ·exact Job hp ho (hr.of_scalar hcase)
theorem mapGet {f : LO → AV} {l : List LO} {i : Nat} {x : AV} (hi : (l.map f)[i]? = some x) : ∃ y, l[i]? = some y ∧ f y = x := by
 rw [List.getElem?_map] at hi
 cases hy : l[i]? with
 | none => rw [hy] at hi; cases hi
 | some y => rw [hy] at hi; injection hi with hi; exact ⟨y, rfl, hi⟩
theorem Jm3 {nt : Nat} {σ : St} {a : Act} (hs : RepS nt w S σ μ a) {l : Array Operand} {m : List LO} (hm : cLOs l.toList = some m) :
  (l.map a.eval).size = (m.map σ.ev).length ∧ ∀ i x, (m.map σ.ev)[i]? = some x → Rep w S σ.h μ x ((l.map a.eval).getD i undef) := by
 obtain ⟨h1, h2⟩ := Jws hs hm
 refine ⟨by simp [h1], fun i x hi => ?_⟩
 obtain ⟨y, hy, rfl⟩ := mapGet hi
 obtain ⟨z, hz, hr⟩ := h2 i y hy
 have e : (l.map a.eval).getD i undef = a.eval z := by
  have : l[i]? = some z := by simpa using hz
  simp [this]
 rw [e]
 exact hr
theorem Jve (F : Nat → AV) : ∀ (n k i : Nat) (x : AV), (evN F k n)[i]? = some x → i < n ∧ x = F (k + i)
 | 0, k, i, x, hx => by simp [evN] at hx
 | n + 1, k, i, x, hx => by
  rw [evN] at hx
  cases i with
  | zero => simp at hx; exact ⟨by omega, hx.symm⟩
  | succ i =>
   obtain ⟨h1, h2⟩ := Jve F n (k + 1) i x (by simpa using hx)
   exact ⟨by omega, by rw [h2]; congr 1; omega⟩
theorem Jv9 (F : Nat → AV) : ∀ (n k : Nat), (evN F k n).length = n
 | 0, _ => rfl
 | n + 1, k => by rw [evN, List.length_cons, Jv9 F n]
theorem Jxf {call : Call} (hc : Jjx P call) (hp : RepH w S h μ) {f : FuncId} {vs : List AV} {v : AV} {h' : Heap} (hv : Jcc call f h vs = some (v, h')) {cargs : Array Value}
  (hsz : cargs.size = vs.length) (ha : ∀ i x, vs[i]? = some x → Rep w S h μ x (cargs.getD i undef)) :
  FnOK P f ∧ Calls P f cargs w fun e w' => ∃ cv, e = .returned cv ∧ Ran w S h μ v h' cv w' := by
 unfold Jcc Jza at hv
 split at hv
 ·rename_i τ hτ
  unfold Jwm at hv
  split at hv
  ·rename_i v1 h1 hcall
   unfold backR at hv
   split at hv
   ·rename_i E hE
    split at hv
    ·rename_i hnn
     cases hv
     obtain ⟨tok, -⟩ := Jv0 (h := h) true (fr (Jg1 0 vs)) (rng 0 vs.length) .nil
     have hen : RepS 0 w S ⟨fr (Jg1 0 vs), h⟩ μ { tmps := cargs ++ Array.replicate (0 - cargs.size) undef, defers := [] } := Jtm hp hsz ha
     obtain ⟨n1, n2, n3, n4⟩ := Jqd hen tok hτ
     have hnb : nnB (mkTb h true (fr (Jg1 0 vs)) (rng 0 vs.length) []) [] = true := by
      unfold Jq7 at hτ
      split at hτ
      ·assumption
      ·cases hτ
     obtain ⟨-, hi⟩ := Jw4 hnb
     refine ⟨hc.fn _ _ _ _ hcall, (hc.byref _ _ _ _ _ _ hcall w S _ cargs n1.hp (by rw [Jv9]; exact hsz) (fun i x hx => ?_)).mono fun e w' ⟨cv, S', μ1, he, r1, r2, r3, r4⟩ => ?_⟩
     ·obtain ⟨h2, rfl⟩ := Jve _ _ _ _ _ hx
      have := n1.fr (0 + i)
      have e : (cargs ++ Array.replicate (0 - cargs.size) undef).getD (0 + i) undef = cargs.getD i undef := by simp
      rw [e] at this
      exact this
     ·exact ⟨cv, he, back_ok hp tok hi n3 n4 n2 r2 r3 r4 hE hnn r1⟩
    ·cases hv
   ·cases hv
  ·cases hv
 ·cases hv
theorem Jqc (hp : RepH w S h μ) {S' : Nat → Prop} (hS : ∀ b, S b → S' b) {x u : AV} {ns : List Nat} {c : Value} (hs : Jli h x = some (u, ns)) (hr : Rep w S h μ x c) (hm : ∀ g ∈ ns, S' (μ.b g)) :
  RepP w S' u c := by
 unfold Jli at hs
 split at hs
 ·rename_i g ver off
  cases ho : h g with
  | none => rw [ho] at hs; cases hs
  | some o =>
   rw [ho] at hs
   unfold qbox at hs
   split at hs
   ·rename_i v cells heq
    cases heq
    split at hs
    ·rename_i hv
     subst hv
     obtain ⟨cs, el, e1, e2, e3⟩ := hp.ob g _ ho
     have hc : c = .pointer (some ⟨μ.b g, μ.o g + off, none⟩) := by
      cases hr with
      | pure hp => cases hp
      | ptr _ _ _ _ o2 ho2 _ _ hr2 => rw [ho] at ho2; cases ho2; exact hr2 rfl
     subst hc
     have core : ∀ (l : List AV), l.length = cells.length → (∀ (i : Nat) (y : AV), l[i]? = some y → ∃ z, cells[i]? = some z ∧ ∀ c, Rep w S h μ z c → RepP w S' y c) → S' (μ.b g) →
       RepP w S' (.rptr (l.drop off)) (.pointer (some ⟨μ.b g, μ.o g + off, none⟩)) := by
      intro l hl hall hb
      have at' : ∀ (i : Nat) (y : AV), (l.drop off)[i]? = some y → ∃ z, cells[off + i]? = some z ∧ RepP w S' y (cs.getD (μ.o g + off + i) undef) ∧ (cs.getD (μ.o g + off + i) undef).oneCell' = true := by
       intro i y hi
       rw [List.getElem?_drop] at hi
       obtain ⟨z, hz, hzr⟩ := hall _ y hi
       have := e3 _ z hz
       rw [← Nat.add_assoc] at this
       exact ⟨z, hz, hzr _ this.1, this.2⟩
      refine .rptr _ _ (fun i => cs.getD (μ.o g + off + i) undef) (fun _ => hb) (fun i y hi => ?_) (fun i y hi => (at' i y hi).choose_spec.2.2) (fun i y hi => (at' i y hi).choose_spec.2.1)
      obtain ⟨z, hz, -⟩ := at' i y hi
      have hlt : off + i < cells.length := (Ac.1 hz).1
      have hadd : (⟨μ.b g, μ.o g + off, none⟩ : Addr).add i = ⟨μ.b g, μ.o g + off + i, none⟩ := by
       cases i <;> simp [Addr.add]
      rw [hadd]
      have hlt2 : μ.o g + off + i < cs.size := by omega
      simp [World.cell?, e1, hlt2]
     split at hs
     ·rename_i hf
      injection hs with hs
      simp only [Aa] at hs
      obtain ⟨rfl, rfl⟩ := hs
      refine core cells rfl (fun i y hi => ⟨y, hi, fun c hc => ?_⟩) (hm g (by simp))
      exact Je0 hp hS depth (Jlt h 7 y (Ae.1 hf y (Ab hi))) hc (fun g hg => by cases hg)
     ·unfold Jyf at hs
      split at hs
      ·rename_i ps hps
       injection hs with hs
       simp only [Aa] at hs
       obtain ⟨rfl, rfl⟩ := hs
       obtain ⟨m1, m2⟩ := Jgd hps
       refine core (ps.map (·.1)) (by simp [m1]) (fun i y hi => ?_) (hm g (by simp))
       rw [List.getElem?_map] at hi
       obtain ⟨p, hp1, rfl⟩ := Option.map_eq_some_iff.1 hi
       have hlt : i < cells.length := by have := (Ac.1 hp1).1; omega
       obtain ⟨p', hp', hsn⟩ := m2 i cells[i] (Ad hlt)
       rw [hp1] at hp'
       cases hp'
       refine ⟨cells[i], Ad hlt, fun c hc => Je0 hp hS depth (u := p.1) (ns := p.2) hsn hc fun g' hg' => hm g' ?_⟩
       exact List.mem_cons_of_mem _ (List.mem_flatMap.2 ⟨p, Ab hp1, hg'⟩)
      ·cases hs
    ·cases hs
   ·cases hs
 ·exact Je0 hp hS depth hs hr hm
theorem Jmg {x u : AV} {ns : List Nat} (hs : Jli h x = some (u, ns)) : ∀ g ∈ ns, ∃ o, h g = some o := by
 unfold Jli at hs
 split at hs
 ·rename_i g ver off
  cases ho : h g with
  | none => rw [ho] at hs; cases hs
  | some o =>
   rw [ho] at hs
   unfold qbox at hs
   split at hs
   ·rename_i v cells heq
    split at hs
    ·split at hs
     ·injection hs with hs
      simp only [Aa] at hs
      obtain ⟨-, rfl⟩ := hs
      intro g' hg'
      rw [List.mem_singleton] at hg'
      exact ⟨o, by rw [hg']; exact ho⟩
     ·unfold Jyf at hs
      split at hs
      ·rename_i ps hps
       injection hs with hs
       simp only [Aa] at hs
       obtain ⟨-, rfl⟩ := hs
       intro g' hg'
       rcases List.mem_cons.1 hg' with rfl | hg'
       ·exact ⟨o, ho⟩
       ·obtain ⟨p, hp1, hp2⟩ := List.mem_flatMap.1 hg'
        obtain ⟨i, hi⟩ := List.getElem?_of_mem hp1
        obtain ⟨m1, m2⟩ := Jgd hps
        have hlt : i < cells.length := by have := (Ac.1 hi).1; omega
        obtain ⟨p', hp', hsn⟩ := m2 i cells[i] (Ad hlt)
        rw [hi] at hp'
        cases hp'
        obtain ⟨_, h2, _⟩ := Jea depth (u := p.1) (ns := p.2) hsn g' hp2
        exact ⟨_, h2⟩
      ·cases hs
    ·cases hs
   ·cases hs
 ·intro g hg
  obtain ⟨_, h2, _⟩ := Jea depth hs g hg
  exact ⟨_, h2⟩
theorem Jpi (hp : RepH w S h μ) {S' : Nat → Prop} (hS : ∀ b, S b → S' b) : ∀ {l vs : List AV} {ns : List Nat}, Joi h l = some (vs, ns) → (∀ g ∈ ns, S' (μ.b g)) →
  vs.length = l.length ∧ (∀ g ∈ ns, ∃ o, h g = some o) ∧ ∀ (i : Nat) (y : AV), vs[i]? = some y → ∃ x, l[i]? = some x ∧ ∀ c, Rep w S h μ x c → RepP w S' y c
 | [], vs, ns, hs, _ => by
  cases hs
  exact ⟨rfl, fun g hg => (by cases hg), fun i y hi => (by simp at hi)⟩
 | x :: l, vs, ns, hs, hm => by
  simp only [Joi] at hs
  unfold Jq5 at hs
  split at hs
  ·rename_i u n1 us n2 h1 h2
   injection hs with hs
   simp only [Aa] at hs
   obtain ⟨rfl, rfl⟩ := hs
   obtain ⟨a, b, c⟩ := Jpi hp hS h2 fun g hg => hm g (Ag _ hg)
   refine ⟨by simp [a], fun g hg => ?_, fun i y hi => ?_⟩
   ·rcases Af.1 hg with hg | hg
    ·exact Jmg h1 g hg
    ·exact b g hg
   ·cases i with
    | zero =>
     simp at hi
     subst hi
     exact ⟨x, rfl, fun c hc => Jqc hp hS h1 hc fun g hg => hm g (Ah _ hg)⟩
    | succ i => simpa using c i y (by simpa using hi)
  ·cases hs
theorem Jye (hp : RepH w S h μ) {S' : Nat → Prop} (hS : ∀ b, S b → S' b) {x u : AV} {ns : List Nat} {c : Value} (hs : qarg h x = some (u, ns)) (hr : Rep w S h μ x c) (hm : ∀ g ∈ ns, S' (μ.b g)) : RepP w S' u c := by
 unfold qarg at hs
 split at hs
 ·rename_i f caps
  unfold qfn at hs
  split at hs
  ·rename_i us ms hq
   injection hs with hs
   simp only [Aa] at hs
   obtain ⟨rfl, rfl⟩ := hs
   obtain ⟨a, b, d⟩ := Jpi hp hS hq hm
   obtain ⟨cs, rfl, hl, hh⟩ := hr.fn_inv
   refine .fn f us cs (by omega) fun i y hi => ?_
   obtain ⟨z, hz, hzr⟩ := d i y hi
   exact hzr _ (hh i z hz)
  ·cases hs
 ·exact Jqc hp hS hs hr hm
theorem Jp3 : ∀ {l us : List AV} {ns : List Nat}, Joi h l = some (us, ns) → ∀ g ∈ ns, ∃ o, h g = some o
 | [], us, ns, hs => by cases hs; exact fun g hg => (by cases hg)
 | x :: l, us, ns, hs => by
  simp only [Joi] at hs
  unfold Jq5 at hs
  split at hs
  ·rename_i u n1 us n2 h1 h2
   injection hs with hs
   simp only [Aa] at hs
   obtain ⟨rfl, rfl⟩ := hs
   intro g hg
   rcases Af.1 hg with hg | hg
   ·exact Jmg h1 g hg
   ·exact Jp3 h2 g hg
  ·cases hs
theorem Jyy {x u : AV} {ns : List Nat} (hs : qarg h x = some (u, ns)) : ∀ g ∈ ns, ∃ o, h g = some o := by
 unfold qarg at hs
 split at hs
 ·unfold qfn at hs
  split at hs
  ·rename_i us ms hq
   injection hs with hs
   simp only [Aa] at hs
   obtain ⟨-, rfl⟩ := hs
   exact Jp3 hq
  ·cases hs
 ·exact Jmg hs
theorem Jp7 (hp : RepH w S h μ) {S' : Nat → Prop} (hS : ∀ b, S b → S' b) : ∀ {l vs : List AV} {ns : List Nat}, Jmr h l = some (vs, ns) → (∀ g ∈ ns, S' (μ.b g)) →
  vs.length = l.length ∧ (∀ g ∈ ns, ∃ o, h g = some o) ∧ ∀ (i : Nat) (y : AV), vs[i]? = some y → ∃ x, l[i]? = some x ∧ ∀ c, Rep w S h μ x c → RepP w S' y c
 | [], vs, ns, hs, _ => by
  cases hs
  exact ⟨rfl, fun g hg => (by cases hg), fun i y hi => (by simp at hi)⟩
 | x :: l, vs, ns, hs, hm => by
  simp only [Jmr] at hs
  unfold Jq5 at hs
  split at hs
  ·rename_i u n1 us n2 h1 h2
   injection hs with hs
   simp only [Aa] at hs
   obtain ⟨rfl, rfl⟩ := hs
   obtain ⟨a, b, c⟩ := Jp7 hp hS h2 fun g hg => hm g (Ag _ hg)
   refine ⟨by simp [a], fun g hg => ?_, fun i y hi => ?_⟩
   ·rcases Af.1 hg with hg | hg
    ·exact Jyy h1 g hg
    ·exact b g hg
   ·cases i with
    | zero =>
     simp at hi
     subst hi
     exact ⟨x, rfl, fun c hc => Jye hp hS h1 hc fun g hg => hm g (Ah _ hg)⟩
    | succ i => simpa using c i y (by simpa using hi)
  ·cases hs
theorem call_q {call : Call} (hc : Jjx P call) (hp : RepH w S h μ) {f : FuncId} {l : List AV} {v : AV} {h' : Heap} (hv : calQ call f h (Jmr h l) = some (v, h')) {cargs : Array Value}
  (hsz : cargs.size = l.length) (hl : ∀ i x, l[i]? = some x → Rep w S h μ x (cargs.getD i undef)) :
  FnOK P f ∧ Calls P f cargs w fun e w' => ∃ cv, e = .returned cv ∧ Ran w S h μ v h' cv w' := by
 unfold calQ at hv
 split at hv
 ·rename_i vs ns hq
  unfold retQ at hv
  split at hv
  ·rename_i u h0 hcall
   split at hv
   ·rename_i hsc
    injection hv with hv
    simp only [Aa] at hv
    obtain ⟨rfl, rfl⟩ := hv
    obtain ⟨a, b, c⟩ := Jp7 hp (S' := fun b => S b ∨ ∃ g ∈ ns, μ.b g = b) (fun b hb => .inl hb) hq (fun g hg => .inr ⟨g, hg, rfl⟩)
    refine ⟨hc.fn _ _ _ _ hcall, (hc.pure f vs u h0 hcall w (fun b => S b ∨ ∃ g ∈ ns, μ.b g = b) cargs (fun b' hb' => ?_) (by omega) (fun i y hi => ?_)).mono fun e w' ⟨cv, he, hr, ho⟩ => ⟨cv, he, Job hp ho (hr.of_scalar hsc)⟩⟩
    ·rcases hb' with hb' | ⟨g, hg, rfl⟩
     ·exact hp.lt b' hb'
     ·obtain ⟨o, ho⟩ := b g hg
      exact (hp.ob g o ho).lt
    ·obtain ⟨x, hx, hxr⟩ := c i y hi
     exact hxr _ (hl i x hx)
   ·cases hv
  ·cases hv
 ·cases hv
end
end Go.Vv
