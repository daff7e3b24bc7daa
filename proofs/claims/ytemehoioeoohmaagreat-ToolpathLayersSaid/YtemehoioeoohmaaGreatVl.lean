/- The evaluator's code and calls are right of the model's. Conditions: those that the compilation asks. -/
import Derived.Test.YtemehoioeoohmaaGreatVk
namespace Go.Vv
open Go
open Prod.mk renaming injEq → Aa
open List renaming mem_cons → Ab, mem_append → Ac, mem_map → Ae, map_cons → Af, mem_append_left → Ag, map_append → Ah, pairwise_cons → Ai, mem_cons_self → Aj, mem_append_right → Ak, pairwise_append → Al, mem_cons_of_mem → Am
open Bool renaming and_eq_true → Ad
def dep (ops : Array Oper) (p q : Nat) : Bool := ((ops[p]?).map fun o => o.after.any fun e => Region.binds .any e && e.on == q).getD false
def J0i (P : Program) (cm : List (Nat × CM)) (nt : Nat) (ops : Array Oper) : List Nat → Option (List (Nat × LOper))
 | [] => some []
 | i :: r =>
  match ops[i]? with
  | some o => (match comp P cm nt ops o, J0i P cm nt ops r with | some x, some l => some ((i, x) :: l) | _, _ => none)
  | none => none
def inDs (ds : List Nat) : LO → Bool
 | .t d => ds.contains d
 | .c .nils => true
 | _ => false
def J9q (ds mk : List Nat) (o : LOp) (d : Option Nat) : LOp :=
 if ds = [] then o else
 match o with
 | .app esz bytes el zz x y => if inDs ds x then .appn false ds esz bytes el zz x y else .app esz bytes el zz x y
 | .appz esz bytes el zz x y => if inDs ds x then .appn true ds esz bytes el zz x y else .appz esz bytes el zz x y
 | .store n (.t x) y => if ds.contains x then .ston ds n (.t x) y else .store n (.t x) y
 | o => if o.cls = 1 ∧ (d.map mk.contains).getD false = true then .msk ds o else o
def wrapO (ds mk : List Nat) (o : LOper) : LOper := ⟨o.dst, J9q ds mk o.op o.dst, o.guard⟩
def wrapL (m : List Nat × List Nat) (L : List (Nat × LOper)) : List (Nat × LOper) := L.map fun p => (p.1, wrapO m.1 m.2 p.2)
theorem wrapP_ev {call : Call} {base g0 : Nat} {σ : St} {ds mk : List Nat} {o : LOp} {d : Option Nat} {r : AV × Heap} (he : Jz call base σ g0 (J9q ds mk o d) = some r) : Jz call base σ g0 o = some r := by
 obtain ⟨v, h1⟩ := r
 unfold J9q at he
 split at he
 ·exact he
 ·split at he
  ·split at he
   ·simpa using J33 he
   ·exact he
  ·split at he
   ·simpa using J33 he
   ·exact he
  ·split at he
   ·exact ston_ev he
   ·exact he
  ·split at he
   ·exact msk_ev he
   ·exact he
theorem Jz0 {call : Call} {base : Nat} {σ σ' : St} {ds mk : List Nat} {o : LOper} (h : Jdh call base (wrapO ds mk o) σ = some σ') : Jdh call base o σ = some σ' := by
 unfold Jdh wrapO at h
 unfold Jdh
 simp only at h
 have key : ∀ g0, (match Jz call base σ g0 (J9q ds mk o.op o.dst) with | some (v, h) => some (σ.put o.dst v h) | none => none) = some σ' → (match Jz call base σ g0 o.op with | some (v, h) => some (σ.put o.dst v h) | none => none) = some σ' := fun g0 h => by
  cases hr : Jz call base σ g0 (J9q ds mk o.op o.dst) with
  | none => rw [hr] at h; cases h
  | some r => rw [hr] at h; rw [wrapP_ev hr]; exact h
 split at h
 ·exact key _ h
 ·split at h
  ·split at h
   ·rename_i hb; rw [if_pos hb]; exact key _ h
   ·rename_i hb; rw [if_neg hb]; exact h
  ·exact h
  ·cases h
inductive Anc (ops : Array Oper) : Nat → Nat → Prop where
 | one {k i : Nat} (h : dep ops i k = true) : Anc ops k i
 | more {k x i : Nat} (h : dep ops i x = true) (hx : Anc ops k x) : Anc ops k i
def Js7 (ops : Array Oper) (p : Nat × LOper) : List Nat → List (Nat × LOper) → Bool
 | _, [] => true
 | acc, q :: r =>
  !dep ops p.1 q.1 && p.1 != q.1 && (if dep ops q.1 p.1 || acc.any (fun x => dep ops q.1 x) then Js7 ops p (q.1 :: acc) r else Jur p.2 q.2 && Js7 ops p acc r)
def Jxv (ops : Array Oper) : List (Nat × LOper) → Bool
 | [] => true
 | p :: r => Js7 ops p [] r && !dep ops p.1 p.1 && Jxv ops r
theorem Jn1 {ops : Array Oper} {p : Nat × LOper} : ∀ {r : List (Nat × LOper)} {acc : List Nat}, Js7 ops p acc r = true → (∀ x ∈ acc, Anc ops p.1 x) → ∀ q ∈ r, dep ops p.1 q.1 = false ∧ (Anc ops p.1 q.1 ∨ Jur p.2 q.2 = true) ∧ p.1 ≠ q.1
 | [], _, _, _, q, hq => by cases hq
 | q :: r, acc, h, hacc, x, hx => by
  simp only [Js7, Ad, Bool.not_eq_true', bne_iff_ne, ne_eq] at h
  obtain ⟨⟨h1, h2⟩, h3⟩ := h
  split at h3
  ·rename_i hd
   have hq : Anc ops p.1 q.1 := by
    simp only [Bool.or_eq_true, List.any_eq_true] at hd
    rcases hd with hd | ⟨y, hy, hd⟩
    ·exact .one hd
    ·exact .more hd (hacc y hy)
   rcases Ab.1 hx with rfl | hx
   ·exact ⟨h1, .inl hq, h2⟩
   ·exact Jn1 h3 (fun y hy => (Ab.1 hy).elim (fun e => e ▸ hq) (hacc y)) x hx
  ·simp only [Ad] at h3
   rcases Ab.1 hx with rfl | hx
   ·exact ⟨h1, .inr h3.1, h2⟩
   ·exact Jn1 h3.2 hacc x hx
def J4x (ops : Array Oper) (L : List (Nat × LOper)) : Bool :=
 Jxv ops L && L.length == ops.size && ((List.range ops.size).all fun i => (L.map (·.1)).contains i) && ops.all fun o => o.after.all fun e => decide (e.on < ops.size)
theorem Jsa {ops : Array Oper} : ∀ {L : List (Nat × LOper)}, Jxv ops L = true → L.Pairwise (fun p q => dep ops p.1 q.1 = false ∧ (Anc ops p.1 q.1 ∨ Jur p.2 q.2 = true) ∧ p.1 ≠ q.1) ∧ ∀ p ∈ L, dep ops p.1 p.1 = false
 | [], _ => ⟨.nil, fun p hp => by cases hp⟩
 | p :: r, h => by
  simp only [Jxv, Ad, Bool.not_eq_true'] at h
  obtain ⟨⟨h1, h2⟩, h3⟩ := h
  obtain ⟨h4, h5⟩ := Jsa h3
  refine ⟨Ai.2 ⟨Jn1 h1 (fun x hx => by cases hx), h4⟩, fun q hq => ?_⟩
  rcases Ab.1 hq with rfl | hq
  ·exact h2
  ·exact h5 q hq
theorem Anc.listed {ops : Array Oper} {X : Nat → Prop} (hX : ∀ x, X x → ∀ k, dep ops x k = true → X k) {k i : Nat} (h : Anc ops k i) : (∀ k, dep ops i k = true → X k) → X k := by
 induction h with
 | one h => exact fun hi => hi _ h
 | more h _ ih => exact fun hi => ih (hX _ (hi _ h))
theorem Jtb {P : Program} {cm : List (Nat × CM)} {nt : Nat} {ops : Array Oper} : ∀ {l : List Nat} {L : List (Nat × LOper)}, J0i P cm nt ops l = some L → ∀ p ∈ L, ∃ o, ops[p.1]? = some o ∧ comp P cm nt ops o = some p.2
 | [], L, h, p, hp => by simp [J0i] at h; subst h; cases hp
 | i :: r, L, h, p, hp => by
  unfold J0i at h
  split at h
  ·rename_i o ho
   split at h
   ·rename_i x l hx hl
    injection h with h
    subst h
    rcases Ab.1 hp with rfl | hp
    ·exact ⟨o, ho, hx⟩
    ·exact Jtb hl p hp
   ·cases h
  ·cases h
theorem Jvc {call : Call} {base : Nat} {o : LOper} {σ σ' : St} (h : Jcs call base o σ = some σ') : Jdh call base o σ = some σ' := by
 unfold Jcs at h
 split at h
 ·cases h
 ·exact h
section
variable {P : Program} {nt : Nat} {cm : List (Nat × CM)} {ops : Array Oper} {call : Call} {base : Nat} {Q : Exit → Act → World → Prop}
theorem any_wp (hcall : Jjx P call) (hin : ∀ o ∈ ops, ∀ e ∈ o.after, e.on < ops.size) : ∀ (fuel : Nat) {listed : Array Bool} {L : List (Nat × LOper)} {w : World} {S : Nat → Prop} {σ σf : St} {μ : Gh} {a : Act}, L.length = fuel → listed.size = ops.size →
  (∀ p ∈ L, ∃ o x, ops[p.1]? = some o ∧ comp P cm nt ops o = some x ∧ ∀ σ σ', Jdh call base p.2 σ = some σ' → Jdh call base x σ = some σ') → (∀ k, k < ops.size → (listed.getD k true = false ↔ k ∈ L.map (·.1))) →
  L.Pairwise (fun p q => dep ops p.1 q.1 = false ∧ (Anc ops p.1 q.1 ∨ Jur p.2 q.2 = true) ∧ p.1 ≠ q.1) → (∀ p ∈ L, dep ops p.1 p.1 = false) →
  (∀ x, (x < ops.size ∧ x ∉ L.map (·.1)) → ∀ k, dep ops x k = true → k < ops.size ∧ k ∉ L.map (·.1)) →
  RepS nt w S σ μ a → zb call base (L.map (·.2)) σ = some σf →
  (∀ a' w' S' μ', RepS nt w' S' σf μ' a' → Evo w S σ.h μ w' S' σf.h μ' → EvoV σ.h μ σf.h μ' → Q .normal a' w') → wpAny P .any ops Q fuel listed a w
 | 0, listed, L, w, S, σ, σf, μ, a, hlen, hsz, hmem, hl, _, _, _, hs, he, hQ => by
  have : L = [] := List.eq_nil_of_length_eq_zero hlen
  subst this
  simp [zb] at he
  subst he
  refine ⟨?_, hQ _ _ _ _ hs .refl (.refl _ _)⟩
  apply List.eq_nil_iff_forall_not_mem.2
  intro j hj
  obtain ⟨h1, o, ho, _⟩ := mem_ready.1 hj
  have := (hl j (Array.getElem?_eq_some_iff.1 ho).1).1 h1
  simp at this
 | fuel + 1, listed, L, w, S, σ, σf, μ, a, hlen, hsz, hmem, hl, hpw, hself, hcl, hs, he, hQ => by
  have hgd : ∀ k, k < ops.size → (listed.getD k true = false ↔ listed.getD k false = false) := fun k hk => by
   have : k < listed.size := by omega
   simp [this]
  refine ⟨fun hr => ?_, fun i hi => ?_⟩
  ·exfalso
   cases L with
   | nil => simp at hlen
   | cons p r =>
    obtain ⟨o, _, ho, _⟩ := hmem p (Aj ..)
    have hp : p.1 < ops.size := (Array.getElem?_eq_some_iff.1 ho).1
    have : p.1 ∈ Region.ready .any ops listed := by
     refine mem_ready.2 ⟨(hl p.1 hp).2 (by simp), o, ho, fun e hee hb => ?_⟩
     have hlt := hin o (Array.mem_of_getElem? ho) e hee
     cases hle : listed.getD e.on false with
     | true => rfl
     | false =>
      exfalso
      have := (hl e.on hlt).1 ((hgd e.on hlt).2 hle)
      have hdep : dep ops p.1 e.on = true := by
       simp only [dep, ho, Option.map_some, Option.getD_some]
       exact Array.any_eq_true.2 (by
        obtain ⟨n, hn, e'⟩ := Array.getElem_of_mem hee
        exact ⟨n, hn, by rw [e']; simp [hb]⟩)
      simp only [Af, Ab] at this
      rcases this with h1 | h1
      ·rw [h1, hself p (Aj ..)] at hdep; cases hdep
      ·obtain ⟨q, hq, h2⟩ := Ae.1 h1
       have := (Ai.1 hpw).1 q hq
       rw [← h2, this.1] at hdep; cases hdep
    rw [hr] at this
    cases this
  ·obtain ⟨h1, o, ho, hedges⟩ := mem_ready.1 hi
   have hi' : i < ops.size := (Array.getElem?_eq_some_iff.1 ho).1
   obtain ⟨p, hp, rfl⟩ := Ae.1 ((hl i hi').1 h1)
   obtain ⟨A, B, rfl⟩ := List.append_of_mem hp
   obtain ⟨o', x', ho', hc, hrf⟩ := hmem p hp
   rw [ho] at ho'
   injection ho' with ho'
   subst ho'
   have hready : ∀ k, dep ops p.1 k = true → k < ops.size ∧ k ∉ (A ++ p :: B).map (·.1) := by
    intro k hd
    simp only [dep, ho, Option.map_some, Option.getD_some] at hd
    obtain ⟨n, hn, hx⟩ := Array.any_eq_true.1 hd
    simp only [Ad, beq_iff_eq] at hx
    have hee := hedges (o.after[n]) (Array.getElem_mem hn) hx.1
    have hk := hin o (Array.mem_of_getElem? ho) (o.after[n]) (Array.getElem_mem hn)
    rw [hx.2] at hee hk
    refine ⟨hk, fun hm => ?_⟩
    have := (hl k hk).2 hm
    rw [hgd k hk, hee] at this
    cases this
   have hA : ∀ q ∈ A, dep ops q.1 p.1 = false ∧ Jur q.2 p.2 = true ∧ q.1 ≠ p.1 := by
    intro q hq
    have hpq := (Al.1 hpw).2.2 q hq p (Aj ..)
    refine ⟨hpq.1, ?_, hpq.2.2⟩
    rcases hpq.2.1 with hd | hd
    ·exfalso
     have := hd.listed (X := fun x => x < ops.size ∧ x ∉ (A ++ p :: B).map (·.1)) hcl hready
     exact this.2 (Ae.2 ⟨q, Ag _ hq, rfl⟩)
    ·exact hd
   simp only [Ah, Af] at he
   obtain ⟨σ', b1, b2⟩ := bubble (fun k hk => by obtain ⟨q, hq, rfl⟩ := Ae.1 hk; exact (hA q hq).2.1) he
   have hB : ∀ q ∈ B, p.1 ≠ q.1 := fun q hq => ((Ai.1 (Al.1 hpw).2.1).1 q hq).2.2
   unfold wpOp
   simp only [ho]
   have hstep := J3m (K := wpAny P .any ops Q fuel (listed.setIfInBounds p.1 true)) (Q := Q) hcall hs hc (hrf _ _ (Jvc b1)) fun a1 w1 S1 μ1 r1 r2 r3 => by
    refine any_wp hcall hin fuel (L := A ++ B) (by simp at hlen ⊢; omega) (by simpa using hsz) (fun q hq => hmem q ?_) (fun k hk => ?_) (hpw.sublist ?_) (fun q hq => hself q ?_) ?_ r1 (by simpa using b2) fun a2 w2 S2 μ2 q1 q2 q3 => hQ _ _ _ _ q1 (r2.trans q2) (r3.trans q3)
    ·rcases Ac.1 hq with h | h
     ·exact Ag _ h
     ·exact Ak _ (Am _ h)
    ·have hk2 : k < listed.size := by omega
     by_cases hkp : k = p.1
     ·subst hkp
      refine ⟨fun h => ?_, fun h => ?_⟩
      ·simp [hk2] at h
      ·exfalso
       obtain ⟨q, hq, e⟩ := Ae.1 h
       rcases Ac.1 hq with h | h
       ·exact (hA q h).2.2 e
       ·exact hB q h e.symm
     ·have : (listed.setIfInBounds p.1 true).getD k true = listed.getD k true := by
       simp [Array.getElem?_setIfInBounds_ne (Ne.symm hkp)]
      rw [this, hl k hk]
      simp only [Ah, Af, Ac, Ab]
      refine ⟨fun h => ?_, fun h => ?_⟩
      ·rcases h with h | h | h
       ·exact .inl h
       ·exact (hkp h).elim
       ·exact .inr h
      ·rcases h with h | h
       ·exact .inl h
       ·exact .inr (.inr h)
    ·exact List.Sublist.append (List.Sublist.refl A) (List.sublist_cons_self p B)
    ·rcases Ac.1 hq with h | h
     ·exact Ag _ h
     ·exact Ak _ (Am _ h)
    ·have sub : ∀ k, k ∈ (A ++ B).map (·.1) → k ∈ (A ++ p :: B).map (·.1) := fun k hk => by
      simp only [Ah, Af, Ac, Ab] at hk ⊢
      rcases hk with h | h
      ·exact .inl h
      ·exact .inr (.inr h)
     rintro x ⟨hx1, hx2⟩ k hd
     by_cases hxp : x = p.1
     ·subst hxp
      exact ⟨(hready k hd).1, fun h => (hready k hd).2 (sub k h)⟩
     ·have := hcl x ⟨hx1, fun h => by
       simp only [Ah, Af, Ac, Ab] at h hx2
       rcases h with h | h | h
       ·exact hx2 (.inl h)
       ·exact hxp h
       ·exact hx2 (.inr h)⟩ k hd
      exact ⟨this.1, fun h => this.2 (sub k h)⟩
   split
   ·rename_i hw
    rw [if_pos hw] at hstep
    exact .inl hstep
   ·rename_i hw
    rw [if_neg hw] at hstep
    exact hstep
theorem draw_wp (hcall : Jjx P call) (hm : P.follows .mixedOrders = true) {id : Nat} {l ds mk : List Nat} {L L0 : List (Nat × LOper)} {w : World} {S : Nat → Prop} {σ σf : St} {μ : Gh} {a : Act} (hs : RepS nt w S σ μ a) (hc : J0i P cm nt ops l = some L0) (hL : L = L0.map fun p => (p.1, wrapO ds mk p.2)) (hd : J4x ops L = true)
  (he : zb call base (L.map (·.2)) σ = some σf) (hQ : ∀ a' w' S' μ', RepS nt w' S' σf μ' a' → Evo w S σ.h μ w' S' σf.h μ' → EvoV σ.h μ σf.h μ' → Q .normal a' w') : (Code.region id ops true).wp P Q a w := by
 simp only [J4x, Ad, beq_iff_eq] at hd
 obtain ⟨⟨⟨d1, d2⟩, d3⟩, d4⟩ := hd
 obtain ⟨p1, p2⟩ := Jsa d1
 have hw : RepS nt { w with drawn := w.drawn + 1 } S σ μ a := ⟨fun d => (hs.fr d).evo hs.hp Jls (.refl _ _), hs.hp.of_same (w' := w.drew) rfl rfl rfl rfl, hs.df, hs.sz⟩
 have hall : ∀ k, k < ops.size → k ∈ L.map (·.1) := fun k hk => by
  have := List.all_eq_true.1 d3 k (List.mem_range.2 hk)
  exact List.contains_iff_mem.1 this
 refine wp_region_any hm (any_wp hcall (fun o ho e hee => ?_) ops.size d2 (by simp) (fun p hp => by
  rw [hL] at hp
  obtain ⟨q, hq, rfl⟩ := Ae.1 hp
  obtain ⟨o, h1, h2⟩ := Jtb hc q hq
  exact ⟨o, q.2, h1, h2, fun σ σ' h => Jz0 h⟩) (fun k hk => ?_) p1 p2 (fun x hx => (hx.2 (hall x hx.1)).elim) hw he fun a' w' S' μ' r1 r2 r3 => hQ _ _ _ _ r1 (Jls.trans r2) r3)
 ·obtain ⟨n, hn, e1⟩ := Array.getElem_of_mem ho
  have := Array.all_eq_true.1 d4 n hn
  rw [e1] at this
  obtain ⟨m, hm, e2⟩ := Array.getElem_of_mem hee
  have := Array.all_eq_true.1 this m hm
  rw [e2] at this
  simpa using this
 ·have := hall k hk
  simp [hk, this]
end
structure Qt where
 cm : List (Nat × CM)
 loops : List (Option (List Nat))
 ords : List (Nat × List Nat)
 ms : List (Nat × List Nat × List Nat)
def Jps (t : Option (List Nat)) (c : LC) : LC := match t with | some ks => .seq (.trim ks) c | none => c
def ordOf (hi : Qt) (id n : Nat) : List Nat :=
 match hi.ords.find? (fun x => x.1 == id) with
 | some (_, l) => l
 | none => List.range n
def msOf (hi : Qt) (id : Nat) : List Nat × List Nat :=
 match hi.ms.find? (fun x => x.1 == id) with
 | some (_, l) => l
 | none => ([], [])
def Ji8 (P : Program) (hi : Qt) (nt : Nat) : Code → List (Option (List Nat)) → Option (LC × List (Option (List Nat)))
 | .skip, ls => some (.skip, ls)
 | .region id ops draw, ls =>
  if draw then
   match J0i P hi.cm nt ops (ordOf hi id ops.size) with
   | some L => if J4x ops (wrapL (msOf hi id) L) then some (.reg true ((wrapL (msOf hi id) L).map (·.2)), ls) else none
   | none => none
  else
   match Jqe P hi.cm nt ops ops.toList with
   | some l => some (.reg false l, ls)
   | none => none
 | .seq a b, ls =>
  match Ji8 P hi nt a ls with
  | some (a, t :: ls) => (match Ji8 P hi nt b ls with | some (b, ls) => some (.seq a (Jps t b), ls) | none => none)
  | _ => none
 | .cond c a b, ls =>
  match cLO c, Ji8 P hi nt a ls with
  | some c, some (a, ls) => (match Ji8 P hi nt b ls with | some (b, ls) => some (.cond c a b, ls) | none => none)
  | _, _ => none
 | .block id b, ls =>
  match Ji8 P hi nt b ls with
  | some (b, ls) => some (.blk id b, ls)
  | none => none
 | .loop b, ls =>
  match ls with
  | some ks :: ls => (match Ji8 P hi nt b ls with | some (b, ls) => some (.loop ks b, ls) | none => none)
  | _ => none
 | .exit id, t :: ls => some (Jps t (.exit id), ls)
 | .ret, t :: ls => some (Jps t .ret, ls)
 | _, _ => none
def LE.is : LE → Exit → Prop
 | .normal, .normal => True
 | .exit i, .exit j => i = j
 | .ret, .ret => True
 | _, _ => False
def Came (nt : Nat) (pins : List Nat) (p0 : Gh) (w : World) (S : Nat → Prop) (h : Heap) (μ : Gh) (e : LE) (σ : St) (x : Exit) (a : Act) (w' : World) : Prop :=
 e.is x ∧ ∃ S' μ', RepS nt w' S' σ μ' a ∧ Evo w S h μ w' S' σ.h μ' ∧ PinOK pins σ.h μ' p0
theorem Came.before {nt : Nat} {pins : List Nat} {p0 : Gh} {w w1 : World} {S S1 : Nat → Prop} {h h1 : Heap} {μ μ1 : Gh} {e : LE} {σ : St} {x : Exit} {a : Act} {w' : World} (hc : Came nt pins p0 w1 S1 h1 μ1 e σ x a w') (ev : Evo w S h μ w1 S1 h1 μ1) : Came nt pins p0 w S h μ e σ x a w' := by
 obtain ⟨c1, S', μ', c2, c3, c4⟩ := hc
 exact ⟨c1, S', μ', c2, ev.trans c3, c4⟩
theorem least (p : Nat → Prop) (h : ∃ k, p k) : ∃ k, p k ∧ ∀ j, p j → k ≤ j := by
 obtain ⟨k, hk⟩ := h
 induction k using Nat.strongRecOn with
 | _ k ih =>
  by_cases hj : ∃ j, j < k ∧ p j
  ·obtain ⟨j, h1, h2⟩ := hj
   exact ih j h1 h2
  ·exact ⟨k, hk, fun j hpj => Nat.le_of_not_lt fun hlt => hj ⟨j, hlt, hpj⟩⟩
open Classical in
noncomputable def leastOf (p : Nat → Prop) : Nat := if h : ∃ k, p k then Classical.choose (least p h) else 0
theorem Jot {p : Nat → Prop} (h : ∃ k, p k) : p (leastOf p) ∧ ∀ j, p j → leastOf p ≤ j := by
 unfold leastOf
 rw [dif_pos h]
 exact Classical.choose_spec (least p h)
theorem Jn8 {P : Program} {nt : Nat} {call : Call} {pins : List Nat} {p0 : Gh} {base n : Nat} {c : Code} {lc : LC} {t : Option (List Nat)} {w : World} {S : Nat → Prop} {σ σ' : St} {μ : Gh} {a : Act} {e : LE}
  (he : Jcx n call pins base (Jps t lc) σ = some (e, σ')) (hs : RepS nt w S σ μ a) (hpn : PinOK pins σ.h μ p0)
  (ih : ∀ {σ : St} {μ : Gh}, Jcx n call pins base lc σ = some (e, σ') → RepS nt w S σ μ a → PinOK pins σ.h μ p0 → c.wp P (Came nt pins p0 w S σ.h μ e σ') a w) : c.wp P (Came nt pins p0 w S σ.h μ e σ') a w := by
 cases t with
 | none => exact ih he hs hpn
 | some ks =>
  simp only [Jps, Jcx] at he
  unfold andThen at he
  split at he
  ·rename_i σ1 h1
   obtain ⟨σ2, h2, h3⟩ := Jdp h1
   simp only [Aa] at h3
   obtain ⟨-, rfl⟩ := h3
   obtain ⟨μ1, k1, k2, k3⟩ := Jjn hs hpn h2
   exact wp_mono (ih he k1 k3) fun x a2 w2 hc2 => hc2.before k2
  ·rename_i hne
   obtain ⟨σ2, h2, h3⟩ := Jdp he
   simp only [Aa] at h3
   obtain ⟨rfl, rfl⟩ := h3
   exact (hne _ he).elim
theorem code_wp {P : Program} {hi : Qt} {nt : Nat} {call : Call} {pins : List Nat} {p0 : Gh} {base : Nat} (hcall : Jjx P call) (hm : P.follows .mixedOrders = true) (n : Nat) : ∀ (c : Code) {ls ls' : List (Option (List Nat))} {lc : LC} {w : World} {S : Nat → Prop} {σ σ' : St} {μ : Gh} {a : Act} {e : LE},
  Ji8 P hi nt c ls = some (lc, ls') → Jcx n call pins base lc σ = some (e, σ') → RepS nt w S σ μ a → PinOK pins σ.h μ p0 → c.wp P (Came nt pins p0 w S σ.h μ e σ') a w := by
 intro c
 induction c with
 | skip =>
  intro ls ls' lc w S σ σ' μ a e hc he hs hpn
  simp only [Ji8] at hc
  injection hc with hc
  simp only [Aa] at hc
  obtain ⟨rfl, rfl⟩ := hc
  simp only [Jcx] at he
  injection he with he
  simp only [Aa] at he
  obtain ⟨rfl, rfl⟩ := he
  exact Go.wp_skip ⟨trivial, S, μ, hs, .refl, hpn⟩
 | region id ops draw =>
  intro ls ls' lc w S σ σ' μ a e hc he hs hpn
  simp only [Ji8] at hc
  split at hc
  ·rename_i hd
   subst hd
   split at hc
   ·rename_i L hL
    split at hc
    ·rename_i hok
     injection hc with hc
     simp only [Aa] at hc
     obtain ⟨rfl, rfl⟩ := hc
     simp only [Jcx] at he
     obtain ⟨σ1, h1, h2⟩ := Jdp he
     simp only [Aa] at h2
     obtain ⟨rfl, rfl⟩ := h2
     exact draw_wp hcall hm hs hL rfl hok h1 fun a' w' S' μ' r1 r2 r3 => ⟨trivial, S', μ', r1, r2, hpn.step r3⟩
    ·cases hc
   ·cases hc
  ·rename_i hd
   have hd' : draw = false := by simpa using hd
   subst hd'
   split at hc
   ·rename_i l hl
    injection hc with hc
    simp only [Aa] at hc
    obtain ⟨rfl, rfl⟩ := hc
    simp only [Jcx] at he
    obtain ⟨σ1, h1, h2⟩ := Jdp he
    simp only [Aa] at h2
    obtain ⟨rfl, rfl⟩ := h2
    exact wp_region_list (ops_wp hcall hs hl h1 fun a' w' S' μ' r1 r2 r3 => ⟨trivial, S', μ', r1, r2, hpn.step r3⟩)
   ·cases hc
 | seq x y ihx ihy =>
  intro ls ls' lc w S σ σ' μ a e hc he hs hpn
  simp only [Ji8] at hc
  split at hc
  ·rename_i lx t ls1 hx
   split at hc
   ·rename_i ly ls2 hy
    injection hc with hc
    simp only [Aa] at hc
    obtain ⟨rfl, rfl⟩ := hc
    rw [Jcx] at he
    unfold andThen at he
    split at he
    ·rename_i σ1 h1
     refine wp_seq (wp_mono (ihx hx h1 hs hpn) fun x a1 w1 hcame => ?_)
     obtain ⟨c1, S1, μ1, c2, c3, c4⟩ := hcame
     cases x <;> simp only [LE.is] at c1
     exact wp_mono (Jn8 he c2 c4 fun h2 h3 h4 => ihy hy h2 h3 h4) fun x' a2 w2 hc2 => hc2.before c3
    ·rename_i hne
     refine wp_seq (wp_mono (ihx hx he hs hpn) fun x a1 w1 hcame => ?_)
     cases x with
     | normal =>
      cases e <;> simp only [Came, LE.is, false_and] at hcame
      exact (hne _ he).elim
     | _ => exact hcame
   ·cases hc
  ·cases hc
 | cond c x y ihx ihy =>
  intro ls ls' lc w S σ σ' μ a e hc he hs hpn
  simp only [Ji8] at hc
  split at hc
  ·rename_i c' lx ls1 hcc hx
   split at hc
   ·rename_i ly ls2 hy
    injection hc with hc
    simp only [Aa] at hc
    obtain ⟨rfl, rfl⟩ := hc
    simp only [Jcx] at he
    split at he
    ·rename_i t ht
     have hb := K7 hs hcc
     rw [ht] at hb
     refine wp_cond hb.bool_inv ?_
     cases t with
     | true => exact ihx hx he hs hpn
     | false => exact ihy hy he hs hpn
    ·cases he
   ·cases hc
  ·cases hc
 | block id b ih =>
  intro ls ls' lc w S σ σ' μ a e hc he hs hpn
  simp only [Ji8] at hc
  split at hc
  ·rename_i lb ls1 hb
   injection hc with hc
   simp only [Aa] at hc
   obtain ⟨rfl, rfl⟩ := hc
   simp only [Jcx] at he
   unfold Jqp at he
   split at he
   ·rename_i i σ1 h1
    refine wp_block (wp_mono (ih hb h1 hs hpn) fun x a1 w1 hcame => ?_)
    obtain ⟨c1, rest⟩ := hcame
    cases x <;> simp only [LE.is] at c1
    subst c1
    simp only [Exit.inBlock]
    split at he
    ·rename_i hid
     injection he with he
     simp only [Aa] at he
     obtain ⟨rfl, rfl⟩ := he
     rw [if_pos hid]
     exact ⟨trivial, rest⟩
    ·rename_i hid
     injection he with he
     simp only [Aa] at he
     obtain ⟨rfl, rfl⟩ := he
     rw [if_neg hid]
     exact ⟨rfl, rest⟩
   ·rename_i hne
    refine wp_block (wp_mono (ih hb he hs hpn) fun x a1 w1 hcame => ?_)
    cases x with
    | exit j =>
     cases e <;> simp only [Came, LE.is, false_and] at hcame
     exact (hne _ _ he).elim
    | _ => exact hcame
  ·cases hc
 | loop b ih =>
  intro ls ls' lc w S σ σ' μ a e hc he hs hpn
  cases ls with
  | nil => simp [Ji8] at hc
  | cons p ls0 =>
   cases p with
   | none => simp [Ji8] at hc
   | some ks =>
   simp only [Ji8] at hc
   split at hc
   ·rename_i lb ls1 hb
    injection hc with hc
    simp only [Aa] at hc
    obtain ⟨rfl, rfl⟩ := hc
    simp only [Jcx] at he
    let J : Nat → Act → World → Prop := fun k a1 w1 => ∃ σk Sk μk, Jt0 (fun σ => (norm pins ks σ).bind (Jcx n call pins base lb)) k σk = some (e, σ') ∧ RepS nt w1 Sk σk μk a1 ∧ Evo w S σ.h μ w1 Sk σk.h μk ∧ PinOK pins σk.h μk p0
    refine wp_loop (fun a1 w1 => ∃ k, J k a1 w1) (fun a1 w1 => leastOf fun k => J k a1 w1) ⟨n, σ, S, μ, he, hs, .refl, hpn⟩ fun a1 w1 hI => ?_
    have hmin := (Jot hI).1
    generalize (leastOf fun k => J k a1 w1) = k at hmin ⊢
    obtain ⟨σk, Sk, μk, j1, j2, j3, j4⟩ := hmin
    cases k with
    | zero => simp [Jt0] at j1
    | succ k =>
     simp only [Jt0] at j1
     unfold andThen at j1
     have body : ∀ {e1 σ1}, (norm pins ks σk).bind (Jcx n call pins base lb) = some (e1, σ1) → b.wp P (Came nt pins p0 w S σ.h μ e1 σ1) a1 w1 := by
      intro e1 σ1 hbd
      cases hkp : norm pins ks σk with
      | none => rw [hkp] at hbd; cases hbd
      | some σ0 =>
       rw [hkp] at hbd
       obtain ⟨μ0, k1, k2, k3⟩ := Jjn j2 j4 hkp
       exact wp_mono (ih hb hbd k1 k3) fun x a2 w2 hc2 => hc2.before (j3.trans k2)
     split at j1
     ·rename_i σ1 hbd
      refine wp_mono (body hbd) fun x a2 w2 hc2 => ?_
      obtain ⟨c1, S2, μ2, c2, c3, c4⟩ := hc2
      cases x <;> simp only [LE.is] at c1
      simp only [Exit.then]
      have hJ : J k a2 w2 := ⟨σ1, S2, μ2, j1, c2, c3, c4⟩
      exact ⟨⟨k, hJ⟩, Nat.lt_succ_of_le ((Jot ⟨k, hJ⟩).2 k hJ)⟩
     ·rename_i hne
      refine wp_mono (body j1) fun x a2 w2 hc2 => ?_
      cases x with
      | normal =>
       cases e <;> simp only [Came, LE.is, false_and] at hc2
       exact (hne _ j1).elim
      | _ => exact hc2
   ·cases hc
 | exit id =>
  intro ls ls' lc w S σ σ' μ a e hc he hs hpn
  cases ls with
  | nil => simp [Ji8] at hc
  | cons t ls0 =>
   simp only [Ji8] at hc
   injection hc with hc
   simp only [Aa] at hc
   obtain ⟨rfl, rfl⟩ := hc
   refine Jn8 he hs hpn fun {σ1 μ1} h1 h2 h3 => ?_
   simp only [Jcx] at h1
   injection h1 with h1
   simp only [Aa] at h1
   obtain ⟨rfl, rfl⟩ := h1
   exact wp_exit ⟨rfl, S, μ1, h2, .refl, h3⟩
 | ret =>
  intro ls ls' lc w S σ σ' μ a e hc he hs hpn
  cases ls with
  | nil => simp [Ji8] at hc
  | cons t ls0 =>
   simp only [Ji8] at hc
   injection hc with hc
   simp only [Aa] at hc
   obtain ⟨rfl, rfl⟩ := hc
   refine Jn8 he hs hpn fun {σ1 μ1} h1 h2 h3 => ?_
   simp only [Jcx] at h1
   injection h1 with h1
   simp only [Aa] at h1
   obtain ⟨rfl, rfl⟩ := h1
   exact wp_ret ⟨trivial, S, μ1, h2, .refl, h3⟩
 | _ => intro ls ls' lc w S σ σ' μ a e hc he hs hpn; simp [Ji8] at hc
end Go.Vv
