/- The plain form of a state says no more than the state. Conditions: none. -/
import Derived.Test.YtemehoioeoohmaaGreatVh
namespace Go.Vv
open Go
open List renaming mem_cons_of_mem → Aa, mem_singleton → Ab, mem_append_left → Ac, mem_cons_self → Ad, mem_append_right → Ae, mem_cons → Af, mem_append → Ag
section
variable {w : World} {S : Nat → Prop} {h : Heap} {μ : Gh}
structure TbOK (h : Heap) (tb : List Win) : Prop where
 nd : ∀ x y, x ∈ tb → y ∈ tb → x.g = y.g → x = y
 ob : ∀ x ∈ tb, x.v = 0 ∧ ∃ o, h x.g = some o ∧ J40 x o
theorem TbOK.nil : TbOK h [] := ⟨fun _ _ hx => (by cases hx), fun _ hx => (by cases hx)⟩
theorem TbOK.add {tb : List Win} (ht : TbOK h tb) {x : Win} (hf : Jgg tb x.g = none) (hv : x.v = 0) {o : AObj} (ho : h x.g = some o) (hw : J40 x o) : TbOK h (tb ++ [x]) := by
 refine ⟨fun a b ha hb e => ?_, fun a ha => ?_⟩
 ·rcases Ag.1 ha with ha | ha <;> rcases Ag.1 hb with hb | hb
  ·exact ht.nd a b ha hb e
  ·rw [Ab] at hb; exact (Jjq hf a ha (by rw [e, hb])).elim
  ·rw [Ab] at ha; exact (Jjq hf b hb (by rw [← e, ha])).elim
  ·rw [Ab] at ha hb; rw [ha, hb]
 ·rcases Ag.1 ha with ha | ha
  ·exact ht.ob a ha
  ·rw [Ab] at ha; rw [ha]; exact ⟨hv, o, ho, hw⟩
theorem J1n {tb : List Win} (ht : TbOK h tb) (nn : Nat) (v : AV) : TbOK h (addW h tb nn v) ∧ ∀ x ∈ tb, x ∈ addW h tb nn v := by
 unfold addW
 split
 ·rename_i g ver off len
  split
  ·rename_i hc
   obtain ⟨h1, h2⟩ := hc
   unfold curW at h1
   split at h1
   ·rename_i v' e t c z ho
    simp only [Bool.and_eq_true, decide_eq_true_eq] at h1
    exact ⟨ht.add h2 rfl ho h1.2, fun x hx => Ac _ hx⟩
   ·cases h1
  ·exact ⟨ht, fun _ hx => hx⟩
 ·rename_i g ver
  split
  ·rename_i hc
   obtain ⟨h1, h2⟩ := hc
   unfold Jor at h1
   split at h1
   ·rename_i v' c ho
    exact ⟨ht.add h2 rfl ho trivial, fun x hx => Ac _ hx⟩
   ·cases h1
  ·exact ⟨ht, fun _ hx => hx⟩
 ·exact ⟨ht, fun _ hx => hx⟩
theorem J92 (g : Nat) : ∀ (l : List AV) (j : Nat) {tb : List Win}, TbOK h tb → TbOK h (addC h g j l tb) ∧ ∀ x ∈ tb, x ∈ addC h g j l tb
 | [], j, tb, ht => ⟨ht, fun _ hx => hx⟩
 | v :: r, j, tb, ht => by
  obtain ⟨h1, h2⟩ := J1n ht (Jp0 g j) v
  obtain ⟨h3, h4⟩ := J92 g r (j + 1) h1
  exact ⟨h3, fun x hx => h4 x (h2 x hx)⟩
theorem Ju5 {tb : List Win} (ht : TbOK h tb) {g nn ver : Nat} {cells : List AV} (ho : h g = some (.box ver cells)) :
  TbOK h (addB h tb g nn cells) ∧ (∀ x ∈ tb, x ∈ addB h tb g nn cells) ∧ (Jgg tb g = none → (⟨g, nn, 0, 0, 0⟩ : Win) ∈ addB h tb g nn cells) := by
 unfold addB
 split
 ·rename_i hf
  have ht' : TbOK h (tb ++ [⟨g, nn, 0, 0, 0⟩]) := ht.add hf rfl ho trivial
  split
  ·exact ⟨ht', fun x hx => Ac _ hx, fun _ => Ae _ (Ab.2 rfl)⟩
  ·obtain ⟨h1, h2⟩ := J92 nn cells 0 ht'
   exact ⟨h1, fun x hx => h2 x (Ac _ hx), fun _ => h2 _ (Ae _ (Ab.2 rfl))⟩
 ·rename_i hf
  exact ⟨ht, fun _ hx => hx, fun h => (hf h).elim⟩
theorem addP_ok {tb : List Win} (ht : TbOK h tb) (c : Bool) (k g ver : Nat) : TbOK h (addP h c tb k g ver (h g)) ∧ ∀ x ∈ tb, x ∈ addP h c tb k g ver (h g) := by
 unfold addP
 split
 ·rename_i v' cells ho
  split
  ·obtain ⟨h1, h2, -⟩ := Ju5 ht (nn := if c = true then k else g) ho
   exact ⟨h1, h2⟩
  ·exact ⟨ht, fun _ hx => hx⟩
 ·exact ⟨ht, fun _ hx => hx⟩
theorem Jv8 : ∀ (l : List AV) {tb : List Win}, TbOK h tb → TbOK h (addF h l tb) ∧ ∀ x ∈ tb, x ∈ addF h l tb
 | [], tb, ht => ⟨ht, fun _ hx => hx⟩
 | v :: r, tb, ht => by
  cases v
  case ptr g ver off =>
   obtain ⟨h1, h2⟩ := addP_ok ht false 0 g ver
   obtain ⟨h3, h4⟩ := Jv8 r h1
   exact ⟨h3, fun x hx => h4 x (h2 x hx)⟩
  all_goals exact Jv8 r ht
theorem addS_ok {tb : List Win} (ht : TbOK h tb) (c : Bool) (k : Nat) (v : AV) : TbOK h (addS h c tb k v) ∧ ∀ x ∈ tb, x ∈ addS h c tb k v := by
 unfold addS
 split
 ·rename_i g ver off
  unfold addP
  split
  ·rename_i v' cells ho
   split
   ·obtain ⟨h1, h2, -⟩ := Ju5 ht (nn := if c = true then k else g) ho
    exact ⟨h1, h2⟩
   ·exact ⟨ht, fun _ hx => hx⟩
  ·exact ⟨ht, fun _ hx => hx⟩
 ·rename_i f caps
  split
  ·exact ⟨ht, fun _ hx => hx⟩
  ·exact Jv8 caps ht
 ·exact J1n ht k v
theorem Jv0 (c : Bool) (F : Nat → AV) : ∀ (ks : List Nat) {tb : List Win}, TbOK h tb → TbOK h (mkTb h c F ks tb) ∧ ∀ x ∈ tb, x ∈ mkTb h c F ks tb
 | [], tb, ht => ⟨ht, fun _ hx => hx⟩
 | k :: r, tb, ht => by
  obtain ⟨h1, h2⟩ := addS_ok ht c k (F k)
  obtain ⟨h3, h4⟩ := Jv0 c F r h1
  exact ⟨h3, fun x hx => h4 x (h2 x hx)⟩
theorem pin1_ok {tb tb' : List Win} (ht : TbOK h tb) {i : Nat} (hp : pin1 h i tb (h i) = some tb') :
  TbOK h tb' ∧ (∀ x ∈ tb, x ∈ tb') ∧ ∃ o, h i = some o ∧ o.ver = 0 ∧ ∃ x ∈ tb', x.g = i ∧ x.nn = i ∧ x.off = 0 := by
 cases ho : h i with
 | none => rw [ho] at hp; cases hp
 | some o =>
  rw [ho] at hp
  unfold pin1 at hp
  split at hp
  ·rename_i cells heq
   cases heq
   split at hp
   ·rename_i hf
    cases hp
    obtain ⟨h1, h2, h3⟩ := Ju5 ht (nn := i) ho
    exact ⟨h1, h2, _, rfl, rfl, _, h3 hf, rfl, rfl, rfl⟩
   ·cases hp
  ·rename_i e t cells z heq
   cases heq
   split at hp
   ·rename_i hf
    cases hp
    exact ⟨ht.add hf rfl ho (by simp [J40]), fun x hx => Ac _ hx, _, rfl, rfl, _, Ae _ (Ab.2 rfl), rfl, rfl, rfl⟩
   ·cases hp
  ·rename_i es heq
   cases heq
   split at hp
   ·rename_i hf
    cases hp
    exact ⟨ht.add hf rfl ho trivial, fun x hx => Ac _ hx, _, rfl, rfl, _, Ae _ (Ab.2 rfl), rfl, rfl, rfl⟩
   ·cases hp
  ·cases hp
theorem Jsp : ∀ (ps : List Nat) {tb tb' : List Win}, TbOK h tb → Jqw h ps tb = some tb' →
  TbOK h tb' ∧ (∀ x ∈ tb, x ∈ tb') ∧ ∀ i ∈ ps, ∃ o, h i = some o ∧ o.ver = 0 ∧ ∃ x ∈ tb', x.g = i ∧ x.nn = i ∧ x.off = 0
 | [], tb, tb', ht, hp => by
  cases hp
  exact ⟨ht, fun _ hx => hx, fun i hi => (by cases hi)⟩
 | i :: r, tb, tb', ht, hp => by
  simp only [Jqw] at hp
  split at hp
  ·rename_i t1 h1
   obtain ⟨a1, a2, o, a3, a4, x, a5, a6⟩ := pin1_ok ht h1
   obtain ⟨b1, b2, b3⟩ := Jsp r a1 hp
   refine ⟨b1, fun x hx => b2 x (a2 x hx), fun k hk => ?_⟩
   rcases Af.1 hk with rfl | hk
   ·exact ⟨o, a3, a4, x, b2 x a5, a6⟩
   ·exact b3 k hk
  ·cases hp
theorem Jw4 : ∀ {L : List Win} {seen : List Nat}, nnB L seen = true → (∀ x ∈ L, x.nn ∉ seen) ∧ ∀ x y, x ∈ L → y ∈ L → x.nn = y.nn → x = y
 | [], seen, _ => ⟨fun _ hx => (by cases hx), fun _ _ hx => (by cases hx)⟩
 | z :: r, seen, hn => by
  simp only [nnB, Bool.and_eq_true, Bool.not_eq_true', List.contains_eq_mem, decide_eq_false_iff_not] at hn
  obtain ⟨h1, h2⟩ := Jw4 hn.2
  refine ⟨fun x hx => ?_, fun x y hx hy e => ?_⟩
  ·rcases Af.1 hx with hx | hx
   ·rw [hx]; exact hn.1
   ·exact fun hs => h1 x hx (Aa _ hs)
  ·rcases Af.1 hx with hx | hx <;> rcases Af.1 hy with hy | hy
   ·rw [hx, hy]
   ·exact (h1 y hy (by rw [← e, hx]; exact Ad ..)).elim
   ·exact (h1 x hx (by rw [e, hy]; exact Ad ..)).elim
   ·exact h2 x y hx hy e
theorem Jva {tb : List Win} {g' : Nat} {o' : AObj} : ∀ {L : List Win}, hl (hlR h tb L) g' = some o' → ∃ x ∈ L, x.nn = g' ∧ ∃ o, h x.g = some o ∧ o' = renO h tb x o
 | [], he => by cases he
 | y :: r, he => by
  simp only [hlR] at he
  cases hy : h y.g with
  | none =>
   rw [hy] at he
   obtain ⟨x, hx, h1⟩ := Jva (L := r) he
   exact ⟨x, Aa _ hx, h1⟩
  | some o =>
   rw [hy] at he
   simp only [renM, hlRC, hl] at he
   split at he
   ·rename_i e
    cases he
    exact ⟨y, Ad .., e.symm, o, hy, rfl⟩
   ·obtain ⟨x, hx, h1⟩ := Jva (L := r) he
    exact ⟨x, Aa _ hx, h1⟩
theorem Jx7 {tb : List Win} {x : Win} {o : AObj} (ho : h x.g = some o) : ∀ {L : List Win}, (∀ x y, x ∈ L → y ∈ L → x.nn = y.nn → x = y) → x ∈ L → hl (hlR h tb L) x.nn = some (renO h tb x o)
 | [], _, hx => by cases hx
 | y :: r, hi, hx => by
  simp only [hlR]
  by_cases e : x = y
  ·subst e
   rw [ho]
   simp [renM, hlRC, hl]
  ·have hx' : x ∈ r := by
    rcases Af.1 hx with h | h
    ·exact (e h).elim
    ·exact h
   have ne : x.nn ≠ y.nn := fun h => e (hi x y hx (Ad ..) h)
   have := Jx7 (tb := tb) ho (L := r) (fun a b ha hb => hi a b (Aa _ ha) (Aa _ hb)) hx'
   cases hy : h y.g with
   | none => simpa [renM, hlRC] using this
   | some o2 => simp only [renM, hlRC, hl]; rw [if_neg ne]; exact this
def Ji6 : List Win → Nat → Option Win
 | [], _ => none
 | x :: r, n => if x.nn = n then some x else Ji6 r n
theorem Jln {x : Win} : ∀ {L : List Win}, (∀ x y, x ∈ L → y ∈ L → x.nn = y.nn → x = y) → x ∈ L → Ji6 L x.nn = some x
 | [], _, hx => by cases hx
 | y :: r, hi, hx => by
  simp only [Ji6]
  split
  ·rename_i e
   rw [hi y x (Ad ..) hx e]
  ·rename_i ne
   rcases Af.1 hx with h | h
   ·exact (ne (by rw [h])).elim
   ·exact Jln (fun a b ha hb => hi a b (Aa _ ha) (Aa _ hb)) h
theorem Jfn {x : Win} {n : Nat} : ∀ {L : List Win}, Ji6 L n = some x → x ∈ L ∧ x.nn = n
 | [], he => by cases he
 | y :: r, he => by
  simp only [Ji6] at he
  split at he
  ·rename_i e
   cases he
   exact ⟨Ad .., e⟩
  ·obtain ⟨h1, h2⟩ := Jfn he
   exact ⟨Aa _ h1, h2⟩
def muB (μ : Gh) (x : Option Win) (d : Nat) : Nat := match x with | some x => μ.b x.g | none => d
def muO (μ : Gh) (h : Heap) (x : Option Win) (d : Nat) : Nat := match x with
 | some x => (match h x.g with | some (.arr _ e _ _ _) => μ.o x.g + x.off * e | _ => μ.o x.g)
 | none => d
def muN (μ : Gh) (h : Heap) (tb : List Win) : Gh := ⟨fun n => muB μ (Ji6 tb n) 0, fun n => muO μ h (Ji6 tb n) 0⟩
def PinOK (pins : List Nat) (h : Heap) (μ : Gh) (p0 : Gh) : Prop := ∀ i ∈ pins, ∃ o, h i = some o ∧ (o.ver = 0 → μ.b i = p0.b i ∧ μ.o i = p0.o i)
theorem PinOK.step {pins : List Nat} {p0 : Gh} {h' : Heap} {μ' : Gh} (hp : PinOK pins h μ p0) (vv : EvoV h μ h' μ') : PinOK pins h' μ' p0 := by
 intro i hi
 obtain ⟨o, ho, h1⟩ := hp i hi
 obtain ⟨o', ho', hle, he⟩ := vv i o ho
 refine ⟨o', ho', fun e => ?_⟩
 have h0 : o.ver = 0 := by omega
 obtain ⟨⟨e1, e2⟩, -⟩ := he (by omega)
 rw [e1, e2]
 exact h1 h0
theorem J9b (h : Heap) (tb : List Win) (F : Nat → AV) : ∀ (ks : List Nat) (d : Nat), fr (frR h tb F ks) d = if d ∈ ks then ren h tb (F d) else .any
 | [], d => rfl
 | k :: ks, d => by
  simp only [frR, fr]
  by_cases hd : d = k
  ·subst hd; simp
  ·rw [if_neg hd, J9b h tb F ks d]
   simp [hd]
theorem Jqd {nt : Nat} {F : Nat → AV} {a : Act} {ks : List Nat} {tb : List Win} {σ' : St} (hs : RepS nt w S ⟨F, h⟩ μ a) (ht : TbOK h tb) (hn : Jq7 h F ks tb = some σ') :
  RepS nt w S σ' (muN μ h tb) a ∧ Evo w S h μ w S σ'.h (muN μ h tb) ∧ Maps h μ σ'.h (muN μ h tb) tb ∧ (∀ g o, σ'.h g = some o → ∃ x ∈ tb, x.nn = g ∧ ∃ o1, h x.g = some o1 ∧ o.fz = o1.fz) := by
 unfold Jq7 at hn
 split at hn
 ·rename_i hnn
  cases hn
  obtain ⟨-, hi⟩ := Jw4 hnn
  have hm : Maps h μ (hl (hlR h tb tb)) (muN μ h tb) tb := by
   intro x hx o ho
   refine ⟨Jx7 ho hi hx, ?_, ?_, ?_⟩
   ·simp only [muN, Jln hi hx, muB]
   ·simp only [muN, Jln hi hx, muO, ho]
    cases o <;> rfl
   ·obtain ⟨-, o2, h2, h3⟩ := ht.ob x hx
    rw [ho] at h2
    cases h2
    exact h3
  have back : ∀ g o, hl (hlR h tb tb) g = some o → ∃ x ∈ tb, x.nn = g ∧ ∃ o1, h x.g = some o1 ∧ o = renO h tb x o1 := fun g o ho => Jva ho
  refine ⟨⟨fun d => ?_, ⟨fun g o ho => ?_, fun g g' o o' ho ho' e => ?_, fun g o ho hz hb => ?_, hs.hp.lt⟩, hs.df, hs.sz⟩, ?_, hm, fun g o ho => ?_⟩
  ·simp only
   rw [J9b]
   split
   ·exact Jn4 hm (hs.fr d)
   ·exact .any _
  ·obtain ⟨x, hx, rfl, o1, ho1, rfl⟩ := back g o ho
   exact Jw5 hm hx ho1 (hs.hp.ob x.g o1 ho1)
  ·obtain ⟨x, hx, rfl, o1, ho1, rfl⟩ := back g o ho
   obtain ⟨y, hy, rfl, o2, ho2, rfl⟩ := back g' o' ho'
   rw [(hm x hx o1 ho1).2.1, (hm y hy o2 ho2).2.1] at e
   rw [ht.nd x y hx hy (hs.hp.inj x.g y.g o1 o2 ho1 ho2 e)]
  ·obtain ⟨x, hx, rfl, o1, ho1, rfl⟩ := back g o ho
   rw [(hm x hx o1 ho1).2.1] at hb
   rw [Jqa] at hz
   exact hs.hp.own x.g o1 ho1 hz hb
  ·refine ⟨rfl, rfl, rfl, Nat.le_refl _, fun _ _ _ => rfl, fun _ cs _ _ hc => ⟨cs, hc, rfl⟩, fun _ h => h, fun _ h => .inl h, fun b ⟨g, o, ho, hz, e⟩ => ?_⟩
   obtain ⟨x, hx, rfl, o1, ho1, rfl⟩ := back g o ho
   rw [(hm x hx o1 ho1).2.1] at e
   rw [Jqa] at hz
   exact .inl ⟨x.g, o1, ho1, hz, e⟩
  ·obtain ⟨x, hx, rfl, o1, ho1, rfl⟩ := back g o ho
   exact ⟨x, hx, rfl, o1, ho1, Jqa _ _⟩
 ·cases hn
theorem Jjn {nt : Nat} {σ σ' : St} {a : Act} {pins ks : List Nat} {p0 : Gh} (hs : RepS nt w S σ μ a) (hp : PinOK pins σ.h μ p0) (hk : norm pins ks σ = some σ') :
  ∃ μ', RepS nt w S σ' μ' a ∧ Evo w S σ.h μ w S σ'.h μ' ∧ PinOK pins σ'.h μ' p0 := by
 unfold norm at hk
 split at hk
 ·rename_i tb0 hpin
  obtain ⟨t1, -, t3⟩ := Jsp pins .nil hpin
  obtain ⟨t4, t5⟩ := Jv0 false σ.f ks t1
  obtain ⟨n1, n2, n3, -⟩ := Jqd hs t4 hk
  refine ⟨_, n1, n2, fun i hi => ?_⟩
  obtain ⟨o, ho, h0, x, hx, rfl, hnn, hoff⟩ := t3 i hi
  obtain ⟨m1, m2, m3, -⟩ := n3 x (t5 x hx) o ho
  rw [hnn] at m1 m2 m3
  refine ⟨_, m1, fun _ => ?_⟩
  obtain ⟨o2, ho2, h2⟩ := hp x.g hi
  rw [ho] at ho2
  cases ho2
  obtain ⟨q1, q2⟩ := h2 h0
  rw [m2, m3, q1, q2, hoff]
  refine ⟨rfl, ?_⟩
  cases o <;> simp
 ·cases hk
end
theorem Jqg : ∀ (l : List AV) (k d : Nat), fr (Jg1 k l) d = if k ≤ d then (l[d - k]?).getD .any else .any
 | [], k, d => by simp [Jg1, fr]
 | v :: l, k, d => by
  simp only [Jg1, fr]
  by_cases h : d = k
  ·subst h; simp
  ·rw [if_neg h, Jqg l (k + 1) d]
   by_cases h2 : k + 1 ≤ d
   ·rw [if_pos h2, if_pos (by omega), show d - k = (d - (k + 1)) + 1 by omega]; simp
   ·rw [if_neg h2, if_neg (by omega)]
theorem Jtm {w : World} {S : Nat → Prop} {h : Heap} {μ : Gh} {args : List AV} {cargs : Array Value} {nt : Nat} (hp : RepH w S h μ) (hsz : cargs.size = args.length) (ha : ∀ i x, args[i]? = some x → Rep w S h μ x (cargs.getD i undef)) :
  RepS nt w S ⟨fr (Jg1 0 args), h⟩ μ { tmps := cargs ++ Array.replicate (nt - cargs.size) undef, defers := [] } := by
 refine ⟨fun d => ?_, hp, rfl, by simp; omega⟩
 simp only [Jqg, Nat.zero_le, if_true, Nat.sub_zero]
 cases hd : args[d]? with
 | none => exact .any _
 | some x =>
  have hlt : d < cargs.size := by have := (List.getElem?_eq_some_iff.1 hd).1; omega
  have e : (cargs ++ Array.replicate (nt - cargs.size) undef).getD d undef = cargs.getD d undef := by
   simp only [Array.getD_eq_getD_getElem?]
   rw [Array.getElem?_append_left hlt]
  rw [e]
  exact ha d x hd
end Go.Vv
