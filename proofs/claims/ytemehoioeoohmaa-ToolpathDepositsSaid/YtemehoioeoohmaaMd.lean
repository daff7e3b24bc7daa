/- Insertion sort by neighbors' exchange, in plain Lean. Conditions: none. -/
import Derived.Test.YtemehoioeoohmaaMc
import Derived.Test.YtemehoioeoohmaaVq
namespace Go.Proofs.Ytemehoioeoohmaa
open Go Go.Vv Go.Proofs
set_option linter.unusedSimpArgs false
set_option linter.unusedVariables false
set_option linter.unusedSectionVars false
section
variable {α : Type} (lt : α → α → Bool)
structure OrdB : Prop where
 asymm : ∀ a b, lt a b = true → lt b a = false
 trans : ∀ a b c, lt b a = false → lt c b = false → lt c a = false
def Srt (l : List α) (m : Nat) : Prop := ∀ p q a b, p < q → q < m → l[p]? = some a → l[q]? = some b → lt b a = false
def SrtX (l : List α) (m k : Nat) : Prop := ∀ p q a b, p < q → q < m → q ≠ k → l[p]? = some a → l[q]? = some b → lt b a = false
def swp (l : List α) (k : Nat) (a b : α) : List α := (l.set (k + 1) b).set k a
theorem swp_len (l : List α) (k : Nat) (a b : α) : (swp l k a b).length = l.length := by simp [swp]
theorem Jm0 {l : List α} {k : Nat} (hk : k + 1 < l.length) (a b : α) (i : Nat) : (swp l k a b)[i]? = if i = k then some a else if i = k + 1 then some b else l[i]? := by
 unfold swp
 rw [List.getElem?_set]
 by_cases h1 : k = i
 ·subst h1; rw [if_pos rfl, if_pos (by rw [List.length_set]; omega), if_pos rfl]
 ·rw [if_neg h1, if_neg (fun h => h1 h.symm), List.getElem?_set]
  by_cases h2 : k + 1 = i
  ·subst h2; rw [if_pos rfl, if_pos hk, if_pos rfl]
  ·rw [if_neg h2, if_neg (fun h => h2 h.symm)]
theorem swp_mem {l : List α} {k : Nat} {a b : α} (ha : l[k + 1]? = some a) (hb : l[k]? = some b) (c : α) : c ∈ swp l k a b ↔ c ∈ l := by
 have hk : k + 1 < l.length := (List.getElem?_eq_some_iff.1 ha).1
 rw [List.mem_iff_getElem?, List.mem_iff_getElem?]
 constructor
 ·rintro ⟨i, hi⟩
  rw [Jm0 hk] at hi
  split at hi
  ·exact ⟨k + 1, by rw [ha]; exact hi⟩
  ·split at hi
   ·exact ⟨k, by rw [hb]; exact hi⟩
   ·exact ⟨i, hi⟩
 ·rintro ⟨i, hi⟩
  by_cases h1 : i = k
  ·subst h1
   refine ⟨i + 1, ?_⟩
   rw [Jm0 hk, if_neg (by omega), if_pos rfl, ← hb, hi]
  ·by_cases h2 : i = k + 1
   ·subst h2; exact ⟨k, by rw [Jm0 hk, if_pos rfl, ← ha, hi]⟩
   ·exact ⟨i, by rw [Jm0 hk, if_neg h1, if_neg h2]; exact hi⟩
variable {lt}
theorem SrtX.swap (O : OrdB lt) {l : List α} {m k : Nat} {a b : α} (h : SrtX lt l m (k + 1)) (ha : l[k + 1]? = some a) (hb : l[k]? = some b) (hlt : lt a b = true) : SrtX lt (swp l k a b) m k := by
 have hk : k + 1 < l.length := (List.getElem?_eq_some_iff.1 ha).1
 intro p q x y hpq hqm hqk hx hy
 rw [Jm0 hk] at hx hy
 rw [if_neg hqk] at hy
 by_cases h1 : q = k + 1
 ·rw [if_pos h1] at hy
  cases hy
  by_cases h2 : p = k
  ·rw [if_pos h2] at hx; cases hx; exact O.asymm _ _ hlt
  ·rw [if_neg h2, if_neg (by omega)] at hx
   exact h p k x b (by omega) (by omega) (by omega) hx hb
 ·rw [if_neg h1] at hy
  by_cases h2 : p = k
  ·rw [if_pos h2] at hx; cases hx; exact h (k + 1) q a y (by omega) hqm h1 ha hy
  ·rw [if_neg h2] at hx
   by_cases h3 : p = k + 1
   ·rw [if_pos h3] at hx; cases hx; exact h k q b y (by omega) hqm h1 hb hy
   ·rw [if_neg h3] at hx; exact h p q x y hpq hqm h1 hx hy
theorem SrtX.done0 {l : List α} {m : Nat} (h : SrtX lt l m 0) : Srt lt l m := fun p q a b hpq hqm ha hb => h p q a b hpq hqm (by omega) ha hb
theorem SrtX.done (O : OrdB lt) {l : List α} {m k : Nat} {a b : α} (h : SrtX lt l m (k + 1)) (ha : l[k + 1]? = some a) (hb : l[k]? = some b) (hlt : lt a b = false) : Srt lt l m := by
 intro p q x y hpq hqm hx hy
 by_cases h1 : q = k + 1
 ·subst h1
  rw [ha] at hy; cases hy
  by_cases h2 : p = k
  ·subst h2; rw [hb] at hx; cases hx; exact hlt
  ·exact O.trans x b a (h p k x b (by omega) (by omega) (by omega) hx hb) hlt
 ·exact h p q x y hpq hqm h1 hx hy
theorem Srt.X {l : List α} {i : Nat} (h : Srt lt l i) : SrtX lt l (i + 1) i := fun p q a b hpq hqm hqk ha hb => h p q a b hpq (by omega) ha hb
theorem J4a (O : OrdB lt) (B : FS α × Int → Option (LR (FS α × Int) (FS α))) (N : Nat) (h0 : ∀ x, B (x, 0) = some (.dn x))
  (hs : ∀ (x : FS α) (k : Nat) (a b : α), x.l.length ≤ N → x.l[k + 1]? = some a → x.l[k]? = some b → B (x, ((k + 1 : Nat) : Int)) = if lt a b = true then some (.nx (.lst (swp x.l k a b), (k : Int))) else some (.dn x))
  (x : FS α) (i : Nat) (hi : i < x.l.length) (hN : x.l.length ≤ N) (hN2 : N ≤ 4000000000000000000) (hx : Srt lt x.l i) :
  ∃ y, Ky B bigN (x, (i : Int)) = some y ∧ y.l.length = x.l.length ∧ (∀ c, c ∈ y.l ↔ c ∈ x.l) ∧ Srt lt y.l (i + 1) := by
 refine Xd (body := B) (fun s => ∃ k : Nat, s.2 = k ∧ k ≤ i ∧ s.1.l.length = x.l.length ∧ (∀ c, c ∈ s.1.l ↔ c ∈ x.l) ∧ SrtX lt s.1.l (i + 1) k) (fun s => s.2.toNat)
  (fun y => y.l.length = x.l.length ∧ (∀ c, c ∈ y.l ↔ c ∈ x.l) ∧ Srt lt y.l (i + 1)) ?_ bigN (x, (i : Int)) ⟨i, rfl, Nat.le_refl _, rfl, fun c => Iff.rfl, hx.X⟩ (Xn (by simp only; omega))
 rintro ⟨u, s1⟩ ⟨k, rfl, hk, hl, hm, hX⟩
 simp only at hl hm hX ⊢
 cases k with
 | zero => exact .inr ⟨u, h0 u, hl, hm, hX.done0⟩
 | succ k =>
  have ga : u.l[k + 1]? = some (u.l[k + 1]'(by omega)) := List.getElem?_eq_getElem (by omega)
  have gb : u.l[k]? = some (u.l[k]'(by omega)) := List.getElem?_eq_getElem (by omega)
  have e := hs u k _ _ (by omega) ga gb
  cases hc : lt (u.l[k + 1]'(by omega)) (u.l[k]'(by omega)) with
  | true =>
   rw [hc, if_pos rfl] at e
   refine .inl ⟨_, e, ⟨k, rfl, by omega, by show (swp _ _ _ _).length = _; rw [swp_len]; exact hl, fun c => (swp_mem ga gb c).trans (hm c), hX.swap O ga gb hc⟩, by simp only; omega⟩
  | false =>
   rw [hc, if_neg (by decide)] at e
   exact .inr ⟨u, e, hl, hm, hX.done O ga gb hc⟩
theorem Jrp (O : OrdB lt) (B : Int → FS α × Int → Option (LR (FS α × Int) (FS α))) (C : FS α × Int → Option (LR (FS α × Int) (FS α))) (N : Nat) (h0 : ∀ i x, B i (x, 0) = some (.dn x))
  (hs : ∀ (i : Int) (x : FS α) (k : Nat) (a b : α), x.l.length ≤ N → x.l[k + 1]? = some a → x.l[k]? = some b → B i (x, ((k + 1 : Nat) : Int)) = if lt a b = true then some (.nx (.lst (swp x.l k a b), (k : Int))) else some (.dn x))
  (hc : ∀ (x : FS α) (i : Nat), x.l.length ≤ N → C (x, (i : Int)) = if i < x.l.length then J3 (Ky (B i) bigN (x, (i : Int))) (fun v => some (.nx (v, ((i + 1 : Nat) : Int)))) else some (.dn x))
  (x : FS α) (hN : x.l.length ≤ N) (hN2 : N ≤ 4000000000000000000) :
  ∃ y, Ky C bigN (x, 1) = some y ∧ y.l.length = x.l.length ∧ (∀ c, c ∈ y.l ↔ c ∈ x.l) ∧ Srt lt y.l y.l.length := by
 refine Xd (body := C) (fun s => ∃ k : Nat, s.2 = k ∧ (k ≤ x.l.length ∨ k = 1) ∧ s.1.l.length = x.l.length ∧ (∀ c, c ∈ s.1.l ↔ c ∈ x.l) ∧ Srt lt s.1.l k) (fun s => (x.l.length - s.2).toNat)
  (fun y => y.l.length = x.l.length ∧ (∀ c, c ∈ y.l ↔ c ∈ x.l) ∧ Srt lt y.l y.l.length) ?_ bigN (x, 1) ⟨1, rfl, .inr rfl, rfl, fun c => Iff.rfl, fun p q a b hpq hq => by omega⟩ (Xn (by simp only; omega))
 rintro ⟨u, s1⟩ ⟨k, rfl, hk, hl, hm, hS⟩
 simp only at hl hm hS ⊢
 have e := hc u k (by omega)
 by_cases hlt : k < u.l.length
 ·rw [if_pos hlt] at e
  obtain ⟨y, ey, h1, h2, h3⟩ := J4a O (B k) N (h0 k) (hs k) u k hlt (by omega) hN2 hS
  rw [ey] at e
  refine .inl ⟨_, e, ⟨k + 1, rfl, .inl (by omega), by simp only; omega, fun c => (h2 c).trans (hm c), h3⟩, by simp only; omega⟩
 ·rw [if_neg hlt] at e
  exact .inr ⟨u, e, hl, hm, fun p q a b hpq hq ha hb => hS p q a b hpq (by omega) ha hb⟩
end
def bef (a b : Ja) : Bool := decide (a.Y < b.Y ∨ (a.Y = b.Y ∧ a.X < b.X))
theorem bef_ord : OrdB bef := ⟨fun a b h => by simp only [bef, decide_eq_true_eq, decide_eq_false_iff_not] at *; omega, fun a b c h1 h2 => by simp only [bef, decide_eq_false_iff_not] at *; omega⟩
theorem Jyd (a b : Ja) : X6 a b = bef a b := by
 rw [Bool.eq_iff_iff]
 simp only [X6, Jaw, Jbl, jv, Jif, bef, decide_eq_true_eq]
def ltI (a b : Int) : Bool := decide (a < b)
theorem ltI_ord : OrdB ltI := ⟨fun a b h => by simp only [ltI, decide_eq_true_eq, decide_eq_false_iff_not] at *; omega, fun a b c h1 h2 => by simp only [ltI, decide_eq_false_iff_not] at *; omega⟩
theorem Jtt {α : Type} (x : FS α) (k : Nat) (a b : α) : fset (fset x ((k + 1 : Nat) : Int) b) (k : Int) a = .lst (swp x.l k a b) := rfl
theorem Jlx {α : Type} {x : FS α} {k : Nat} {b v : α} (h : x.l[k]? = some v) : fget (fset x ((k + 1 : Nat) : Int) b) (k : Int) = some v := by
 refine Jam ?_
 show (x.l.set (k + 1) b)[k]? = some v
 rw [List.getElem?_set_ne (by omega)]
 exact h
theorem ipred {k : Nat} (h : k + 1 ≤ 9223372036854775807) : isub .i64 ((k + 1 : Nat) : Int) 1 = (k : Int) := by rw [Zj (by omega) (by omega)]; omega
theorem Jyu (x : FS Ja) (hN : x.l.length ≤ 1000000000) : ∃ y, z7 x = some y ∧ (∀ c, c ∈ y.l ↔ c ∈ x.l) ∧ Srt bef y.l y.l.length ∧ y.l.length = x.l.length := by
 obtain ⟨y, e, h1, h2, h3⟩ := Jrp bef_ord Ze Zb 1000000000
  (fun i x => by
   have c : igt 0 0 = false := rfl
   simp only [Ze, c, Zi, Jz, Jb7, if_false, Bool.false_eq_true])
  (fun i x k a b hl ha hb => by
   have hk : k + 1 < x.l.length := (List.getElem?_eq_some_iff.1 ha).1
   have c : igt ((k + 1 : Nat) : Int) 0 = true := Jea (by omega)
   have g1 := Jam ha
   have g2 := Jam hb
   simp only [Ze, c, Yp, g1, ipred (k := k) (by omega), g2, Jz, Option.getD_some, Ja3, Jyd, Jlx hb, Jtt])
  (fun x i hl => by
   by_cases hi : i < x.l.length
   ·have c : ilt (i : Int) (flen x) = true := Ye (by rw [Js]; omega)
    simp only [Zb, c, if_true, if_pos hi, zf (i := i) (by omega)]
   ·have c : ilt (i : Int) (flen x) = false := Yf (by rw [Js]; omega)
    simp only [Zb, c, if_false, Bool.false_eq_true, if_neg hi])
  (fapp (flit ([] : List Ja)) x) (by rw [Jf5, Jdf]; simpa using hN) (by omega)
 have f : fits 16 (flen (flit ([] : List Ja)) + flen x) = true := Xx (by rw [Js, Js]; simp only [Jdf, List.length_nil]; omega) (by rw [Js, Js]; simp only [Jdf, List.length_nil]; omega) (by omega)
 refine ⟨flst y, ?_, fun c => ?_, h3, ?_⟩
 ·simp only [z7, f, if_true, e, Jz]
 ·rw [Jnt, h2 c, Jf5]; simp [flit, FS.l]
 ·rw [Jnt, h1, Jf5]; simp [flit, FS.l]
end Go.Proofs.Ytemehoioeoohmaa
namespace Go.Proofs.Ytemehoioeoohmaa
open Go Go.Vv Go.Proofs
set_option linter.unusedSimpArgs false
set_option linter.unusedVariables false
set_option linter.unusedSectionVars false
theorem Jb0 {α : Type} (l : List α) (r : α) (i : Nat) : (l ++ [r])[i]? = if i < l.length then l[i]? else if i = l.length then some r else none := by
 by_cases h : i < l.length
 ·rw [if_pos h, List.getElem?_append_left h]
 ·rw [if_neg h, List.getElem?_append_right (by omega)]
  by_cases h2 : i = l.length
  ·subst h2; rw [if_pos rfl, Nat.sub_self]; rfl
  ·rw [if_neg h2]; exact List.getElem?_eq_none (by simp; omega)
theorem Jkn {α : Type} (l : List α) : l.getLast? = l[l.length - 1]? := List.getLast?_eq_getElem? ..
theorem Jja {lo hi : Int} {l : List Jf} {r : Jf} : Jix lo hi (l ++ [r]) ↔ Jix lo hi l ∧ lo ≤ r.From ∧ r.From < r.To ∧ r.To ≤ hi ∧ ∀ q, l.getLast? = some q → q.To < r.From := by
 constructor
 ·intro h
  have hl := h l.length (by simp) r (by rw [Jb0, if_neg (by omega), if_pos rfl])
  refine ⟨fun i hi q hq => ?_, hl.1, hl.2.1, hl.2.2.1, fun q hq => ?_⟩
  ·obtain ⟨h1, h2, h3, h4⟩ := h i (by simp; omega) q (by rw [Jb0, if_pos hi]; exact hq)
   exact ⟨h1, h2, h3, fun p h0 hp => h4 p h0 (by rw [Jb0, if_pos (by omega)]; exact hp)⟩
  ·rw [Jkn] at hq
   have := (List.getElem?_eq_some_iff.1 hq).1
   exact hl.2.2.2 q (by omega) (by rw [Jb0, if_pos (by omega)]; exact hq)
 ·rintro ⟨h, h1, h2, h3, h4⟩ i hi q hq
  rw [Jb0] at hq
  split at hq
  ·rename_i hlt
   obtain ⟨g1, g2, g3, g4⟩ := h i hlt q hq
   refine ⟨g1, g2, g3, fun p h0 hp => g4 p h0 ?_⟩
   rw [Jb0, if_pos (by omega)] at hp
   exact hp
  ·split at hq
   ·rename_i he
    cases hq
    refine ⟨h1, h2, h3, fun p h0 hp => h4 p ?_⟩
    rw [Jb0, if_pos (by omega)] at hp
    rw [Jkn, ← he]; exact hp
   ·cases hq
theorem Jkd {l : List Jf} {r : Jf} {x : Int} : HasX (l ++ [r]) x ↔ HasX l x ∨ (r.From ≤ x ∧ x < r.To) := by
 constructor
 ·rintro ⟨q, hq, h⟩
  rcases List.mem_append.1 hq with hq | hq
  ·exact .inl ⟨q, hq, h⟩
  ·rw [List.mem_singleton.1 hq] at h; exact .inr h
 ·rintro (⟨q, hq, h⟩ | h)
  ·exact ⟨q, List.mem_append_left _ hq, h⟩
  ·exact ⟨r, by simp, h⟩
def RowsV (R : List Jm) : Prop := Jcc ⟨.lst R⟩
theorem Jls {R : List Jm} {w : Jm} : RowsV (R ++ [w]) ↔ RowsV R ∧ -4096 ≤ w.Y ∧ w.Y < 4096 ∧ w.Runs.l ≠ [] ∧ Jix (-4096) 4096 w.Runs.l ∧ ∀ v, R.getLast? = some v → v.Y < w.Y := by
 constructor
 ·intro h
  have hl := h R.length (by show R.length < (R ++ [w]).length; simp) w (by show (R ++ [w])[R.length]? = _; rw [Jb0, if_neg (by omega), if_pos rfl])
  refine ⟨fun i hi q hq => ?_, hl.1, hl.2.1, hl.2.2.1, hl.2.2.2.1, fun q hq => ?_⟩
  ·have hi' : i < R.length := hi
   obtain ⟨h1, h2, h3, h5, h4⟩ := h i (by show i < (R ++ [w]).length; simp; omega) q (by show (R ++ [w])[i]? = _; rw [Jb0, if_pos hi']; exact hq)
   exact ⟨h1, h2, h3, h5, fun p h0 hp => h4 p h0 (by show (R ++ [w])[i - 1]? = _; rw [Jb0, if_pos (by omega)]; exact hp)⟩
  ·rw [Jkn] at hq
   have := (List.getElem?_eq_some_iff.1 hq).1
   exact hl.2.2.2.2 q (by omega) (by show (R ++ [w])[R.length - 1]? = _; rw [Jb0, if_pos (by omega)]; exact hq)
 ·rintro ⟨h, h1, h2, h3, h5, h4⟩ i hi q hq
  have hq' : (R ++ [w])[i]? = some q := hq
  rw [Jb0] at hq'
  split at hq'
  ·rename_i hlt
   obtain ⟨g1, g2, g3, g5, g4⟩ := h i hlt q hq'
   refine ⟨g1, g2, g3, g5, fun p h0 hp => g4 p h0 ?_⟩
   have hp' : (R ++ [w])[i - 1]? = some p := hp
   rw [Jb0, if_pos (by omega)] at hp'
   exact hp'
  ·split at hq'
   ·rename_i he
    cases hq'
    refine ⟨h1, h2, h3, h5, fun p h0 hp => h4 p ?_⟩
    have hp' : (R ++ [w])[i - 1]? = some p := hp
    rw [Jb0, if_pos (by omega)] at hp'
    rw [Jkn, ← he]; exact hp'
   ·cases hq'
def Jyl (R : List Jm) (c : Ja) : Prop := ∃ w ∈ R, w.Y = c.Y ∧ HasX w.Runs.l c.X
theorem Jjy {R : List Jm} {w : Jm} {c : Ja} : Jyl (R ++ [w]) c ↔ Jyl R c ∨ (w.Y = c.Y ∧ HasX w.Runs.l c.X) := by
 constructor
 ·rintro ⟨q, hq, h⟩
  rcases List.mem_append.1 hq with hq | hq
  ·exact .inl ⟨q, hq, h⟩
  ·rw [List.mem_singleton.1 hq] at h; exact .inr h
 ·rintro (⟨q, hq, h⟩ | h)
  ·exact ⟨q, List.mem_append_left _ hq, h⟩
  ·exact ⟨w, by simp, h⟩
theorem Jrx {α : Type} {x : FS α} {l : List α} {a : α} (h : x.l = l ++ [a]) (hN : x.l.length ≤ 1000000000) : fget x (isub .i64 (flen x) 1) = some a := by
 have hl : x.l.length = l.length + 1 := by rw [h]; simp
 rw [Zj (by rw [Js]; omega) (by rw [Js]; omega), Js, show (x.l.length : Int) - 1 = ((l.length : Nat) : Int) by omega]
 exact Jam (by rw [h, Jb0, if_neg (by omega), if_pos rfl])
theorem Jkv {α : Type} : flen (flit ([] : List α)) = 0 := rfl
theorem fsl_init {α : Type} {x : FS α} {l : List α} {a : α} (h : x.l = l ++ [a]) (hN : x.l.length ≤ 1000000000) : ∃ m, fsl x 0 (isub .i64 (flen x) 1) = some m ∧ m.l = l := by
 have hl : x.l.length = l.length + 1 := by rw [h]; simp
 rw [Zj (by rw [Js]; omega) (by rw [Js]; omega), Js, show (x.l.length : Int) - 1 = ((l.length : Nat) : Int) by omega]
 cases x with
 | nil => simp [FS.l] at hl
 | lst m =>
  have hm : m = l ++ [a] := h
  refine ⟨_, Jla (a := 0) (Nat.zero_le _) (by rw [hm]; simp), ?_⟩
  show (m.drop 0).take (l.length - 0) = l
  rw [hm]; simp
theorem with_nil {x : FS Jf} (h : x.l = []) (v : Int) : ∃ y, Qu x v = some y ∧ y.l = [⟨v, iadd .i64 v 1⟩] := by
 have h0 : flen x = 0 := by rw [Js, h]; rfl
 have c : igt (flen x) 0 = false := Jgc (by rw [h0]; omega)
 have f1 : fits 16 (flen (flit ([] : List Jf)) + flen x) = true := by rw [h0]; rfl
 have f2 : fits 16 (flen (fapp (flit ([] : List Jf)) x) + 1) = true := by
  have : flen (fapp (flit ([] : List Jf)) x) = 0 := by rw [Js, Jf5, h]; rfl
  rw [this]; rfl
 refine ⟨Y0 (fapp (flit ([] : List Jf)) x) ⟨v, iadd .i64 v 1⟩, ?_, by rw [Jap, Jf5, h]; rfl⟩
 simp only [Qu, c, Zi, Jz, Jb7, if_false, Bool.false_eq_true, f1, f2, if_true]
theorem J5n {x : FS Jf} {l : List Jf} {q : Jf} (h : x.l = l ++ [q]) (hN : x.l.length ≤ 1000000) (v : Int) :
  ∃ y, Qu x v = some y ∧ y.l = if v < q.To then l ++ [q] else if v = q.To then l ++ [⟨q.From, iadd .i64 v 1⟩] else l ++ [q] ++ [⟨v, iadd .i64 v 1⟩] := by
 have hl : x.l.length = l.length + 1 := by rw [h]; simp
 have c : igt (flen x) 0 = true := Jea (by rw [Js]; omega)
 have g := Jrx h (by omega)
 have f1 : fits 16 (flen (flit ([] : List Jf)) + flen x) = true := Xx (by rw [Jkv, Js]; omega) (by rw [Jkv, Js]; omega) (by omega)
 have f2 : fits 16 (flen (fapp (flit ([] : List Jf)) x) + 1) = true := Xx (by rw [Js]; omega) (by rw [Js, Jf5, Jdf]; simp; omega) (by omega)
 by_cases h1 : v < q.To
 ·have c1 : ilt v q.To = true := Ye h1
  exact ⟨x, by simp only [Qu, c, Yp, g, Jz, Option.getD_some, Ja3, c1, if_true], by rw [if_pos h1, h]⟩
 ·have c1 : ilt v q.To = false := Yf h1
  by_cases h2 : v = q.To
  ·have c2 : ieq v q.To = true := Jhh h2
   obtain ⟨m, em, hm⟩ := fsl_init h (by omega)
   have f3 : fits 16 (flen (flit ([] : List Jf)) + flen m) = true := Xx (by rw [Jkv, Js]; omega) (by rw [Jkv, Js, hm]; omega) (by omega)
   have f4 : fits 16 (flen (fapp (flit ([] : List Jf)) m) + 1) = true := Xx (by rw [Js]; omega) (by rw [Js, Jf5, Jdf, hm]; simp; omega) (by omega)
   refine ⟨Y0 (fapp (flit ([] : List Jf)) m) ⟨q.From, iadd .i64 v 1⟩, ?_, by rw [if_neg h1, if_pos h2, Jap, Jf5, hm]; rfl⟩
   simp only [Qu, c, Yp, g, Jz, Option.getD_some, Ja3, c1, c2, if_true, if_false, Bool.false_eq_true, em, f3, f4]
  ·have c2 : ieq v q.To = false := Jem h2
   refine ⟨Y0 (fapp (flit ([] : List Jf)) x) ⟨v, iadd .i64 v 1⟩, ?_, by rw [if_neg h1, if_neg h2, Jap, Jf5, h]; rfl⟩
   simp only [Qu, c, Yp, g, Jz, Option.getD_some, Ja3, c1, c2, if_true, if_false, Bool.false_eq_true, f1, f2]
structure OfI (l : List Ja) (i : Nat) (R : List Jm) : Prop where
 rows : RowsV R
 cells : ∀ c, Jyl R c ↔ c ∈ l.take i
 last : (i = 0 ∧ R = []) ∨ ∃ p ri w qi q, 0 < i ∧ l[i - 1]? = some p ∧ R = ri ++ [w] ∧ w.Y = p.Y ∧ w.Runs.l = qi ++ [q] ∧ q.To = p.X + 1
theorem Jud {α : Type} {l : List α} {i : Nat} {a : α} (h : l[i]? = some a) (c : α) : c ∈ l.take (i + 1) ↔ c ∈ l.take i ∨ c = a := by
 have hi := (List.getElem?_eq_some_iff.1 h).1
 rw [List.take_add_one, h]
 simp
theorem Jmm (c : Ja) : Qx c = true ↔ InR c := by
 unfold InR; simp only [Qx, Jbl, Jbc, jv]
 exact ⟨fun h => ⟨h.1.1.1, h.1.1.2, h.1.2, h.2⟩, fun h => ⟨⟨⟨h.1, h.2.1⟩, h.2.2.1⟩, h.2.2.2⟩⟩
theorem Jm3 (c d : Ja) : c = d ↔ c.X = d.X ∧ c.Y = d.Y := ⟨fun h => by subst h; exact ⟨rfl, rfl⟩, fun h => Cell.ext' h.1 h.2⟩
theorem OfI.new {l : List Ja} {i : Nat} {R : List Jm} (I : OfI l i R) {c : Ja} (hc : l[i]? = some c) (hr : InR c) (hp : ∀ w, R.getLast? = some w → w.Y < c.Y) {y : FS Jf} (hy : y.l = [⟨c.X, c.X + 1⟩]) : OfI l (i + 1) (R ++ [⟨c.Y, y⟩]) := by
 obtain ⟨r1, r2, r3, r4⟩ := hr
 refine ⟨Jls.2 ⟨I.rows, r3, r4, by simp only [hy]; simp, ?_, hp⟩, fun d => ?_, .inr ⟨c, R, ⟨c.Y, y⟩, [], ⟨c.X, c.X + 1⟩, by omega, by simpa using hc, rfl, rfl, hy, rfl⟩⟩
 ·simp only [hy]
  rw [show [(⟨c.X, c.X + 1⟩ : Jf)] = [] ++ [⟨c.X, c.X + 1⟩] from rfl, Jja]
  exact ⟨fun i hi => by simp at hi, r1, by simp only; omega, by simp only; omega, fun q hq => by simp at hq⟩
 ·rw [Jjy, Jud hc, I.cells, Jm3 d c]
  simp only [hy]
  have : HasX [(⟨c.X, c.X + 1⟩ : Jf)] d.X ↔ d.X = c.X := by
   constructor
   ·rintro ⟨q, hq, h⟩; rw [List.mem_singleton.1 hq] at h; simp only at h; omega
   ·intro h; exact ⟨⟨c.X, c.X + 1⟩, List.mem_singleton.2 rfl, by simp only; omega⟩
  rw [this]
  constructor
  ·rintro (h | ⟨h1, h2⟩)
   ·exact .inl h
   ·exact .inr ⟨h2, h1.symm⟩
  ·rintro (h | ⟨h1, h2⟩)
   ·exact .inl h
   ·exact .inr ⟨h2.symm, h1⟩
theorem OfI.more {l : List Ja} {i : Nat} {ri : List Jm} {w : Jm} (I : OfI l i (ri ++ [w])) {c p : Ja} (hc : l[i]? = some c) (hr : InR c) {qi : List Jf} {q : Jf} (h0 : 0 < i) (hp : l[i - 1]? = some p) (hY : w.Y = p.Y) (hpY : p.Y = c.Y) (hpX : p.X ≤ c.X)
  (hw : w.Runs.l = qi ++ [q]) (hq : q.To = p.X + 1) {y : FS Jf} (hy : y.l = if c.X < q.To then qi ++ [q] else if c.X = q.To then qi ++ [⟨q.From, c.X + 1⟩] else qi ++ [q] ++ [⟨c.X, c.X + 1⟩]) : OfI l (i + 1) (ri ++ [⟨w.Y, y⟩]) := by
 obtain ⟨r1, r2, r3, r4⟩ := hr
 obtain ⟨v1, v2, v3, v4, v5, v6⟩ := Jls.1 I.rows
 rw [hw] at v5
 obtain ⟨u1, u2, u3, u4, u5⟩ := Jja.1 v5
 have key : Jix (-4096) 4096 y.l ∧ (∀ x, HasX y.l x ↔ HasX (qi ++ [q]) x ∨ x = c.X) ∧ ∃ qi' q', y.l = qi' ++ [q'] ∧ q'.To = c.X + 1 := by
  by_cases h1 : c.X < q.To
  ·have he : c.X = p.X := by omega
   rw [if_pos h1] at hy
   refine ⟨by rw [hy]; exact v5, fun x => ⟨fun h => .inl (by rw [hy] at h; exact h), fun h => ?_⟩, qi, q, hy, by omega⟩
   rw [hy]
   rcases h with h | h
   ·exact h
   ·rw [Jkd]; exact .inr (by omega)
  ·rw [if_neg h1] at hy
   by_cases h2 : c.X = q.To
   ·rw [if_pos h2] at hy
    refine ⟨by rw [hy, Jja]; exact ⟨u1, u2, by simp only; omega, by simp only; omega, u5⟩, fun x => ?_, qi, _, hy, rfl⟩
    rw [hy, Jkd, Jkd, or_assoc]
    refine or_congr Iff.rfl ?_
    simp only
    omega
   ·rw [if_neg h2] at hy
    refine ⟨by rw [hy, Jja]; exact ⟨v5, r1, by simp only; omega, by simp only; omega, fun q' hq' => by simp at hq'; subst hq'; simp only; omega⟩, fun x => ?_, qi ++ [q], _, hy, rfl⟩
    rw [hy, Jkd (l := qi ++ [q])]
    refine or_congr Iff.rfl ?_
    simp only
    omega
 obtain ⟨k1, k2, qi', q', k3, k4⟩ := key
 refine ⟨Jls.2 ⟨v1, v2, v3, by simp only [k3]; simp, k1, v6⟩, fun d => ?_, .inr ⟨c, ri, ⟨w.Y, y⟩, qi', q', by omega, by simpa using hc, rfl, hY.trans hpY, k3, k4⟩⟩
 rw [Jjy, Jud hc, ← I.cells, Jjy, hw, or_assoc]
 refine or_congr Iff.rfl ?_
 simp only [k2]
 rw [Jm3 d c]
 constructor
 ·rintro ⟨h1, h2 | h2⟩
  ·exact .inl ⟨h1, h2⟩
  ·exact .inr ⟨h2, by omega⟩
 ·rintro (⟨h1, h2⟩ | ⟨h1, h2⟩)
  ·exact ⟨h1, .inl h2⟩
  ·exact ⟨by omega, .inr h1⟩
theorem Jul {α : Type} (l : List α) (a b : α) : (l ++ [a]).set l.length b = l ++ [b] := by simp
theorem Of_step {x : FS Ja} (hN : x.l.length ≤ 1000000000) (hs : Srt bef x.l x.l.length) (hr : ∀ c ∈ x.l, InR c) (k1 : Ji) {i : Nat} (hi : i < x.l.length) {r : Ji} (I : OfI x.l i r.Rows.l) :
  ∃ r' : Ji, Xk x k1 (r, (i : Int)) = some (.nx (r', ((i + 1 : Nat) : Int))) ∧ OfI x.l (i + 1) r'.Rows.l := by
 have c : ilt (i : Int) (flen x) = true := Ye (by rw [Js]; omega)
 have g := Qb hi
 have hc := List.getElem?_eq_getElem hi
 have hci := hr _ (List.mem_of_getElem? hc)
 have hV : Jcc r := I.rows
 have hL := Jdv hV
 have fr : fits 32 (flen r.Rows + 1) = true := Xx (by rw [Js]; omega) (by rw [Js]; have := hL.1; omega) (by omega)
 have is1 := zf (i := i) (by omega)
 have newrow : (∀ w, r.Rows.l.getLast? = some w → w.Y < (x.l[i]).Y) → ∃ y v31, fget (Y0 r.Rows (⟨(x.l[i]).Y, FS.nil⟩ : Jm)) (isub .i64 (iadd .i64 (flen r.Rows) 1) 1) = some (⟨(x.l[i]).Y, FS.nil⟩ : Jm) ∧ Qu FS.nil (x.l[i]).X = some y ∧
   OfI x.l (i + 1) (fset (Y0 r.Rows (⟨(x.l[i]).Y, FS.nil⟩ : Jm)) (isub .i64 (iadd .i64 (flen r.Rows) 1) 1) (⟨(x.l[i]).Y, y⟩ : Jm)).l ∧ v31 = (0 : Nat) := fun hw => by
  obtain ⟨y, ey, hy⟩ := with_nil (x := FS.nil) rfl (x.l[i]).X
  have hy' : y.l = [⟨(x.l[i]).X, (x.l[i]).X + 1⟩] := by rw [hy, Jbb (by have := hci.1; omega) (by have := hci.2.1; omega)]
  have e : isub .i64 (iadd .i64 (flen r.Rows) 1) 1 = ((r.Rows.l.length : Nat) : Int) := by
   rw [Js, Jbb (by omega) (by have := hL.1; omega), Zj (by omega) (by have := hL.1; omega)]; omega
  refine ⟨y, 0, ?_, ey, ?_, rfl⟩
  ·rw [e]; exact Jam (by rw [Jap, Jb0, if_neg (by omega), if_pos rfl])
  ·rw [e, Jic, Jap]
   show OfI x.l (i + 1) ((r.Rows.l ++ [_]).set r.Rows.l.length _)
   rw [Jul]
   exact I.new hc hci hw hy'
 rcases I.last with ⟨h0, hR⟩ | ⟨p, ri, w, qi, q, h0, hp, hR, hY, hw, hq⟩
 ·obtain ⟨y, -, g2, ey, hI, -⟩ := newrow (fun w hw => by rw [hR] at hw; simp at hw)
  have cz : ieq (flen r.Rows) 0 = true := Jhh (by rw [Js, hR]; rfl)
  refine ⟨_, by simp only [Xk, c, if_true, cz, Y4, Zi, Jz, Jg5, g, fr, g2, ey, is1]; rfl, hI⟩
 ·have hlen : r.Rows.l.length = ri.length + 1 := by rw [hR]; simp
  have cz : ieq (flen r.Rows) 0 = false := Jem (by rw [Js]; omega)
  have gl := Jrx hR (by have := hL.1; omega)
  have hpi : (x.l[i]).Y > p.Y ∨ ((x.l[i]).Y = p.Y ∧ p.X ≤ (x.l[i]).X) := by
   have := hs (i - 1) i p (x.l[i]) (by omega) hi hp hc
   simp only [bef, decide_eq_false_iff_not] at this
   omega
  by_cases hsame : w.Y = (x.l[i]).Y
  ·have cn : ine w.Y (x.l[i]).Y = false := by rw [← Bool.not_eq_true, Jm2]; exact fun h => h hsame
   have hwm : w ∈ r.Rows.l := by rw [hR]; simp
   obtain ⟨y, ey, hy⟩ := J5n hw (hL.2 w hwm) (x.l[i]).X
   rw [Jbb (by have := hci.1; omega) (by have := hci.2.1; omega)] at hy
   have hI2 := (hR ▸ I).more hc hci h0 hp hY (by omega) (by omega) hw hq hy
   have e : isub .i64 (flen r.Rows) 1 = ((ri.length : Nat) : Int) := by
    rw [Js, Zj (by omega) (by have := hL.1; omega)]; omega
   refine ⟨⟨fset r.Rows (isub .i64 (flen r.Rows) 1) ⟨w.Y, y⟩⟩, by simp only [Xk, c, if_true, cz, Zn, Yp, gl, g, Jz, Option.getD_some, Jdx, cn, if_false, Bool.false_eq_true, ey, is1], ?_⟩
   rw [e]
   show OfI x.l (i + 1) (r.Rows.l.set ri.length _)
   rw [hR, Jul]
   exact hI2
  ·have cn : ine w.Y (x.l[i]).Y = true := by rw [Jm2]; exact hsame
   obtain ⟨y, -, g2, ey, hI, -⟩ := newrow (fun w' hw' => by rw [hR] at hw'; simp at hw'; subst hw'; omega)
   refine ⟨_, by simp only [Xk, c, if_true, cz, Zn, Yp, gl, g, Jz, Option.getD_some, Jdx, cn, fr, g2, ey, is1]; rfl, hI⟩
theorem OfI.zero (l : List Ja) : OfI l 0 [] := ⟨fun i hi => by exact absurd hi (Nat.not_lt_zero _), fun c => ⟨fun ⟨w, hw, _⟩ => by simp at hw, fun h => by simp at h⟩, .inl ⟨rfl, rfl⟩⟩
theorem Of_ok (x : FS Ja) (hN : x.l.length ≤ 1000000000) : ∃ r e, zs x = some (r, e) ∧ ((∀ c ∈ x.l, InR c) → Jcc r ∧ ∀ c, In r c ↔ c ∈ x.l) := by
 obtain ⟨v, ev, hv⟩ := Xd (body := Z3 x) (fun s => ∃ i : Nat, s = (⟨FS.nil⟩, (i : Int)) ∧ i ≤ x.l.length ∧ ∀ (j : Nat) c, j < i → x.l[j]? = some c → InR c) (fun s => (x.l.length - s.2).toNat)
  (fun v => (∃ u, v = .inl u ∧ ¬ ∀ c ∈ x.l, InR c) ∨ (∃ u, v = .inr u ∧ ∀ c ∈ x.l, InR c))
  (by
   rintro s ⟨i, rfl, hi, hall⟩
   by_cases hlt : i < x.l.length
   ·have c : ilt (i : Int) (flen x) = true := Ye (by rw [Js]; omega)
    have g := Qb hlt
    by_cases hin : InR x.l[i]
    ·have c2 := (Jmm _).2 hin
     refine .inl ⟨_, by simp only [Z3, c, if_true, g, Jz, c2, Y4, if_false, Bool.false_eq_true, zf (i := i) (by omega)], ⟨i + 1, rfl, hlt, fun j d hj hd => ?_⟩, by simp only; omega⟩
     by_cases he : j = i
     ·subst he; rw [List.getElem?_eq_getElem hlt] at hd; cases hd; exact hin
     ·exact hall j d (by omega) hd
    ·have c2 : Qx x.l[i] = false := by rw [← Bool.not_eq_true, Jmm]; exact hin
     refine .inr ⟨.inl (⟨FS.nil⟩, 8), by simp only [Z3, c, if_true, g, Jz, c2, Zn], .inl ⟨_, rfl, fun h => hin (h _ (List.getElem_mem hlt))⟩⟩
   ·have c : ilt (i : Int) (flen x) = false := Yf (by rw [Js]; omega)
    refine .inr ⟨.inr ⟨FS.nil⟩, by simp only [Z3, c, if_false, Bool.false_eq_true], .inr ⟨_, rfl, fun d hd => ?_⟩⟩
    obtain ⟨j, hj⟩ := List.getElem?_of_mem hd
    exact hall j d (by have := (List.getElem?_eq_some_iff.1 hj).1; omega) hj)
  bigN (⟨FS.nil⟩, 0) ⟨0, rfl, by omega, fun j c hj => by omega⟩ (Xn (by simp only; omega))
 rcases hv with ⟨u, rfl, hn⟩ | ⟨u, rfl, hr⟩
 ·exact ⟨⟨FS.nil⟩, u.2, by simp only [zs, ev, Jz], fun h => (hn h).elim⟩
 ·obtain ⟨y, ey, hm, hs, hyl⟩ := Jyu x hN
  have hry : ∀ c ∈ y.l, InR c := fun c hc => hr c ((hm c).1 hc)
  obtain ⟨R, eR, hR⟩ := Xd (body := Xk y ⟨FS.nil⟩) (fun s => ∃ i : Nat, s.2 = i ∧ i ≤ y.l.length ∧ OfI y.l i s.1.Rows.l) (fun s => (y.l.length - s.2).toNat) (fun R => OfI y.l y.l.length R.Rows.l)
   (by
    rintro ⟨r, s1⟩ ⟨i, rfl, hi, I⟩
    by_cases hlt : i < y.l.length
    ·obtain ⟨r', e, I'⟩ := Of_step (by omega) hs hry ⟨FS.nil⟩ hlt I
     exact .inl ⟨_, e, ⟨i + 1, rfl, hlt, I'⟩, by simp only; omega⟩
    ·have c : ilt (i : Int) (flen y) = false := Yf (by rw [Js]; omega)
     have hi' : i = y.l.length := by omega
     subst hi'
     exact .inr ⟨⟨r.Rows⟩, by simp only [Xk, c, if_false, Bool.false_eq_true], I⟩)
   bigN (⟨FS.nil⟩, 0) ⟨0, rfl, by omega, OfI.zero _⟩ (Xn (by simp only; omega))
  refine ⟨⟨R.Rows⟩, 0, by simp only [zs, ev, Jz, ey, eR], fun _ => ⟨hR.rows, fun c => ?_⟩⟩
  rw [← hm c]
  have := hR.cells c
  rw [List.take_length] at this
  exact ⟨fun h => this.1 h.2, fun h => ⟨hR.rows, this.2 h⟩⟩
end Go.Proofs.Ytemehoioeoohmaa
namespace Go.Proofs.Ytemehoioeoohmaa
open Go Go.Vv Go.Proofs
set_option linter.unusedSimpArgs false
set_option linter.unusedVariables false
set_option linter.unusedSectionVars false
theorem Jqk (x : FS Jf) (hL : x.l.length ≤ 1000000) (n : Int) : ∃ b, ju x n = some b ∧ (b = true ↔ HasX x.l n) := by
 obtain ⟨v, e, h⟩ := Xd (body := Xu x n) (fun s => ∃ i : Nat, s = i ∧ i ≤ x.l.length ∧ ∀ (j : Nat) q, j < i → x.l[j]? = some q → ¬ (q.From ≤ n ∧ n < q.To)) (fun s => (x.l.length - s).toNat)
  (fun v => (v = .inl true ∧ HasX x.l n) ∨ (v = .inr () ∧ ¬ HasX x.l n))
  (by
   rintro s ⟨i, rfl, hi, hall⟩
   by_cases hlt : i < x.l.length
   ·have c : ilt (i : Int) (flen x) = true := Ye (by rw [Js]; omega)
    have g := Qb hlt
    by_cases hin : (x.l[i]).From ≤ n ∧ n < (x.l[i]).To
    ·have c2 : band (ile (x.l[i]).From n) (ilt n (x.l[i]).To) = true := by rw [Jbl, Jdp, jv]; exact hin
     exact .inr ⟨.inl true, by simp only [Xu, c, if_true, g, Jz, c2], .inl ⟨rfl, _, List.getElem_mem hlt, hin⟩⟩
    ·have c2 : band (ile (x.l[i]).From n) (ilt n (x.l[i]).To) = false := by rw [← Bool.not_eq_true, Jbl, Jdp, jv]; exact hin
     refine .inl ⟨_, by simp only [Xu, c, if_true, g, Jz, c2, if_false, Bool.false_eq_true, zf (i := i) (by omega)], ⟨i + 1, rfl, hlt, fun j q hj hq => ?_⟩, by omega⟩
     by_cases he : j = i
     ·subst he; rw [List.getElem?_eq_getElem hlt] at hq; cases hq; exact hin
     ·exact hall j q (by omega) hq
   ·have c : ilt (i : Int) (flen x) = false := Yf (by rw [Js]; omega)
    refine .inr ⟨.inr (), by simp only [Xu, c, if_false, Bool.false_eq_true], .inr ⟨rfl, ?_⟩⟩
    rintro ⟨q, hq, h⟩
    obtain ⟨j, hj⟩ := List.getElem?_of_mem hq
    exact hall j q (by have := (List.getElem?_eq_some_iff.1 hj).1; omega) hj h)
  bigN 0 ⟨0, rfl, by omega, fun j q hj => by omega⟩ (Xn (by omega))
 unfold ju
 rw [e, Jz]
 rcases h with ⟨rfl, h⟩ | ⟨rfl, h⟩
 ·exact ⟨true, rfl, fun _ => h, fun _ => rfl⟩
 ·exact ⟨false, rfl, fun h => (by cases h), fun h' => (h h').elim⟩
theorem Jni {α : Type} (x y : FS α) : (Jl8 x y).l.length = x.l.length + y.l.length := by rw [Jz5, List.length_append]
theorem Jwr (x k1 : FS Jf) (hL : x.l.length ≤ 1000000) : ∃ v, Ky (Xq x k1) bigN (FS.nil, 0) = some v ∧ v.l.length ≤ 2 * x.l.length := by
 refine Xd (body := Xq x k1) (fun s => ∃ i : Nat, s.2 = i ∧ i ≤ x.l.length ∧ s.1.l.length ≤ 2 * i) (fun s => (x.l.length - s.2).toNat) (fun v => v.l.length ≤ 2 * x.l.length) ?_ bigN (FS.nil, 0) ⟨0, rfl, by omega, Nat.le_refl _⟩ (Xn (by simp only; omega))
 rintro ⟨u, s1⟩ ⟨i, rfl, hi, hu⟩
 simp only at hu
 by_cases hlt : i < x.l.length
 ·have c : ilt (i : Int) (flen x) = true := Ye (by rw [Js]; omega)
  have g := Qb hlt
  have f : fits 8 (flen u + flen (flit [(x.l[i]).From, (x.l[i]).To])) = true := Xx (by rw [Js, Js]; omega) (by rw [Js, Js, Jdf]; simp; omega) (by omega)
  exact .inl ⟨(Jl8 u (flit [(x.l[i]).From, (x.l[i]).To]), ((i + 1 : Nat) : Int)), by simp only [Xq, c, if_true, g, Jz, f, zf (i := i) (by omega)], ⟨i + 1, rfl, hlt, by simp only; rw [Jni, Jdf]; simp; omega⟩, by simp only; omega⟩
 ·have c : ilt (i : Int) (flen x) = false := Yf (by rw [Js]; omega)
  exact .inr ⟨u, by simp only [Xq, c, if_false, Bool.false_eq_true], by omega⟩
theorem Jw9 (x : FS Jf) (hL : x.l.length ≤ 1000000) (w : FS Int) (hw : w.l.length ≤ 2000000) : ∃ v, Ky (Xs x) bigN (w, 0) = some v ∧ v.l.length ≤ 4000000 := by
 refine Xd (body := Xs x) (fun s => ∃ i : Nat, s.2 = i ∧ i ≤ x.l.length ∧ s.1.l.length ≤ 2000000 + 2 * i) (fun s => (x.l.length - s.2).toNat) (fun v => v.l.length ≤ 4000000) ?_ bigN (w, 0) ⟨0, rfl, by omega, hw⟩ (Xn (by simp only; omega))
 rintro ⟨u, s1⟩ ⟨i, rfl, hi, hu⟩
 simp only at hu
 by_cases hlt : i < x.l.length
 ·have c : ilt (i : Int) (flen x) = true := Ye (by rw [Js]; omega)
  have g := Qb hlt
  have f : fits 8 (flen u + flen (flit [(x.l[i]).From, (x.l[i]).To])) = true := Xx (by rw [Js, Js]; omega) (by rw [Js, Js, Jdf]; simp; omega) (by omega)
  exact .inl ⟨(Jl8 u (flit [(x.l[i]).From, (x.l[i]).To]), ((i + 1 : Nat) : Int)), by simp only [Xs, c, if_true, g, Jz, f, zf (i := i) (by omega)], ⟨i + 1, rfl, hlt, by simp only; rw [Jni, Jdf]; simp; omega⟩, by simp only; omega⟩
 ·have c : ilt (i : Int) (flen x) = false := Yf (by rw [Js]; omega)
  exact .inr ⟨u, by simp only [Xs, c, if_false, Bool.false_eq_true], by omega⟩
theorem J2p (x y : FS Jf) (hx : x.l.length ≤ 1000000) (hy : y.l.length ≤ 1000000) : ∃ v, z8 x y = some v ∧ v.l.length ≤ 4000000 := by
 obtain ⟨v1, e1, h1⟩ := Jwr x y hx
 obtain ⟨v2, e2, h2⟩ := Jw9 y hy v1 (by omega)
 obtain ⟨v3, e3, h3, -⟩ := Jrp ltI_ord Y9 Zd 4000000
  (fun i x => by
   have c : igt 0 0 = false := rfl
   simp only [Y9, c, Zi, Jz, Jb7, if_false, Bool.false_eq_true])
  (fun i x k a b hl ha hb => by
   have hk : k + 1 < x.l.length := (List.getElem?_eq_some_iff.1 ha).1
   have c : igt ((k + 1 : Nat) : Int) 0 = true := Jea (by omega)
   have g1 := Jam ha
   have g2 := Jam hb
   have cl : ilt a b = ltI a b := by rw [Bool.eq_iff_iff, jv]; simp [ltI]
   simp only [Y9, c, Yp, g1, ipred (k := k) (by omega), g2, Jz, Option.getD_some, Ja3, cl, Jlx hb, Jtt])
  (fun x i hl => by
   by_cases hi : i < x.l.length
   ·have c : ilt (i : Int) (flen x) = true := Ye (by rw [Js]; omega)
    simp only [Zd, c, if_true, if_pos hi, zf (i := i) (by omega)]
   ·have c : ilt (i : Int) (flen x) = false := Yf (by rw [Js]; omega)
    simp only [Zd, c, if_false, Bool.false_eq_true, if_neg hi])
  v2 h2 (by omega)
 exact ⟨v3, by simp only [z8, e1, e2, e3, Jz], by omega⟩
theorem Jig (x y : FS Jf) (hx : x.l.length ≤ 1000000) (hy : y.l.length ≤ 1000000) (hs : ∀ n, HasX x.l n → HasX y.l n) : Kz 2 x y = some FS.nil := by
 obtain ⟨v, ev, hv⟩ := J2p x y hx hy
 obtain ⟨u, eu, rfl⟩ := Xd (body := Q3 2 x y v) (fun s => ∃ i : Nat, s = (FS.nil, (i : Int)) ∧ i ≤ v.l.length) (fun s => (v.l.length - s.2).toNat) (fun u => u = FS.nil)
  (by
   rintro s ⟨i, rfl, hi⟩
   by_cases hlt : i + 1 < v.l.length
   ·have c : ilt ((i + 1 : Nat) : Int) (flen v) = true := Ye (by rw [Js]; omega)
    have g1 := Qb (x := v) (i := i) (by omega)
    have g2 : fget v ((i + 1 : Nat) : Int) = some (v.l[i + 1]) := Qb hlt
    refine .inl ⟨(FS.nil, ((i + 1 : Nat) : Int)), ?_, ⟨i + 1, rfl, by omega⟩, by simp only; omega⟩
    obtain ⟨b1, eb1, hb1⟩ := Jqk x hx (v.l[i]'(by omega))
    obtain ⟨b2, eb2, hb2⟩ := Jqk y hy (v.l[i]'(by omega))
    have hk : Jb2 2 b1 b2 = some (band b1 (bnot b2)) := rfl
    have hz : band b1 (bnot b2) = false := by
     cases b1 with
     | false => rfl
     | true => rw [hb2.2 (hs _ (hb1.1 rfl))]; rfl
    cases hq : ieq (v.l[i]'(by omega)) v.l[i + 1] with
    | true => simp only [Q3, c, if_true, g1, g2, Jz, hq, Y4, Zi, Jg5, zf (i := i) (by omega)]
    | false => simp only [Q3, c, if_true, g1, g2, Jz, hq, Zn, Yp, eb1, eb2, Option.getD_some, hk, hz, bor_t', zf (i := i) (by omega)]
   ·have c : ilt ((i + 1 : Nat) : Int) (flen v) = false := Yf (by rw [Js]; omega)
    exact .inr ⟨FS.nil, by simp only [Q3, zf (i := i) (by omega), c, if_false, Bool.false_eq_true], rfl⟩)
  bigN (FS.nil, 0) ⟨0, rfl, by omega⟩ (Xn (by simp only; omega))
 simp only [Kz, ev, Jz, eu]
theorem Jqn {a b : Ji} (ha : Jcc a) (hb : Jcc b) (hs : ∀ c, In a c → In b c) : ∃ r, zh a b = some r ∧ r.Rows.l = [] := by
 have La := Jdv ha
 have Lb := Jdv hb
 have va : K1 a = some true := by obtain ⟨v, e, h⟩ := Jc9 a La.big; rw [e, h.2 ha]
 have vb : K1 b = some true := by obtain ⟨v, e, h⟩ := Jc9 b Lb.big; rw [e, h.2 hb]
 have ra : ∀ {i : Nat} (hi : i < a.Rows.l.length), (a.Rows.l[i]).Runs.l.length ≤ 1000000 ∧ (a.Rows.l[i]).Runs.l ≠ [] := fun hi => ⟨La.2 _ (List.getElem_mem hi), (ha _ hi _ (List.getElem?_eq_getElem hi)).2.2.1⟩
 have rb : ∀ {i : Nat} (hi : i < b.Rows.l.length), (b.Rows.l[i]).Runs.l.length ≤ 1000000 := fun hi => Lb.2 _ (List.getElem_mem hi)
 have cell : ∀ {i : Nat} (hi : i < a.Rows.l.length), ∃ x, HasX (a.Rows.l[i]).Runs.l x := fun {i} hi => by
  have hv := Jlr ha (List.getElem_mem hi)
  have h0 : 0 < (a.Rows.l[i]).Runs.l.length := List.length_pos_iff.2 (ra hi).2
  have := hv 0 h0 _ (List.getElem?_eq_getElem h0)
  exact ⟨_, _, List.getElem_mem h0, Int.le_refl _, this.2.1⟩
 have inb : ∀ {i : Nat} (hi : i < a.Rows.l.length) (x : Int), HasX (a.Rows.l[i]).Runs.l x → ∃ j, ∃ hj : j < b.Rows.l.length, (b.Rows.l[j]).Y = (a.Rows.l[i]).Y ∧ HasX (b.Rows.l[j]).Runs.l x := fun {i} hi x hx => by
  obtain ⟨-, w, hw, hY, hX⟩ := hs ⟨x, (a.Rows.l[i]).Y⟩ ⟨ha, _, List.getElem_mem hi, rfl, hx⟩
  obtain ⟨j, hj, rfl⟩ := List.getElem_of_mem hw
  exact ⟨j, hj, hY, hX⟩
 obtain ⟨v, ev, hv⟩ := Xd (body := Qn 2 a b ⟨FS.nil⟩) (fun s => ∃ i k : Nat, s.2.1 = i ∧ s.2.2 = k ∧ i ≤ a.Rows.l.length ∧ k ≤ b.Rows.l.length ∧ s.1.Rows = FS.nil ∧
   (∀ (h : i < a.Rows.l.length) j (hj : j < b.Rows.l.length), j < k → (b.Rows.l[j]).Y < (a.Rows.l[i]).Y) ∧ (∀ (h : k < b.Rows.l.length) j (hj : j < a.Rows.l.length), j < i → (a.Rows.l[j]).Y < (b.Rows.l[k]).Y))
  (fun s => (a.Rows.l.length - s.2.1).toNat + (b.Rows.l.length - s.2.2).toNat) (fun v => v.Rows = FS.nil)
  (by
   rintro ⟨u, s1, s2⟩ ⟨i, k, rfl, rfl, hi, hk, hu, h1, h2⟩
   obtain ⟨ur⟩ := u
   simp only at hu
   subst hu
   have n0 : igt (flen (FS.nil : FS Jf)) 0 = false := rfl
   have isi : i < a.Rows.l.length → iadd .i64 (i : Int) 1 = ((i + 1 : Nat) : Int) := fun h => zf (i := i) (by have := La.1; omega)
   have isk : k < b.Rows.l.length → iadd .i64 (k : Int) 1 = ((k + 1 : Nat) : Int) := fun h => zf (i := k) (by have := Lb.1; omega)
   by_cases hia : i < a.Rows.l.length
   ·have ca : ilt (i : Int) (flen a.Rows) = true := Ye (by rw [Js]; omega)
    have ga := Qb hia
    have ya : ∀ y : Int, ieq y y = true := fun y => Jhh rfl
    obtain ⟨x, hx⟩ := cell hia
    obtain ⟨j, hj, hjY, -⟩ := inb hia x hx
    have hjk : k ≤ j := by
     apply Nat.le_of_not_lt
     intro hlt
     have := h1 hia j hj hlt
     omega
    have hkb : k < b.Rows.l.length := by omega
    have hle := Jh7 hb hjk hj
    have cb : ilt (k : Int) (flen b.Rows) = true := Ye (by rw [Js]; omega)
    have gb := Qb hkb
    have eb : ieq (k : Int) (flen b.Rows) = false := Jem (by rw [Js]; omega)
    by_cases hy : (a.Rows.l[i]).Y ≤ (b.Rows.l[k]).Y
    ·have hY : (b.Rows.l[k]).Y = (a.Rows.l[i]).Y := by omega
     have cy : ile (a.Rows.l[i]).Y (b.Rows.l[k]).Y = true := Jdp.2 hy
     have ce : ieq (b.Rows.l[k]).Y (a.Rows.l[i]).Y = true := Jhh hY
     have hcomb := Jig (a.Rows.l[i]).Runs (b.Rows.l[k]).Runs (ra hia).1 (rb hkb) (fun n hn => by
      obtain ⟨m, hm, hmY, hmX⟩ := inb hia n hn
      have : b.Rows.l[m] = b.Rows.l[k] := Jkk hb (List.getElem_mem hm) (List.getElem_mem hkb) (by omega)
      rw [← this]; exact hmX)
     refine .inl ⟨(⟨FS.nil⟩, ((i + 1 : Nat) : Int), ((k + 1 : Nat) : Int)), ?_, ⟨i + 1, k + 1, rfl, rfl, by omega, by omega, rfl, fun h j hj hjk => ?_, fun h j hj hji => ?_⟩, by simp only; omega⟩
     ·simp only [Qn, ca, cb, Jg5, if_true, eb, Zn, Ja3, Yp, ga, gb, Jz, Option.getD_some, cy, Jdx, ya, ce, hcomb, n0, if_false, Bool.false_eq_true, isi hia, isk hkb]
     ·have p1 := Jh7 hb (i := j) (j := k) (by omega) hkb
      have p2 := Jgk ha 1 i h (by omega)
      omega
     ·have p1 := Jh7 ha (i := j) (j := i) (by omega) hia
      have p2 := Jgk hb 1 k h (by omega)
      omega
    ·have cy : ile (a.Rows.l[i]).Y (b.Rows.l[k]).Y = false := by rw [← Bool.not_eq_true, Jdp]; exact hy
     have ce : ieq (a.Rows.l[i]).Y (b.Rows.l[k]).Y = false := Jem (by omega)
     have hcomb := Jig FS.nil (b.Rows.l[k]).Runs (Nat.zero_le _) (rb hkb) (fun n hn => by obtain ⟨q, hq, _⟩ := hn; cases hq)
     refine .inl ⟨(⟨FS.nil⟩, (i : Int), ((k + 1 : Nat) : Int)), ?_, ⟨i, k + 1, rfl, rfl, by omega, by omega, rfl, fun h j hj hjk => ?_, fun h j hj hji => ?_⟩, by simp only; omega⟩
     ·simp only [Qn, ca, cb, Jg5, if_true, eb, Zn, Ja3, Yp, ga, gb, Jz, Option.getD_some, cy, Jdx, ya, ce, hcomb, n0, if_false, Bool.false_eq_true, isk hkb]
     ·have p1 := Jh7 hb (i := j) (j := k) (by omega) hkb
      omega
     ·have p1 := h2 hkb j hj hji
      have p2 := Jgk hb 1 k h (by omega)
      omega
   ·have ca : ilt (i : Int) (flen a.Rows) = false := Yf (by rw [Js]; omega)
    by_cases hkb : k < b.Rows.l.length
    ·have cb : ilt (k : Int) (flen b.Rows) = true := Ye (by rw [Js]; omega)
     have gb := Qb hkb
     have ya : ∀ y : Int, ieq y y = true := fun y => Jhh rfl
     have eb : ieq (k : Int) (flen b.Rows) = false := Jem (by rw [Js]; omega)
     have hcomb := Jig FS.nil (b.Rows.l[k]).Runs (Nat.zero_le _) (rb hkb) (fun n hn => by obtain ⟨q, hq, _⟩ := hn; cases hq)
     refine .inl ⟨(⟨FS.nil⟩, (i : Int), ((k + 1 : Nat) : Int)), ?_, ⟨i, k + 1, rfl, rfl, by omega, by omega, rfl, fun h j hj hjk => (hia h).elim, fun h j hj hji => ?_⟩, by simp only; omega⟩
     ·simp only [Qn, ca, cb, Jdx, if_true, eb, Zn, Jd6, Zi, gb, Jz, Jb7, ya, Ja3, hcomb, n0, if_false, Bool.false_eq_true, isk hkb]
     ·have p1 := h2 hkb j hj hji
      have p2 := Jgk hb 1 k h (by omega)
      omega
    ·have cb : ilt (k : Int) (flen b.Rows) = false := Yf (by rw [Js]; omega)
     exact .inr ⟨⟨FS.nil⟩, by simp only [Qn, ca, cb, Jdx, if_false, Bool.false_eq_true], rfl⟩)
  bigN (⟨FS.nil⟩, 0, 0) ⟨0, 0, rfl, rfl, by omega, by omega, rfl, fun _ j _ hj => by omega, fun _ j _ hj => by omega⟩ (Xn (by simp only; have := La.1; have := Lb.1; omega))
 refine ⟨⟨v.Rows⟩, ?_, by rw [hv]; rfl⟩
 simp only [zh, Jas, va, vb, Jz, Y4, Zn, Yp, Option.getD_some, Jdx, if_false, Bool.false_eq_true, ev]
theorem Jyh {a b : Ji} (ha : Jcc a) (hb : Jcc b) (hs : ∀ c, In a c → In b c) : js a b = some true := by
 have va : K1 a = some true := by obtain ⟨v, e, h⟩ := Jc9 a (Jdv ha).big; rw [e, h.2 ha]
 have vb : K1 b = some true := by obtain ⟨v, e, h⟩ := Jc9 b (Jdv hb).big; rw [e, h.2 hb]
 obtain ⟨r, er, hr⟩ := Jqn ha hb hs
 have h0 : ieq (flen r.Rows) 0 = true := Jhh (by rw [Js, hr]; rfl)
 simp only [js, va, vb, Jz, Yp, Option.getD_some, Ja3, er, h0]
end Go.Proofs.Ytemehoioeoohmaa
namespace Go.Proofs.Ytemehoioeoohmaa
open Go Go.Vv Go.Proofs
set_option linter.unusedSimpArgs false
set_option linter.unusedVariables false
set_option linter.unusedSectionVars false
theorem J4z (c : Ja) : Qs c = true ↔ InR c := by
 unfold InR; simp only [Qs, Jbl, Jbc, jv]
 exact ⟨fun h => ⟨h.1.1.1, h.1.1.2, h.1.2, h.2⟩, fun h => ⟨⟨⟨h.1, h.2.1⟩, h.2.2.1⟩, h.2.2.2⟩⟩
theorem Jt5 {n : Int} (h0 : -100000 ≤ n) (h1 : n ≤ 100000) : jp n = (n.natAbs : Int) := by
 unfold jp
 rw [Jlm, show ineg .i64 n = -n from by unfold ineg; rw [w64 _ (by omega) (by omega)]; omega]
 omega
theorem sq_one {x y : Int} (h : x * x + y * y = 1) : x.natAbs + y.natAbs = 1 := by
 have e1 : x * x = ((x.natAbs * x.natAbs : Nat) : Int) := by rw [Int.natCast_mul]; exact Int.natAbs_mul_self.symm
 have e2 : y * y = ((y.natAbs * y.natAbs : Nat) : Int) := by rw [Int.natCast_mul]; exact Int.natAbs_mul_self.symm
 rw [e1, e2] at h
 have h' : x.natAbs * x.natAbs + y.natAbs * y.natAbs = 1 := by omega
 have a : x.natAbs ≤ 1 := by
  apply Nat.le_of_not_lt
  intro hx
  have := Nat.mul_le_mul hx hx
  omega
 have b : y.natAbs ≤ 1 := by
  apply Nat.le_of_not_lt
  intro hx
  have := Nat.mul_le_mul hx hx
  omega
 have ca : x.natAbs = 0 ∨ x.natAbs = 1 := by omega
 have cb : y.natAbs = 0 ∨ y.natAbs = 1 := by omega
 rcases ca with ca | ca <;> rcases cb with cb | cb <;> rw [ca, cb] at h' <;> omega
theorem nb_ref {a b : Ja} (ha : InR a) (hb : InR b) (h : nb a b) : Ql a b = true := by
 rw [J26 ha hb] at h
 have h1 := sq_one h
 obtain ⟨a1, a2, a3, a4⟩ := ha
 obtain ⟨b1, b2, b3, b4⟩ := hb
 unfold Ql
 rw [Zj (a := a.X) (b := b.X) (by omega) (by omega), Zj (a := a.Y) (b := b.Y) (by omega) (by omega), Jt5 (by omega) (by omega), Jt5 (by omega) (by omega), Jbb (by omega) (by omega), Jif]
 omega
theorem Jsv {t : Jd} (h : VT t) : Jao t = some true := by
 have hr := h.role
 have hl := h.len
 have c0 : bor (bor (bor (ilt t.Role 1) (igt t.Role 7)) (ilt (flen t.Cells) 1)) (igt (flen t.Cells) 65536) = false := by
  rw [← Bool.not_eq_true, Jaw, Jaw, Jaw, jv, Jew, jv, Jew, Js]; omega
 obtain ⟨v, ev, rfl⟩ := Xd (body := Yj t (flen t.Cells) t.Cells (flen t.Cells)) (fun s => ∃ i : Nat, s = i ∧ i ≤ t.Cells.l.length) (fun s => (t.Cells.l.length - s).toNat) (fun v => v = .inr ())
  (by
   rintro s ⟨i, rfl, hi⟩
   by_cases hlt : i < t.Cells.l.length
   ·have c : ilt (i : Int) (flen t.Cells) = true := Ye (by rw [Js]; omega)
    have g := Qb hlt
    have hin := h.inr _ (List.getElem_mem hlt)
    have hg := (J4z _).2 hin
    refine .inl ⟨_, ?_, ⟨i + 1, rfl, hlt⟩, by omega⟩
    by_cases h0 : 0 < i
    ·have c2 : igt (i : Int) 0 = true := Jea (by omega)
     have g2 := Jha h0 hlt (by omega)
     have hn := nb_ref (h.inr _ (List.getElem_mem (by omega : i - 1 < t.Cells.l.length))) hin (h.chn (i - 1) _ _ (List.getElem?_eq_getElem (by omega)) (by rw [show i - 1 + 1 = i by omega]; exact List.getElem?_eq_getElem hlt))
     simp only [Yj, c, if_true, g, Jz, hg, Y4, Zn, c2, Ja3, Yp, g2, Option.getD_some, hn, Jdx, if_false, Bool.false_eq_true, zf (i := i) (by omega)]
    ·have c2 : igt (i : Int) 0 = false := Jgc (by omega)
     simp only [Yj, c, if_true, g, Jz, hg, Y4, Zn, c2, Ja3, Jb7, Zi, Jdx, if_false, Bool.false_eq_true, zf (i := i) (by omega)]
   ·have c : ilt (i : Int) (flen t.Cells) = false := Yf (by rw [Js]; omega)
    exact .inr ⟨.inr (), by simp only [Yj, c, if_false, Bool.false_eq_true], rfl⟩)
  bigN 0 ⟨0, rfl, by omega⟩ (Xn (by omega))
 unfold Jao
 rw [c0]
 simp only [if_false, Bool.false_eq_true, ev, Jz]
 cases hc : t.Closed with
 | false => simp only [Zn, Jg5, Y4, Zi, Jz]
 | true =>
  by_cases h1 : t.Cells.l.length = 1
  ·have e1 : ieq (flen t.Cells) 1 = true := Jhh (by rw [Js]; omega)
   simp only [Y4, Jdx, e1, Zi, Jz, Jg5]
  ·have e1 : ieq (flen t.Cells) 1 = false := Jem (by rw [Js]; omega)
   have gl : fget t.Cells (isub .i64 (flen t.Cells) 1) = some (t.Cells.l[t.Cells.l.length - 1]'(by omega)) := by
    rw [Zj (by rw [Js]; omega) (by rw [Js]; omega), Js, show (t.Cells.l.length : Int) - 1 = ((t.Cells.l.length - 1 : Nat) : Int) by omega]
    exact Qb (by omega)
   have gf : fget t.Cells 0 = some (t.Cells.l[0]'(by omega)) := Qb (i := 0) (by omega)
   have hn := nb_ref (h.inr _ (List.getElem_mem (by omega : t.Cells.l.length - 1 < t.Cells.l.length))) (h.inr _ (List.getElem_mem (by omega : 0 < t.Cells.l.length))) (h.cls hc h1 _ _ (List.getElem?_eq_getElem (by omega)) (List.getElem?_eq_getElem (by omega)))
   simp only [Y4, Jdx, e1, Zn, Yp, gl, gf, Jz, Option.getD_some, hn]
theorem Jui (x : FS Jd) (hv : ∀ t ∈ x.l, VT t) (hL : x.l.length ≤ 1000) : ∃ y, zi x = some y ∧ y.l = Ja4 x.l ∧ y.l.length ≤ 65536000 := by
 obtain ⟨y, ey, hy⟩ := Xd (body := Zt x (flen x)) (fun s => ∃ i : Nat, s.2 = i ∧ i ≤ x.l.length ∧ s.1.l = Ja4 (x.l.take i) ∧ s.1.l.length ≤ 65536 * i) (fun s => (x.l.length - s.2).toNat) (fun y => y.l = Ja4 x.l ∧ y.l.length ≤ 65536000)
  (by
   rintro ⟨u, s1⟩ ⟨i, rfl, hi, hu, hul⟩
   simp only at hu hul
   by_cases hlt : i < x.l.length
   ·have c : ilt (i : Int) (flen x) = true := Ye (by rw [Js]; omega)
    have g := Qb hlt
    have ht := hv _ (List.getElem_mem hlt)
    have hl := ht.len
    have f : fits 16 (flen u + flen (x.l[i]).Cells) = true := Xx (by rw [Js, Js]; omega) (by rw [Js, Js]; omega) (by omega)
    refine .inl ⟨(Jl8 u (x.l[i]).Cells, ((i + 1 : Nat) : Int)), by simp only [Zt, c, if_true, g, Jz, Jsv ht, f, zf (i := i) (by omega)], ⟨i + 1, rfl, hlt, ?_, ?_⟩, by simp only; omega⟩
    ·simp only [Jz5, hu, List.take_succ_eq_append_getElem hlt, Ja4, List.flatMap_append, List.flatMap_cons, List.flatMap_nil, List.append_nil]
    ·simp only [Jni]; omega
   ·have c : ilt (i : Int) (flen x) = false := Yf (by rw [Js]; omega)
    have hi' : i = x.l.length := by omega
    subst hi'
    exact .inr ⟨u, by simp only [Zt, c, if_false, Bool.false_eq_true], by rw [hu, List.take_length], by omega⟩)
  bigN (FS.nil, 0) ⟨0, rfl, by omega, rfl, Nat.zero_le _⟩ (Xn (by simp only; omega))
 exact ⟨y, by simp only [zi, ey, Jz], hy⟩
def cnt (l : List Ja) (c : Ja) : Nat := l.countP fun x => band (ieq x.X c.X) (band (ieq x.Y c.Y) true)
theorem Jtn (x : FS Ja) (c : Ja) (hL : x.l.length ≤ 1000000000) : za x c = some (cnt x.l c : Int) := by
 obtain ⟨v, ev, rfl⟩ := Xd (body := Yc x c) (fun s => ∃ i : Nat, s = ((cnt (x.l.take i) c : Int), (i : Int)) ∧ i ≤ x.l.length) (fun s => (x.l.length - s.2).toNat) (fun v => v = (cnt x.l c : Int))
  (by
   rintro s ⟨i, rfl, hi⟩
   by_cases hlt : i < x.l.length
   ·have cc : ilt (i : Int) (flen x) = true := Ye (by rw [Js]; omega)
    have g := Qb hlt
    have hc : cnt (x.l.take i) c ≤ i := by
     have := List.countP_le_length (p := fun x => band (ieq x.X c.X) (band (ieq x.Y c.Y) true)) (l := x.l.take i)
     rw [List.length_take] at this
     unfold cnt; omega
    have hs : cnt (x.l.take (i + 1)) c = cnt (x.l.take i) c + if band (ieq (x.l[i]).X c.X) (band (ieq (x.l[i]).Y c.Y) true) = true then 1 else 0 := by
     unfold cnt
     rw [List.take_succ_eq_append_getElem hlt, List.countP_append, List.countP_singleton]
    cases hq : band (ieq (x.l[i]).X c.X) (band (ieq (x.l[i]).Y c.Y) true) with
    | true =>
     rw [hq, if_pos rfl] at hs
     exact .inl ⟨(((cnt (x.l.take (i + 1)) c : Nat) : Int), ((i + 1 : Nat) : Int)), by simp only [Yc, cc, if_true, g, Jz, hq, zf (i := i) (by omega), zf (i := cnt (x.l.take i) c) (by omega), hs], ⟨i + 1, rfl, hlt⟩, by simp only; omega⟩
    | false =>
     rw [hq, if_neg (by decide)] at hs
     have hs : cnt (x.l.take (i + 1)) c = cnt (x.l.take i) c := by omega
     exact .inl ⟨(((cnt (x.l.take (i + 1)) c : Nat) : Int), ((i + 1 : Nat) : Int)), by simp only [Yc, cc, if_true, g, Jz, hq, if_false, Bool.false_eq_true, zf (i := i) (by omega), hs], ⟨i + 1, rfl, hlt⟩, by simp only; omega⟩
   ·have cc : ilt (i : Int) (flen x) = false := Yf (by rw [Js]; omega)
    have hi' : i = x.l.length := by omega
    subst hi'
    exact .inr ⟨((cnt (x.l.take x.l.length) c : Nat) : Int), by simp only [Yc, cc, if_false, Bool.false_eq_true], by rw [List.take_length]⟩)
  bigN (0, 0) ⟨0, rfl, by omega⟩ (Xn (by simp only; omega))
 simp only [za, ev, Jz]
theorem alike_ok (x y : FS Ja) (hx : x.l.length ≤ 1000000000) (h : x.l.Perm y.l) : Jan x y = some true := by
 have hy := h.length_eq
 obtain ⟨v, ev, rfl⟩ := Xd (body := Zu x y) (fun s => ∃ i : Nat, s = (i : Int) ∧ i ≤ x.l.length) (fun s => (x.l.length - s).toNat) (fun v => v = .inr ())
  (by
   rintro s ⟨i, rfl, hi⟩
   by_cases hlt : i < x.l.length
   ·have cc : ilt (i : Int) (flen x) = true := Ye (by rw [Js]; omega)
    have g := Qb hlt
    have e : cnt x.l (x.l[i]) = cnt y.l (x.l[i]) := h.countP_eq _
    have cn : ine (cnt x.l (x.l[i]) : Int) (cnt y.l (x.l[i]) : Int) = false := by rw [← Bool.not_eq_true, Jm2, e]; exact fun h => h rfl
    exact .inl ⟨((i + 1 : Nat) : Int), by simp only [Zu, cc, if_true, g, Jz, Jtn x _ hx, Jtn y _ (by omega), cn, if_false, Bool.false_eq_true, zf (i := i) (by omega)], ⟨i + 1, rfl, hlt⟩, by omega⟩
   ·have cc : ilt (i : Int) (flen x) = false := Yf (by rw [Js]; omega)
    exact .inr ⟨.inr (), by simp only [Zu, cc, if_false, Bool.false_eq_true], rfl⟩)
  bigN 0 ⟨0, rfl, by omega⟩ (Xn (by omega))
 have e : ieq (flen x) (flen y) = true := Jhh (by rw [Js, Js, hy])
 simp only [Jan, ev, Jz, e]
def prT (o : Kj) : Jd := ⟨o.Role, false, o.Cells⟩
def prL (l : List Kj) : List Jd := (l.filter fun o => ieq o.Kind 3).map prT
theorem Jhc (a b : List Kj) : prL (a ++ b) = prL a ++ prL b := by simp [prL]
theorem J5a (x : FS Kj) (hL : x.l.length ≤ 1000000) : ∃ y, z9 x = some y ∧ y.l = prL x.l := by
 obtain ⟨y, ey, hy⟩ := Xd (body := Xr x) (fun s => ∃ i : Nat, s.2 = i ∧ i ≤ x.l.length ∧ s.1.l = prL (x.l.take i)) (fun s => (x.l.length - s.2).toNat) (fun y => y.l = prL x.l)
  (by
   rintro ⟨u, s1⟩ ⟨i, rfl, hi, hu⟩
   simp only at hu
   by_cases hlt : i < x.l.length
   ·have c : ilt (i : Int) (flen x) = true := Ye (by rw [Js]; omega)
    have g := Qb hlt
    have hul : u.l.length ≤ 1000000 := by
     rw [hu, prL, List.length_map]
     exact Nat.le_trans (List.length_filter_le ..) (by rw [List.length_take]; omega)
    have hs : prL (x.l.take (i + 1)) = prL (x.l.take i) ++ prL [x.l[i]] := by rw [List.take_succ_eq_append_getElem hlt, Jhc]
    cases hq : ieq (x.l[i]).Kind 3 with
    | true =>
     have f : fits 40 (flen u + 1) = true := Xx (by rw [Js]; omega) (by rw [Js]; omega) (by omega)
     refine .inl ⟨(Y0 u ⟨(x.l[i]).Role, false, (x.l[i]).Cells⟩, ((i + 1 : Nat) : Int)), by simp only [Xr, c, if_true, g, Jz, hq, f, zf (i := i) (by omega)], ⟨i + 1, rfl, hlt, ?_⟩, by simp only; omega⟩
     rw [hs, ← hu]
     simp only [Jap, prL, List.filter_cons, hq, if_true, List.filter_nil, List.map_cons, List.map_nil, prT]
    | false =>
     refine .inl ⟨(u, ((i + 1 : Nat) : Int)), by simp only [Xr, c, if_true, g, Jz, hq, if_false, Bool.false_eq_true, zf (i := i) (by omega)], ⟨i + 1, rfl, hlt, ?_⟩, by simp only; omega⟩
     rw [hs, ← hu]
     simp only [prL, List.filter_cons, hq, if_false, Bool.false_eq_true, List.filter_nil, List.map_nil, List.append_nil]
   ·have c : ilt (i : Int) (flen x) = false := Yf (by rw [Js]; omega)
    have hi' : i = x.l.length := by omega
    subst hi'
    exact .inr ⟨u, by simp only [Xr, c, if_false, Bool.false_eq_true], by rw [hu, List.take_length]⟩)
  bigN (FS.nil, 0) ⟨0, rfl, by omega, rfl⟩ (Xn (by simp only; omega))
 exact ⟨y, by simp only [z9, ey, Jz], hy⟩
end Go.Proofs.Ytemehoioeoohmaa
namespace Go.Proofs.Ytemehoioeoohmaa
open Go Go.Vv Go.Proofs
set_option linter.unusedSimpArgs false
set_option linter.unusedVariables false
set_option linter.unusedSectionVars false
inductive Go1 (r : Ji) (s : J6) : Ja → Bool → Kj → Ja → Bool → Prop
 | skip {p : Ja} {b : Bool} {o : Kj} (k : o.Kind = 1 ∨ o.Kind = 6) : Go1 r s p b o p b
 | flip {p : Ja} {b : Bool} {o : Kj} (k : o.Kind = 4 ∨ o.Kind = 5) : Go1 r s p b o p (bnot b)
 | trav {p q : Ja} {b : Bool} {o : Kj} (k : o.Kind = 2) (len : o.Cells.l.length ≤ 100000000) (last : o.Cells.l[o.Cells.l.length - 1]? = some q) (ins : b = false → 0 < s.Retract → Jcc r ∧ ∀ c ∈ o.Cells.l, In r c) : Go1 r s p b o q b
 | prnt {p q : Ja} {o : Kj} (k : o.Kind = 3) (len : o.Cells.l.length ≤ 100000000) (first : o.Cells.l[0]? = some p) (last : o.Cells.l[o.Cells.l.length - 1]? = some q) : Go1 r s p false o q false
inductive GoS (r : Ji) (s : J6) : Ja → Bool → List Kj → Ja → Bool → Prop
 | nil (p : Ja) (b : Bool) : GoS r s p b [] p b
 | cons {p q t : Ja} {a b c : Bool} {o : Kj} {l : List Kj} (h : Go1 r s p a o q b) (n : GoS r s q b l t c) : GoS r s p a (o :: l) t c
variable {r : Ji} {s : J6}
theorem GoS.append {p q t : Ja} {a b c : Bool} {l m : List Kj} (h : GoS r s p a l q b) : GoS r s q b m t c → GoS r s p a (l ++ m) t c := by
 induction h with
 | nil p b => intro h2; exact h2
 | cons h n ih => intro h2; exact .cons h (ih h2)
theorem GoS.one {p q : Ja} {a b : Bool} {o : Kj} (h : Go1 r s p a o q b) : GoS r s p a [o] q b := .cons h (.nil _ _)
theorem Go1.limv {p q : Ja} {a b : Bool} {o : Kj} (h : Go1 r s p a o q b) (v : Int) : Go1 r s p a (lim v o) q b := by
 have e : (lim v o).Kind = o.Kind ∧ (lim v o).Cells = o.Cells := by unfold lim; split <;> exact ⟨rfl, rfl⟩
 cases h with
 | skip k => exact .skip (by rw [e.1]; exact k)
 | flip k => exact .flip (by rw [e.1]; exact k)
 | trav k len last ins => exact .trav (by rw [e.1]; exact k) (by rw [e.2]; exact len) (by rw [e.2]; exact last) (by rw [e.2]; exact ins)
 | prnt k len first last => exact .prnt (by rw [e.1]; exact k) (by rw [e.2]; exact len) (by rw [e.2]; exact first) (by rw [e.2]; exact last)
theorem GoS.limv {p q : Ja} {a b : Bool} {l : List Kj} (h : GoS r s p a l q b) (v : Int) : GoS r s p a (l.map (lim v)) q b := by
 induction h with
 | nil p b => exact .nil _ _
 | cons h n ih => exact .cons (h.limv v) ih
theorem bnot_not (b : Bool) : bnot (bnot b) = b := by cases b <;> rfl
theorem go_step {pl : Qe} {y : FS Kj} {n : Nat} (hn : n < y.l.length) (hN : y.l.length ≤ 1000000) {p q at_ : Ja} {a b : Bool} (h : Go1 pl.Region s p a y.l[n] q b) :
  Kd pl s y at_ (p, a, (n : Int)) = some (.nx (q, b, ((n + 1 : Nat) : Int))) := by
 have c : ilt (n : Int) (flen y) = true := Ye (by rw [Js]; omega)
 have g := Qb hn
 have is1 := zf (i := n) (by omega)
 generalize y.l[n] = o at h g
 cases h with
 | skip k =>
  have k4 : bor (ieq o.Kind 4) (ieq o.Kind 5) = false := by rcases k with k | k <;> rw [k] <;> rfl
  have k2 : band (ine o.Kind 2) (ine o.Kind 3) = true := by rcases k with k | k <;> rw [k] <;> rfl
  simp only [Kd, c, if_true, g, Jz, k4, k2, if_false, Bool.false_eq_true, is1]
 | flip k =>
  have k4 : bor (ieq o.Kind 4) (ieq o.Kind 5) = true := by rcases k with k | k <;> rw [k] <;> rfl
  have k2 : band (ine o.Kind 2) (ine o.Kind 3) = true := by rcases k with k | k <;> rw [k] <;> rfl
  simp only [Kd, c, if_true, g, Jz, k4, k2, is1]
 | trav k len last ins =>
  have hl := (List.getElem?_eq_some_iff.1 last).1
  have k4 : bor (ieq o.Kind 4) (ieq o.Kind 5) = false := by rw [k]; rfl
  have k2 : band (ine o.Kind 2) (ine o.Kind 3) = false := by rw [k]; rfl
  have k3 : ieq o.Kind 3 = false := by rw [k]; rfl
  have kk : ieq o.Kind 2 = true := by rw [k]; rfl
  have e0 : ieq (flen o.Cells) 0 = false := Jem (by rw [Js]; omega)
  obtain ⟨cv, ee, eo, ho⟩ := Of_ok o.Cells (by omega)
  have gl : fget o.Cells (isub .i64 (flen o.Cells) 1) = some q := by
   rw [Zj (by rw [Js]; omega) (by rw [Js]; omega), Js, show (o.Cells.l.length : Int) - 1 = ((o.Cells.l.length - 1 : Nat) : Int) by omega]
   exact Jam last
  cases a with
  | true =>
   simp only [Kd, c, if_true, g, Jz, k4, k2, if_false, Bool.false_eq_true, e0, Zn, k3, Jd6, Zi, Jb7, Jdx, eo, kk, Y4, Ja3, gl, is1]
  | false =>
   cases hr : igt s.Retract 0 with
   | false =>
    simp only [Kd, c, if_true, g, Jz, k4, k2, if_false, Bool.false_eq_true, e0, Zn, k3, Jd6, Zi, Jb7, Jdx, eo, kk, Y4, Ja3, hr, gl, is1]
   | true =>
    obtain ⟨i1, i2⟩ := ins rfl (Jew.1 hr)
    obtain ⟨o1, o2⟩ := ho (fun d hd => by
     obtain ⟨hv, w, hw, hY, qx, hq, h1, h2⟩ := i2 d hd
     obtain ⟨j, hj, rfl⟩ := List.getElem_of_mem hw
     have gw := hv j hj _ (List.getElem?_eq_getElem hj)
     obtain ⟨m, hm⟩ := List.getElem?_of_mem hq
     have gq := gw.2.2.2.1 m (List.getElem?_eq_some_iff.1 hm).1 _ hm
     exact ⟨by omega, by omega, by omega, by omega⟩)
    have hw := Jyh o1 i1 (fun d hd => i2 d ((o2 d).1 hd))
    simp only [Kd, c, if_true, g, Jz, k4, k2, if_false, Bool.false_eq_true, e0, Zn, k3, Jd6, Zi, Jb7, Jdx, eo, kk, Y4, Ja3, hr, Yp, hw, Option.getD_some, gl, is1]
 | prnt k len first last =>
  have hl := (List.getElem?_eq_some_iff.1 last).1
  have k4 : bor (ieq o.Kind 4) (ieq o.Kind 5) = false := by rw [k]; rfl
  have k2 : band (ine o.Kind 2) (ine o.Kind 3) = false := by rw [k]; rfl
  have k3 : ieq o.Kind 3 = true := by rw [k]; rfl
  have kk : ieq o.Kind 2 = false := by rw [k]; rfl
  have e0 : ieq (flen o.Cells) 0 = false := Jem (by rw [Js]; omega)
  obtain ⟨cv, ee, eo, ho⟩ := Of_ok o.Cells (by omega)
  have gf : fget o.Cells 0 = some p := by show fget o.Cells ((0 : Nat) : Int) = _; exact Jam first
  have gl : fget o.Cells (isub .i64 (flen o.Cells) 1) = some q := by
   rw [Zj (by rw [Js]; omega) (by rw [Js]; omega), Js, show (o.Cells.l.length : Int) - 1 = ((o.Cells.l.length - 1 : Nat) : Int) by omega]
   exact Jam last
  have eq : band (ieq p.X p.X) (band (ieq p.Y p.Y) true) = true := (Jtw p p).2 rfl
  simp only [Kd, c, if_true, g, Jz, k4, k2, if_false, Bool.false_eq_true, e0, Zn, k3, Ja3, Yp, gf, Option.getD_some, eq, Y4, Jdx, eo, kk, Jb7, Zi, gl, is1]
theorem go_loop {pl : Qe} {y : FS Kj} (hN : y.l.length ≤ 1000000) {p q at_ : Ja} {a b : Bool} (h : GoS pl.Region s p a y.l q b) :
  Ky (Kd pl s y at_) bigN (p, a, 0) = some (.inr (q, b)) := by
 obtain ⟨v, ev, rfl⟩ := Xd (body := Kd pl s y at_) (fun st => ∃ n : Nat, st.2.2 = n ∧ n ≤ y.l.length ∧ GoS pl.Region s st.1 st.2.1 (y.l.drop n) q b) (fun st => (y.l.length - st.2.2).toNat) (fun v => v = .inr (q, b))
  (by
   rintro ⟨p1, a1, s1⟩ ⟨n, rfl, hn, hg⟩
   simp only at hg
   by_cases hlt : n < y.l.length
   ·rw [List.drop_eq_getElem_cons hlt] at hg
    cases hg with
    | @cons _ q1 _ _ b1 _ _ _ h1 n1 => exact .inl ⟨_, go_step hlt hN h1, ⟨n + 1, rfl, hlt, n1⟩, by simp only; omega⟩
   ·have c : ilt (n : Int) (flen y) = false := Yf (by rw [Js]; omega)
    rw [List.drop_eq_nil_of_le (by omega)] at hg
    cases hg
    exact .inr ⟨.inr (q, b), by simp only [Kd, c, if_false, Bool.false_eq_true], rfl⟩)
  bigN (p, a, 0) ⟨0, rfl, by omega, by simpa using h⟩ (Xn (by simp only; omega))
 exact ev
theorem Jpa {b : Ja} (hb : InR b) : ∀ (n : Nat) (c : Ja), InR c → dist c b = n → 0 < n → (Jhz b n c)[n - 1]? = some b
 | 0, _, _, _, h => absurd h (by omega)
 | 1, c, hc, hd, _ => by
  obtain ⟨h1, h2⟩ := J50 hb hc (by omega)
  have h0 : dist (nxt b c) b = 0 := by omega
  have e : nxt b c = b := by unfold dist at h0; exact Cell.ext' (by omega) (by omega)
  simp only [Jhz, e, Nat.sub_self, List.getElem?_cons_zero]
 | n + 2, c, hc, hd, _ => by
  obtain ⟨h1, h2⟩ := J50 hb hc (by omega)
  have := Jpa hb (n + 1) (nxt b c) h1 (by omega) (by omega)
  rw [Jhz]
  simpa using this
theorem trav_go (hr : Jcc r) {p q : Ja} (hp : InR p) (hq : InR q) : GoS r s p false (Jex r s p q) q false := by
 have hL := Jdv hr
 unfold Jex
 by_cases hpq : p = q
 ·rw [if_pos hpq]; subst hpq; exact .nil _ _
 ·rw [if_neg hpq]
  have hw := Ju5 hL hp hq hpq
  have hlast : (way r p q).1[(way r p q).1.length - 1]? = some q ∧ ((way r p q).2 = true → ∀ c ∈ (way r p q).1, In r c) := by
   obtain ⟨x, o, e, hx⟩ := Jxk hL (p := p) (q := q)
   unfold way; rw [e]
   cases o with
   | true =>
    obtain ⟨h1, h2, -, h4, h5⟩ := hx rfl
    have := h2 hpq
    refine ⟨?_, fun _ c hc => h5 c (List.mem_of_mem_drop hc)⟩
    show (x.l.drop 1)[(x.l.drop 1).length - 1]? = some q
    rw [List.length_drop, List.getElem?_drop, ← h4]
    congr 1; omega
   | false =>
    refine ⟨?_, fun h => by cases h⟩
    show (Jhz q (dist p q) p)[(Jhz q (dist p q) p).length - 1]? = some q
    rw [Jis]
    exact Jpa hq _ _ hp rfl (Jtv hpq)
  by_cases hin : (way r p q).2 = true
  ·rw [if_pos hin]
   exact .one (.trav rfl hw.2 hlast.1 (fun _ _ => ⟨hr, hlast.2 hin⟩))
  ·rw [if_neg hin]
   by_cases h0 : s.Retract = 0
   ·rw [if_pos h0]
    exact .one (.trav rfl hw.2 hlast.1 (fun _ h => by omega))
   ·rw [if_neg h0]
    exact .cons (.flip (.inl rfl)) (.cons (.trav rfl hw.2 hlast.1 (fun h => by cases h)) (.cons (.flip (.inr rfl)) (.nil _ _)))
theorem ends_get {t : Jd} (h : VT t) : t.Cells.l[0]? = some (fstC t) ∧ t.Cells.l[t.Cells.l.length - 1]? = some (lstC t) := by
 have hl := h.len
 unfold fstC lstC
 rw [List.getElem?_eq_getElem (by omega : 0 < t.Cells.l.length), List.getElem?_eq_getElem (by omega : t.Cells.l.length - 1 < t.Cells.l.length)]
 exact ⟨rfl, rfl⟩
theorem prn_go (hr : Jcc r) : ∀ (ts : List Jd) (p : Ja), InR p → (∀ t ∈ ts, VT t) → GoS r s p false (Jel r s p ts) (endC p ts) false
 | [], p, _, _ => .nil _ _
 | t :: ts, p, hp, hv => by
  have ht := hv t (List.mem_cons_self ..)
  have he := Jbz ht
  have hg := ends_get ht
  have hl := ht.len
  exact ((trav_go hr hp he.2.1).append (.one (.prnt rfl (by show t.Cells.l.length ≤ _; omega) hg.1 hg.2))).append (prn_go hr ts _ he.2.2 fun u hu => hv u (List.mem_cons_of_mem _ hu))
theorem lay_go {p q : Ja} {l : List Jd} {ops : List Kj} (h : LayR r s p l ops q) : Jcc r → InR p → (∀ t ∈ l, VT t) → GoS r s p false ops q false := by
 induction h with
 | done p => intro _ _ _; exact .nil _ _
 | @group p t g' rest g ts ops q same diff gre imp next ih =>
  intro hr hp hv
  have hg : ∀ u ∈ t :: g', VT u := fun u hu => hv u (List.mem_append_left _ hu)
  have hts := (imp.props (gre.valid hg)).1
  exact (prn_go hr ts p hp hts).append (ih hr (Jmi hp hts) fun u hu => hv u (List.mem_append_right _ hu))
theorem hdr_go (i : Int) (p : Ja) (b : Bool) : GoS r s p b (hdr i s) p b := .cons (.skip (.inl rfl)) (.cons (.skip (.inr rfl)) (.nil _ _))
theorem prL_trav (p q : Ja) : prL (Jex r s p q) = [] := by
 have e2 : ∀ c, ieq (op2 s c).Kind 3 = false := fun c => rfl
 have e4 : ieq op4.Kind 3 = false := rfl
 have e5 : ieq op5.Kind 3 = false := rfl
 unfold Jex
 split
 ·rfl
 ·split
  ·simp [prL, e2]
  ·split
   ·simp [prL, e2]
   ·simp [prL, e2, e4, e5]
def flat3 (t : Jd) : Jd := ⟨t.Role, false, .lst t.Cells.l⟩
theorem J0b : ∀ (ts : List Jd) (p : Ja), prL (Jel r s p ts) = ts.map flat3
 | [], _ => rfl
 | t :: ts, p => by
  rw [Jel, Jhc, Jhc, prL_trav, J0b ts]
  rfl
theorem flat3_ok {t : Jd} (h : VT t) : VT (flat3 t) :=
 ⟨h.role, h.len, h.inr, h.chn, fun h => by cases h⟩
theorem Jqt (l : List Jd) : Ja4 (l.map flat3) = Ja4 l := by
 induction l with
 | nil => rfl
 | cons t l ih => simp only [Ja4, List.map_cons, List.flatMap_cons] at *; rw [ih]; rfl
theorem Jvn {p q : Ja} {l : List Jd} {ops : List Kj} (h : LayR r s p l ops q) : (∀ t ∈ l, VT t) → (∀ t ∈ prL ops, VT t) ∧ (prL ops).length = l.length ∧ (Ja4 (prL ops)).Perm (Ja4 l) := by
 induction h with
 | done p => intro _; exact ⟨(fun t ht => by cases ht), rfl, List.Perm.refl _⟩
 | @group p t g' rest g ts ops q same diff gre imp next ih =>
  intro hv
  have hg : ∀ u ∈ t :: g', VT u := fun u hu => hv u (List.mem_append_left _ hu)
  obtain ⟨i1, i2, i3⟩ := ih (fun u hu => hv u (List.mem_append_right _ hu))
  obtain ⟨j1, j2, j3⟩ := imp.props (gre.valid hg)
  have k1 := gre.len
  have k2 := gre.cells hg
  rw [Jhc, J0b]
  refine ⟨fun u hu => ?_, ?_, ?_⟩
  ·rcases List.mem_append.1 hu with hu | hu
   ·obtain ⟨v, hv', rfl⟩ := List.mem_map.1 hu
    exact flat3_ok (j1 v hv')
   ·exact i1 u hu
  ·simp only [List.length_append, List.length_map]; omega
  ·have e1 : Ja4 (ts.map flat3 ++ prL ops) = Ja4 ts ++ Ja4 (prL ops) := by
    rw [← Jqt ts]; simp [Ja4]
   have e2 : Ja4 (t :: g' ++ rest) = Ja4 (t :: g') ++ Ja4 rest := by simp [Ja4]
   rw [e1, e2]
   exact (j3.trans k2).append i3
theorem prL_lim (v : Int) (l : List Kj) : prL (l.map (lim v)) = prL l := by
 have e : ∀ o, ieq (lim v o).Kind 3 = ieq o.Kind 3 ∧ prT (lim v o) = prT o := fun o => by unfold lim; split <;> exact ⟨rfl, rfl⟩
 induction l with
 | nil => rfl
 | cons o l ih =>
  simp only [prL, List.map_cons, List.filter_cons, (e o).1] at *
  split
  ·simp only [List.map_cons, (e o).2]; rw [ih]
  ·exact ih
theorem prL_hdr (i : Int) : prL (hdr i s) = [] := rfl
theorem Jpv (p : Qe) (s : J6) (hB : Big p.Region) : Zz p s = some true := by
 obtain ⟨b, eb, hb⟩ := few_ok p hB
 unfold Zz
 rw [eb, Jz]
 cases b with
 | false => simp only [Zn, if_true]; rfl
 | true =>
  obtain ⟨f1, f2⟩ := hb rfl
  simp only [Y4, if_false, Bool.false_eq_true]
  rcases Layer_ok hB p.Tracks (by omega) (fun t ht => by have := f2 t ht; omega) p.Index p.From s with ⟨e, -⟩ | ⟨y, q, ops, v, e, hin, hlay, hv, hy⟩
  ·rw [e, Jz]; rfl
  ·rw [e, Jz]
   have c0 : ine 0 0 = false := rfl
   have hol := hlay.len hin.trk
   have hyl : y.l.length = 2 + ops.length := by rw [hy, List.length_map, List.length_append]; rfl
   have hgo : GoS p.Region s p.From false y.l q false := by
    rw [hy]; exact ((hdr_go p.Index p.From false).append (lay_go hlay hin.reg hin.noz hin.trk)).limv v
   have hloop := go_loop (at_ := q) (by omega) hgo
   obtain ⟨z, ez, hz⟩ := J5a y (by omega)
   obtain ⟨l1, l2, l3⟩ := Jvn hlay hin.trk
   have hz' : z.l = prL ops := by rw [hz, hy, prL_lim, Jhc, prL_hdr, List.nil_append]
   obtain ⟨x1, ex1, hx1, hx1l⟩ := Jui z (by rw [hz']; exact l1) (by rw [hz', l2]; omega)
   obtain ⟨x2, ex2, hx2, hx2l⟩ := Jui p.Tracks hin.trk (by omega)
   have hal := alike_ok x1 x2 (by omega) (by rw [hx1, hx2, hz']; exact l3)
   have eq : band (ieq q.X q.X) (band (ieq q.Y q.Y) true) = true := (Jtw q q).2 rfl
   simp only [c0, if_false, Bool.false_eq_true, hloop, Jz, Zn, eq, Ja3, Yp, ez, Option.getD_some, ex1, ex2, hal]
   rfl
end Go.Proofs.Ytemehoioeoohmaa
namespace Go.Proofs.Ytemehoioeoohmaa
open Go Go.Vv Go.Proofs
set_option linter.unusedVariables false
set_option linter.unusedSectionVars false
def Jo5 : List CSh := [.i .i64, .i .i64]
def shRow : List CSh := [.i .i64, .sl Jo5]
def Jsk : List CSh := [.i .i64, .b, .sl Jo5]
def Jz8 : List CSh := [.sl Jsk, .sl shRow, .i .i64, .i .i64, .i .i64]
def shSet : List CSh := [.i .i64, .i .i64, .i .i64, .i .i64, .i .i64, .i .i64, .i .i64, .b, .i .i64, .i .i64, .i .i64, .i .i64, .i .i64, .i .i64, .i .i64, .i .i64, .i .i64, .i .i64, .i .i64, .i .i64]
theorem Jku {y : AV} (h : OfS (.i .i64) y) : ∃ n, y = .int .i64 n := by
 cases h with
 | int _ n _ => exact ⟨n, rfl⟩
theorem Jtk {W : World} {S : Nat → Prop} {L : List AV} {cs : List Value} (h : Reads W S shSet L cs) : ∃ s : J6, L = Jeg s := by
 unfold shSet at h
 rcases h with _ | ⟨⟨_⟩ | ⟨_, n0, w0⟩, -, -, h⟩
 rcases h with _ | ⟨⟨_⟩ | ⟨_, n1, w1⟩, -, -, h⟩
 rcases h with _ | ⟨⟨_⟩ | ⟨_, n2, w2⟩, -, -, h⟩
 rcases h with _ | ⟨⟨_⟩ | ⟨_, n3, w3⟩, -, -, h⟩
 rcases h with _ | ⟨⟨_⟩ | ⟨_, n4, w4⟩, -, -, h⟩
 rcases h with _ | ⟨⟨_⟩ | ⟨_, n5, w5⟩, -, -, h⟩
 rcases h with _ | ⟨⟨_⟩ | ⟨_, n6, w6⟩, -, -, h⟩
 rcases h with _ | ⟨⟨p⟩ | _, -, -, h⟩
 rcases h with _ | ⟨⟨_⟩ | ⟨_, n8, w8⟩, -, -, h⟩
 rcases h with _ | ⟨⟨_⟩ | ⟨_, n9, w9⟩, -, -, h⟩
 rcases h with _ | ⟨⟨_⟩ | ⟨_, n10, w10⟩, -, -, h⟩
 rcases h with _ | ⟨⟨_⟩ | ⟨_, n11, w11⟩, -, -, h⟩
 rcases h with _ | ⟨⟨_⟩ | ⟨_, n12, w12⟩, -, -, h⟩
 rcases h with _ | ⟨⟨_⟩ | ⟨_, n13, w13⟩, -, -, h⟩
 rcases h with _ | ⟨⟨_⟩ | ⟨_, n14, w14⟩, -, -, h⟩
 rcases h with _ | ⟨⟨_⟩ | ⟨_, n15, w15⟩, -, -, h⟩
 rcases h with _ | ⟨⟨_⟩ | ⟨_, n16, w16⟩, -, -, h⟩
 rcases h with _ | ⟨⟨_⟩ | ⟨_, n17, w17⟩, -, -, h⟩
 rcases h with _ | ⟨⟨_⟩ | ⟨_, n18, w18⟩, -, -, h⟩
 rcases h with _ | ⟨⟨_⟩ | ⟨_, n19, w19⟩, -, -, h⟩
 cases h
 exact ⟨⟨n0, n1, n2, n3, n4, n5, n6, p, n8, n9, n10, n11, n12, n13, n14, n15, n16, n17, n18, n19⟩, rfl⟩
theorem Jo6 : ∀ (n : Nat) (L : List AV), L.length = n * 2 → (∀ i j x y, i < n → Jo5[j]? = some x → L[i * 2 + j]? = some y → OfS x y) → ∃ l : List Ja, L = Jp Je l ∧ l.length = n
 | 0, L, hl, _ => by
  rw [Nat.zero_mul] at hl
  exact ⟨[], by rw [List.length_eq_zero_iff.1 hl]; rfl, rfl⟩
 | n + 1, L, hl, h => by
  match L, hl, h with
  | a :: b :: R, hl, h =>
   obtain ⟨a', rfl⟩ := Jku (h 0 0 _ a (by omega) rfl rfl)
   obtain ⟨b', rfl⟩ := Jku (h 0 1 _ b (by omega) rfl rfl)
   obtain ⟨l, e1, e2⟩ := Jo6 n R (by simp only [List.length_cons] at hl; omega) (fun i j x y hi hx hy => h (i + 1) j x y (by omega) hx (by
    have : (i + 1) * 2 + j = (i * 2 + j) + 2 := by omega
    rw [this]; try rw [Jz]
    exact hy))
   exact ⟨⟨a', b'⟩ :: l, by rw [e1]; rfl, by rw [List.length_cons, e2]⟩
  | [], hl, _ => simp at hl
  | [_], hl, _ => simp at hl; omega
theorem cells_of {y : AV} (h : OfS (.sl Jo5) y) : ∃ x : FS Ja, y = encF Je x := by
 cases h with
 | nils => exact ⟨.nil, rfl⟩
 | lst _ n L hl hn hh =>
  obtain ⟨l, rfl, e2⟩ := Jo6 n L hl hh
  subst e2
  exact ⟨.lst l, rfl⟩
theorem Jqg : ∀ (n : Nat) (L : List AV), L.length = n * 2 → (∀ i j x y, i < n → Jo5[j]? = some x → L[i * 2 + j]? = some y → OfS x y) → ∃ l : List Jf, L = Jp J9 l ∧ l.length = n
 | 0, L, hl, _ => by
  rw [Nat.zero_mul] at hl
  exact ⟨[], by rw [List.length_eq_zero_iff.1 hl]; rfl, rfl⟩
 | n + 1, L, hl, h => by
  match L, hl, h with
  | a :: b :: R, hl, h =>
   obtain ⟨a', rfl⟩ := Jku (h 0 0 _ a (by omega) rfl rfl)
   obtain ⟨b', rfl⟩ := Jku (h 0 1 _ b (by omega) rfl rfl)
   obtain ⟨l, e1, e2⟩ := Jqg n R (by simp only [List.length_cons] at hl; omega) (fun i j x y hi hx hy => h (i + 1) j x y (by omega) hx (by
    have : (i + 1) * 2 + j = (i * 2 + j) + 2 := by omega
    rw [this]; try rw [Jz]
    exact hy))
   exact ⟨⟨a', b'⟩ :: l, by rw [e1]; rfl, by rw [List.length_cons, e2]⟩
  | [], hl, _ => simp at hl
  | [_], hl, _ => simp at hl; omega
theorem J0m : maxLen = 9223372036854775807 := rfl
theorem runs_of {y : AV} (h : OfS (.sl Jo5) y) : ∃ x : FS Jf, y = encF J9 x ∧ x.l.length ≤ 9223372036854775807 := by
 cases h with
 | nils => exact ⟨.nil, rfl, Nat.zero_le _⟩
 | lst _ n L hl hn hh =>
  obtain ⟨l, rfl, e2⟩ := Jqg n L hl hh
  subst e2
  exact ⟨.lst l, rfl, by rw [← J0m]; exact hn⟩
theorem Jre : ∀ (n : Nat) (L : List AV), L.length = n * 2 → (∀ i j x y, i < n → shRow[j]? = some x → L[i * 2 + j]? = some y → OfS x y) → ∃ l : List Jm, L = Jp Jg l ∧ l.length = n ∧ ∀ w ∈ l, w.Runs.l.length ≤ 9223372036854775807
 | 0, L, hl, _ => by
  rw [Nat.zero_mul] at hl
  exact ⟨[], by rw [List.length_eq_zero_iff.1 hl]; rfl, rfl, fun w h => by cases h⟩
 | n + 1, L, hl, h => by
  match L, hl, h with
  | a :: b :: R, hl, h =>
   obtain ⟨a', rfl⟩ := Jku (h 0 0 _ a (by omega) rfl rfl)
   obtain ⟨b', rfl, hb⟩ := runs_of (h 0 1 _ b (by omega) rfl rfl)
   obtain ⟨l, e1, e2, e3⟩ := Jre n R (by simp only [List.length_cons] at hl; omega) (fun i j x y hi hx hy => h (i + 1) j x y (by omega) hx (by
    have : (i + 1) * 2 + j = (i * 2 + j) + 2 := by omega
    rw [this]; try rw [Jz]
    exact hy))
   exact ⟨⟨a', b'⟩ :: l, by rw [e1]; rfl, by rw [List.length_cons, e2], fun w hw => by
    rcases List.mem_cons.1 hw with rfl | hw
    ·exact hb
    ·exact e3 w hw⟩
  | [], hl, _ => simp at hl
  | [_], hl, _ => simp at hl; omega
theorem rows_of {y : AV} (h : OfS (.sl shRow) y) : ∃ x : FS Jm, y = encF Jg x ∧ Big ⟨x⟩ := by
 cases h with
 | nils => exact ⟨.nil, rfl, Nat.zero_le _, fun w h => by cases h⟩
 | lst _ n L hl hn hh =>
  obtain ⟨l, rfl, e2, e3⟩ := Jre n L hl hh
  subst e2
  exact ⟨.lst l, rfl, by rw [← J0m]; exact hn, e3⟩
theorem bool_of {y : AV} (h : OfS .b y) : ∃ b, y = .bool b := by
 cases h with
 | bool b => exact ⟨b, rfl⟩
theorem Jnr : ∀ (n : Nat) (L : List AV), L.length = n * 3 → (∀ i j x y, i < n → Jsk[j]? = some x → L[i * 3 + j]? = some y → OfS x y) → ∃ l : List Jd, L = Jp Jh l ∧ l.length = n
 | 0, L, hl, _ => by
  rw [Nat.zero_mul] at hl
  exact ⟨[], by rw [List.length_eq_zero_iff.1 hl]; rfl, rfl⟩
 | n + 1, L, hl, h => by
  match L, hl, h with
  | a :: b :: c :: R, hl, h =>
   obtain ⟨a', rfl⟩ := Jku (h 0 0 _ a (by omega) rfl rfl)
   obtain ⟨b', rfl⟩ := bool_of (h 0 1 _ b (by omega) rfl rfl)
   obtain ⟨c', rfl⟩ := cells_of (h 0 2 _ c (by omega) rfl rfl)
   obtain ⟨l, e1, e2⟩ := Jnr n R (by simp only [List.length_cons] at hl; omega) (fun i j x y hi hx hy => h (i + 1) j x y (by omega) hx (by
    have : (i + 1) * 3 + j = (i * 3 + j) + 3 := by omega
    rw [this]; try rw [Jz]
    exact hy))
   exact ⟨⟨a', b', c'⟩ :: l, by rw [e1]; rfl, by rw [List.length_cons, e2]⟩
  | [], hl, _ => simp at hl
  | [_], hl, _ => simp at hl; omega
  | [_, _], hl, _ => simp at hl; omega
theorem J23 {y : AV} (h : OfS (.sl Jsk) y) : ∃ x : FS Jd, y = encF Jh x := by
 cases h with
 | nils => exact ⟨.nil, rfl⟩
 | lst _ n L hl hn hh =>
  obtain ⟨l, rfl, e2⟩ := Jnr n L hl hh
  subst e2
  exact ⟨.lst l, rfl⟩
theorem plan_of {W : World} {S : Nat → Prop} {L : List AV} {cs : List Value} (h : Reads W S Jz8 L cs) : ∃ p : Qe, L = [encF Jh p.Tracks, encF Jg p.Region.Rows, .int .i64 p.Index, .int .i64 p.From.X, .int .i64 p.From.Y] ∧ Big p.Region := by
 unfold Jz8 at h
 rcases h with _ | ⟨o0, -, -, h⟩
 rcases h with _ | ⟨o1, -, -, h⟩
 rcases h with _ | ⟨o2, -, -, h⟩
 rcases h with _ | ⟨o3, -, -, h⟩
 rcases h with _ | ⟨o4, -, -, h⟩
 cases h
 obtain ⟨t, rfl⟩ := J23 o0
 obtain ⟨r, rfl, hB⟩ := rows_of o1
 obtain ⟨i, rfl⟩ := Jku o2
 obtain ⟨x, rfl⟩ := Jku o3
 obtain ⟨y, rfl⟩ := Jku o4
 exact ⟨⟨t, ⟨r⟩, i, ⟨x, y⟩⟩, rfl, hB⟩
end Go.Proofs.Ytemehoioeoohmaa
