/- Plain tools: what the words of the printed texts mean, loops. Conditions: none. -/
import Derived.Test.YtaammoealihpmaaGreatFA
import Derived.Test.YtaammoealihpmaaGreatXC
namespace Go.Dn
open Go Go.Vv Go.Dn.W
set_option linter.unusedVariables false
set_option linter.unusedSimpArgs false
section words
variable {α β : Type}
theorem w_br (c : Bool) (x y : Option α) : @W.br wv α c x y = if c = true then x else y := rfl
theorem w_gd (c : Bool) (x : Option α) : @W.gd wv α c x = if c = true then x else none := rfl
theorem w_ge (l : List β) (i : Int) (k : β → Option α) : @W.ge wv α β l i k = obind (fget l i) k := rfl
theorem w_call (c : Ctr) (a : c.aT.T) (k : c.rT.T → Option α) : @W.call wv α c a k = obind (c.fn a) k := rfl
theorem w_loop {A B : Type} (b : A → Option (Nx A B)) (a : A) (k : B → Option α) : @W.loop wv A B α b a k = obind (loopN b bigN a) k := rfl
theorem w_join {B : Type} (x : Option B) (k : B → Option α) : @W.join wv B α x k = obind x k := rfl
theorem jo_s {B : Type} {x : Option B} {k : B → Option α} {e : B} (h : x = some e) : @W.join wv B α x k = k e := by rw [w_join, h]; rfl
theorem w_ln (l : List α) : @W.ln wv α l = (l.length : Int) := rfl
theorem w_pl (a b : Int) : @W.pl wv a b = a + b := rfl
theorem w_ib (i n : Int) : @W.ib wv i n = decide (0 ≤ i ∧ i < n) := rfl
theorem w_le (a b : Int) : @W.le wv a b = decide (a ≤ b) := rfl
theorem w_ft (b : Nat) (n : Int) : @W.ft wv b n = decide (n * b ≤ room ∧ n ≤ 9223372036854775807) := rfl
theorem w_ap (l m : List α) : @W.ap wv α l m = l ++ m := rfl
theorem w_ct (l : List α) (a n : Int) : @W.ct wv α l a n = (l.drop a.toNat).take n.toNat := rfl
theorem w_st (l : List α) (i : Int) (x : α) : @W.st wv α l i x = l.set i.toNat x := rfl
theorem w_ml (l : List α) (f : α → α) : @W.ml wv α l f = modLast l f := rfl
theorem w_nt (a : Bool) : @W.nt wv a = !a := rfl
theorem w_an (a b : Bool) : @W.an wv a b = (a && b) := rfl
theorem w_be (a b : Bool) : @W.be wv a b = (a == b) := rfl
theorem w_add (a b : Int) : @W.ar wv .add .i64 a b = IntKind.wrap .i64 (a + b) := rfl
theorem w_sub (a b : Int) : @W.ar wv .sub .i64 a b = IntKind.wrap .i64 (a - b) := rfl
theorem w_rem (a b : Int) : @W.ar wv .rem .i64 a b = a.tmod b := rfl
theorem w_eql (a b : Int) : @W.cm wv .eql a b = (a == b) := rfl
theorem w_neq (a b : Int) : @W.cm wv .neq a b = (a != b) := rfl
theorem w_lss (a b : Int) : @W.cm wv .lss a b = decide (a < b) := rfl
theorem w_leq (a b : Int) : @W.cm wv .leq a b = decide (a ≤ b) := rfl
theorem w_gtr (a b : Int) : @W.cm wv .gtr a b = decide (a > b) := rfl
theorem w_geq (a b : Int) : @W.cm wv .geq a b = decide (a ≥ b) := rfl
theorem wr {n : Int} (h : -9223372036854775808 ≤ n) (h2 : n ≤ 9223372036854775807) : IntKind.wrap .i64 n = n := by
 rw [IntKind.wrap_i64, Int.emod_eq_of_lt] <;> omega
theorem fg {l : List α} {i : Nat} {x : α} (h : l[i]? = some x) : fget l (i : Int) = some x := by
 unfold fget
 rw [if_pos (by omega), Int.toNat_natCast, h]
theorem fgz {l : List α} {i : Int} (j : Nat) {x : α} (e : i = j) (h : l[j]? = some x) : fget l i = some x := by subst e; exact fg h
theorem fg0 {l : List α} {x : α} (h : l[0]? = some x) : fget l 0 = some x := fg h
theorem ge_s {l : List β} {i : Int} {k : β → Option α} {x : β} (h : fget l i = some x) : @W.ge wv α β l i k = k x := by rw [w_ge, h]; rfl
theorem ca_s {c : Ctr} {a : c.aT.T} {k : c.rT.T → Option α} {r : c.rT.T} (h : c.fn a = some r) : @W.call wv α c a k = k r := by rw [w_call, h]; rfl
theorem lo_s {A B : Type} {b : A → Option (Nx A B)} {a : A} {k : B → Option α} {e : B} (h : loopN b bigN a = some e) : @W.loop wv A B α b a k = k e := by rw [w_loop, h]; rfl
theorem br_t {c : Bool} {x y : Option α} (h : c = true) : @W.br wv α c x y = x := by rw [w_br, if_pos h]
theorem br_f {c : Bool} {x y : Option α} (h : c = false) : @W.br wv α c x y = y := by rw [w_br, h]; rfl
theorem gd_t {c : Bool} {x : Option α} (h : c = true) : @W.gd wv α c x = x := by rw [w_gd, if_pos h]
theorem br_lt {a b : Int} {x y : Option α} (h : a < b) : @W.br wv α (@W.cm wv .lss a b) x y = x := br_t (by rw [w_lss]; exact decide_eq_true h)
theorem br_nlt {a b : Int} {x y : Option α} (h : ¬ a < b) : @W.br wv α (@W.cm wv .lss a b) x y = y := br_f (by rw [w_lss]; exact decide_eq_false h)
theorem gd_ft {b : Nat} {n : Int} {x : Option α} (h : n * b ≤ room ∧ n ≤ 9223372036854775807) : @W.gd wv α (@W.ft wv b n) x = x := gd_t (by rw [w_ft]; exact decide_eq_true h)
theorem gd_ib {i n : Int} {x : Option α} (h : 0 ≤ i ∧ i < n) : @W.gd wv α (@W.ib wv i n) x = x := gd_t (by rw [w_ib]; exact decide_eq_true h)
end words
section loops
variable {A B : Type} {b : A → Option (Nx A B)}
theorem loop_go {n : Nat} {s s' : A} (h : b s = some (.go s')) : loopN b (n + 1) s = loopN b n s' := by simp only [loopN, h]
theorem loop_out {n : Nat} {s : A} {e : B} (h : b s = some (.out e)) : loopN b (n + 1) s = some e := by simp only [loopN, h]
theorem loop_stn (st : Nat → A) {e : B} : ∀ (k i N M : Nat), N = i + k → k < M → (∀ j, i ≤ j → j < N → b (st j) = some (.go (st (j + 1)))) → b (st N) = some (.out e) → loopN b M (st i) = some e
 | 0, i, N, M + 1, hN, hM, h1, h2 => by
  subst hN
  exact loop_out h2
 | k + 1, i, N, M + 1, hN, hM, h1, h2 => by
  rw [loop_go (h1 i (Nat.le_refl _) (by omega))]
  exact loop_stn st k (i + 1) N M (by omega) (by omega) (fun j hj => h1 j (by omega)) h2
theorem loop_st (st : Nat → A) (N : Nat) {e : B} (hN : N < 1000000000000) (h1 : ∀ i, i < N → b (st i) = some (.go (st (i + 1)))) (h2 : b (st N) = some (.out e)) : loopN b bigN (st 0) = some e :=
 loop_stn st N 0 N bigN (by omega) (by unfold bigN; omega) (fun j _ hj => h1 j hj) h2
open Classical in
theorem loop_all (st : Nat → A) (N : Nat) (hN : N < 1000000000000) (good : Nat → Prop) {bad fin : B}
  (h1 : ∀ i, i < N → (∀ j, j < i → good j) → (good i → b (st i) = some (.go (st (i + 1)))) ∧ (¬ good i → b (st i) = some (.out bad))) (h2 : (∀ i, i < N → good i) → b (st N) = some (.out fin)) :
  loopN b bigN (st 0) = some (if ∀ i, i < N → good i then fin else bad) := by
 by_cases hg : ∀ i, i < N → good i
 ·rw [if_pos hg]
  exact loop_st st N hN (fun i hi => (h1 i hi fun j hj => hg j (by omega)).1 (hg i hi)) (h2 hg)
 ·rw [if_neg hg]
  have : ∃ i, i < N ∧ ¬ good i ∧ ∀ j, j < i → good j := by
   simp only [Classical.not_forall] at hg
   obtain ⟨i, hi, hn⟩ := hg
   induction i using Nat.strongRecOn with
   | _ i ih =>
    by_cases h : ∀ j, j < i → good j
    ·exact ⟨i, hi, hn, h⟩
    ·simp only [Classical.not_forall] at h
     obtain ⟨j, hj, hnj⟩ := h
     exact ih j hj (by omega) hnj
  obtain ⟨i, hi, hn, hlt⟩ := this
  exact loop_st st i (by omega) (fun j hj => (h1 j (by omega) fun k hk => hlt k (by omega)).1 (hlt j hj)) ((h1 i hi hlt).2 hn)
theorem loop_find {α : Type} (l : List α) (hl : l.length < 1000000000000) (st : Nat → A) (p : α → Bool) (out : α → B) (nf : B)
  (h1 : ∀ i x, i < l.length → l[i]? = some x → b (st i) = if p x = true then some (.out (out x)) else some (.go (st (i + 1)))) (h2 : b (st l.length) = some (.out nf)) :
  loopN b bigN (st 0) = some (match l.find? p with | some x => out x | none => nf) := by
 have key : ∀ (m : List α) (i M : Nat), i + m.length = l.length → m.length < M → (∀ j, m[j]? = l[i + j]?) → loopN b M (st i) = some (match m.find? p with | some x => out x | none => nf) := by
  intro m
  induction m with
  | nil =>
   intro i M hi hM hm
   have : i = l.length := by simpa using hi
   subst this
   cases M with
   | zero => simp at hM
   | succ M => exact loop_out h2
  | cons x m ih =>
   intro i M hi hM hm
   simp only [List.length_cons] at hi hM
   have hx : l[i]? = some x := by have := hm 0; simpa using this.symm
   have := h1 i x (by omega) hx
   cases M with
   | zero => omega
   | succ M =>
    cases hp : p x with
    | true =>
     rw [hp, if_pos rfl] at this
     rw [loop_out this, List.find?_cons_of_pos (by exact hp)]
    | false =>
     rw [hp, if_neg (by simp)] at this
     rw [loop_go this, List.find?_cons_of_neg (by simp [hp])]
     exact ih (i + 1) M (by omega) (by omega) fun j => by have := hm (j + 1); rw [List.getElem?_cons_succ] at this; rw [this]; congr 1; omega
 exact key l 0 bigN (by simp) (by unfold bigN; omega) fun j => by simp
end loops
section lists
variable {α β : Type}
theorem take_succ_of {l : List α} {i : Nat} {x : α} (h : l[i]? = some x) : l.take (i + 1) = l.take i ++ [x] := by
 rw [List.take_add_one, h]; rfl
theorem flat_take {f : α → List β} {l : List α} {i : Nat} {x : α} (h : l[i]? = some x) : (l.take (i + 1)).flatMap f = (l.take i).flatMap f ++ f x := by
 rw [take_succ_of h, List.flatMap_append, List.flatMap_cons, List.flatMap_nil, List.append_nil]
theorem map_take_of {f : α → β} {l : List α} {i : Nat} {x : α} (h : l[i]? = some x) : (l.take (i + 1)).map f = (l.take i).map f ++ [f x] := by
 rw [take_succ_of h, List.map_append]; rfl
def rng (a : Int) (n : Nat) : List Int := (List.range n).map fun i : Nat => a + (i : Int)
theorem rng_succ (a : Int) (n : Nat) : rng a (n + 1) = rng a n ++ [a + (n : Int)] := by simp [rng, List.range_succ]
theorem rng_len (a : Int) (n : Nat) : (rng a n).length = n := by simp [rng]
theorem mem_rng {a x : Int} {n : Nat} : x ∈ rng a n ↔ a ≤ x ∧ x < a + n := by
 simp only [rng, List.mem_map, List.mem_range]
 constructor
 ·rintro ⟨i, hi, rfl⟩; omega
 ·intro h; exact ⟨(x - a).toNat, by omega, by omega⟩
theorem flat_len_le {f : α → List β} {l : List α} {n : Nat} (h : ∀ x ∈ l, (f x).length ≤ n) : (l.flatMap f).length ≤ l.length * n := by
 induction l with
 | nil => simp
 | cons x l ih =>
  have := h x (List.mem_cons_self ..)
  have := ih fun y hy => h y (List.mem_cons_of_mem _ hy)
  simp only [List.flatMap_cons, List.length_append, List.length_cons, Nat.add_mul]
  omega
theorem modLast_app (f : α → α) (x : α) : ∀ l : List α, modLast (l ++ [x]) f = l ++ [f x]
 | [] => rfl
 | [y] => rfl
 | y :: z :: l => by
  show y :: modLast (z :: (l ++ [x])) f = _
  rw [show z :: (l ++ [x]) = (z :: l) ++ [x] from rfl, modLast_app f x (z :: l)]
  rfl
theorem set_last (l : List α) (x y : α) : (l ++ [x]).set l.length y = l ++ [y] := by
 rw [List.set_append_right _ _ (Nat.le_refl _), Nat.sub_self]; rfl
theorem get_last (l : List α) (x : α) : (l ++ [x])[l.length]? = some x := by
 rw [List.getElem?_append_right (Nat.le_refl _), Nat.sub_self]; rfl
end lists
end Go.Dn
namespace Go.Dn
set_option linter.unusedVariables false
set_option linter.unusedSimpArgs false
abbrev Run := Int × Int
abbrev Row := Int × List Run
abbrev Reg := List Row
abbrev Cell := Int × Int
abbrev Track := Int × (Bool × List Cell)
structure RunsOK (lo hi : Int) (l : List Run) : Prop where
 bd : ∀ x ∈ l, lo ≤ x.1 ∧ x.1 < x.2 ∧ x.2 ≤ hi
 pw : l.Pairwise fun a b => a.2 < b.1
structure RegOK (r : Reg) : Prop where
 y : ∀ w ∈ r, -4096 ≤ w.1 ∧ w.1 < 4096
 pw : r.Pairwise fun a b => a.1 < b.1
 ne : ∀ w ∈ r, w.2 ≠ []
 rs : ∀ w ∈ r, RunsOK (-4096) 4096 w.2
def inRuns (l : List Run) (x : Int) : Prop := ∃ u ∈ l, u.1 ≤ x ∧ x < u.2
def inReg (r : Reg) (c : Cell) : Prop := ∃ w ∈ r, w.1 = c.2 ∧ inRuns w.2 c.1
def lineC (y : Int) (u : Run) : List Cell := (rng u.1 (u.2 - u.1).toNat).map fun x => (x, y)
def rowC (w : Row) : List Cell := w.2.flatMap (lineC w.1)
def cellsC (r : Reg) : List Cell := r.flatMap rowC
def yx (a b : Cell) : Prop := a.2 < b.2 ∨ (a.2 = b.2 ∧ a.1 < b.1)
theorem mem_line {y : Int} {u : Run} {c : Cell} : c ∈ lineC y u ↔ c.2 = y ∧ u.1 ≤ c.1 ∧ c.1 < u.2 := by
 simp only [lineC, List.mem_map, mem_rng]
 constructor
 ·rintro ⟨x, hx, rfl⟩; exact ⟨rfl, by omega, by omega⟩
 ·rintro ⟨rfl, h1, h2⟩; exact ⟨c.1, by omega, rfl⟩
theorem mem_row {w : Row} {c : Cell} : c ∈ rowC w ↔ c.2 = w.1 ∧ inRuns w.2 c.1 := by
 simp only [rowC, List.mem_flatMap, mem_line, inRuns]
 constructor
 ·rintro ⟨u, hu, h1, h2⟩; exact ⟨h1, u, hu, h2⟩
 ·rintro ⟨h1, u, hu, h2⟩; exact ⟨u, hu, h1, h2⟩
theorem RegOK.bd {r : Reg} (h : RegOK r) {c : Cell} (hc : inReg r c) : -4096 ≤ c.1 ∧ c.1 < 4096 ∧ -4096 ≤ c.2 ∧ c.2 < 4096 := by
 obtain ⟨w, hw, e, u, hu, h1, h2⟩ := hc
 have := (h.rs w hw).bd u hu
 have := h.y w hw
 omega
theorem pw_adj {α : Type} {R : α → α → Prop} (tr : ∀ a b c, R a b → R b c → R a c) {l : List α} (h : ∀ i a b, l[i]? = some a → l[i + 1]? = some b → R a b) : l.Pairwise R := by
 induction l with
 | nil => exact .nil
 | cons x l ih =>
  have ih' := ih fun i a b ha hb => h (i + 1) a b (by simpa using ha) (by simpa using hb)
  refine List.pairwise_cons.2 ⟨fun y hy => ?_, ih'⟩
  cases l with
  | nil => cases hy
  | cons z l =>
   have hz : R x z := h 0 x z rfl rfl
   rcases List.mem_cons.1 hy with rfl | hy
   ·exact hz
   ·exact tr _ _ _ hz ((List.pairwise_cons.1 ih').1 y hy)
theorem adj_pw {α : Type} {R : α → α → Prop} {l : List α} (h : l.Pairwise R) {i : Nat} {a b : α} (ha : l[i]? = some a) (hb : l[i + 1]? = some b) : R a b := by
 have h1 := (List.getElem?_eq_some_iff.1 ha)
 have h2 := (List.getElem?_eq_some_iff.1 hb)
 obtain ⟨p1, e1⟩ := h1
 obtain ⟨p2, e2⟩ := h2
 have := List.pairwise_iff_getElem.1 h i (i + 1) p1 p2 (by omega)
 rwa [e1, e2] at this
theorem pw_cases {l : List Run} (hp : l.Pairwise fun a b => a.2 < b.1) {u v : Run} (hu : u ∈ l) (hv : v ∈ l) : u = v ∨ u.2 < v.1 ∨ v.2 < u.1 := by
 induction l with
 | nil => cases hu
 | cons x l ih =>
  obtain ⟨p1, p2⟩ := List.pairwise_cons.1 hp
  rcases List.mem_cons.1 hu with rfl | hu' <;> rcases List.mem_cons.1 hv with rfl | hv'
  ·exact .inl rfl
  ·exact .inr (.inl (p1 _ hv'))
  ·exact .inr (.inr (p1 _ hu'))
  ·exact ih p2 hu' hv'
theorem RunsOK.left {lo hi : Int} {l : List Run} (h : RunsOK lo hi l) {u : Run} (hu : u ∈ l) : ¬ inRuns l (u.1 - 1) := by
 rintro ⟨v, hv, h1, h2⟩
 have hub := h.bd u hu
 have hvb := h.bd v hv
 have hpw := h.pw
 rcases pw_cases hpw hu hv with e | e | e
 ·subst e; omega
 ·omega
 ·omega
theorem RunsOK.right {lo hi : Int} {l : List Run} (h : RunsOK lo hi l) {u : Run} (hu : u ∈ l) : ¬ inRuns l u.2 := by
 rintro ⟨v, hv, h1, h2⟩
 have hub := h.bd u hu
 have hvb := h.bd v hv
 rcases pw_cases h.pw hu hv with e | e | e
 ·subst e; omega
 ·omega
 ·omega
theorem RegOK.row_uniq {r : Reg} (h : RegOK r) {w v : Row} (hw : w ∈ r) (hv : v ∈ r) (e : w.1 = v.1) : w = v := by
 have hp := h.pw
 clear h
 induction r with
 | nil => cases hw
 | cons x l ih =>
  obtain ⟨p1, p2⟩ := List.pairwise_cons.1 hp
  rcases List.mem_cons.1 hw with rfl | hw' <;> rcases List.mem_cons.1 hv with rfl | hv'
  ·rfl
  ·have := p1 _ hv'; omega
  ·have := p1 _ hw'; omega
  ·exact ih hw' hv' p2
theorem RegOK.in_row {r : Reg} (h : RegOK r) {w : Row} (hw : w ∈ r) (x : Int) : inReg r (x, w.1) ↔ inRuns w.2 x := by
 constructor
 ·rintro ⟨v, hv, e, hx⟩
  rw [h.row_uniq hw hv e.symm]
  exact hx
 ·exact fun hx => ⟨w, hw, rfl, hx⟩
theorem runsOK_snoc {lo hi : Int} {l : List Run} {u : Run} : RunsOK lo hi (l ++ [u]) ↔ RunsOK lo hi l ∧ (lo ≤ u.1 ∧ u.1 < u.2 ∧ u.2 ≤ hi) ∧ ∀ v ∈ l, v.2 < u.1 := by
 constructor
 ·rintro ⟨h1, h2⟩
  obtain ⟨p1, p2, p3⟩ := List.pairwise_append.1 h2
  exact ⟨⟨fun x hx => h1 x (List.mem_append_left _ hx), p1⟩, h1 u (by simp), fun v hv => p3 v hv u (by simp)⟩
 ·rintro ⟨⟨h1, h2⟩, h3, h4⟩
  refine ⟨fun x hx => ?_, List.pairwise_append.2 ⟨h2, List.pairwise_singleton _ _, fun v hv w hw => ?_⟩⟩
  ·rcases List.mem_append.1 hx with h | h
   ·exact h1 x h
   ·rw [List.mem_singleton.1 h]; exact h3
  ·rw [List.mem_singleton.1 hw]; exact h4 v hv
end Go.Dn
namespace Go.Proofs.YtaammoealihpmaaGreat
open Go Go.Vv Go.Dn Go.Dn.W
set_option linter.unusedVariables false
set_option linter.unusedSimpArgs false
set_option maxRecDepth 100000
theorem region_ok_ok (x : Int) : @t_region_ok wv x = some (decide (-4096 ≤ x ∧ x < 4096)) := by
 simp only [t_region_ok, w_br, w_geq, w_lss, decide_eq_true_eq]
 split <;> simp <;> omega
theorem k_region_ok {α : Type} (x : Int) (k : Bool → Option α) : @W.call wv α c_region_ok x k = k (decide (-4096 ≤ x ∧ x < 4096)) := ca_s (c := c_region_ok) (region_ok_ok x)
theorem runs_fits_ok (x : Int × Int) : @t_runs_fits wv x = some (decide (-1048576 ≤ x.1 ∧ x.1 ≤ 1048576 ∧ -1048576 ≤ x.2 ∧ x.2 ≤ 1048576)) := by
 simp only [t_runs_fits, w_br, w_geq, w_leq, decide_eq_true_eq]
 (repeat' split) <;> first | exact congrArg some (decide_eq_decide.2 (by omega)) | exact congrArg some (decide_eq_false (by omega)).symm
theorem k_runs_fits {α : Type} (x : Int × Int) (k : Bool → Option α) : @W.call wv α c_runs_fits x k = k (decide (-1048576 ≤ x.1 ∧ x.1 ≤ 1048576 ∧ -1048576 ≤ x.2 ∧ x.2 ≤ 1048576)) := ca_s (c := c_runs_fits) (runs_fits_ok x)
def goodRun (lo hi : Int) (l : List Run) (i : Nat) : Prop := ∀ x, l[i]? = some x → lo ≤ x.1 ∧ x.1 < x.2 ∧ x.2 ≤ hi ∧ ∀ p, 0 < i → l[i - 1]? = some p → p.2 < x.1
theorem runsOK_iff (lo hi : Int) (l : List Run) : (∀ i, i < l.length → goodRun lo hi l i) ↔ RunsOK lo hi l := by
 constructor
 ·intro h
  have key : ∀ (i : Nat) (x : Run), l[i]? = some x → lo ≤ x.1 ∧ x.1 < x.2 ∧ x.2 ≤ hi ∧ ∀ p, 0 < i → l[i - 1]? = some p → p.2 < x.1 := fun i x hx => h i (List.getElem?_eq_some_iff.1 hx).1 x hx
  refine ⟨fun x hx => ?_, ?_⟩
  ·obtain ⟨i, hi⟩ := List.mem_iff_getElem?.1 hx
   have := key i x hi
   omega
  ·have hp : (l.Pairwise fun a b => (a.1 < a.2 ∧ b.1 < b.2 ∧ a.2 < b.1)) := pw_adj (fun a b c h1 h2 => by omega) fun i a b ha hb => by
    have h1 := key i a ha
    have h2 := key (i + 1) b hb
    have h3 := h2.2.2.2 a (by omega) (by simpa using ha)
    omega
   exact hp.imp fun h => h.2.2
 ·rintro ⟨h1, h2⟩ i hi x hx
  have hb := h1 x (List.mem_of_getElem? hx)
  refine ⟨hb.1, hb.2.1, hb.2.2, fun p h0 hp => ?_⟩
  exact adj_pw h2 hp (by rwa [Nat.sub_add_cancel h0])
open Classical in
theorem runs_Valid_ok (l : List Run) (hl : l.length ≤ 1000000000) : @t_runs_Valid wv l = some (decide (RunsOK (-1048576) 1048576 l)) := by
 have hloop := loop_all (b := @t_runs_Valid_L0 wv) (bad := .inl ()) (fin := .inr ()) (fun i => ⟨l, ⟨l, ⟨(l.length : Int), ⟨(i : Int), ()⟩⟩⟩⟩) l.length (by omega) (goodRun (-1048576) 1048576 l) (fun i hi _ => by
  have hx := List.getElem?_eq_getElem hi
  have hb : @t_runs_Valid_L0 wv ⟨l, ⟨l, ⟨(l.length : Int), ⟨(i : Int), ()⟩⟩⟩⟩ = if goodRun (-1048576) 1048576 l i then some (.go ⟨l, ⟨l, ⟨(l.length : Int), ⟨((i + 1 : Nat) : Int), ()⟩⟩⟩⟩) else some (.out (.inl ())) := by
   unfold t_runs_Valid_L0
   dsimp only
   rw [br_lt (by omega), ge_s (fg hx)]
   simp only [w_br, w_geq, w_gtr, w_leq, w_add, w_nt, k_runs_fits, decide_eq_true_eq, Bool.not_eq_true', decide_eq_false_iff_not]
   rw [wr (by omega) (by omega)]
   by_cases h0 : 0 < i
   ·have hp := List.getElem?_eq_getElem (l := l) (i := i - 1) (by omega)
    rw [ge_s (fgz (i - 1) (by rw [w_sub, wr (by omega) (by omega)]; omega) hp)]
    have hg : goodRun (-1048576) 1048576 l i ↔ -1048576 ≤ l[i].1 ∧ l[i].1 < l[i].2 ∧ l[i].2 ≤ 1048576 ∧ (l[i - 1]'(by omega)).2 < l[i].1 := by
     constructor
     ·intro h; have := h _ hx; exact ⟨this.1, this.2.1, this.2.2.1, this.2.2.2 _ h0 hp⟩
     ·rintro ⟨a, b, c, d⟩ x hx'
      rw [hx] at hx'; injection hx' with e; subst e
      exact ⟨a, b, c, fun p _ hp' => by rw [hp] at hp'; injection hp' with e; subst e; exact d⟩
    simp only [hg]
    (repeat' split) <;> first | rfl | omega
   ·have hg : goodRun (-1048576) 1048576 l i ↔ -1048576 ≤ l[i].1 ∧ l[i].1 < l[i].2 ∧ l[i].2 ≤ 1048576 := by
     constructor
     ·intro h; have := h _ hx; exact ⟨this.1, this.2.1, this.2.2.1⟩
     ·rintro ⟨a, b, c⟩ x hx'
      rw [hx] at hx'; injection hx' with e; subst e
      exact ⟨a, b, c, fun p h => (h0 h).elim⟩
    simp only [hg]
    (repeat' split) <;> first | rfl | omega
  rw [hb]
  exact ⟨fun h => if_pos h, fun h => if_neg h⟩) (fun _ => by unfold t_runs_Valid_L0; dsimp only; rw [br_nlt (by omega)])
 refine (lo_s hloop).trans ?_
 by_cases h : RunsOK (-1048576) 1048576 l
 ·rw [if_pos ((runsOK_iff _ _ _).2 h), decide_eq_true h]
 ·rw [if_neg fun q => h ((runsOK_iff _ _ _).1 q), decide_eq_false h]
open Classical in
theorem k_runs_Valid {α : Type} {l : List Run} (hl : l.length ≤ 1000000000) (k : Bool → Option α) : @W.call wv α c_runs_Valid l k = k (decide (RunsOK (-1048576) 1048576 l)) := ca_s (c := c_runs_Valid) (runs_Valid_ok l hl)
def LimR (r : Reg) : Prop := r.length ≤ 1000000000 ∧ ∀ w ∈ r, w.2.length ≤ 1000000000
theorem runs_first {lo hi : Int} {l : List Run} (h : RunsOK lo hi l) {x0 : Run} (h0 : l[0]? = some x0) : ∀ x ∈ l, x0.1 ≤ x.1 := by
 cases l with
 | nil => simp at h0
 | cons y l =>
  simp only [List.getElem?_cons_zero, Option.some.injEq] at h0
  subst h0
  intro x hx
  rcases List.mem_cons.1 hx with rfl | hx'
  ·omega
  ·have := (List.pairwise_cons.1 h.pw).1 x hx'
   have := h.bd y (List.mem_cons_self ..)
   omega
theorem runs_last {lo hi : Int} {l : List Run} (h : RunsOK lo hi l) {x1 : Run} (h1 : l[l.length - 1]? = some x1) : ∀ x ∈ l, x.2 ≤ x1.2 := by
 intro x hx
 have hm := List.mem_of_getElem? h1
 obtain ⟨i, hi⟩ := List.mem_iff_getElem?.1 hx
 obtain ⟨p1, e1⟩ := List.getElem?_eq_some_iff.1 hi
 obtain ⟨p2, e2⟩ := List.getElem?_eq_some_iff.1 h1
 have hb := h.bd x1 hm
 by_cases e : i = l.length - 1
 ·subst e
  rw [hi] at h1
  injection h1 with h1
  subst h1
  omega
 ·have := List.pairwise_iff_getElem.1 h.pw i (l.length - 1) p1 p2 (by omega)
  rw [e1, e2] at this
  omega
def goodRow (r : Reg) (i : Nat) : Prop := ∀ w, r[i]? = some w → -4096 ≤ w.1 ∧ w.1 < 4096 ∧ w.2 ≠ [] ∧ RunsOK (-4096) 4096 w.2 ∧ ∀ p, 0 < i → r[i - 1]? = some p → p.1 < w.1
theorem regOK_iff (r : Reg) : (∀ i, i < r.length → goodRow r i) ↔ RegOK r := by
 constructor
 ·intro h
  have key : ∀ (i : Nat) (w : Row), r[i]? = some w → -4096 ≤ w.1 ∧ w.1 < 4096 ∧ w.2 ≠ [] ∧ RunsOK (-4096) 4096 w.2 ∧ ∀ p, 0 < i → r[i - 1]? = some p → p.1 < w.1 := fun i x hx => h i (List.getElem?_eq_some_iff.1 hx).1 x hx
  have km : ∀ w ∈ r, -4096 ≤ w.1 ∧ w.1 < 4096 ∧ w.2 ≠ [] ∧ RunsOK (-4096) 4096 w.2 := fun w hw => by
   obtain ⟨i, hi⟩ := List.mem_iff_getElem?.1 hw
   have := key i w hi
   exact ⟨this.1, this.2.1, this.2.2.1, this.2.2.2.1⟩
  exact ⟨fun w hw => ⟨(km w hw).1, (km w hw).2.1⟩, pw_adj (fun a b c h1 h2 => by omega) fun i a b ha hb => (key (i + 1) b hb).2.2.2.2 a (by omega) (by simpa using ha), fun w hw => (km w hw).2.2.1, fun w hw => (km w hw).2.2.2⟩
 ·intro h i hi w hw
  have hm := List.mem_of_getElem? hw
  exact ⟨(h.y w hm).1, (h.y w hm).2, h.ne w hm, h.rs w hm, fun p h0 hp => adj_pw h.pw hp (by rwa [Nat.sub_add_cancel h0])⟩
theorem runs_ends {l : List Run} {x0 x1 : Run} (h0 : l[0]? = some x0) (h1 : l[l.length - 1]? = some x1) : RunsOK (-4096) 4096 l ↔ RunsOK (-1048576) 1048576 l ∧ (-4096 ≤ x0.1 ∧ x0.1 < 4096) ∧ (-4096 ≤ x1.2 - 1 ∧ x1.2 - 1 < 4096) := by
 constructor
 ·intro h
  have a := h.bd x0 (List.mem_of_getElem? h0)
  have b := h.bd x1 (List.mem_of_getElem? h1)
  exact ⟨⟨fun x hx => by have := h.bd x hx; omega, h.pw⟩, by omega, by omega⟩
 ·rintro ⟨h, a, b⟩
  exact ⟨fun x hx => by
   have q1 := runs_first h h0 x hx
   have q2 := runs_last h h1 x hx
   have := h.bd x hx
   omega, h.pw⟩
open Classical in
theorem region_Valid_ok (r : Reg) (hl : LimR r) : @t_region_Valid wv r = some (decide (RegOK r)) := by
 have hloop := loop_all (b := @t_region_Valid_L0 wv) (bad := .inl ()) (fin := .inr ()) (fun i => ⟨r, ⟨(r.length : Int), ⟨(i : Int), ⟨r, ()⟩⟩⟩⟩) r.length (by have := hl.1; omega) (goodRow r) (fun i hi _ => by
  have hx := List.getElem?_eq_getElem hi
  have hL := hl.1
  have hb : @t_region_Valid_L0 wv ⟨r, ⟨(r.length : Int), ⟨(i : Int), ⟨r, ()⟩⟩⟩⟩ = if goodRow r i then some (.go ⟨r, ⟨(r.length : Int), ⟨((i + 1 : Nat) : Int), ⟨r, ()⟩⟩⟩⟩) else some (.out (.inl ())) := by
   generalize hw : r[i] = w at hx
   have hwm := List.mem_of_getElem? hx
   have hLw := hl.2 w hwm
   unfold t_region_Valid_L0
   dsimp only
   rw [br_lt (by omega), ge_s (fg hx)]
   have tail : letI : W := wv; ∀ X : Option (Nx _ (Unit ⊕ Unit)), (br (cm .eql (ln w.2) 0) (some (.out (.inl ()))) (call c_runs_Valid (w.2 : (List (Int × Int))) fun (v3 : Bool) => br (nt v3) (some (.out (.inl ()))) (ge w.2 0 fun v4 => call c_region_ok (v4.1 : Int) fun (v5 : Bool) => br (nt v5) (some (.out (.inl ())))
     (ge w.2 (ar .sub .i64 (ln w.2) 1) fun v6 => call c_region_ok ((ar .sub .i64 v6.2 1) : Int) fun (v7 : Bool) => br (nt v7) (some (.out (.inl ()))) X))) : Option (Nx (HP (List (Int × (List (Int × Int)))) (HP Int (HP Int (HP (List (Int × (List (Int × Int)))) Unit)))) (Unit ⊕ Unit))) = if w.2 ≠ [] ∧ RunsOK (-4096) 4096 w.2 then X else some (.out (.inl ())) := by
    intro X
    cases hr : w.2 with
    | nil => rfl
    | cons u l =>
     rw [hr] at hLw
     have e0 : (u :: l)[0]? = some u := rfl
     have e1 : (u :: l)[(u :: l).length - 1]? = some ((u :: l)[(u :: l).length - 1]'(by simp)) := List.getElem?_eq_getElem _
     generalize ((u :: l)[(u :: l).length - 1]'(by simp)) = x1 at e1
     have hlen : (0 : Int) < ((u :: l).length : Int) := by simp only [List.length_cons]; omega
     rw [br_f (by simp only [w_eql, w_ln, beq_eq_false_iff_ne]; omega), k_runs_Valid hLw]
     by_cases hV : RunsOK (-1048576) 1048576 (u :: l)
     ·have hx1 := hV.bd x1 (List.mem_of_getElem? e1)
      rw [br_f (by simp [w_nt, hV]), ge_s (fg0 e0), k_region_ok, ge_s (fgz ((u :: l).length - 1) (by rw [w_sub, w_ln, wr (by omega) (by omega)]; omega) e1), k_region_ok, w_sub, wr (by omega) (by omega)]
      have he := runs_ends e0 e1
      simp only [ne_eq, reduceCtorEq, not_false_iff, true_and, he, w_br, w_nt, Bool.not_eq_true', decide_eq_false_iff_not, hV]
      (repeat' split) <;> first | rfl | omega
     ·rw [br_t (by simp [w_nt, hV]), if_neg]
      rintro ⟨-, h⟩
      exact hV ((runs_ends e0 e1).1 h).1
   rw [tail]
   simp only [k_region_ok, w_br, w_gtr, w_leq, w_nt, w_add, decide_eq_true_eq, Bool.not_eq_true', decide_eq_false_iff_not]
   rw [wr (by omega) (by omega)]
   by_cases h0 : 0 < i
   ·have hp := List.getElem?_eq_getElem (l := r) (i := i - 1) (by omega)
    generalize r[i - 1] = p at hp
    rw [ge_s (fgz (i - 1) (by rw [w_sub, wr (by omega) (by omega)]; omega) hp)]
    have hg : goodRow r i ↔ (-4096 ≤ w.1 ∧ w.1 < 4096) ∧ (w.2 ≠ [] ∧ RunsOK (-4096) 4096 w.2) ∧ p.1 < w.1 := by
     constructor
     ·intro h; have := h _ hx; exact ⟨⟨this.1, this.2.1⟩, ⟨this.2.2.1, this.2.2.2.1⟩, this.2.2.2.2 _ h0 hp⟩
     ·rintro ⟨⟨a, b⟩, ⟨c, d⟩, e⟩ x hx'
      rw [hx] at hx'; injection hx' with q; subst q
      exact ⟨a, b, c, d, fun p' _ hp' => by rw [hp] at hp'; injection hp' with q; subst q; exact e⟩
    simp only [hg]
    by_cases hT : w.2 ≠ [] ∧ RunsOK (-4096) 4096 w.2
    ·simp only [hT, and_self, true_and, if_true, ne_eq, not_false_iff]
     (repeat' split) <;> first | rfl | omega
    ·simp only [hT, false_and, and_false, if_false]
     (repeat' split) <;> first | rfl | omega
   ·have hg : goodRow r i ↔ (-4096 ≤ w.1 ∧ w.1 < 4096) ∧ (w.2 ≠ [] ∧ RunsOK (-4096) 4096 w.2) := by
     constructor
     ·intro h; have := h _ hx; exact ⟨⟨this.1, this.2.1⟩, ⟨this.2.2.1, this.2.2.2.1⟩⟩
     ·rintro ⟨⟨a, b⟩, ⟨c, d⟩⟩ x hx'
      rw [hx] at hx'; injection hx' with q; subst q
      exact ⟨a, b, c, d, fun p' h => (h0 h).elim⟩
    simp only [hg]
    by_cases hT : w.2 ≠ [] ∧ RunsOK (-4096) 4096 w.2
    ·simp only [hT, and_self, and_true, if_true, ne_eq, not_false_iff]
     (repeat' split) <;> first | rfl | omega
    ·simp only [hT, and_false, if_false]
     (repeat' split) <;> first | rfl | omega
  rw [hb]
  exact ⟨fun h => if_pos h, fun h => if_neg h⟩) (fun _ => by unfold t_region_Valid_L0; dsimp only; rw [br_nlt (by omega)])
 unfold t_region_Valid
 refine (lo_s hloop).trans ?_
 by_cases h : RegOK r
 ·rw [if_pos ((regOK_iff _).2 h), decide_eq_true h]
 ·rw [if_neg fun q => h ((regOK_iff _).1 q), decide_eq_false h]
open Classical in
theorem k_region_Valid {α : Type} {r : Reg} (hl : LimR r) (k : Bool → Option α) : @W.call wv α c_region_Valid r k = k (decide (RegOK r)) := ca_s (c := c_region_Valid) (region_Valid_ok r hl)
end Go.Proofs.YtaammoealihpmaaGreat
namespace Go.Proofs.YtaammoealihpmaaGreat
open Go Go.Vv Go.Dn Go.Dn.W
set_option linter.unusedVariables false
set_option linter.unusedSimpArgs false
set_option maxRecDepth 100000
open Classical in
theorem fine_ok (l : List Run) (hl : l.length ≤ 1000000000) : @t_additiveref18_fine wv l = some (decide (l ≠ [] ∧ RunsOK (-4096) 4096 l)) := by
 have hloop := loop_all (b := @t_additiveref18_fine_L0 wv) (bad := .inl ()) (fin := .inr ⟨l, ()⟩) (fun i => ⟨l, ⟨(i : Int), ()⟩⟩) l.length (by omega) (goodRun (-4096) 4096 l) (fun i hi _ => by
  have hx := List.getElem?_eq_getElem hi
  have hb : @t_additiveref18_fine_L0 wv ⟨l, ⟨(i : Int), ()⟩⟩ = if goodRun (-4096) 4096 l i then some (.go ⟨l, ⟨((i + 1 : Nat) : Int), ()⟩⟩) else some (.out (.inl ())) := by
   generalize hu : l[i] = u at hx
   unfold t_additiveref18_fine_L0
   dsimp only
   simp only [ge_s (fg hx)]
   rw [w_ln, br_lt (by omega)]
   simp only [w_br, w_geq, w_gtr, w_leq, w_lss, w_add, decide_eq_true_eq]
   rw [wr (by omega) (by omega)]
   by_cases h0 : 0 < i
   ·have hp := List.getElem?_eq_getElem (l := l) (i := i - 1) (by omega)
    generalize l[i - 1] = p at hp
    rw [ge_s (fgz (i - 1) (by rw [w_sub, wr (by omega) (by omega)]; omega) hp)]
    have hg : goodRun (-4096) 4096 l i ↔ -4096 ≤ u.1 ∧ u.1 < u.2 ∧ u.2 ≤ 4096 ∧ p.2 < u.1 := by
     constructor
     ·intro h; have := h _ hx; exact ⟨this.1, this.2.1, this.2.2.1, this.2.2.2 _ h0 hp⟩
     ·rintro ⟨a, b, c, d⟩ x hx'
      rw [hx] at hx'; injection hx' with e; subst e
      exact ⟨a, b, c, fun p _ hp' => by rw [hp] at hp'; injection hp' with e; subst e; exact d⟩
    simp only [hg]
    (repeat' split) <;> first | rfl | omega
   ·have hg : goodRun (-4096) 4096 l i ↔ -4096 ≤ u.1 ∧ u.1 < u.2 ∧ u.2 ≤ 4096 := by
     constructor
     ·intro h; have := h _ hx; exact ⟨this.1, this.2.1, this.2.2.1⟩
     ·rintro ⟨a, b, c⟩ x hx'
      rw [hx] at hx'; injection hx' with e; subst e
      exact ⟨a, b, c, fun p h => (h0 h).elim⟩
    simp only [hg]
    (repeat' split) <;> first | rfl | omega
  rw [hb]
  exact ⟨fun h => if_pos h, fun h => if_neg h⟩) (fun _ => by unfold t_additiveref18_fine_L0; dsimp only; rw [w_ln, br_nlt (by omega)])
 unfold t_additiveref18_fine
 refine (lo_s hloop).trans ?_
 by_cases h : RunsOK (-4096) 4096 l
 ·rw [if_pos ((runsOK_iff _ _ _).2 h)]
  show some (decide ((l.length : Int) > 0)) = _
  congr 1
  rw [decide_eq_decide]
  cases l <;> simp [h]
 ·rw [if_neg fun q => h ((runsOK_iff _ _ _).1 q), decide_eq_false fun q => h q.2]
open Classical in
theorem k_fine {α : Type} {l : List Run} (hl : l.length ≤ 1000000000) (k : Bool → Option α) : @W.call wv α c_additiveref18_fine l k = k (decide (l ≠ [] ∧ RunsOK (-4096) 4096 l)) := ca_s (c := c_additiveref18_fine) (fine_ok l hl)
open Classical in
theorem ref_Valid_ok (r : Reg) (hl : LimR r) : @t_additiveref18_Valid wv r = some (decide (RegOK r)) := by
 have hloop := loop_all (b := @t_additiveref18_Valid_L0 wv) (bad := .inl ()) (fin := .inr ()) (fun i => ⟨(i : Int), ⟨r, ()⟩⟩) r.length (by have := hl.1; omega) (goodRow r) (fun i hi _ => by
  have hx := List.getElem?_eq_getElem hi
  have hL := hl.1
  have hb : @t_additiveref18_Valid_L0 wv ⟨(i : Int), ⟨r, ()⟩⟩ = if goodRow r i then some (.go ⟨((i + 1 : Nat) : Int), ⟨r, ()⟩⟩) else some (.out (.inl ())) := by
   generalize hw : r[i] = w at hx
   have hLw := hl.2 w (List.mem_of_getElem? hx)
   unfold t_additiveref18_Valid_L0
   dsimp only
   simp only [ge_s (fg hx)]
   rw [w_ln, br_lt (by omega)]
   simp only [w_br, w_geq, w_gtr, w_leq, w_lss, w_add, w_nt, k_fine hLw, decide_eq_true_eq, Bool.not_eq_true', decide_eq_false_iff_not]
   rw [wr (by omega) (by omega)]
   by_cases h0 : 0 < i
   ·have hp := List.getElem?_eq_getElem (l := r) (i := i - 1) (by omega)
    generalize r[i - 1] = p at hp
    rw [ge_s (fgz (i - 1) (by rw [w_sub, wr (by omega) (by omega)]; omega) hp)]
    have hg : goodRow r i ↔ (-4096 ≤ w.1 ∧ w.1 < 4096) ∧ (w.2 ≠ [] ∧ RunsOK (-4096) 4096 w.2) ∧ p.1 < w.1 := by
     constructor
     ·intro h; have := h _ hx; exact ⟨⟨this.1, this.2.1⟩, ⟨this.2.2.1, this.2.2.2.1⟩, this.2.2.2.2 _ h0 hp⟩
     ·rintro ⟨⟨a, b⟩, ⟨c, d⟩, e⟩ x hx'
      rw [hx] at hx'; injection hx' with q; subst q
      exact ⟨a, b, c, d, fun p' _ hp' => by rw [hp] at hp'; injection hp' with q; subst q; exact e⟩
    simp only [hg]
    by_cases hT : w.2 ≠ [] ∧ RunsOK (-4096) 4096 w.2
    ·simp only [hT, and_self, true_and, if_true, ne_eq, not_false_iff, not_true_eq_false, if_false]
     (repeat' split) <;> first | rfl | omega
    ·simp only [hT, false_and, and_false, if_false, not_false_iff, if_true]
     (repeat' split) <;> first | rfl | omega
   ·have hg : goodRow r i ↔ (-4096 ≤ w.1 ∧ w.1 < 4096) ∧ (w.2 ≠ [] ∧ RunsOK (-4096) 4096 w.2) := by
     constructor
     ·intro h; have := h _ hx; exact ⟨⟨this.1, this.2.1⟩, ⟨this.2.2.1, this.2.2.2.1⟩⟩
     ·rintro ⟨⟨a, b⟩, ⟨c, d⟩⟩ x hx'
      rw [hx] at hx'; injection hx' with q; subst q
      exact ⟨a, b, c, d, fun p' h => (h0 h).elim⟩
    simp only [hg]
    by_cases hT : w.2 ≠ [] ∧ RunsOK (-4096) 4096 w.2
    ·simp only [hT, and_self, and_true, if_true, ne_eq, not_false_iff, not_true_eq_false, if_false]
     (repeat' split) <;> first | rfl | omega
    ·simp only [hT, and_false, if_false, not_false_iff, if_true]
     (repeat' split) <;> first | rfl | omega
  rw [hb]
  exact ⟨fun h => if_pos h, fun h => if_neg h⟩) (fun _ => by unfold t_additiveref18_Valid_L0; dsimp only; rw [w_ln, br_nlt (by omega)])
 unfold t_additiveref18_Valid
 refine (lo_s hloop).trans ?_
 by_cases h : RegOK r
 ·rw [if_pos ((regOK_iff _).2 h), decide_eq_true h]
 ·rw [if_neg fun q => h ((regOK_iff _).1 q), decide_eq_false h]
open Classical in
theorem k_ref_Valid {α : Type} {r : Reg} (hl : LimR r) (k : Bool → Option α) : @W.call wv α c_additiveref18_Valid r k = k (decide (RegOK r)) := ca_s (c := c_additiveref18_Valid) (ref_Valid_ok r hl)
def rowAt (r : Reg) (y : Int) : List Run := match r.find? (fun w => w.1 == y) with | some w => w.2 | none => []
theorem ref_Row_ok (r : Reg) (y : Int) (hl : LimR r) : @t_additiveref18_Row wv (r, y) = some (rowAt r y) := by
 have hloop := loop_find (b := @t_additiveref18_Row_L0 wv) r (by have := hl.1; omega) (fun i => ⟨y, ⟨(i : Int), ⟨r, ()⟩⟩⟩) (fun w => w.1 == y) (fun w => .inl ⟨w.2, ()⟩) (.inr ()) (fun i w hi hw => by
  have hL := hl.1
  unfold t_additiveref18_Row_L0
  dsimp only
  simp only [ge_s (fg hw)]
  rw [w_ln, br_lt (by omega), w_add, wr (by omega) (by omega), w_br]
  rfl) (by unfold t_additiveref18_Row_L0; dsimp only; rw [w_ln, br_nlt (by omega)])
 unfold t_additiveref18_Row
 refine (lo_s hloop).trans ?_
 unfold rowAt
 cases r.find? fun w => w.1 == y <;> rfl
theorem k_ref_Row {α : Type} {r : Reg} {y : Int} (hl : LimR r) (k : List Run → Option α) : @W.call wv α c_additiveref18_Row ((r, y) : List (Int × List (Int × Int)) × Int) k = k (rowAt r y) := ca_s (c := c_additiveref18_Row) (ref_Row_ok r y hl)
theorem rowAt_lim {r : Reg} (hl : LimR r) (y : Int) : (rowAt r y).length ≤ 1000000000 := by
 unfold rowAt
 cases h : r.find? fun w => w.1 == y with
 | none => simp
 | some w => exact hl.2 w (List.mem_of_find?_eq_some h)
theorem rowAt_iff {r : Reg} (h : RegOK r) (c : Cell) : inRuns (rowAt r c.2) c.1 ↔ inReg r c := by
 unfold rowAt
 cases hf : r.find? fun w => w.1 == c.2 with
 | none =>
  constructor
  ·rintro ⟨u, hu, -⟩; cases hu
  ·rintro ⟨w, hw, e, -⟩
   have := List.find?_eq_none.1 hf w hw
   simp [e] at this
 | some w =>
  have hw := List.mem_of_find?_eq_some hf
  have e : w.1 = c.2 := by have := List.find?_some hf; simpa using this
  have := h.in_row hw c.1
  rw [e] at this
  exact this.symm
open Classical in
theorem inside_ok (l : List Run) (x : Int) (hl : l.length ≤ 1000000000) : @t_additiveref18_inside wv (l, x) = some (decide (inRuns l x)) := by
 have hloop := loop_find (b := @t_additiveref18_inside_L0 wv) l (by omega) (fun i => ⟨l, ⟨x, ⟨(i : Int), ()⟩⟩⟩) (fun u => decide (u.1 ≤ x) && decide (x < u.2)) (fun w => .inl ()) (.inr ()) (fun i w hi hw => by
  unfold t_additiveref18_inside_L0
  dsimp only
  simp only [ge_s (fg hw)]
  rw [w_ln, br_lt (by omega), w_add, wr (by omega) (by omega)]
  simp only [w_br, w_leq, w_lss, decide_eq_true_eq, Bool.and_eq_true]
  (repeat' split) <;> first | rfl | omega) (by unfold t_additiveref18_inside_L0; dsimp only; rw [w_ln, br_nlt (by omega)])
 unfold t_additiveref18_inside
 refine (lo_s hloop).trans ?_
 cases hf : l.find? fun u => decide (u.1 ≤ x) && decide (x < u.2) with
 | none =>
  show some false = _
  rw [decide_eq_false]
  rintro ⟨u, hu, h⟩
  have := List.find?_eq_none.1 hf u hu
  simp at this
  omega
 | some w =>
  show some true = _
  rw [decide_eq_true]
  have := List.find?_some hf
  simp at this
  exact ⟨w, List.mem_of_find?_eq_some hf, by omega⟩
open Classical in
theorem k_inside {α : Type} {l : List Run} {x : Int} (hl : l.length ≤ 1000000000) (k : Bool → Option α) : @W.call wv α c_additiveref18_inside ((l, x) : List (Int × Int) × Int) k = k (decide (inRuns l x)) := ca_s (c := c_additiveref18_inside) (inside_ok l x hl)
open Classical in
theorem ref_Contains_ok (r : Reg) (c : Cell) (hl : LimR r) : @t_additiveref18_Contains wv (r, c) = some (decide (RegOK r ∧ inReg r c)) := by
 unfold t_additiveref18_Contains
 dsimp only
 rw [k_ref_Valid hl]
 by_cases h : RegOK r
 ·rw [br_t (by simp [h]), k_ref_Row hl, k_inside (rowAt_lim hl _)]
  simp only [h, rowAt_iff h, true_and]
 ·rw [br_f (by simp [h]), decide_eq_false fun q => h q.1]
open Classical in
theorem k_ref_Contains {α : Type} {r : Reg} {c : Cell} (hl : LimR r) (k : Bool → Option α) : @W.call wv α c_additiveref18_Contains ((r, c) : List (Int × List (Int × Int)) × (Int × Int)) k = k (decide (RegOK r ∧ inReg r c)) := ca_s (c := c_additiveref18_Contains) (ref_Contains_ok r c hl)
end Go.Proofs.YtaammoealihpmaaGreat
namespace Go.Proofs.YtaammoealihpmaaGreat
open Go Go.Vv Go.Dn Go.Dn.W
set_option linter.unusedVariables false
set_option linter.unusedSimpArgs false
set_option maxRecDepth 100000
theorem fitB {α : Type} {b : Nat} {n : Int} {x : Option α} (h : n ≤ 1000000001) (h0 : 0 ≤ n) (hb : b ≤ 64) : @W.gd wv α (@W.ft wv b n) x = x := by
 refine gd_ft ⟨?_, by omega⟩
 have : n * (b : Int) ≤ 1000000001 * 64 := Int.mul_le_mul h (by omega) (by omega) (by omega)
 unfold room
 omega
theorem fit16 {α : Type} {n : Int} {x : Option α} (h : n ≤ 1000000001) (h0 : 0 ≤ n) : @W.gd wv α (@W.ft wv 16 n) x = x := fitB h h0 (by decide)
theorem fit40 {α : Type} {n : Int} {x : Option α} (h : n ≤ 1000000001) (h0 : 0 ≤ n) : @W.gd wv α (@W.ft wv 40 n) x = x := fitB h h0 (by decide)
theorem fit32 {α : Type} {n : Int} {x : Option α} (h : n ≤ 1000000001) (h0 : 0 ≤ n) : @W.gd wv α (@W.ft wv 32 n) x = x := fitB h h0 (by decide)
theorem lineC_len (y : Int) (u : Run) : (lineC y u).length = (u.2 - u.1).toNat := by simp [lineC, rng_len]
theorem lineC_succ (y a : Int) (n : Nat) : ((rng a (n + 1)).map fun x => ((x, y) : Cell)) = ((rng a n).map fun x => ((x, y) : Cell)) ++ [(a + (n : Int), y)] := by rw [rng_succ, List.map_append]; rfl
theorem rowC_take {w : Row} {k : Nat} {u : Run} (h : w.2[k]? = some u) : (w.2.take (k + 1)).flatMap (lineC w.1) = (w.2.take k).flatMap (lineC w.1) ++ lineC w.1 u := flat_take h
theorem flat_take_le {α β : Type} (f : α → List β) (l : List α) (k : Nat) : ((l.take k).flatMap f).length ≤ (l.flatMap f).length := by
 conv => rhs; rw [← List.take_append_drop k l, List.flatMap_append, List.length_append]
 omega
theorem flat_mem_le {α β : Type} (f : α → List β) {l : List α} {x : α} {k : Nat} (h : l[k]? = some x) : ((l.take k).flatMap f).length + (f x).length ≤ (l.flatMap f).length := by
 have := flat_take_le f l (k + 1)
 rw [flat_take h, List.length_append] at this
 exact this
theorem cells_le {r : Reg} {w : Row} {u : Run} {i k : Nat} (hw : r[i]? = some w) (hu : w.2[k]? = some u) : ((r.take i).flatMap rowC).length + ((w.2.take k).flatMap (lineC w.1)).length + (lineC w.1 u).length ≤ (cellsC r).length := by
 have h1 := flat_mem_le rowC hw
 have h2 := flat_mem_le (lineC w.1) hu
 unfold cellsC
 have : (rowC w).length = (w.2.flatMap (lineC w.1)).length := rfl
 omega
open Classical in
theorem ref_Cells_ok (r : Reg) (hl : LimR r) (hc : RegOK r → (cellsC r).length ≤ 1000000000) : @t_additiveref18_Cells wv r = some (if RegOK r then cellsC r else []) := by
 unfold t_additiveref18_Cells
 rw [k_ref_Valid hl]
 by_cases h : RegOK r
 case neg => rw [br_t (by simp [w_nt, h]), if_neg h]
 rw [br_f (by simp [w_nt, h]), if_pos h]
 have hL := hl.1
 have hc := hc h
 have hloop := loop_st (b := @t_additiveref18_Cells_L0 wv) (e := ⟨cellsC r, ()⟩) (fun i => ⟨(i : Int), ⟨r, ⟨(r.take i).flatMap rowC, ()⟩⟩⟩) r.length (by omega) (fun i hi => by
  have hw := List.getElem?_eq_getElem hi
  generalize r[i] = w at hw
  have hLw := hl.2 w (List.mem_of_getElem? hw)
  have hinner := loop_st (b := @t_additiveref18_Cells_L1 wv) (e := ⟨(i : Int), ⟨r, ⟨(r.take i).flatMap rowC ++ rowC w, ()⟩⟩⟩) (fun k => ⟨(i : Int), ⟨(k : Int), ⟨r, ⟨(r.take i).flatMap rowC ++ (w.2.take k).flatMap (lineC w.1), ()⟩⟩⟩⟩) w.2.length (by omega) (fun k hk => by
   have hu := List.getElem?_eq_getElem hk
   generalize w.2[k] = u at hu
   have hb := (h.rs w (List.mem_of_getElem? hw)).bd u (List.mem_of_getElem? hu)
   have hle := cells_le hw hu
   rw [lineC_len] at hle
   have hin := loop_st (b := @t_additiveref18_Cells_L2 wv) (e := ⟨(i : Int), ⟨(k : Int), ⟨r, ⟨(r.take i).flatMap rowC ++ (w.2.take k).flatMap (lineC w.1) ++ lineC w.1 u, ()⟩⟩⟩⟩)
    (fun j => ⟨(i : Int), ⟨(k : Int), ⟨u.1 + (j : Int), ⟨r, ⟨(r.take i).flatMap rowC ++ (w.2.take k).flatMap (lineC w.1) ++ (rng u.1 j).map fun x => (x, w.1), ()⟩⟩⟩⟩⟩) (u.2 - u.1).toNat (by omega) (fun j hj => by
    unfold t_additiveref18_Cells_L2
    dsimp only
    simp only [ge_s (fg hw), ge_s (fg hu)]
    rw [br_lt (by omega), w_ln, w_pl, fit16 (by simp only [List.length_append, List.length_map, rng_len]; omega) (by omega), w_add, wr (by omega) (by omega), w_ap, lineC_succ, show u.1 + (j : Int) + 1 = u.1 + ((j + 1 : Nat) : Int) by omega, List.append_assoc _ _ [_]]) (by
    unfold t_additiveref18_Cells_L2
    dsimp only
    simp only [ge_s (fg hw), ge_s (fg hu)]
    rw [br_nlt (by omega)]
    rfl)
   have e0 : u.1 + ((0 : Nat) : Int) = u.1 := by omega
   simp only [e0, rng, List.range_zero, List.map_nil, List.append_nil] at hin
   unfold t_additiveref18_Cells_L1
   dsimp only
   simp only [ge_s (fg hw), ge_s (fg hu)]
   rw [w_ln, br_lt (by omega), lo_s hin]
   dsimp only
   rw [w_add, wr (by omega) (by omega), rowC_take hu, List.append_assoc]
   rfl) (by
   unfold t_additiveref18_Cells_L1
   dsimp only
   simp only [ge_s (fg hw)]
   rw [w_ln, br_nlt (by omega), List.take_length]
   rfl)
  simp only [List.take_zero, List.flatMap_nil, List.append_nil] at hinner
  unfold t_additiveref18_Cells_L0
  dsimp only
  rw [w_ln, br_lt (by omega)]
  refine (lo_s hinner).trans ?_
  dsimp only
  rw [w_add, wr (by omega) (by omega), flat_take hw]
  rfl) (by unfold t_additiveref18_Cells_L0; dsimp only; rw [w_ln, br_nlt (by omega), List.take_length]; rfl)
 exact lo_s hloop
open Classical in
theorem k_ref_Cells {α : Type} {r : Reg} (hl : LimR r) (hc : RegOK r → (cellsC r).length ≤ 1000000000) (k : List (Int × Int) → Option α) : @W.call wv α c_additiveref18_Cells r k = k (if RegOK r then cellsC r else []) := ca_s (c := c_additiveref18_Cells) (ref_Cells_ok r hl hc)
end Go.Proofs.YtaammoealihpmaaGreat
namespace Go.Proofs.YtaammoealihpmaaGreat
open Go Go.Vv Go.Dn Go.Dn.W
set_option linter.unusedVariables false
set_option linter.unusedSimpArgs false
set_option maxRecDepth 100000
theorem tmod_cases (n : Int) {b : Int} (hb : 0 < b) : (n.tmod b = n % b ∨ n.tmod b = n % b - b) ∧ 0 ≤ n % b ∧ n % b < b ∧ -b < n.tmod b ∧ n.tmod b < b := by
 have h1 := Int.lt_tmod_of_pos n hb
 have h2 := Int.tmod_lt_of_pos n hb
 have h3 := Int.emod_nonneg n (show b ≠ 0 by omega)
 have h4 := Int.emod_lt_of_pos n hb
 have h5 := Int.tmod_eq_emod (a := n) (b := b)
 refine ⟨?_, h3, h4, h1, h2⟩
 split at h5
 ·left; omega
 ·right; rw [h5]; omega
theorem rest_ok (n b : Int) (h1 : 1 ≤ b) (h2 : b ≤ 1000000) : @t_hatch_rest wv (n, b) = some (n % b) := by
 obtain ⟨hc, a1, a2, a3, a4⟩ := tmod_cases n (b := b) (by omega)
 unfold t_hatch_rest
 dsimp only
 have hb : @W.cm wv .neq b 0 = true := by rw [w_neq]; simp; omega
 rw [gd_t hb, gd_t hb, w_rem, w_rem, w_add, wr (by omega) (by omega), Int.tmod_eq_emod_of_nonneg (by omega), Int.add_emod_right]
 congr 1
 rcases hc with e | e
 ·rw [e, Int.emod_emod_of_dvd _ (Int.dvd_refl b)]
 ·rw [e, ← Int.add_emod_right, Int.sub_add_cancel, Int.emod_emod_of_dvd _ (Int.dvd_refl b)]
theorem k_rest {α : Type} {n b : Int} (h1 : 1 ≤ b) (h2 : b ≤ 1000000) (k : Int → Option α) : @W.call wv α c_hatch_rest ((n, b) : Int × Int) k = k (n % b) := ca_s (c := c_hatch_rest) (rest_ok n b h1 h2)
theorem mod_ok (n b : Int) (h1 : 1 ≤ b) (h2 : b ≤ 1000000) : @t_additiveref29_mod wv (n, b) = some (n % b) := by
 obtain ⟨hc, a1, a2, a3, a4⟩ := tmod_cases n (b := b) (by omega)
 unfold t_additiveref29_mod
 dsimp only
 have hb : @W.cm wv .neq b 0 = true := by rw [w_neq]; simp; omega
 rw [gd_t hb, w_rem, w_add, w_br, w_lss, wr (by omega) (by omega)]
 simp only [decide_eq_true_eq]
 split
 ·congr 1; omega
 ·congr 1; omega
theorem k_mod {α : Type} {n b : Int} (h1 : 1 ≤ b) (h2 : b ≤ 1000000) (k : Int → Option α) : @W.call wv α c_additiveref29_mod ((n, b) : Int × Int) k = k (n % b) := ca_s (c := c_additiveref29_mod) (mod_ok n b h1 h2)
def trk (y : Int) (u : Run) : Track := (4, (false, lineC y u))
def rowT (s p : Int) (w : Row) : List Track := if w.1 % s = p % s then w.2.map (trk w.1) else []
def rowsT (r : Reg) (s p : Int) : List Track := r.flatMap (rowT s p)
theorem run_ok (r : Reg) (dx dy : Int) (hl : LimR r) (h : RegOK r) (hd : -1 ≤ dx ∧ dx ≤ 1 ∧ -1 ≤ dy ∧ dy ≤ 1) (q : Nat → Cell) (hq : ∀ i, q (i + 1) = ((q i).1 + dx, (q i).2 + dy)) (n : Nat) (hn : n ≤ 1000000000) (hin : ∀ i, i < n → inReg r (q i)) (hout : ¬ inReg r (q n)) :
  @t_additiveref29_run wv (r, (q 0, (dx, dy))) = some ((List.range n).map q) := by
 have hloop := loop_st (b := @t_additiveref29_run_L0 wv) (e := ⟨(List.range n).map q, ()⟩) (fun i => ⟨dx, ⟨dy, ⟨r, ⟨(q i).1, ⟨(q i).2, ⟨(List.range i).map q, ()⟩⟩⟩⟩⟩⟩) n (by omega) (fun i hi => by
  have hi' := hin i hi
  have hb := h.bd hi'
  unfold t_additiveref29_run_L0
  dsimp only
  rw [k_ref_Contains hl, br_t (by simp [h, hi']), w_ln, w_pl, fit16 (by rw [List.length_map, List.length_range]; omega) (by omega), w_add, w_add, wr (by omega) (by omega), wr (by omega) (by omega), w_ap, hq i, List.range_succ, List.map_append]
  rfl) (by
  unfold t_additiveref29_run_L0
  dsimp only
  rw [k_ref_Contains hl, br_f (by simp [h, hout])])
 unfold t_additiveref29_run
 exact lo_s hloop
theorem k_run {α : Type} {a : (List (Int × (List (Int × Int)))) × ((Int × Int) × (Int × Int))} {l : List (Int × Int)} (h : @t_additiveref29_run wv a = some l) (k : List (Int × Int) → Option α) : @W.call wv α c_additiveref29_run a k = k l := ca_s (c := c_additiveref29_run) h
theorem run_right {r : Reg} (hl : LimR r) (h : RegOK r) {w : Row} (hw : w ∈ r) {u : Run} (hu : u ∈ w.2) : @t_additiveref29_run wv (r, ((u.1, w.1), (1, 0))) = some (lineC w.1 u) := by
 have hb := (h.rs w hw).bd u hu
 have e := run_ok r 1 0 hl h (by omega) (fun i => (u.1 + (i : Int), w.1)) (fun i => by simp only [Prod.mk.injEq]; omega) (u.2 - u.1).toNat (by omega) (fun i hi => (h.in_row hw _).2 ⟨u, hu, by omega, by omega⟩) (fun hq => by
  have := (h.in_row hw _).1 hq
  rw [show u.1 + (((u.2 - u.1).toNat : Nat) : Int) = u.2 by omega] at this
  exact (h.rs w hw).right hu this)
 simp only [Int.natCast_zero, Int.add_zero] at e
 rw [e]
 congr 1
 simp [lineC, rng]
open Classical in
noncomputable def stepT (r : Reg) (s p : Int) (f : Cell → List Cell) (c : Cell) : List Track := if c.2 % s = p % s ∧ ¬ inReg r (c.1 - 1, c.2) then [(4, (false, f c))] else []
end Go.Proofs.YtaammoealihpmaaGreat
namespace Go.Proofs.YtaammoealihpmaaGreat
open Go Go.Vv Go.Dn Go.Dn.W
set_option linter.unusedVariables false
set_option linter.unusedSimpArgs false
set_option maxRecDepth 100000
def leC (x y : Cell) : Bool := !(Go.Proofs.ltOf cmpC) y x
def OfI (out : Reg) (runs : List Run) (done : List Cell) : Prop :=
 (out = [] ∧ runs = [] ∧ done = []) ∨ ∃ (pre : Reg) (y : Int) (z rs : List Run) (a b : Int), out = pre ++ [(y, z)] ∧ runs = rs ++ [(a, b)] ∧ RegOK (pre ++ [(y, rs ++ [(a, b)])]) ∧
  (∀ c, inReg (pre ++ [(y, rs ++ [(a, b)])]) c ↔ c ∈ done)
end Go.Proofs.YtaammoealihpmaaGreat
namespace Go.Proofs.YtaammoealihpmaaGreat
open Go Go.Vv Go.Dn Go.Dn.W
set_option linter.unusedVariables false
set_option linter.unusedSimpArgs false
set_option maxRecDepth 100000
def swp (c : Cell) : Cell := (c.2, c.1)
def flipT (t : Track) : Track := (t.1, (t.2.1, t.2.2.map swp))
structure Turned (r T : Reg) : Prop where
 ok : RegOK T
 iff : ∀ c, inReg T c ↔ inReg r (swp c)
def xy (a b : Cell) : Prop := a.1 < b.1 ∨ (a.1 = b.1 ∧ a.2 < b.2)
instance (a b : Cell) : Decidable (xy a b) := by unfold xy; exact inferInstance
noncomputable def colT (r : Reg) (c : Cell) : Track := (4, (false, (@t_additiveref29_run wv (r, (c, (0, 1)))).getD []))
def firstC (r : Reg) (s p : Int) (c : Cell) : Prop := c.1 % s = p % s ∧ ¬ inReg r (c.1, c.2 - 1)
end Go.Proofs.YtaammoealihpmaaGreat
namespace Go.Proofs.YtaammoealihpmaaGreat
open Go Go.Vv Go.Dn Go.Dn.W
set_option linter.unusedVariables false
set_option linter.unusedSimpArgs false
set_option maxRecDepth 100000
def fewU (u : Run) : Run := if u.1 < u.2 ∧ u.1 > -4097 ∧ u.2 < 4097 ∧ u.2 - 20 > u.1 then (u.1, u.1 + 20) else u
def fewR (r : Reg) : Reg := (r.take 12).map fun w => (w.1, (w.2.take 4).map fewU)
theorem few_L2 : @t_additivelaw29_few_L2 wv = @t_additivelaw29_few_L1 wv := rfl
theorem few_runs (i y : Int) (r out : Reg) (l : List Run) (hl : l.length ≤ 4) : loopN (@t_additivelaw29_few_L1 wv) bigN ⟨i, ⟨0, ⟨r, ⟨y, ⟨l, ⟨out, ⟨[], ()⟩⟩⟩⟩⟩⟩⟩ = some ⟨i, ⟨r, ⟨y, ⟨l, ⟨l.map fewU, ⟨out, ()⟩⟩⟩⟩⟩⟩ :=
 loop_st (b := @t_additivelaw29_few_L1 wv) (fun k => ⟨i, ⟨(k : Int), ⟨r, ⟨y, ⟨l, ⟨out, ⟨(l.take k).map fewU, ()⟩⟩⟩⟩⟩⟩⟩) l.length (by omega) (fun k hk => by
  have hx := List.getElem?_eq_getElem hk
  generalize l[k] = u at hx
  have hlen : ((l.take k).map fewU).length = k := by rw [List.length_map, List.length_take]; omega
  unfold t_additivelaw29_few_L1
  dsimp only
  rw [w_ln, br_lt (by omega), ge_s (fg hx)]
  simp only [w_ln, w_pl, hlen, w_ap, w_add, w_sub]
  rw [wr (n := (k : Int) + 1) (by omega) (by omega), fit16 (by omega) (by omega), fit16 (by omega) (by omega), map_take_of hx]
  simp only [w_br, w_lss, w_gtr, decide_eq_true_eq]
  unfold fewU
  by_cases h1 : u.1 < u.2 ∧ u.1 > -4097 ∧ u.2 < 4097
  ·rw [if_pos h1.1, if_pos h1.2.1, if_pos h1.2.2, wr (n := u.2 - 20) (by omega) (by omega), wr (n := u.1 + 20) (by omega) (by omega)]
   by_cases h2 : u.2 - 20 > u.1
   ·rw [if_pos h2, if_pos ⟨h1.1, h1.2.1, h1.2.2, h2⟩]; rfl
   ·rw [if_neg h2, if_neg fun q => h2 q.2.2.2]; rfl
  ·rw [if_neg (c := u.1 < u.2 ∧ u.1 > -4097 ∧ u.2 < 4097 ∧ u.2 - 20 > u.1) fun q => h1 ⟨q.1, q.2.1, q.2.2.1⟩]
   (repeat' split) <;> first | rfl | omega) (by
  unfold t_additivelaw29_few_L1
  dsimp only
  rw [w_ln, br_nlt (by omega), List.take_length])
theorem few_ok (r : Reg) : @t_additivelaw29_few wv r = some (fewR r) := by
 have hloop := loop_st (b := @t_additivelaw29_few_L0 wv) (e := ⟨fewR r, ()⟩) (fun i => ⟨(i : Int), ⟨r, ⟨(r.take i).map fun w => (w.1, (w.2.take 4).map fewU), ()⟩⟩⟩) (min r.length 12) (by omega) (fun i hi => by
  have hil : i < r.length := by omega
  have hx := List.getElem?_eq_getElem hil
  generalize r[i] = w at hx
  unfold t_additivelaw29_few_L0
  dsimp only
  rw [w_ln, br_lt (by omega), br_lt (by omega), ge_s (fg hx), w_br, w_gtr, w_ln, map_take_of hx]
  have hlen : ((r.take i).map fun w : Row => (w.1, (w.2.take 4).map fewU)).length = i := by rw [List.length_map, List.length_take]; omega
  have le_t : ∀ {α : Type} {a b : Int} {x : Option α}, a ≤ b → @W.gd wv α (@W.le wv a b) x = x := fun h => gd_t (by rw [w_le]; exact decide_eq_true h)
  by_cases h4 : (w.2.length : Int) > 4
  ·rw [if_pos (decide_eq_true h4), le_t (by omega), le_t (by omega), w_ct, show (0 : Int).toNat = 0 from rfl, show (4 : Int).toNat = 4 from rfl, List.drop_zero]
   refine (lo_s (few_runs _ _ _ _ _ (by rw [List.length_take]; omega))).trans ?_
   dsimp only
   rw [w_ln, w_pl, hlen, fit32 (by omega) (by omega), w_add, wr (by omega) (by omega)]
   rfl
  ·rw [if_neg (by simpa using h4), few_L2, List.take_of_length_le (l := w.2) (by omega)]
   refine (lo_s (few_runs _ _ _ _ _ (by omega))).trans ?_
   dsimp only
   rw [w_ln, w_pl, hlen, fit32 (by omega) (by omega), w_add, wr (by omega) (by omega)]
   rfl) (by
  unfold t_additivelaw29_few_L0
  dsimp only
  rw [w_ln, w_br, w_lss, w_br, w_lss]
  have e : r.take (min r.length 12) = r.take 12 := by rw [List.take_eq_take_iff]; omega
  rw [e]
  by_cases h : ((min r.length 12 : Nat) : Int) < (r.length : Int)
  ·rw [if_pos (decide_eq_true h), if_neg (by simp; omega)]; rfl
  ·rw [if_neg (by simpa using h)]; rfl)
 unfold t_additivelaw29_few
 refine (lo_s hloop).trans rfl
theorem k_few {α : Type} {r : Reg} (k : List (Int × List (Int × Int)) → Option α) : @W.call wv α c_additivelaw29_few r k = k (fewR r) := ca_s (c := c_additivelaw29_few) (few_ok r)
theorem fewR_lim (r : Reg) : LimR (fewR r) := by
 refine ⟨by unfold fewR; rw [List.length_map, List.length_take]; omega, fun w hw => ?_⟩
 obtain ⟨v, hv, rfl⟩ := List.mem_map.1 hw
 dsimp only
 rw [List.length_map, List.length_take]; omega
theorem fewR_cells (r : Reg) (h : RegOK (fewR r)) : (cellsC (fewR r)).length ≤ 960 := by
 have hu : ∀ w ∈ fewR r, ∀ u ∈ w.2, (lineC w.1 u).length ≤ 20 := fun w hw u hu => by
  have hb := (h.rs w hw).bd u hu
  obtain ⟨v, hv, rfl⟩ := List.mem_map.1 hw
  obtain ⟨x, hx, rfl⟩ := List.mem_map.1 hu
  rw [lineC_len]
  unfold fewU at hb ⊢
  split
  ·dsimp only; omega
  ·rename_i hn
   rw [if_neg hn] at hb
   omega
 have hw : ∀ w ∈ fewR r, (rowC w).length ≤ 80 := fun w hw => by
  have h1 := flat_len_le (f := lineC w.1) (l := w.2) (n := 20) (hu w hw)
  have h2 : w.2.length ≤ 4 := by
   obtain ⟨v, hv, rfl⟩ := List.mem_map.1 hw
   dsimp only
   rw [List.length_map, List.length_take]; omega
  unfold rowC
  omega
 have h1 := flat_len_le (f := rowC) (l := fewR r) (n := 80) hw
 have h2 : (fewR r).length ≤ 12 := by unfold fewR; rw [List.length_map, List.length_take]; omega
 unfold cellsC
 omega
theorem same_ok (t : Track) (hc : t.2.2.length ≤ 1000000000) : @t_additiveref23_Same wv (t, t) = some true := by
 have hloop := loop_st (b := @t_additiveref23_Same_L0 wv) (e := .inr ()) (fun i => ⟨(t.2.2.length : Int), ⟨(i : Int), ⟨t.1, ⟨t.2.1, ⟨t.2.2, ⟨t.1, ⟨t.2.1, ⟨t.2.2, ()⟩⟩⟩⟩⟩⟩⟩⟩) t.2.2.length (by omega) (fun i hi => by
  have hx := List.getElem?_eq_getElem hi
  unfold t_additiveref23_Same_L0
  dsimp only
  rw [br_lt (by omega), ge_s (fg hx), ge_s (fg hx), br_f (by simp [w_nt, w_an, w_eql]), w_add, wr (by omega) (by omega)]
  rfl) (by
  unfold t_additiveref23_Same_L0
  dsimp only
  rw [br_nlt (by omega)])
 unfold t_additiveref23_Same
 dsimp only
 rw [br_f (by simp [w_neq]), br_f (by simp [w_nt, w_be]), br_f (by simp [w_neq, w_ln])]
 exact lo_s hloop
theorem k_Same {α : Type} {t : Track} (hc : t.2.2.length ≤ 1000000000) (k : Bool → Option α) : @W.call wv α c_additiveref23_Same (((t.1, (t.2.1, t.2.2)), (t.1, (t.2.1, t.2.2))) : (Int × (Bool × List (Int × Int))) × (Int × (Bool × List (Int × Int)))) k = k true := ca_s (c := c_additiveref23_Same) (same_ok t hc)
theorem sameAll_ok (l : List Track) (hl : l.length ≤ 1000000000) (hc : ∀ t ∈ l, t.2.2.length ≤ 1000000000) : @t_additiveref23_SameAll wv (l, l) = some true := by
 have hloop := loop_st (b := @t_additiveref23_SameAll_L0 wv) (e := .inr ()) (fun i => ⟨l, ⟨l, ⟨(l.length : Int), ⟨(i : Int), ()⟩⟩⟩⟩) l.length (by omega) (fun i hi => by
  have hx := List.getElem?_eq_getElem hi
  generalize l[i] = t at hx
  unfold t_additiveref23_SameAll_L0
  dsimp only
  rw [br_lt (by omega), ge_s (fg hx), ge_s (fg hx), k_Same (hc t (List.mem_of_getElem? hx)), br_f (by simp [w_nt]), w_add, wr (by omega) (by omega)]
  rfl) (by
  unfold t_additiveref23_SameAll_L0
  dsimp only
  rw [br_nlt (by omega)])
 unfold t_additiveref23_SameAll
 dsimp only
 rw [br_f (by simp [w_neq, w_ln])]
 exact lo_s hloop
theorem k_SameAll {α : Type} {l : List Track} (hl : l.length ≤ 1000000000) (hc : ∀ t ∈ l, t.2.2.length ≤ 1000000000) (k : Bool → Option α) : @W.call wv α c_additiveref23_SameAll ((l, l) : List (Int × (Bool × List (Int × Int))) × List (Int × (Bool × List (Int × Int)))) k = k true := ca_s (c := c_additiveref23_SameAll) (sameAll_ok l hl hc)
end Go.Proofs.YtaammoealihpmaaGreat
namespace Go.Proofs.YtaammoealihpmaaGreat
open Go Go.Vv Go.Dn Go.Dn.W
set_option linter.unusedVariables false
set_option linter.unusedSimpArgs false
set_option maxRecDepth 100000
theorem awake_ok : @t_additivelaw29_awake wv () = some true := by kernel_rfl
theorem k_awake {α : Type} (k : Bool → Option α) : @W.call wv α c_additivelaw29_awake (() : Unit) k = k true := ca_s (c := c_additivelaw29_awake) awake_ok
end Go.Proofs.YtaammoealihpmaaGreat
namespace Go.Proofs.YtaammoealihpmaaGreat
open Go Go.Vv Go.Dn Go.Dn.W
set_option linter.unusedVariables false
set_option linter.unusedSimpArgs false
set_option maxRecDepth 100000
noncomputable def nearB (a b : Cell) : Bool := (@t_additiveref29_near wv (a, b)).getD false
theorem near_ref (a b : Cell) : @t_additiveref29_near wv (a, b) = some (nearB a b) := rfl
theorem near_hatch (a b : Cell) : @t_hatch_near wv (a, b) = some (nearB a b) := rfl
theorem k_near {α : Type} {a b : Cell} (k : Bool → Option α) : @W.call wv α c_hatch_near (((a.1, a.2), (b.1, b.2)) : (Int × Int) × (Int × Int)) k = k (nearB a b) := ca_s (c := c_hatch_near) (near_hatch a b)
theorem k_near29 {α : Type} {a b : Cell} (k : Bool → Option α) : @W.call wv α c_additiveref29_near (((a.1, a.2), (b.1, b.2)) : (Int × Int) × (Int × Int)) k = k (nearB a b) := ca_s (c := c_additiveref29_near) (near_ref a b)
abbrev Zs := Option (List Track × List Cell)
def zT : Zs → List Track
 | none => []
 | some (O, C) => O ++ [(3, (false, C))]
def zA : Zs → List Track
 | none => []
 | some (O, _) => O ++ [(3, (false, []))]
def zC : Zs → List Cell
 | none => []
 | some (_, C) => C
noncomputable def joinB (C l : List Cell) : Bool := nearB (C.getD (C.length - 1) (0, 0)) (l.getD 0 (0, 0)) && decide ((C.length : Int) + (l.length : Int) ≤ 65536)
noncomputable def zPut : Zs → List Cell → Zs
 | none, l => some ([], l)
 | some (O, C), l => if joinB C l = true then some (O, C ++ l) else some (O ++ [(3, (false, C))], l)
def zCells (z : Zs) : List Cell := (zT z).flatMap fun t => t.2.2
def zOK (z : Zs) : Prop := ∀ t ∈ zT z, t.2.2 ≠ []
theorem zPut_cells (z : Zs) (l : List Cell) : zCells (zPut z l) = zCells z ++ l := by
 rcases z with _ | ⟨O, C⟩
 ·simp [zCells, zPut, zT]
 ·simp only [zPut]
  split <;> simp [zCells, zT]
theorem zPut_ok {z : Zs} {l : List Cell} (h : zOK z) (hl : l ≠ []) : zOK (zPut z l) := by
 rcases z with _ | ⟨O, C⟩
 ·intro t ht
  simp only [zPut, zT, List.nil_append, List.mem_singleton] at ht
  rw [ht]; exact hl
 ·have hO : ∀ t ∈ O, t.2.2 ≠ [] := fun t ht => h t (List.mem_append_left _ ht)
  have hC : C ≠ [] := h (3, (false, C)) (List.mem_append_right _ (List.mem_singleton_self _))
  simp only [zPut]
  split
  ·intro t ht
   rcases List.mem_append.1 ht with q | q
   ·exact hO t q
   ·rw [List.mem_singleton.1 q]
    intro e
    exact hC (List.append_eq_nil_iff.1 e).1
  ·intro t ht
   rcases List.mem_append.1 ht with q | q
   ·rcases List.mem_append.1 q with q | q
    ·exact hO t q
    ·rw [List.mem_singleton.1 q]; exact hC
   ·rw [List.mem_singleton.1 q]; exact hl
theorem tracks_le : ∀ {T : List Track}, (∀ t ∈ T, t.2.2 ≠ []) → T.length ≤ (T.flatMap fun t => t.2.2).length ∧ ∀ t ∈ T, t.2.2.length ≤ (T.flatMap fun t => t.2.2).length
 | [], _ => ⟨by simp, fun t ht => by cases ht⟩
 | t :: T, h => by
  obtain ⟨h1, h2⟩ := tracks_le (T := T) fun s hs => h s (List.mem_cons_of_mem _ hs)
  have h3 := List.length_pos_iff.2 (h t (List.mem_cons_self ..))
  simp only [List.flatMap_cons, List.length_append, List.length_cons]
  refine ⟨by omega, fun s hs => ?_⟩
  rcases List.mem_cons.1 hs with rfl | hs
  ·omega
  ·have := h2 s hs; omega
theorem zOK.le {z : Zs} (h : zOK z) : (zT z).length ≤ (zCells z).length ∧ ∀ t ∈ zT z, t.2.2.length ≤ (zCells z).length := tracks_le h
theorem zFold_ok : ∀ (ls : List (List Cell)) {z : Zs}, zOK z → (∀ l ∈ ls, l ≠ []) → zOK (ls.foldl zPut z)
 | [], _, h, _ => h
 | l :: ls, z, h, hl => zFold_ok ls (zPut_ok h (hl l (List.mem_cons_self ..))) fun m hm => hl m (List.mem_cons_of_mem _ hm)
theorem zFold_cells : ∀ (ls : List (List Cell)) (z : Zs), zCells (ls.foldl zPut z) = zCells z ++ ls.flatten
 | [], z => by simp
 | l :: ls, z => by
  rw [List.foldl_cons, zFold_cells ls, zPut_cells, List.flatten_cons, List.append_assoc]
def zLines (w : Row) : List (List Cell) := if w.1 % 2 = 0 then w.2.map (lineC w.1) else w.2.reverse.map fun u => (lineC w.1 u).reverse
noncomputable def zRow (z : Zs) (w : Row) : Zs := (zLines w).foldl zPut z
theorem lineC_ne {lo hi : Int} {w : Row} (h : RunsOK lo hi w.2) {u : Run} (hu : u ∈ w.2) : lineC w.1 u ≠ [] := by
 have := h.bd u hu
 intro e
 have h2 := lineC_len w.1 u
 rw [e, List.length_nil] at h2
 omega
theorem flat_rev_len {α β : Type} (f : α → List β) : ∀ l : List α, ((l.reverse.map fun u => (f u).reverse).flatten).length = (l.flatMap f).length
 | [] => rfl
 | x :: l => by
  have := flat_rev_len f l
  simp only [List.reverse_cons, List.map_append, List.flatten_append, List.length_append, List.map_cons, List.map_nil, List.flatten_cons, List.flatten_nil, List.append_nil, List.length_reverse, List.flatMap_cons, List.length_nil] at this ⊢
  omega
theorem zLines_ne {w : Row} {lo hi : Int} (h : RunsOK lo hi w.2) : ∀ l ∈ zLines w, l ≠ [] := by
 intro l hl
 unfold zLines at hl
 split at hl
 ·obtain ⟨u, hu, rfl⟩ := List.mem_map.1 hl
  exact lineC_ne h hu
 ·obtain ⟨u, hu, rfl⟩ := List.mem_map.1 hl
  intro e
  exact lineC_ne h (List.mem_reverse.1 hu) (List.reverse_eq_nil_iff.1 e)
theorem zLines_len (w : Row) : (zLines w).flatten.length = (rowC w).length := by
 unfold zLines rowC
 split
 ·rw [List.flatMap_def]
 ·exact flat_rev_len (lineC w.1) w.2
theorem zRow_ok {w : Row} {lo hi : Int} (h : RunsOK lo hi w.2) {z : Zs} (hz : zOK z) : zOK (zRow z w) := zFold_ok _ hz (zLines_ne h)
theorem zRow_len (z : Zs) (w : Row) : (zCells (zRow z w)).length = (zCells z).length + (rowC w).length := by
 rw [zRow, zFold_cells, List.length_append, zLines_len]
theorem zRows_ok : ∀ (l : Reg) {z : Zs}, (∀ w ∈ l, RunsOK (-4096) 4096 w.2) → zOK z → zOK (l.foldl zRow z)
 | [], _, _, hz => hz
 | w :: l, z, h, hz => zRows_ok l (fun v hv => h v (List.mem_cons_of_mem _ hv)) (zRow_ok (h w (List.mem_cons_self ..)) hz)
theorem zRows_len : ∀ (l : Reg) (z : Zs), (zCells (l.foldl zRow z)).length = (zCells z).length + (l.flatMap rowC).length
 | [], z => by simp
 | w :: l, z => by rw [List.foldl_cons, zRows_len l, zRow_len, List.flatMap_cons, List.length_append]; omega
noncomputable abbrev putX [W] {α : Type} (A : List Track) (C l : List Cell) (mk : List Track → List Cell → Option α) : Option α :=
 br (cm .geq (ar .sub .i64 (ln A) 1) 0) (gd (ib (ar .sub .i64 (ln A) 1) (ln A)) <|
 ge A (ar .sub .i64 (ln A) 1) fun v5 =>
 gd (cm .eql (pl (ar .sub .i64 (ln A) 1) 1) (ln A)) <|
 ge A (ar .sub .i64 (ln A) 1) fun v6 =>
 gd (cm .eql (pl (ar .sub .i64 (ln A) 1) 1) (ln A)) <|
 gd (ib (ar .sub .i64 (ln C) 1) (ln C)) <|
 ge C (ar .sub .i64 (ln C) 1) fun v7 =>
 gd (ib 0 (ln l)) <|
 ge l 0 fun v8 =>
 call c_hatch_near (((v7.1, v7.2), (v8.1, v8.2)) : ((Int × Int) × (Int × Int))) fun (v9 : Bool) =>
 br v9 (ge A (ar .sub .i64 (ln A) 1) fun v10 =>
 gd (cm .eql (pl (ar .sub .i64 (ln A) 1) 1) (ln A)) <|
 br (cm .leq (ar .add .i64 (ln C) (ln l)) 65536) (ge A (ar .sub .i64 (ln A) 1) fun v11 =>
 gd (cm .eql (pl (ar .sub .i64 (ln A) 1) 1) (ln A)) <|
 gd (ft 16 (pl (ln C) (ln l))) <|
 ge A (ar .sub .i64 (ln A) 1) fun v12 =>
 gd (cm .eql (pl (ar .sub .i64 (ln A) 1) 1) (ln A)) <|
 mk (st A (ar .sub .i64 (ln A) 1) (v12.1, (v12.2.1, v12.2.2))) (ap C l))
 (gd (ft 40 (pl (ln A) 1)) <|
 mk (ap (ml A fun y => (y.1, (y.2.1, C))) ((3, (false, [])) :: [])) l))
 (gd (ft 40 (pl (ln A) 1)) <|
 mk (ap (ml A fun y => (y.1, (y.2.1, C))) ((3, (false, [])) :: [])) l))
 (gd (ft 40 (pl (ln A) 1)) <|
 mk (ap (ml A fun y => (y.1, (y.2.1, C))) ((3, (false, [])) :: [])) l)
theorem get_end {C : List Cell} (h : C ≠ []) : C[C.length - 1]? = some (C.getD (C.length - 1) (0, 0)) := by
 have := List.length_pos_iff.2 h
 rw [List.getD_eq_getElem?_getD, List.getElem?_eq_getElem (by omega)]; rfl
theorem get_fst {l : List Cell} (h : l ≠ []) : l[0]? = some (l.getD 0 (0, 0)) := by
 have := List.length_pos_iff.2 h
 rw [List.getD_eq_getElem?_getD, List.getElem?_eq_getElem (by omega)]; rfl
theorem putX_ok {α : Type} {z : Zs} {l : List Cell} (hz : zOK z) (hl : l ≠ []) (hc : (zCells z).length + l.length ≤ 1000000000) (mk : List Track → List Cell → Option α) :
  @putX wv α (zA z) (zC z) l mk = mk (zA (zPut z l)) (zC (zPut z l)) := by
 have hle := hz.le
 have hlp := List.length_pos_iff.2 hl
 rcases z with _ | ⟨O, C⟩
 ·unfold putX
  dsimp only [zA, zC, zPut]
  have e : @W.cm wv .geq (@W.ar wv .sub .i64 (@W.ln wv Track []) 1) 0 = false := by decide
  rw [br_f e, fit40 (by rw [w_pl, w_ln]; simp) (by rw [w_pl, w_ln]; simp)]
  rfl
 ·have hC : C ≠ [] := hz (3, (false, C)) (List.mem_append_right _ (List.mem_singleton_self _))
  have hCp := List.length_pos_iff.2 hC
  have hT : O.length + 1 ≤ (zCells (some (O, C))).length := by
   have := hle.1
   simpa only [zT, List.length_append, List.length_singleton] using this
  have hCl : C.length ≤ (zCells (some (O, C))).length := hle.2 (3, (false, C)) (List.mem_append_right _ (List.mem_singleton_self _))
  unfold putX
  dsimp only [zA, zC]
  have e1 : @W.ar wv .sub .i64 ((O.length : Int) + 1) 1 = (O.length : Int) := by
   rw [w_sub, wr (by omega) (by omega)]; omega
  have e0 : @W.ln wv _ (O ++ [((3, (false, [])) : Track)]) = (O.length : Int) + 1 := by
   rw [w_ln, List.length_append, List.length_singleton]; omega
  have e2 : @W.ar wv .sub .i64 (@W.ln wv _ C) 1 = ((C.length - 1 : Nat) : Int) := by
   rw [w_ln, w_sub, wr (by omega) (by omega)]; omega
  simp only [e0, e1, e2]
  have hg : fget (O ++ [((3, (false, [])) : Track)]) (O.length : Int) = some (3, (false, [])) := fg (get_last O _)
  have hq : @W.cm wv .eql (@W.pl wv (O.length : Int) 1) ((O.length : Int) + 1) = true := by rw [w_eql, w_pl]; simp
  rw [br_t (by rw [w_geq]; exact decide_eq_true (by omega)), gd_ib (by omega), ge_s hg, gd_t hq, ge_s hg, gd_t hq, w_ln, gd_ib (by omega), ge_s (fg (get_end hC)), w_ln, gd_ib (by omega), ge_s (fg0 (get_fst hl)), k_near]
  have hft : ∀ {β : Type} (x : Option β), @W.gd wv β (@W.ft wv 40 (@W.pl wv ((O.length : Int) + 1) 1)) x = x := fun x => fit40 (by rw [w_pl]; omega) (by rw [w_pl]; omega)
  have hap : @W.ap wv _ (@W.ml wv _ (O ++ [((3, (false, [])) : Track)]) fun y => (y.1, (y.2.1, C))) ((3, (false, [])) :: []) = (O ++ [(3, (false, C))]) ++ [(3, (false, []))] := by rw [w_ap, w_ml, modLast_app]
  cases hn : nearB (C.getD (C.length - 1) (0, 0)) (l.getD 0 (0, 0)) with
  | false =>
   rw [br_f rfl, hft, hap]
   simp only [zPut, joinB, hn, Bool.false_and, Bool.false_eq_true, if_false, zA, zC]
  | true =>
   rw [br_t rfl, ge_s hg, gd_t hq, w_add, wr (by omega) (by omega)]
   by_cases hj : (C.length : Int) + (l.length : Int) ≤ 65536
   ·rw [br_t (by rw [w_leq]; exact decide_eq_true hj), ge_s hg, gd_t hq, fit16 (by rw [w_pl]; omega) (by rw [w_pl]; omega), ge_s hg, gd_t hq, w_st, Int.toNat_natCast, set_last]
    simp only [zPut, joinB, hn, Bool.true_and, decide_eq_true hj, if_true, zA, zC]
    rfl
   ·rw [br_f (by rw [w_leq]; exact decide_eq_false hj), hft, hap]
    simp only [zPut, joinB, hn, Bool.true_and, decide_eq_false hj, Bool.false_eq_true, if_false, zA, zC]
theorem zline_L3 (y a b : Int) (h1 : -4611686018427387904 ≤ a) (h2 : b ≤ 4611686018427387904) (h3 : b - a ≤ 1000000000) (s2 : Reg) (s3 s4 : Int) (s5 : List Run) (s6 s7 s8 s10 : Int) (s11 : List Run) (s12 : List Track) (s13 : List Cell) :
  loopN (@t_hatch_Zigzag_L3 wv) bigN ⟨y, ⟨a, ⟨s2, ⟨s3, ⟨s4, ⟨s5, ⟨s6, ⟨s7, ⟨s8, ⟨b, ⟨s10, ⟨s11, ⟨s12, ⟨s13, ⟨[], ()⟩⟩⟩⟩⟩⟩⟩⟩⟩⟩⟩⟩⟩⟩⟩ = some ⟨s2, ⟨s3, ⟨s4, ⟨s5, ⟨s6, ⟨s7, ⟨lineC y (a, b), ⟨s10, ⟨s11, ⟨s12, ⟨s13, ()⟩⟩⟩⟩⟩⟩⟩⟩⟩⟩⟩ := by
 have hloop := loop_st (b := @t_hatch_Zigzag_L3 wv) (e := ⟨s2, ⟨s3, ⟨s4, ⟨s5, ⟨s6, ⟨s7, ⟨lineC y (a, b), ⟨s10, ⟨s11, ⟨s12, ⟨s13, ()⟩⟩⟩⟩⟩⟩⟩⟩⟩⟩⟩) (fun i => ⟨y, ⟨a + (i : Int), ⟨s2, ⟨s3, ⟨s4, ⟨s5, ⟨s6, ⟨s7, ⟨s8, ⟨b, ⟨s10, ⟨s11, ⟨s12, ⟨s13, ⟨(rng a i).map fun x => (x, y), ()⟩⟩⟩⟩⟩⟩⟩⟩⟩⟩⟩⟩⟩⟩⟩) (b - a).toNat (by omega) (fun i hi => by
  unfold t_hatch_Zigzag_L3
  dsimp only
  rw [br_lt (by omega), w_ln, w_pl, fit16 (by rw [List.length_map, rng_len]; omega) (by omega), w_add, wr (by omega) (by omega), w_ap, lineC_succ, show a + (i : Int) + 1 = a + ((i + 1 : Nat) : Int) by omega]) (by unfold t_hatch_Zigzag_L3; dsimp only; rw [br_nlt (by omega)]; rfl)
 have e0 : a + ((0 : Nat) : Int) = a := by omega
 simp only [e0] at hloop
 exact hloop
theorem zline_L5 (y a b : Int) (h1 : -4611686018427387904 ≤ a) (h2 : b ≤ 4611686018427387904) (h3 : b - a ≤ 1000000000) (s2 : Int) (s3 : Reg) (s4 s5 s6 : Int) (s8 : List Run) (s9 : Int) (s10 : List Run) (s11 : List Track) (s12 : List Cell) :
  loopN (@t_hatch_Zigzag_L5 wv) bigN ⟨y, ⟨a, ⟨s2, ⟨s3, ⟨s4, ⟨s5, ⟨s6, ⟨b, ⟨s8, ⟨s9, ⟨s10, ⟨s11, ⟨s12, ⟨[], ()⟩⟩⟩⟩⟩⟩⟩⟩⟩⟩⟩⟩⟩⟩ = some ⟨s2, ⟨s3, ⟨s4, ⟨s5, ⟨lineC y (a, b), ⟨s8, ⟨s9, ⟨s10, ⟨s11, ⟨s12, ()⟩⟩⟩⟩⟩⟩⟩⟩⟩⟩ := by
 have hloop := loop_st (b := @t_hatch_Zigzag_L5 wv) (e := ⟨s2, ⟨s3, ⟨s4, ⟨s5, ⟨lineC y (a, b), ⟨s8, ⟨s9, ⟨s10, ⟨s11, ⟨s12, ()⟩⟩⟩⟩⟩⟩⟩⟩⟩⟩) (fun i => ⟨y, ⟨a + (i : Int), ⟨s2, ⟨s3, ⟨s4, ⟨s5, ⟨s6, ⟨b, ⟨s8, ⟨s9, ⟨s10, ⟨s11, ⟨s12, ⟨(rng a i).map fun x => (x, y), ()⟩⟩⟩⟩⟩⟩⟩⟩⟩⟩⟩⟩⟩⟩) (b - a).toNat (by omega) (fun i hi => by
  unfold t_hatch_Zigzag_L5
  dsimp only
  rw [br_lt (by omega), w_ln, w_pl, fit16 (by rw [List.length_map, rng_len]; omega) (by omega), w_add, wr (by omega) (by omega), w_ap, lineC_succ, show a + (i : Int) + 1 = a + ((i + 1 : Nat) : Int) by omega]) (by unfold t_hatch_Zigzag_L5; dsimp only; rw [br_nlt (by omega)]; rfl)
 have e0 : a + ((0 : Nat) : Int) = a := by omega
 simp only [e0] at hloop
 exact hloop
def rvS (l : List Cell) (m : Nat) : List Cell := (List.range l.length).map fun t => l.getD (if t < m ∨ l.length - m ≤ t then l.length - 1 - t else t) (0, 0)
theorem rvS_len (l : List Cell) (m : Nat) : (rvS l m).length = l.length := by simp [rvS]
theorem rvS_get (l : List Cell) (m : Nat) {t : Nat} (h : t < l.length) : (rvS l m)[t]? = some (l.getD (if t < m ∨ l.length - m ≤ t then l.length - 1 - t else t) (0, 0)) := by
 simp only [rvS, List.getElem?_map, List.getElem?_range h, Option.map_some]
theorem getD_get {l : List Cell} {t : Nat} (h : t < l.length) : l[t]? = some (l.getD t (0, 0)) := by
 rw [List.getD_eq_getElem?_getD, List.getElem?_eq_getElem h]; rfl
theorem rvS_zero (l : List Cell) : rvS l 0 = l := by
 refine List.ext_getElem? fun t => ?_
 by_cases h : t < l.length
 ·rw [rvS_get l 0 h, if_neg (by omega), getD_get h]
 ·rw [List.getElem?_eq_none (by rw [rvS_len]; omega), List.getElem?_eq_none (by omega)]
theorem rvS_fin (l : List Cell) : rvS l (l.length / 2) = l.reverse := by
 refine List.ext_getElem? fun t => ?_
 by_cases h : t < l.length
 ·rw [rvS_get l _ h, List.getElem?_reverse h, getD_get (by omega)]
  split
  ·rfl
  ·rw [show l.length - 1 - t = t by omega]
 ·rw [List.getElem?_eq_none (by rw [rvS_len]; omega), List.getElem?_eq_none (by rw [List.length_reverse]; omega)]
theorem rvS_step (l : List Cell) (m : Nat) (h : 2 * m + 1 < l.length) : ((rvS l m).set m (l.getD (l.length - 1 - m) (0, 0))).set (l.length - 1 - m) (l.getD m (0, 0)) = rvS l (m + 1) := by
 refine List.ext_getElem? fun t => ?_
 by_cases ht : t < l.length
 ·rw [rvS_get l (m + 1) ht, List.getElem?_set, List.getElem?_set, List.length_set, rvS_len, rvS_get l m ht]
  by_cases h1 : l.length - 1 - m = t
  ·rw [if_pos h1, if_pos (by omega), if_pos (by omega), show l.length - 1 - t = m by omega]
  ·rw [if_neg h1]
   by_cases h2 : m = t
   ·rw [if_pos h2, if_pos (by omega), if_pos (by omega), h2]
   ·rw [if_neg h2]
    congr 2
    by_cases h3 : t < m ∨ l.length - m ≤ t
    ·rw [if_pos h3, if_pos (by omega)]
    ·rw [if_neg h3, if_neg (by omega)]
 ·rw [List.getElem?_eq_none (by rw [List.length_set, List.length_set, rvS_len]; omega), List.getElem?_eq_none (by rw [rvS_len]; omega)]
theorem zrev_L6 (l : List Cell) (hl : l.length ≤ 1000000000) (s2 : Int) (s3 : Reg) (s4 s5 : Int) (s7 : List Run) (s8 : Int) (s9 : List Run) (s10 : List Track) (s11 : List Cell) :
  loopN (@t_hatch_Zigzag_L6 wv) bigN ⟨0, ⟨(l.length : Int) - 1, ⟨s2, ⟨s3, ⟨s4, ⟨s5, ⟨l, ⟨s7, ⟨s8, ⟨s9, ⟨s10, ⟨s11, ()⟩⟩⟩⟩⟩⟩⟩⟩⟩⟩⟩⟩ = some ⟨s2, ⟨s3, ⟨s4, ⟨s5, ⟨l.reverse, ⟨s7, ⟨s8, ⟨s9, ⟨s10, ⟨s11, ()⟩⟩⟩⟩⟩⟩⟩⟩⟩⟩ := by
 have hloop := loop_st (b := @t_hatch_Zigzag_L6 wv) (e := ⟨s2, ⟨s3, ⟨s4, ⟨s5, ⟨l.reverse, ⟨s7, ⟨s8, ⟨s9, ⟨s10, ⟨s11, ()⟩⟩⟩⟩⟩⟩⟩⟩⟩⟩) (fun m => ⟨(m : Int), ⟨(l.length : Int) - 1 - (m : Int), ⟨s2, ⟨s3, ⟨s4, ⟨s5, ⟨rvS l m, ⟨s7, ⟨s8, ⟨s9, ⟨s10, ⟨s11, ()⟩⟩⟩⟩⟩⟩⟩⟩⟩⟩⟩⟩) (l.length / 2) (by omega) (fun m hm => by
  have hm2 : 2 * m + 1 < l.length := by omega
  have ej : (l.length : Int) - 1 - (m : Int) = ((l.length - 1 - m : Nat) : Int) := by omega
  have g1 : fget (rvS l m) ((l.length - 1 - m : Nat) : Int) = some (l.getD (l.length - 1 - m) (0, 0)) := fg (by rw [rvS_get l m (by omega), if_neg (by omega)])
  have g2 : fget (rvS l m) (m : Int) = some (l.getD m (0, 0)) := fg (by rw [rvS_get l m (by omega), if_neg (by omega)])
  unfold t_hatch_Zigzag_L6
  dsimp only
  rw [ej, br_lt (by omega), w_ln, rvS_len, gd_ib (by omega), ge_s g1, gd_ib (by omega), ge_s g2, gd_ib (by omega), ge_s g2]
  rw [w_st, Int.toNat_natCast, w_ln, List.length_set, rvS_len, gd_ib (by omega)]
  have g3 : ∃ x, fget ((rvS l m).set m ((l.getD (l.length - 1 - m) (0, 0)).1, (l.getD (l.length - 1 - m) (0, 0)).2)) ((l.length - 1 - m : Nat) : Int) = some x := ⟨_, fg (getD_get (by rw [List.length_set, rvS_len]; omega))⟩
  obtain ⟨x, hx⟩ := g3
  rw [ge_s hx, w_st, Int.toNat_natCast, w_add, wr (by omega) (by omega), w_sub, wr (by omega) (by omega), show (((l.getD (l.length - 1 - m) (0, 0)).1, (l.getD (l.length - 1 - m) (0, 0)).2) : Cell) = l.getD (l.length - 1 - m) (0, 0) from rfl, show (((l.getD m (0, 0)).1, (l.getD m (0, 0)).2) : Cell) = l.getD m (0, 0) from rfl, rvS_step l m hm2, show ((l.length - 1 - m : Nat) : Int) - 1 = (l.length : Int) - 1 - ((m + 1 : Nat) : Int) by omega]
  rfl) (by
  unfold t_hatch_Zigzag_L6
  dsimp only
  rw [br_nlt (by omega), rvS_fin])
 have e0 : (l.length : Int) - 1 - ((0 : Nat) : Int) = (l.length : Int) - 1 := by omega
 simp only [e0, rvS_zero] at hloop
 exact hloop
noncomputable def zFwd (w : Row) (z : Zs) (k : Nat) : Zs := ((w.2.take k).map (lineC w.1)).foldl zPut z
noncomputable def zBwd (w : Row) (z : Zs) (k : Nat) : Zs := ((w.2.reverse.take k).map fun u => (lineC w.1 u).reverse).foldl zPut z
theorem zFwd_succ {w : Row} (z : Zs) {k : Nat} {u : Run} (h : w.2[k]? = some u) : zFwd w z (k + 1) = zPut (zFwd w z k) (lineC w.1 u) := by
 rw [zFwd, map_take_of h, List.foldl_append]; rfl
theorem zBwd_succ {w : Row} (z : Zs) {k : Nat} {u : Run} (h : w.2.reverse[k]? = some u) : zBwd w z (k + 1) = zPut (zBwd w z k) (lineC w.1 u).reverse := by
 rw [zBwd, map_take_of h, List.foldl_append]; rfl
theorem zFwd_ok {w : Row} {lo hi : Int} (h : RunsOK lo hi w.2) {z : Zs} (hz : zOK z) (k : Nat) : zOK (zFwd w z k) := zFold_ok _ hz fun l hl => by
 obtain ⟨u, hu, rfl⟩ := List.mem_map.1 hl
 exact lineC_ne h (List.mem_of_mem_take hu)
theorem zBwd_ok {w : Row} {lo hi : Int} (h : RunsOK lo hi w.2) {z : Zs} (hz : zOK z) (k : Nat) : zOK (zBwd w z k) := zFold_ok _ hz fun l hl => by
 obtain ⟨u, hu, rfl⟩ := List.mem_map.1 hl
 intro e
 exact lineC_ne h (List.mem_reverse.1 (List.mem_of_mem_take hu)) (List.reverse_eq_nil_iff.1 e)
theorem zFwd_len {w : Row} (z : Zs) {k : Nat} {u : Run} (h : w.2[k]? = some u) : (zCells (zFwd w z k)).length + (lineC w.1 u).length ≤ (zCells z).length + (rowC w).length := by
 have := flat_mem_le (lineC w.1) h
 rw [zFwd, zFold_cells, List.length_append, ← List.flatMap_def]
 unfold rowC
 omega
theorem rev_flat_len {α β : Type} (f : α → List β) (l : List α) : (l.reverse.flatMap fun u => (f u).reverse).length = (l.flatMap f).length := by
 rw [List.flatMap_def]; exact flat_rev_len f l
theorem zBwd_len {w : Row} (z : Zs) {k : Nat} {u : Run} (h : w.2.reverse[k]? = some u) : (zCells (zBwd w z k)).length + (lineC w.1 u).reverse.length ≤ (zCells z).length + (rowC w).length := by
 have := flat_mem_le (fun u => (lineC w.1 u).reverse) h
 rw [rev_flat_len] at this
 rw [zBwd, zFold_cells, List.length_append, ← List.flatMap_def]
 unfold rowC
 omega
theorem zig_even {w : Row} (h : RunsOK (-4096) 4096 w.2) (hy : w.1 % 2 = 0) (hw : w.2.length ≤ 1000000000) {z : Zs} (hz : zOK z) (hc : (zCells z).length + (rowC w).length ≤ 1000000000) (r : Reg) (n i : Int) :
  loopN (@t_hatch_Zigzag_L1 wv) bigN ⟨r, ⟨n, ⟨i, ⟨w.2, ⟨(w.2.length : Int), ⟨0, ⟨w.1, ⟨w.2, ⟨zA z, ⟨zC z, ()⟩⟩⟩⟩⟩⟩⟩⟩⟩⟩ = some ⟨r, ⟨n, ⟨i, ⟨zA (zRow z w), ⟨zC (zRow z w), ()⟩⟩⟩⟩⟩ := by
 have hloop := loop_st (b := @t_hatch_Zigzag_L1 wv) (e := ⟨r, ⟨n, ⟨i, ⟨zA (zFwd w z w.2.length), ⟨zC (zFwd w z w.2.length), ()⟩⟩⟩⟩⟩) (fun k => ⟨r, ⟨n, ⟨i, ⟨w.2, ⟨(w.2.length : Int), ⟨(k : Int), ⟨w.1, ⟨w.2, ⟨zA (zFwd w z k), ⟨zC (zFwd w z k), ()⟩⟩⟩⟩⟩⟩⟩⟩⟩⟩) w.2.length (by omega) (fun k hk => by
  have hu := List.getElem?_eq_getElem hk
  generalize w.2[k] = u at hu
  have hum := List.mem_of_getElem? hu
  have hb := h.bd u hum
  have hl := zFwd_len z hu
  have hJ : @t_hatch_Zigzag_J2 wv ⟨r, ⟨n, ⟨i, ⟨w.2, ⟨(w.2.length : Int), ⟨(k : Int), ⟨w.1, ⟨w.2, ⟨zA (zFwd w z k), ⟨zC (zFwd w z k), ()⟩⟩⟩⟩⟩⟩⟩⟩⟩⟩ = some ⟨r, ⟨n, ⟨i, ⟨w.2, ⟨(w.2.length : Int), ⟨(k : Int), ⟨w.1, ⟨w.2, ⟨zA (zFwd w z (k + 1)), ⟨zC (zFwd w z (k + 1)), ()⟩⟩⟩⟩⟩⟩⟩⟩⟩⟩ := by
   unfold t_hatch_Zigzag_J2
   dsimp only
   rw [ge_s (fg hu)]
   refine (lo_s (zline_L3 w.1 u.1 u.2 (by omega) (by omega) (by omega) ..)).trans ?_
   have hp := putX_ok (zFwd_ok h hz k) (lineC_ne h hum) (by omega) fun (A : List Track) (C : List Cell) => some (⟨r, ⟨n, ⟨i, ⟨w.2, ⟨(w.2.length : Int), ⟨(k : Int), ⟨w.1, ⟨w.2, ⟨A, ⟨C, ()⟩⟩⟩⟩⟩⟩⟩⟩⟩⟩ : HP Reg (HP Int (HP Int (HP (List Run) (HP Int (HP Int (HP Int (HP (List Run) (HP (List Track) (HP (List Cell) Unit))))))))))
   dsimp only [putX] at hp ⊢
   rw [zFwd_succ z hu, show ((u.1, u.2) : Run) = u from rfl]
   exact hp
  unfold t_hatch_Zigzag_L1
  dsimp only
  rw [br_lt (by omega)]
  refine (jo_s hJ).trans ?_
  dsimp only
  rw [w_add, wr (by omega) (by omega)]
  rfl) (by
  unfold t_hatch_Zigzag_L1
  dsimp only
  rw [br_nlt (by omega)])
 have e2 : zFwd w z w.2.length = zRow z w := by rw [zFwd, List.take_length, zRow, zLines, if_pos hy]
 rw [e2] at hloop
 exact hloop
theorem zig_odd {w : Row} (h : RunsOK (-4096) 4096 w.2) (hy : ¬ w.1 % 2 = 0) (hw : w.2.length ≤ 1000000000) {z : Zs} (hz : zOK z) (hc : (zCells z).length + (rowC w).length ≤ 1000000000) (r : Reg) (n i : Int) :
  loopN (@t_hatch_Zigzag_L4 wv) bigN ⟨(w.2.length : Int) - 1, ⟨r, ⟨n, ⟨i, ⟨w.2, ⟨w.1, ⟨w.2, ⟨zA z, ⟨zC z, ()⟩⟩⟩⟩⟩⟩⟩⟩⟩ = some ⟨r, ⟨n, ⟨i, ⟨w.1, ⟨w.2, ⟨zA (zRow z w), ⟨zC (zRow z w), ()⟩⟩⟩⟩⟩⟩⟩ := by
 have hloop := loop_st (b := @t_hatch_Zigzag_L4 wv) (e := ⟨r, ⟨n, ⟨i, ⟨w.1, ⟨w.2, ⟨zA (zBwd w z w.2.length), ⟨zC (zBwd w z w.2.length), ()⟩⟩⟩⟩⟩⟩⟩) (fun k => ⟨(w.2.length : Int) - 1 - (k : Int), ⟨r, ⟨n, ⟨i, ⟨w.2, ⟨w.1, ⟨w.2, ⟨zA (zBwd w z k), ⟨zC (zBwd w z k), ()⟩⟩⟩⟩⟩⟩⟩⟩⟩) w.2.length (by omega) (fun k hk => by
  have hu' : w.2.reverse[k]? = some w.2[w.2.length - 1 - k] := by rw [List.getElem?_reverse hk, List.getElem?_eq_getElem]
  have hu : w.2[w.2.length - 1 - k]? = some w.2[w.2.length - 1 - k] := List.getElem?_eq_getElem _
  generalize w.2[w.2.length - 1 - k] = u at hu hu'
  have hum := List.mem_of_getElem? hu
  have hb := h.bd u hum
  have hl := zBwd_len z hu'
  have hlen := lineC_len w.1 u
  have ek : (w.2.length : Int) - 1 - (k : Int) = ((w.2.length - 1 - k : Nat) : Int) := by omega
  unfold t_hatch_Zigzag_L4
  dsimp only
  rw [br_t (by rw [w_geq]; exact decide_eq_true (by omega)), ek, ge_s (fg hu)]
  refine (lo_s (zline_L5 w.1 u.1 u.2 (by omega) (by omega) (by omega) ..)).trans ?_
  dsimp only
  rw [show ((u.1, u.2) : Run) = u from rfl, w_ln, w_sub, wr (by omega) (by omega)]
  refine (lo_s (zrev_L6 (lineC w.1 u) (by omega) ..)).trans ?_
  have hp := putX_ok (zBwd_ok h hz k) (fun e => lineC_ne h hum (List.reverse_eq_nil_iff.1 e)) (by omega) fun (A : List Track) (C : List Cell) => some (Nx.go (B := HP Reg (HP Int (HP Int (HP Int (HP (List Run) (HP (List Track) (HP (List Cell) Unit))))))) (⟨@W.ar wv .sub .i64 ((w.2.length - 1 - k : Nat) : Int) 1, ⟨r, ⟨n, ⟨i, ⟨w.2, ⟨w.1, ⟨w.2, ⟨A, ⟨C, ()⟩⟩⟩⟩⟩⟩⟩⟩⟩ : HP Int (HP Reg (HP Int (HP Int (HP (List Run) (HP Int (HP (List Run) (HP (List Track) (HP (List Cell) Unit))))))))))
  dsimp only [putX] at hp ⊢
  rw [zBwd_succ z hu']
  refine hp.trans ?_
  rw [w_sub, wr (by omega) (by omega), show ((w.2.length - 1 - k : Nat) : Int) - 1 = (w.2.length : Int) - 1 - ((k + 1 : Nat) : Int) by omega]) (by
  unfold t_hatch_Zigzag_L4
  dsimp only
  rw [br_f (by rw [w_geq]; exact decide_eq_false (by omega))])
 have e0 : (w.2.length : Int) - 1 - ((0 : Nat) : Int) = (w.2.length : Int) - 1 := by omega
 have e2 : zBwd w z w.2.length = zRow z w := by
  rw [zBwd, List.take_of_length_le (by rw [List.length_reverse]; omega), zRow, zLines, if_neg hy]
 simp only [e0, e2] at hloop
 exact hloop
noncomputable def zigT (r : Reg) : List Track := zT (r.foldl zRow none)
theorem none_ok : zOK none := fun t ht => by cases ht
theorem zig_fin (z : Zs) : @W.ml wv _ (zA z) (fun y => (y.1, (y.2.1, zC z))) = zT z := by
 rcases z with _ | ⟨O, C⟩
 ·rfl
 ·rw [w_ml]
  exact modLast_app _ _ O
open Classical in
theorem Zigzag_ok (r : Reg) (hl : LimR r) (hc : RegOK r → (cellsC r).length ≤ 1000000000) : @t_hatch_Zigzag wv r = some (if RegOK r then zigT r else []) := by
 unfold t_hatch_Zigzag
 rw [k_region_Valid hl]
 by_cases h : RegOK r
 case neg => rw [br_t (by simp [w_nt, h]), if_neg h]
 rw [br_f (by simp [w_nt, h]), if_pos h]
 have hL := hl.1
 have hc := hc h
 have hloop := loop_st (b := @t_hatch_Zigzag_L0 wv) (e := ⟨zA (r.foldl zRow none), ⟨zC (r.foldl zRow none), ()⟩⟩) (fun i => ⟨r, ⟨(r.length : Int), ⟨(i : Int), ⟨zA ((r.take i).foldl zRow none), ⟨zC ((r.take i).foldl zRow none), ()⟩⟩⟩⟩⟩) r.length (by omega) (fun i hi => by
  have hw := List.getElem?_eq_getElem hi
  generalize r[i] = w at hw
  have hwm := List.mem_of_getElem? hw
  have hLw := hl.2 w hwm
  have hz : zOK ((r.take i).foldl zRow none) := zRows_ok _ (fun v hv => h.rs v (List.mem_of_mem_take hv)) none_ok
  have hlen : (zCells ((r.take i).foldl zRow none)).length + (rowC w).length ≤ 1000000000 := by
   rw [zRows_len]
   have := flat_mem_le rowC hw
   unfold cellsC at hc
   simp only [zCells, zT, List.flatMap_nil, List.length_nil]
   omega
  have hs : (r.take (i + 1)).foldl zRow none = zRow ((r.take i).foldl zRow none) w := by rw [take_succ_of hw, List.foldl_append]; rfl
  unfold t_hatch_Zigzag_L0
  dsimp only
  rw [br_lt (by omega), ge_s (fg hw), k_rest (by omega) (by omega), hs]
  by_cases hy : w.1 % 2 = 0
  ·rw [br_t (by rw [w_eql]; simp [hy])]
   refine (lo_s (zig_even (h.rs w hwm) hy hLw hz hlen r (r.length : Int) (i : Int))).trans ?_
   dsimp only
   rw [w_add, wr (by omega) (by omega)]
   rfl
  ·rw [br_f (by rw [w_eql]; simp [hy]), w_ln, w_sub, wr (by omega) (by omega)]
   refine (lo_s (zig_odd (h.rs w hwm) hy hLw hz hlen r (r.length : Int) (i : Int))).trans ?_
   dsimp only
   rw [w_add, wr (by omega) (by omega)]
   rfl) (by
  unfold t_hatch_Zigzag_L0
  dsimp only
  rw [br_nlt (by omega), List.take_length])
 refine (lo_s hloop).trans ?_
 exact congrArg some (zig_fin _)
open Classical in
theorem k_Zigzag {α : Type} {r : Reg} (hl : LimR r) (hc : RegOK r → (cellsC r).length ≤ 1000000000) (k : List (Int × (Bool × List (Int × Int))) → Option α) : @W.call wv α c_hatch_Zigzag r k = k (if RegOK r then zigT r else []) := ca_s (c := c_hatch_Zigzag) (Zigzag_ok r hl hc)
end Go.Proofs.YtaammoealihpmaaGreat
namespace Go.Proofs.YtaammoealihpmaaGreat
open Go Go.Vv Go.Dn Go.Dn.W
set_option linter.unusedVariables false
set_option linter.unusedSimpArgs false
set_option maxRecDepth 100000
section reach
variable {A B : Type} {b : A → Option (Nx A B)}
def Reach (b : A → Option (Nx A B)) (n : Nat) (s s' : A) : Prop := ∀ M, loopN b (n + M) s = loopN b M s'
theorem Reach.refl (s : A) : Reach b 0 s s := fun M => by rw [Nat.zero_add]
theorem Reach.trans {n m : Nat} {s t u : A} (h1 : Reach b n s t) (h2 : Reach b m t u) : Reach b (n + m) s u := fun M => by rw [Nat.add_assoc, h1, h2]
theorem Reach.one {s t : A} (h : b s = some (.go t)) : Reach b 1 s t := fun M => by rw [Nat.add_comm]; exact loop_go h
theorem Reach.many (st : Nat → A) : ∀ N : Nat, (∀ i, i < N → b (st i) = some (.go (st (i + 1)))) → Reach b N (st 0) (st N)
 | 0, _ => Reach.refl _
 | N + 1, h => (Reach.many st N fun i hi => h i (by omega)).trans (Reach.one (h N (by omega)))
theorem Reach.out {n : Nat} {s t : A} {e : B} (h1 : Reach b n s t) (h2 : b t = some (.out e)) (hn : n < 1000000000000) : loopN b bigN s = some e := by
 obtain ⟨M, hM⟩ : ∃ M, bigN = n + (M + 1) := ⟨bigN - n - 1, by unfold bigN; omega⟩
 rw [hM, h1]
 exact loop_out h2
end reach
theorem flat_get {α β : Type} (f : α → List β) {l : List α} {i : Nat} {x : α} (h : l[i]? = some x) {d : Nat} (hd : d < (f x).length) : (l.flatMap f)[((l.take i).flatMap f).length + d]? = (f x)[d]? := by
 obtain ⟨hi, hx⟩ := List.getElem?_eq_some_iff.1 h
 have : l.flatMap f = (l.take i).flatMap f ++ (f x ++ (l.drop (i + 1)).flatMap f) := by
  conv => lhs; rw [← List.take_append_drop i l, List.flatMap_append, List.drop_eq_getElem_cons hi, hx, List.flatMap_cons]
 rw [this, List.getElem?_append_right (by omega), Nat.add_sub_cancel_left, List.getElem?_append_left hd]
theorem line_get (y : Int) (u : Run) {d : Nat} (hd : d < (lineC y u).length) : (lineC y u)[d]? = some (u.1 + (d : Int), y) := by
 rw [lineC_len] at hd
 simp only [lineC, rng, List.getElem?_map, List.getElem?_range hd, Option.map_some]
theorem run_left {r : Reg} (hl : LimR r) (h : RegOK r) {w : Row} (hw : w ∈ r) {u : Run} (hu : u ∈ w.2) : @t_additiveref29_run wv (r, ((u.2 - 1, w.1), (-1, 0))) = some (lineC w.1 u).reverse := by
 have hb := (h.rs w hw).bd u hu
 have e := run_ok r (-1) 0 hl h (by omega) (fun i => (u.2 - 1 - (i : Int), w.1)) (fun i => by simp only [Prod.mk.injEq]; omega) (u.2 - u.1).toNat (by omega) (fun i hi => (h.in_row hw _).2 ⟨u, hu, by omega, by omega⟩) (fun hq => by
  have := (h.in_row hw _).1 hq
  rw [show u.2 - 1 - (((u.2 - u.1).toNat : Nat) : Int) = u.1 - 1 by omega] at this
  exact (h.rs w hw).left hu this)
 simp only [Int.natCast_zero, Int.sub_zero] at e
 rw [e]
 congr 1
 refine List.ext_getElem? fun t => ?_
 by_cases ht : t < (lineC w.1 u).length
 ·have ht2 := ht
  rw [lineC_len] at ht2
  rw [List.getElem?_reverse ht, line_get w.1 u (by omega), List.getElem?_map, List.getElem?_range ht2, Option.map_some, lineC_len]
  congr 2
  omega
 ·rw [List.getElem?_eq_none (by rw [List.length_map, List.length_range, ← lineC_len w.1 u]; omega), List.getElem?_eq_none (by rw [List.length_reverse]; omega)]
noncomputable abbrev putR [W] {α : Type} (A : List Track) (l : List Cell) (ro : Int) (mk : List Track → Option α) : Option α :=
 br (cm .gtr (ln A) 0) (gd (ib (ar .sub .i64 (ln A) 1) (ln A)) <|
 ge A (ar .sub .i64 (ln A) 1) fun v7 =>
 ge v7.2.2 (ar .sub .i64 (ln v7.2.2) 1) fun v8 =>
 ge l 0 fun v9 =>
 call c_additiveref29_near (((v8.1, v8.2), (v9.1, v9.2)) : ((Int × Int) × (Int × Int))) fun (v10 : Bool) =>
 br v10 (br (cm .leq (ar .add .i64 (ln v7.2.2) (ln l)) 65536) (gd (le 0 (ar .sub .i64 (ln A) 1)) <|
 gd (le (ar .sub .i64 (ln A) 1) (ln A)) <|
 gd (le 0 0) <|
 gd (le 0 (ar .sub .i64 (ln A) 1)) <|
 gd (le (pl 0 (ar .sub .i64 (ln A) 1)) (ln A)) <|
 gd (ft 40 (pl 0 (ln (ct A 0 (ar .sub .i64 (ln A) 1))))) <|
 gd (ft 16 (pl 0 (ln v7.2.2))) <|
 gd (ft 16 (pl (ln v7.2.2) (ln l))) <|
 gd (ft 40 (pl (ln (ct A 0 (ar .sub .i64 (ln A) 1))) 1)) <|
 mk (ap (ct A 0 (ar .sub .i64 (ln A) 1)) ((ro, (false, (ap v7.2.2 l))) :: [])))
 (gd (ft 40 (pl (ln A) 1)) <|
 mk (ap A ((ro, (false, l)) :: []))))
 (gd (ft 40 (pl (ln A) 1)) <|
 mk (ap A ((ro, (false, l)) :: []))))
 (gd (ft 40 (pl (ln A) 1)) <|
 mk (ap A ((ro, (false, l)) :: [])))
theorem gd_le {α : Type} {a b : Int} {x : Option α} (h : a ≤ b) : @W.gd wv α (@W.le wv a b) x = x := gd_t (by rw [w_le]; exact decide_eq_true h)
theorem putR_ok {α : Type} {z : Zs} {l : List Cell} (hz : zOK z) (hl : l ≠ []) (hc : (zCells z).length + l.length ≤ 1000000000) (mk : List Track → Option α) :
  @putR wv α (zT z) l 3 mk = mk (zT (zPut z l)) := by
 have hle := hz.le
 have hlp := List.length_pos_iff.2 hl
 rcases z with _ | ⟨O, C⟩
 ·unfold putR
  dsimp only [zT, zPut]
  have e : @W.cm wv .gtr (@W.ln wv Track []) 0 = false := by decide
  rw [br_f e, fit40 (by rw [w_pl, w_ln]; simp) (by rw [w_pl, w_ln]; simp)]
  rfl
 ·have hC : C ≠ [] := hz (3, (false, C)) (List.mem_append_right _ (List.mem_singleton_self _))
  have hCp := List.length_pos_iff.2 hC
  have hT : O.length + 1 ≤ (zCells (some (O, C))).length := by
   have := hle.1
   simpa only [zT, List.length_append, List.length_singleton] using this
  have hCl : C.length ≤ (zCells (some (O, C))).length := hle.2 (3, (false, C)) (List.mem_append_right _ (List.mem_singleton_self _))
  unfold putR
  dsimp only [zT]
  have e1 : @W.ar wv .sub .i64 ((O.length : Int) + 1) 1 = (O.length : Int) := by
   rw [w_sub, wr (by omega) (by omega)]; omega
  have e0 : @W.ln wv _ (O ++ [((3, (false, C)) : Track)]) = (O.length : Int) + 1 := by
   rw [w_ln, List.length_append, List.length_singleton]; omega
  have e2 : @W.ar wv .sub .i64 (@W.ln wv _ C) 1 = ((C.length - 1 : Nat) : Int) := by
   rw [w_ln, w_sub, wr (by omega) (by omega)]; omega
  have e3 : @W.ct wv _ (O ++ [((3, (false, C)) : Track)]) 0 (O.length : Int) = O := by
   rw [w_ct, Int.toNat_natCast, show (0 : Int).toNat = 0 from rfl, List.drop_zero, List.take_left']
   rfl
  simp only [e0, e1, e3]
  have hg : fget (O ++ [((3, (false, C)) : Track)]) (O.length : Int) = some (3, (false, C)) := fg (get_last O _)
  rw [br_t (by rw [w_gtr]; exact decide_eq_true (by omega)), gd_ib (by omega), ge_s hg]
  dsimp only
  simp only [e2]
  rw [ge_s (fg (get_end hC)), ge_s (fg0 (get_fst hl)), k_near29]
  have hft : ∀ {β : Type} (x : Option β), @W.gd wv β (@W.ft wv 40 (@W.pl wv ((O.length : Int) + 1) 1)) x = x := fun x => fit40 (by rw [w_pl]; omega) (by rw [w_pl]; omega)
  cases hn : nearB (C.getD (C.length - 1) (0, 0)) (l.getD 0 (0, 0)) with
  | false =>
   rw [br_f rfl, hft]
   simp only [zPut, joinB, hn, Bool.false_and, Bool.false_eq_true, if_false, zT]
   rfl
  | true =>
   rw [br_t rfl, w_ln, w_ln, w_add, wr (by omega) (by omega)]
   by_cases hj : (C.length : Int) + (l.length : Int) ≤ 65536
   ·rw [br_t (by rw [w_leq]; exact decide_eq_true hj), gd_le (by omega), gd_le (by omega), gd_le (by omega), gd_le (by omega), gd_le (by rw [w_pl]; omega), w_ln, fit40 (by rw [w_pl]; omega) (by rw [w_pl]; omega), fit16 (by rw [w_pl]; omega) (by rw [w_pl]; omega), fit16 (by rw [w_pl]; omega) (by rw [w_pl]; omega), fit40 (by rw [w_pl]; omega) (by rw [w_pl]; omega)]
    simp only [zPut, joinB, hn, Bool.true_and, decide_eq_true hj, if_true, zT]
    rfl
   ·rw [br_f (by rw [w_leq]; exact decide_eq_false hj), hft]
    simp only [zPut, joinB, hn, Bool.true_and, decide_eq_false hj, Bool.false_eq_true, if_false, zT]
    rfl
abbrev St := HP Int (HP (List Cell) (HP Int (HP Reg (HP (List Track) Unit))))
abbrev stZ (r : Reg) (i : Nat) (z : Zs) : St := ⟨3, ⟨cellsC r, ⟨(i : Int), ⟨r, ⟨zT z, ()⟩⟩⟩⟩⟩
abbrev St5 := HP Int (HP (List Cell) (HP Int (HP Int (HP Reg (HP (List Track) Unit)))))
theorem ref_first {r : Reg} (hl : LimR r) (h : RegOK r) {w : Row} (hw : w ∈ r) {u : Run} (hu : u ∈ w.2) (hy : w.1 % 2 = 0) {i : Nat} (hx : (cellsC r)[i]? = some (u.1, w.1)) {z : Zs} (hz : zOK z) (hc : (zCells z).length + (lineC w.1 u).length ≤ 1000000000) :
  @t_additiveref29_zigzag_J2 wv (stZ r i z) (u.1, w.1) = some (⟨3, ⟨cellsC r, ⟨(i : Int), ⟨w.1, ⟨r, ⟨zT (zPut z (lineC w.1 u)), ()⟩⟩⟩⟩⟩⟩ : St5) := by
 have hb := (h.rs w hw).bd u hu
 have hnl : ¬ inReg r (u.1 - 1, w.1) := fun hq => (h.rs w hw).left hu ((h.in_row hw _).1 hq)
 unfold t_additiveref29_zigzag_J2
 dsimp only [stZ]
 rw [k_mod (by omega) (by omega), br_t (by rw [w_eql]; simp [hy]), ge_s (fg hx)]
 dsimp only
 rw [w_sub, wr (by omega) (by omega), k_ref_Contains hl, br_t (by simp [w_nt, h, hnl]), ge_s (fg hx)]
 dsimp only
 rw [k_run (run_right hl h hw hu)]
 have hp := putR_ok hz (lineC_ne (h.rs w hw) hu) hc fun (A : List Track) => some (⟨3, ⟨cellsC r, ⟨(i : Int), ⟨w.1, ⟨r, ⟨A, ()⟩⟩⟩⟩⟩⟩ : St5)
 dsimp only [putR] at hp
 exact hp
theorem ref_inner {r : Reg} (hl : LimR r) (h : RegOK r) {c : Cell} (hy : c.2 % 2 = 0) (hin : inReg r c) (hleft : inReg r (c.1 - 1, c.2)) {i : Nat} (hx : (cellsC r)[i]? = some c) (z : Zs) :
  @t_additiveref29_zigzag_J2 wv (stZ r i z) c = some (⟨3, ⟨cellsC r, ⟨(i : Int), ⟨c.2, ⟨r, ⟨zT z, ()⟩⟩⟩⟩⟩⟩ : St5) := by
 have hb := h.bd hin
 unfold t_additiveref29_zigzag_J2
 dsimp only [stZ]
 rw [k_mod (by omega) (by omega), br_t (by rw [w_eql]; simp [hy]), ge_s (fg hx), w_sub, wr (by omega) (by omega), k_ref_Contains hl, br_f (by simp [w_nt, h, hleft])]
theorem ref_oddJ2 {r : Reg} {c : Cell} (hy : ¬ c.2 % 2 = 0) (i : Nat) (z : Zs) :
  @t_additiveref29_zigzag_J2 wv (stZ r i z) c = some (⟨3, ⟨cellsC r, ⟨(i : Int), ⟨c.2, ⟨r, ⟨zT z, ()⟩⟩⟩⟩⟩⟩ : St5) := by
 unfold t_additiveref29_zigzag_J2
 dsimp only [stZ]
 rw [k_mod (by omega) (by omega), br_f (by rw [w_eql]; simp [hy])]
theorem ref_even {r : Reg} {c : Cell} (hlen : (cellsC r).length ≤ 1000000000) (hy : c.2 % 2 = 0) {i : Nat} (hx : (cellsC r)[i]? = some c) {z z' : Zs}
  (hJ : @t_additiveref29_zigzag_J2 wv (stZ r i z) c = some (⟨3, ⟨cellsC r, ⟨(i : Int), ⟨c.2, ⟨r, ⟨zT z', ()⟩⟩⟩⟩⟩⟩ : St5)) :
  @t_additiveref29_zigzag_L0 wv (stZ r i z) = some (.go (stZ r (i + 1) z')) := by
 have hi := (List.getElem?_eq_some_iff.1 hx).1
 have hJ1 : @t_additiveref29_zigzag_J1 wv (stZ r i z) = some (stZ r i z') := by
  unfold t_additiveref29_zigzag_J1
  dsimp only
  rw [ge_s (fg hx)]
  refine (jo_s hJ).trans ?_
  dsimp only
  rw [k_mod (by omega) (by omega), br_f (by rw [w_eql, hy]; rfl)]
 unfold t_additiveref29_zigzag_L0
 dsimp only
 rw [w_ln, br_lt (by omega)]
 refine (jo_s hJ1).trans ?_
 dsimp only
 rw [w_add, wr (by omega) (by omega)]
 rfl
theorem ref_odd {r : Reg} {c p : Cell} (hlen : (cellsC r).length ≤ 1000000000) (hy : ¬ c.2 % 2 = 0) {i : Nat} (hx : (cellsC r)[i + 1]? = some c) (hp : (cellsC r)[i]? = some p) (e : p.2 = c.2) (z : Zs) :
  @t_additiveref29_zigzag_L0 wv (stZ r (i + 1) z) = some (.go (stZ r (i + 2) z)) := by
 have hi := (List.getElem?_eq_some_iff.1 hx).1
 have hJ1 : @t_additiveref29_zigzag_J1 wv (stZ r (i + 1) z) = some (stZ r (i + 1) z) := by
  unfold t_additiveref29_zigzag_J1
  dsimp only
  rw [ge_s (fg hx)]
  refine (jo_s (ref_oddJ2 hy (i + 1) z)).trans ?_
  dsimp only
  rw [k_mod (by omega) (by omega), br_t (by rw [w_eql, beq_iff_eq]; omega), br_f (by rw [w_eql, beq_eq_false_iff_ne]; omega), w_sub, wr (by omega) (by omega), show (((i + 1 : Nat) : Int) - 1) = (i : Int) by omega, ge_s (fg hp), br_f (by rw [w_neq, e]; simp)]
 unfold t_additiveref29_zigzag_L0
 dsimp only
 rw [w_ln, br_lt (by omega)]
 refine (jo_s hJ1).trans ?_
 dsimp only
 rw [w_add, wr (by omega) (by omega)]
 rfl
theorem zz_L6 : @t_additiveref29_zigzag_L6 wv = @t_additiveref29_zigzag_L3 wv := rfl
theorem zz_L7 : @t_additiveref29_zigzag_L7 wv = @t_additiveref29_zigzag_L4 wv := rfl
abbrev St7 := HP Int (HP (List Cell) (HP Int (HP Int (HP Int (HP Reg (HP (List Track) Unit))))))
abbrev stD (r : Reg) (i : Nat) (y k : Int) (z : Zs) : St7 := ⟨3, ⟨cellsC r, ⟨(i : Int), ⟨y, ⟨k, ⟨r, ⟨zT z, ()⟩⟩⟩⟩⟩⟩⟩
theorem down_end {r : Reg} (hl : LimR r) (h : RegOK r) {w : Row} (hw : w ∈ r) {u : Run} (hu : u ∈ w.2) {m : Nat} (hx : (cellsC r)[m]? = some (u.2 - 1, w.1)) {z : Zs} (hz : zOK z) (hc : (zCells z).length + (lineC w.1 u).length ≤ 1000000000) (i : Nat) :
  @t_additiveref29_zigzag_J5 wv (stD r i w.1 (m : Int) z) = some (stD r i w.1 (m : Int) (zPut z (lineC w.1 u).reverse)) := by
 have hb := (h.rs w hw).bd u hu
 have hnl : ¬ inReg r (u.2 - 1 + 1, w.1) := fun hq => (h.rs w hw).right hu (by rw [← Int.sub_add_cancel u.2 1]; exact (h.in_row hw _).1 hq)
 unfold t_additiveref29_zigzag_J5
 dsimp only [stD]
 rw [ge_s (fg hx)]
 dsimp only
 rw [w_add, wr (by omega) (by omega), k_ref_Contains hl, br_t (by simp only [w_nt, h, hnl, and_false, decide_false, Bool.not_false]), ge_s (fg hx)]
 dsimp only
 rw [k_run (run_left hl h hw hu)]
 have hp := putR_ok hz (fun e => lineC_ne (h.rs w hw) hu (List.reverse_eq_nil_iff.1 e)) (by rw [List.length_reverse]; exact hc) fun (A : List Track) => some (⟨3, ⟨cellsC r, ⟨(i : Int), ⟨w.1, ⟨(m : Int), ⟨r, ⟨A, ()⟩⟩⟩⟩⟩⟩⟩ : St7)
 dsimp only [putR] at hp
 exact hp
theorem down_mid {r : Reg} (hl : LimR r) (h : RegOK r) {c : Cell} (hin : inReg r c) (hr : inReg r (c.1 + 1, c.2)) {m : Nat} (hx : (cellsC r)[m]? = some c) (i : Nat) (z : Zs) :
  @t_additiveref29_zigzag_J5 wv (stD r i c.2 (m : Int) z) = some (stD r i c.2 (m : Int) z) := by
 have hb := h.bd hin
 unfold t_additiveref29_zigzag_J5
 dsimp only [stD]
 rw [ge_s (fg hx), w_add, wr (by omega) (by omega), k_ref_Contains hl, br_f (by simp only [w_nt, h, hr, and_true, decide_true, Bool.not_true])]
theorem down_step {r : Reg} {i m : Nat} (hm : i ≤ m) (hb : m ≤ 1000000000) {y : Int} {z z' : Zs} (hJ : @t_additiveref29_zigzag_J5 wv (stD r i y (m : Int) z) = some (stD r i y (m : Int) z')) :
  @t_additiveref29_zigzag_L4 wv (stD r i y (m : Int) z) = some (.go (stD r i y ((m : Int) - 1) z')) := by
 unfold t_additiveref29_zigzag_L4
 dsimp only
 rw [br_t (by rw [w_geq]; exact decide_eq_true (by omega))]
 refine (jo_s hJ).trans ?_
 dsimp only
 rw [w_sub, wr (by omega) (by omega)]
theorem cell_at {r : Reg} {j q : Nat} {w : Row} {u : Run} (hw : r[j]? = some w) (hu : w.2[q]? = some u) {d : Nat} (hd : d < (lineC w.1 u).length) :
  (cellsC r)[((r.take j).flatMap rowC).length + (((w.2.take q).flatMap (lineC w.1)).length + d)]? = some (u.1 + (d : Int), w.1) := by
 have h1 := flat_mem_le (lineC w.1) hu
 have h2 := flat_get rowC hw (d := ((w.2.take q).flatMap (lineC w.1)).length + d) (by unfold rowC; omega)
 have h3 := flat_get (lineC w.1) hu hd
 unfold cellsC
 rw [h2]
 unfold rowC
 rw [h3, line_get w.1 u hd]
theorem down_run {r : Reg} (hl : LimR r) (h : RegOK r) {j q : Nat} {w : Row} {u : Run} (hw : r[j]? = some w) (hu : w.2[q]? = some u) (hlen : (cellsC r).length ≤ 1000000000) {z : Zs} (hz : zOK z) (hc : (zCells z).length + (lineC w.1 u).length ≤ 1000000000) {i m : Nat} (hi : i = ((r.take j).flatMap rowC).length) (hm : m = ((w.2.take q).flatMap (lineC w.1)).length) :
  Reach (@t_additiveref29_zigzag_L4 wv) (lineC w.1 u).length (stD r i w.1 ((i + m : Nat) + ((lineC w.1 u).length : Int) - 1) z) (stD r i w.1 ((i + m : Nat) - 1) (zPut z (lineC w.1 u).reverse)) := by
 have hwm := List.mem_of_getElem? hw
 have hum := List.mem_of_getElem? hu
 have hb := (h.rs w hwm).bd u hum
 have hat : ∀ d, d < (lineC w.1 u).length → (cellsC r)[i + m + d]? = some (u.1 + (d : Int), w.1) := fun d hd => by
  have := cell_at hw hu hd
  rw [← hi, ← hm, ← Nat.add_assoc] at this
  exact this
 have hLe := lineC_len w.1 u
 have hpos : ∀ d, d < (lineC w.1 u).length → i + m + d < 1000000000 := fun d hd => by
  have := (List.getElem?_eq_some_iff.1 (hat d hd)).1
  omega
 obtain ⟨n, hn⟩ : ∃ n, (lineC w.1 u).length = n + 1 := ⟨(lineC w.1 u).length - 1, by omega⟩
 have h1 := down_step (y := w.1) (i := i) (m := i + m + n) (by omega) (by have := hpos n (by omega); omega) (down_end hl h hwm hum (m := i + m + n) (by rw [hat n (by omega)]; congr 2; omega) hz hc i)
 have h2 := Reach.many (b := @t_additiveref29_zigzag_L4 wv) (fun t => stD r i w.1 (((i + m + n : Nat) : Int) - 1 - (t : Int)) (zPut z (lineC w.1 u).reverse)) n (fun t ht => by
  have hx := hat (n - 1 - t) (by omega)
  have hin : inReg r (u.1 + ((n - 1 - t : Nat) : Int), w.1) := (h.in_row hwm _).2 ⟨u, hum, by omega, by omega⟩
  have hin2 : inReg r (u.1 + ((n - 1 - t : Nat) : Int) + 1, w.1) := (h.in_row hwm _).2 ⟨u, hum, by omega, by omega⟩
  have h3 := down_step (by omega) (by have := hpos (n - 1 - t) (by omega); omega) (down_mid hl h hin hin2 hx i (zPut z (lineC w.1 u).reverse))
  dsimp only at h3
  rw [show ((i + m + n : Nat) : Int) - 1 - (t : Int) = ((i + m + (n - 1 - t) : Nat) : Int) by omega, show ((i + m + n : Nat) : Int) - 1 - ((t + 1 : Nat) : Int) = ((i + m + (n - 1 - t) : Nat) : Int) - 1 by omega]
  exact h3)
 have h4 := (Reach.one h1).trans (by
  have := h2
  rw [show ((i + m + n : Nat) : Int) - 1 - ((0 : Nat) : Int) = ((i + m + n : Nat) : Int) - 1 by omega] at this
  exact this)
 rw [hn, Nat.add_comm n 1, show (((i + m : Nat) : Int) + ((1 + n : Nat) : Int) - 1) = ((i + m + n : Nat) : Int) by omega, show (((i + m : Nat) : Int) - 1) = ((i + m + n : Nat) : Int) - 1 - (n : Int) by omega]
 exact h4
theorem down_runs {r : Reg} (hl : LimR r) (h : RegOK r) {j : Nat} {w : Row} (hw : r[j]? = some w) (hlen : (cellsC r).length ≤ 1000000000) {i : Nat} (hi : i = ((r.take j).flatMap rowC).length) : ∀ (q : Nat) {z : Zs}, q ≤ w.2.length → zOK z → (zCells z).length + ((w.2.take q).flatMap (lineC w.1)).length ≤ 1000000000 →
  Reach (@t_additiveref29_zigzag_L4 wv) ((w.2.take q).flatMap (lineC w.1)).length (stD r i w.1 ((i : Int) + (((w.2.take q).flatMap (lineC w.1)).length : Int) - 1) z) (stD r i w.1 ((i : Int) - 1) (((w.2.take q).reverse.map fun u => (lineC w.1 u).reverse).foldl zPut z))
 | 0, z, _, _, _ => by
  simp only [List.take_zero, List.flatMap_nil, List.length_nil, List.reverse_nil, List.map_nil, List.foldl_nil]
  rw [show (i : Int) + ((0 : Nat) : Int) - 1 = (i : Int) - 1 by omega]
  exact Reach.refl _
 | q + 1, z, hq, hz, hc => by
  have hu := List.getElem?_eq_getElem (show q < w.2.length by omega)
  generalize w.2[q] = u at hu
  have hum := List.mem_of_getElem? hu
  have hwm := List.mem_of_getElem? hw
  rw [flat_take hu, List.length_append] at hc
  have h1 := down_run hl h hw hu hlen hz (by omega) hi rfl
  have hz' : zOK (zPut z (lineC w.1 u).reverse) := zPut_ok hz fun e => lineC_ne (h.rs w hwm) hum (List.reverse_eq_nil_iff.1 e)
  have h2 := down_runs hl h hw hlen hi q (z := zPut z (lineC w.1 u).reverse) (by omega) hz' (by rw [zPut_cells, List.length_append, List.length_reverse]; omega)
  rw [take_succ_of hu, List.reverse_append, List.reverse_singleton, List.map_append, List.foldl_append, List.flatMap_append, List.length_append]
  simp only [List.map_cons, List.map_nil, List.foldl_cons, List.foldl_nil, List.flatMap_cons, List.flatMap_nil, List.append_nil]
  rw [Nat.add_comm]
  refine Reach.trans ?_ h2
  rw [show (i : Int) + ((((lineC w.1 u).length + ((w.2.take q).flatMap (lineC w.1)).length : Nat)) : Int) - 1 = ((i + ((w.2.take q).flatMap (lineC w.1)).length : Nat) : Int) + ((lineC w.1 u).length : Int) - 1 by omega, show (i : Int) + (((w.2.take q).flatMap (lineC w.1)).length : Int) - 1 = ((i + ((w.2.take q).flatMap (lineC w.1)).length : Nat) : Int) - 1 by omega]
  exact h1
theorem ref_oddrow {r : Reg} (hl : LimR r) (h : RegOK r) {j : Nat} {w : Row} (hw : r[j]? = some w) (hlen : (cellsC r).length ≤ 1000000000) {i : Nat} (hi : i = ((r.take j).flatMap rowC).length) (hy : ¬ w.1 % 2 = 0) {z : Zs} (hz : zOK z) (hc : (zCells z).length + (rowC w).length ≤ 1000000000) :
  @t_additiveref29_zigzag_L0 wv (stZ r i z) = some (.go (stZ r (i + 1) (zRow z w))) := by
 have hwm := List.mem_of_getElem? hw
 have hat : ∀ d, d < (rowC w).length → ∃ x, (cellsC r)[i + d]? = some (x, w.1) := fun d hd => by
  have := flat_get rowC hw hd
  rw [← hi, List.getElem?_eq_getElem hd] at this
  have hm : (rowC w)[d].2 = w.1 := (mem_row.1 (List.getElem_mem hd)).1
  refine ⟨(rowC w)[d].1, ?_⟩
  rw [← hm]
  exact this
 have hn0 : 0 < (rowC w).length := by
  obtain ⟨u, hu⟩ := List.exists_mem_of_ne_nil _ (h.ne w hwm)
  have hb := (h.rs w hwm).bd u hu
  exact List.length_pos_of_mem (mem_row.2 ⟨rfl, u, hu, Int.le_refl _, hb.2.1⟩ : ((u.1, w.1) : Cell) ∈ rowC w)
 have hsum := flat_mem_le rowC hw
 rw [← hi] at hsum
 have hsplit : cellsC r = (r.take j).flatMap rowC ++ (rowC w ++ (r.drop (j + 1)).flatMap rowC) := by
  obtain ⟨hj, hx⟩ := List.getElem?_eq_some_iff.1 hw
  unfold cellsC
  conv => lhs; rw [← List.take_append_drop j r, List.flatMap_append, List.drop_eq_getElem_cons hj, hx, List.flatMap_cons]
 have hpw := h.pw
 have hrs : r = r.take j ++ w :: r.drop (j + 1) := by
  obtain ⟨hj, hx⟩ := List.getElem?_eq_some_iff.1 hw
  conv => lhs; rw [← List.take_append_drop j r, List.drop_eq_getElem_cons hj, hx]
 rw [hrs] at hpw
 obtain ⟨-, p2, p3⟩ := List.pairwise_append.1 hpw
 have hprev : ∀ p, 0 < i → (cellsC r)[i - 1]? = some p → p.2 ≠ w.1 := fun p h0 hp => by
  rw [hsplit, List.getElem?_append_left (by omega)] at hp
  obtain ⟨v, hv, hm⟩ := List.mem_flatMap.1 (List.mem_of_getElem? hp)
  have := (mem_row.1 hm).1
  have := p3 v hv w (List.mem_cons_self ..)
  omega
 have hnext : ∀ p, (cellsC r)[i + (rowC w).length]? = some p → p.2 ≠ w.1 := fun p hp => by
  rw [hsplit, List.getElem?_append_right (by omega), List.getElem?_append_right (by omega)] at hp
  obtain ⟨v, hv, hm⟩ := List.mem_flatMap.1 (List.mem_of_getElem? hp)
  have := (mem_row.1 hm).1
  have := (List.pairwise_cons.1 p2).1 v hv
  omega
 obtain ⟨x0, hx0⟩ := hat 0 hn0
 rw [Nat.add_zero] at hx0
 have hclen : (cellsC r).length = i + ((rowC w).length + ((r.drop (j + 1)).flatMap rowC).length) := by
  conv => lhs; rw [hsplit, List.length_append, List.length_append, ← hi]
 have hup := loop_st (b := @t_additiveref29_zigzag_L3 wv) (e := stD r i w.1 ((i : Int) + ((rowC w).length : Int) - 1) z) (fun d => stD r i w.1 ((i + d : Nat) : Int) z) ((rowC w).length - 1) (by omega) (fun d hd => by
  obtain ⟨x, hx⟩ := hat (d + 1) (by omega)
  unfold t_additiveref29_zigzag_L3
  dsimp only
  rw [w_add, wr (by omega) (by omega), w_ln, br_lt (by omega), show ((i + d : Nat) : Int) + 1 = ((i + (d + 1) : Nat) : Int) by omega, ge_s (fg hx), br_t (by rw [w_eql]; simp)]) (by
  unfold t_additiveref29_zigzag_L3
  dsimp only
  rw [w_add, wr (by omega) (by omega), w_ln, show ((i + ((rowC w).length - 1) : Nat) : Int) + 1 = ((i + (rowC w).length : Nat) : Int) by omega, show (i : Int) + ((rowC w).length : Int) - 1 = ((i + ((rowC w).length - 1) : Nat) : Int) by omega]
  by_cases hlast : i + (rowC w).length < (cellsC r).length
  ·have hp := List.getElem?_eq_getElem hlast
   have hne := hnext _ hp
   rw [br_lt (by omega), ge_s (fg hp), br_f (by rw [w_eql, beq_eq_false_iff_ne]; exact hne)]
  ·rw [br_nlt (by omega)])
 have hdown := (down_runs hl h hw hlen hi w.2.length (z := z) (Nat.le_refl _) hz (by rw [List.take_length]; exact hc)).out (e := stZ r i (zRow z w)) (by
  rw [List.take_length, show (w.2.reverse.map fun u => (lineC w.1 u).reverse) = zLines w by rw [zLines, if_neg hy]]
  unfold t_additiveref29_zigzag_L4
  dsimp only
  rw [br_f (by rw [w_geq]; exact decide_eq_false (by omega))]
  rfl) (by rw [List.take_length]; show (rowC w).length < 1000000000000; omega)
 rw [List.take_length] at hdown
 have hJ1 : @t_additiveref29_zigzag_J1 wv (stZ r i z) = some (stZ r i (zRow z w)) := by
  unfold t_additiveref29_zigzag_J1
  dsimp only
  rw [ge_s (fg hx0)]
  refine (jo_s (ref_oddJ2 (c := (x0, w.1)) hy i z)).trans ?_
  dsimp only
  rw [k_mod (by omega) (by omega), br_t (by rw [w_eql, beq_iff_eq]; omega)]
  by_cases h0 : i = 0
  ·rw [br_t (by rw [w_eql, beq_iff_eq]; omega)]
   refine (lo_s hup).trans ?_
   dsimp only
   exact lo_s hdown
  ·have hp := List.getElem?_eq_getElem (show i - 1 < (cellsC r).length by omega)
   have hne := hprev _ (by omega) hp
   rw [br_f (by rw [w_eql, beq_eq_false_iff_ne]; omega), w_sub, wr (by omega) (by omega), show (i : Int) - 1 = ((i - 1 : Nat) : Int) by omega, ge_s (fg hp), br_t (by rw [w_neq, bne_iff_ne]; exact hne), zz_L6, zz_L7]
   refine (lo_s hup).trans ?_
   dsimp only
   exact lo_s hdown
 unfold t_additiveref29_zigzag_L0
 dsimp only
 rw [w_ln, br_lt (by omega)]
 refine (jo_s hJ1).trans ?_
 dsimp only
 rw [w_add, wr (by omega) (by omega)]
 rfl
theorem ref_rowodd {r : Reg} (hl : LimR r) (h : RegOK r) {j : Nat} {w : Row} (hw : r[j]? = some w) (hlen : (cellsC r).length ≤ 1000000000) {i : Nat} (hi : i = ((r.take j).flatMap rowC).length) (hy : ¬ w.1 % 2 = 0) {z : Zs} (hz : zOK z) (hc : (zCells z).length + (rowC w).length ≤ 1000000000) :
  Reach (@t_additiveref29_zigzag_L0 wv) (rowC w).length (stZ r i z) (stZ r (i + (rowC w).length) (zRow z w)) := by
 have hwm := List.mem_of_getElem? hw
 have hat : ∀ d, d < (rowC w).length → ∃ x, (cellsC r)[i + d]? = some (x, w.1) := fun d hd => by
  have := flat_get rowC hw hd
  rw [← hi, List.getElem?_eq_getElem hd] at this
  have hm : (rowC w)[d].2 = w.1 := (mem_row.1 (List.getElem_mem hd)).1
  refine ⟨(rowC w)[d].1, ?_⟩
  rw [← hm]
  exact this
 have hn0 : 0 < (rowC w).length := by
  obtain ⟨u, hu⟩ := List.exists_mem_of_ne_nil _ (h.ne w hwm)
  have hb := (h.rs w hwm).bd u hu
  exact List.length_pos_of_mem (mem_row.2 ⟨rfl, u, hu, Int.le_refl _, hb.2.1⟩ : ((u.1, w.1) : Cell) ∈ rowC w)
 have h1 := Reach.one (ref_oddrow hl h hw hlen hi hy hz hc)
 have h2 := Reach.many (b := @t_additiveref29_zigzag_L0 wv) (fun t => stZ r (i + 1 + t) (zRow z w)) ((rowC w).length - 1) (fun t ht => by
  obtain ⟨x, hx⟩ := hat t (by omega)
  obtain ⟨x', hx'⟩ := hat (t + 1) (by omega)
  have := ref_odd hlen (c := (x', w.1)) (p := (x, w.1)) hy hx' hx rfl (zRow z w)
  rw [show i + 1 + t = i + t + 1 by omega, show i + 1 + (t + 1) = i + t + 2 by omega]
  exact this)
 have h3 := h1.trans h2
 rw [show 1 + ((rowC w).length - 1) = (rowC w).length by omega, show i + 1 + ((rowC w).length - 1) = i + (rowC w).length by omega] at h3
 exact h3
theorem ref_roweven {r : Reg} (hl : LimR r) (h : RegOK r) {j : Nat} {w : Row} (hw : r[j]? = some w) (hlen : (cellsC r).length ≤ 1000000000) {i : Nat} (hi : i = ((r.take j).flatMap rowC).length) (hy : w.1 % 2 = 0) {z : Zs} (hz : zOK z) (hc : (zCells z).length + (rowC w).length ≤ 1000000000) : ∀ q : Nat, q ≤ w.2.length →
  Reach (@t_additiveref29_zigzag_L0 wv) ((w.2.take q).flatMap (lineC w.1)).length (stZ r i z) (stZ r (i + ((w.2.take q).flatMap (lineC w.1)).length) (zFwd w z q))
 | 0, _ => Reach.refl _
 | q + 1, hq => by
  have hu := List.getElem?_eq_getElem (show q < w.2.length by omega)
  generalize w.2[q] = u at hu
  have hum := List.mem_of_getElem? hu
  have hwm := List.mem_of_getElem? hw
  have hb := (h.rs w hwm).bd u hum
  have ih := ref_roweven hl h hw hlen hi hy hz hc q (by omega)
  have hat : ∀ d, d < (lineC w.1 u).length → (cellsC r)[i + ((w.2.take q).flatMap (lineC w.1)).length + d]? = some (u.1 + (d : Int), w.1) := fun d hd => by
   have := cell_at hw hu hd
   rw [← hi, ← Nat.add_assoc] at this
   exact this
  have hLe := lineC_len w.1 u
  have hl2 := zFwd_len z hu
  have hz2 := zFwd_ok (h.rs w hwm) hz q
  have hx0 := hat 0 (by omega)
  rw [Nat.add_zero, show u.1 + ((0 : Nat) : Int) = u.1 by omega] at hx0
  have h1 := Reach.one (ref_even hlen (c := (u.1, w.1)) hy hx0 (ref_first hl h hwm hum hy hx0 hz2 (by omega)))
  have h2 := Reach.many (b := @t_additiveref29_zigzag_L0 wv) (fun t => stZ r (i + ((w.2.take q).flatMap (lineC w.1)).length + 1 + t) (zPut (zFwd w z q) (lineC w.1 u))) ((lineC w.1 u).length - 1) (fun t ht => by
   have hx := hat (t + 1) (by omega)
   have hin : inReg r (u.1 + ((t + 1 : Nat) : Int), w.1) := (h.in_row hwm _).2 ⟨u, hum, by omega, by omega⟩
   have hin2 : inReg r (u.1 + ((t + 1 : Nat) : Int) - 1, w.1) := (h.in_row hwm _).2 ⟨u, hum, by omega, by omega⟩
   rw [← Nat.add_assoc] at hx
   have := ref_even hlen hy hx (ref_inner hl h (c := (u.1 + ((t + 1 : Nat) : Int), w.1)) hy hin hin2 hx (zPut (zFwd w z q) (lineC w.1 u)))
   rw [show i + ((w.2.take q).flatMap (lineC w.1)).length + 1 + t = i + ((w.2.take q).flatMap (lineC w.1)).length + t + 1 by omega, show i + ((w.2.take q).flatMap (lineC w.1)).length + 1 + (t + 1) = i + ((w.2.take q).flatMap (lineC w.1)).length + t + 1 + 1 by omega]
   exact this)
  have h3 := ih.trans (h1.trans h2)
  rw [flat_take hu, List.length_append, zFwd_succ z hu]
  rw [show 1 + ((lineC w.1 u).length - 1) = (lineC w.1 u).length by omega, show i + ((w.2.take q).flatMap (lineC w.1)).length + 1 + ((lineC w.1 u).length - 1) = i + (((w.2.take q).flatMap (lineC w.1)).length + (lineC w.1 u).length) by omega] at h3
  exact h3
theorem ref_rows {r : Reg} (hl : LimR r) (h : RegOK r) (hlen : (cellsC r).length ≤ 1000000000) : ∀ j : Nat, j ≤ r.length →
  Reach (@t_additiveref29_zigzag_L0 wv) ((r.take j).flatMap rowC).length (stZ r 0 none) (stZ r ((r.take j).flatMap rowC).length ((r.take j).foldl zRow none))
 | 0, _ => Reach.refl _
 | j + 1, hj => by
  have hw := List.getElem?_eq_getElem (show j < r.length by omega)
  generalize r[j] = w at hw
  have hwm := List.mem_of_getElem? hw
  have ih := ref_rows hl h hlen j (by omega)
  have hz : zOK ((r.take j).foldl zRow none) := zRows_ok _ (fun v hv => h.rs v (List.mem_of_mem_take hv)) none_ok
  have hc : (zCells ((r.take j).foldl zRow none)).length + (rowC w).length ≤ 1000000000 := by
   rw [zRows_len]
   have := flat_mem_le rowC hw
   unfold cellsC at hlen
   simp only [zCells, zT, List.flatMap_nil, List.length_nil]
   omega
  have hs : (r.take (j + 1)).foldl zRow none = zRow ((r.take j).foldl zRow none) w := by rw [take_succ_of hw, List.foldl_append]; rfl
  rw [hs, flat_take hw, List.length_append]
  refine ih.trans ?_
  by_cases hy : w.1 % 2 = 0
  ·have h1 := ref_roweven hl h hw hlen rfl hy hz hc w.2.length (Nat.le_refl _)
   have e2 : zFwd w ((r.take j).foldl zRow none) w.2.length = zRow ((r.take j).foldl zRow none) w := by rw [zFwd, List.take_length, zRow, zLines, if_pos hy]
   rw [e2, List.take_length] at h1
   exact h1
  ·exact ref_rowodd hl h hw hlen rfl hy hz hc
theorem ref_zigzag_ok {r : Reg} (hl : LimR r) (h : RegOK r) (hlen : (cellsC r).length ≤ 1000000000) : @t_additiveref29_zigzag wv (r, 3) = some (zigT r) := by
 unfold t_additiveref29_zigzag
 dsimp only
 rw [k_ref_Cells hl fun _ => hlen, if_pos h]
 have h1 := ref_rows hl h hlen r.length (Nat.le_refl _)
 rw [List.take_length] at h1
 exact lo_s (h1.out (e := ⟨zigT r, ()⟩) (by
  unfold t_additiveref29_zigzag_L0
  dsimp only
  rw [w_ln, br_nlt (by unfold cellsC; omega)]
  rfl) (by unfold cellsC at hlen; omega))
open Classical in
theorem ref_Zigzag_ok (r : Reg) (hl : LimR r) (hc : RegOK r → (cellsC r).length ≤ 1000000000) : @t_additiveref29_Zigzag wv r = some (if RegOK r then zigT r else []) := by
 unfold t_additiveref29_Zigzag
 rw [k_ref_Valid hl]
 by_cases h : RegOK r
 case neg => rw [br_t (by simp [w_nt, h]), if_neg h]
 rw [br_f (by simp [w_nt, h]), if_pos h]
 exact ca_s (c := c_additiveref29_zigzag) (ref_zigzag_ok hl h (hc h))
open Classical in
theorem k_ref_Zigzag {α : Type} {r : Reg} (hl : LimR r) (hc : RegOK r → (cellsC r).length ≤ 1000000000) (k : List (Int × (Bool × List (Int × Int))) → Option α) : @W.call wv α c_additiveref29_Zigzag r k = k (if RegOK r then zigT r else []) := ca_s (c := c_additiveref29_Zigzag) (ref_Zigzag_ok r hl hc)
theorem zigT_ok {r : Reg} (h : RegOK r) : zOK (r.foldl zRow none) := zRows_ok _ h.rs none_ok
theorem zigT_lim {r : Reg} (h : RegOK r) (hc : (cellsC r).length ≤ 1000000000) : (zigT r).length ≤ 1000000000 ∧ ∀ t ∈ zigT r, t.2.2.length ≤ 1000000000 := by
 obtain ⟨h1, h2⟩ := (zigT_ok h).le
 have h3 : (zCells (r.foldl zRow none)).length ≤ 1000000000 := by
  rw [zRows_len]
  unfold cellsC at hc
  simp only [zCells, zT, List.flatMap_nil, List.length_nil]
  omega
 exact ⟨Nat.le_trans h1 h3, fun t ht => Nat.le_trans (h2 t ht) h3⟩
open Classical in
theorem zigzags_true (r : Reg) : @t_additivelaw29_HatchZigzags wv r = some true := by
 unfold t_additivelaw29_HatchZigzags
 rw [k_few]
 generalize hF : fewR r = F
 have hl : LimR F := hF ▸ fewR_lim r
 have hc : RegOK F → (cellsC F).length ≤ 1000000000 := fun h => by
  have := fewR_cells r (by rw [hF]; exact h)
  rw [hF] at this
  omega
 rw [k_Zigzag hl hc, k_ref_Zigzag hl hc, k_SameAll (by split; exact (zigT_lim (by rename_i h; exact h) (hc (by rename_i h; exact h))).1; simp) (by split; exact (zigT_lim (by rename_i h; exact h) (hc (by rename_i h; exact h))).2; simp), br_t rfl, k_awake]
end Go.Proofs.YtaammoealihpmaaGreat
