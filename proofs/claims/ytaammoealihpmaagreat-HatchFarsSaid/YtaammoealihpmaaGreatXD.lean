/- Plain tools: what the words of the printed texts mean, loops. Conditions: none. -/
import Derived.Test.YtaammoealihpmaaGreatFA
import Derived.Test.YtaammoealihpmaaGreatXC
namespace Go.Dn
open Go Go.Vv Go.Dn.W
set_option linter.unusedVariables false
set_option linter.unusedSimpArgs false
section words
variable {α β : Type}
theorem w_br (c : Bool) (x y : Option α) : @W.br wv α c x y = if c = true then x else y := rfl
theorem w_gd (c : Bool) (x : Option α) : @W.gd wv α c x = if c = true then x else none := rfl
theorem w_ge (l : List β) (i : Int) (k : β → Option α) : @W.ge wv α β l i k = obind (fget l i) k := rfl
theorem w_call (c : Ctr) (a : c.aT.T) (k : c.rT.T → Option α) : @W.call wv α c a k = obind (c.fn a) k := rfl
theorem w_loop {A B : Type} (b : A → Option (Nx A B)) (a : A) (k : B → Option α) : @W.loop wv A B α b a k = obind (loopN b bigN a) k := rfl
theorem w_join {B : Type} (x : Option B) (k : B → Option α) : @W.join wv B α x k = obind x k := rfl
theorem jo_s {B : Type} {x : Option B} {k : B → Option α} {e : B} (h : x = some e) : @W.join wv B α x k = k e := by rw [w_join, h]; rfl
theorem w_ln (l : List α) : @W.ln wv α l = (l.length : Int) := rfl
theorem w_pl (a b : Int) : @W.pl wv a b = a + b := rfl
theorem w_ib (i n : Int) : @W.ib wv i n = decide (0 ≤ i ∧ i < n) := rfl
theorem w_le (a b : Int) : @W.le wv a b = decide (a ≤ b) := rfl
theorem w_ft (b : Nat) (n : Int) : @W.ft wv b n = decide (n * b ≤ room ∧ n ≤ 9223372036854775807) := rfl
theorem w_ap (l m : List α) : @W.ap wv α l m = l ++ m := rfl
theorem w_ct (l : List α) (a n : Int) : @W.ct wv α l a n = (l.drop a.toNat).take n.toNat := rfl
theorem w_st (l : List α) (i : Int) (x : α) : @W.st wv α l i x = l.set i.toNat x := rfl
theorem w_mx (a b : Int) : @W.mx wv a b = if b > a then b else a := rfl
theorem w_mn (a b : Int) : @W.mn wv a b = if b < a then b else a := rfl
theorem w_ng (k : IntKind) (a : Int) : @W.ng wv k a = k.wrap (0 - a) := rfl
theorem w_nt (a : Bool) : @W.nt wv a = !a := rfl
theorem w_add (a b : Int) : @W.ar wv .add .i64 a b = IntKind.wrap .i64 (a + b) := rfl
theorem w_sub (a b : Int) : @W.ar wv .sub .i64 a b = IntKind.wrap .i64 (a - b) := rfl
theorem w_mul (a b : Int) : @W.ar wv .mul .i64 a b = IntKind.wrap .i64 (a * b) := rfl
theorem w_quo (a b : Int) : @W.ar wv .quo .i64 a b = IntKind.wrap .i64 (a.tdiv b) := rfl
theorem w_rem (a b : Int) : @W.ar wv .rem .i64 a b = a.tmod b := rfl
theorem w_eql (a b : Int) : @W.cm wv .eql a b = (a == b) := rfl
theorem w_lss (a b : Int) : @W.cm wv .lss a b = decide (a < b) := rfl
theorem w_leq (a b : Int) : @W.cm wv .leq a b = decide (a ≤ b) := rfl
theorem w_gtr (a b : Int) : @W.cm wv .gtr a b = decide (a > b) := rfl
theorem w_geq (a b : Int) : @W.cm wv .geq a b = decide (a ≥ b) := rfl
theorem wr {n : Int} (h : -9223372036854775808 ≤ n) (h2 : n ≤ 9223372036854775807) : IntKind.wrap .i64 n = n := by
 rw [IntKind.wrap_i64, Int.emod_eq_of_lt] <;> omega
theorem fg {l : List α} {i : Nat} {x : α} (h : l[i]? = some x) : fget l (i : Int) = some x := by
 unfold fget
 rw [if_pos (by omega), Int.toNat_natCast, h]
theorem fgz {l : List α} {i : Int} (j : Nat) {x : α} (e : i = j) (h : l[j]? = some x) : fget l i = some x := by subst e; exact fg h
theorem fg0 {l : List α} {x : α} (h : l[0]? = some x) : fget l 0 = some x := fg h
theorem ge_s {l : List β} {i : Int} {k : β → Option α} {x : β} (h : fget l i = some x) : @W.ge wv α β l i k = k x := by rw [w_ge, h]; rfl
theorem ca_s {c : Ctr} {a : c.aT.T} {k : c.rT.T → Option α} {r : c.rT.T} (h : c.fn a = some r) : @W.call wv α c a k = k r := by rw [w_call, h]; rfl
theorem lo_s {A B : Type} {b : A → Option (Nx A B)} {a : A} {k : B → Option α} {e : B} (h : loopN b bigN a = some e) : @W.loop wv A B α b a k = k e := by rw [w_loop, h]; rfl
theorem br_t {c : Bool} {x y : Option α} (h : c = true) : @W.br wv α c x y = x := by rw [w_br, if_pos h]
theorem br_f {c : Bool} {x y : Option α} (h : c = false) : @W.br wv α c x y = y := by rw [w_br, h]; rfl
theorem gd_t {c : Bool} {x : Option α} (h : c = true) : @W.gd wv α c x = x := by rw [w_gd, if_pos h]
theorem br_lt {a b : Int} {x y : Option α} (h : a < b) : @W.br wv α (@W.cm wv .lss a b) x y = x := br_t (by rw [w_lss]; exact decide_eq_true h)
theorem br_nlt {a b : Int} {x y : Option α} (h : ¬ a < b) : @W.br wv α (@W.cm wv .lss a b) x y = y := br_f (by rw [w_lss]; exact decide_eq_false h)
theorem gd_ft {b : Nat} {n : Int} {x : Option α} (h : n * b ≤ room ∧ n ≤ 9223372036854775807) : @W.gd wv α (@W.ft wv b n) x = x := gd_t (by rw [w_ft]; exact decide_eq_true h)
theorem gd_ib {i n : Int} {x : Option α} (h : 0 ≤ i ∧ i < n) : @W.gd wv α (@W.ib wv i n) x = x := gd_t (by rw [w_ib]; exact decide_eq_true h)
end words
section loops
variable {A B : Type} {b : A → Option (Nx A B)}
theorem loop_go {n : Nat} {s s' : A} (h : b s = some (.go s')) : loopN b (n + 1) s = loopN b n s' := by simp only [loopN, h]
theorem loop_out {n : Nat} {s : A} {e : B} (h : b s = some (.out e)) : loopN b (n + 1) s = some e := by simp only [loopN, h]
theorem loop_stn (st : Nat → A) {e : B} : ∀ (k i N M : Nat), N = i + k → k < M → (∀ j, i ≤ j → j < N → b (st j) = some (.go (st (j + 1)))) → b (st N) = some (.out e) → loopN b M (st i) = some e
 | 0, i, N, M + 1, hN, hM, h1, h2 => by
  subst hN
  exact loop_out h2
 | k + 1, i, N, M + 1, hN, hM, h1, h2 => by
  rw [loop_go (h1 i (Nat.le_refl _) (by omega))]
  exact loop_stn st k (i + 1) N M (by omega) (by omega) (fun j hj => h1 j (by omega)) h2
theorem loop_st (st : Nat → A) (N : Nat) {e : B} (hN : N < 1000000000000) (h1 : ∀ i, i < N → b (st i) = some (.go (st (i + 1)))) (h2 : b (st N) = some (.out e)) : loopN b bigN (st 0) = some e :=
 loop_stn st N 0 N bigN (by omega) (by unfold bigN; omega) (fun j _ hj => h1 j hj) h2
open Classical in
theorem loop_all (st : Nat → A) (N : Nat) (hN : N < 1000000000000) (good : Nat → Prop) {bad fin : B}
  (h1 : ∀ i, i < N → (∀ j, j < i → good j) → (good i → b (st i) = some (.go (st (i + 1)))) ∧ (¬ good i → b (st i) = some (.out bad))) (h2 : (∀ i, i < N → good i) → b (st N) = some (.out fin)) :
  loopN b bigN (st 0) = some (if ∀ i, i < N → good i then fin else bad) := by
 by_cases hg : ∀ i, i < N → good i
 ·rw [if_pos hg]
  exact loop_st st N hN (fun i hi => (h1 i hi fun j hj => hg j (by omega)).1 (hg i hi)) (h2 hg)
 ·rw [if_neg hg]
  have : ∃ i, i < N ∧ ¬ good i ∧ ∀ j, j < i → good j := by
   simp only [Classical.not_forall] at hg
   obtain ⟨i, hi, hn⟩ := hg
   induction i using Nat.strongRecOn with
   | _ i ih =>
    by_cases h : ∀ j, j < i → good j
    ·exact ⟨i, hi, hn, h⟩
    ·simp only [Classical.not_forall] at h
     obtain ⟨j, hj, hnj⟩ := h
     exact ih j hj (by omega) hnj
  obtain ⟨i, hi, hn, hlt⟩ := this
  exact loop_st st i (by omega) (fun j hj => (h1 j (by omega) fun k hk => hlt k (by omega)).1 (hlt j hj)) ((h1 i hi hlt).2 hn)
theorem loop_find {α : Type} (l : List α) (hl : l.length < 1000000000000) (st : Nat → A) (p : α → Bool) (out : α → B) (nf : B)
  (h1 : ∀ i x, i < l.length → l[i]? = some x → b (st i) = if p x = true then some (.out (out x)) else some (.go (st (i + 1)))) (h2 : b (st l.length) = some (.out nf)) :
  loopN b bigN (st 0) = some (match l.find? p with | some x => out x | none => nf) := by
 have key : ∀ (m : List α) (i M : Nat), i + m.length = l.length → m.length < M → (∀ j, m[j]? = l[i + j]?) → loopN b M (st i) = some (match m.find? p with | some x => out x | none => nf) := by
  intro m
  induction m with
  | nil =>
   intro i M hi hM hm
   have : i = l.length := by simpa using hi
   subst this
   cases M with
   | zero => simp at hM
   | succ M => exact loop_out h2
  | cons x m ih =>
   intro i M hi hM hm
   simp only [List.length_cons] at hi hM
   have hx : l[i]? = some x := by have := hm 0; simpa using this.symm
   have := h1 i x (by omega) hx
   cases M with
   | zero => omega
   | succ M =>
    cases hp : p x with
    | true =>
     rw [hp, if_pos rfl] at this
     rw [loop_out this, List.find?_cons_of_pos (by exact hp)]
    | false =>
     rw [hp, if_neg (by simp)] at this
     rw [loop_go this, List.find?_cons_of_neg (by simp [hp])]
     exact ih (i + 1) M (by omega) (by omega) fun j => by have := hm (j + 1); rw [List.getElem?_cons_succ] at this; rw [this]; congr 1; omega
 exact key l 0 bigN (by simp) (by unfold bigN; omega) fun j => by simp
theorem loop_inv (I : Nat → A → Prop) (Q : B → Prop) (N : Nat) (hN : N < 1000000000000) {s0 : A} (h0 : I 0 s0) (h1 : ∀ i s, i < N → I i s → ∃ s', b s = some (.go s') ∧ I (i + 1) s') (h2 : ∀ s, I N s → ∃ e, b s = some (.out e) ∧ Q e) :
  ∃ e, loopN b bigN s0 = some e ∧ Q e := by
 have key : ∀ (k i M : Nat) (s : A), i + k = N → k < M → I i s → ∃ e, loopN b M s = some e ∧ Q e := by
  intro k
  induction k with
  | zero =>
   intro i M s hi hM hs
   have : i = N := by omega
   subst this
   obtain ⟨e, he, hq⟩ := h2 s hs
   cases M with
   | zero => omega
   | succ M => exact ⟨e, loop_out he, hq⟩
  | succ k ih =>
   intro i M s hi hM hs
   obtain ⟨s', hs', hi'⟩ := h1 i s (by omega) hs
   cases M with
   | zero => omega
   | succ M =>
    obtain ⟨e, he, hq⟩ := ih (i + 1) M s' (by omega) (by omega) hi'
    exact ⟨e, (loop_go hs').trans he, hq⟩
 exact key N 0 bigN s0 (by omega) (by unfold bigN; omega) h0
theorem loop_meas (I : A → Prop) (Q : B → Prop) (m : A → Nat) (h : ∀ s, I s → (∃ s', b s = some (.go s') ∧ I s' ∧ m s' < m s) ∨ ∃ e, b s = some (.out e) ∧ Q e) {s0 : A} (h0 : I s0) (hm : m s0 < 1000000000000) : ∃ e, loopN b bigN s0 = some e ∧ Q e := by
 have key : ∀ (n M : Nat) (s : A), m s ≤ n → n < M → I s → ∃ e, loopN b M s = some e ∧ Q e := by
  intro n
  induction n with
  | zero =>
   intro M s hs hM hi
   cases M with
   | zero => omega
   | succ M =>
    rcases h s hi with ⟨s', _, _, h3⟩ | ⟨e, h1, h2⟩
    ·omega
    ·exact ⟨e, loop_out h1, h2⟩
  | succ n ih =>
   intro M s hs hM hi
   cases M with
   | zero => omega
   | succ M =>
    rcases h s hi with ⟨s', h1, h2, h3⟩ | ⟨e, h1, h2⟩
    ·obtain ⟨e, he, hq⟩ := ih M s' (by omega) (by omega) h2
     exact ⟨e, (loop_go h1).trans he, hq⟩
    ·exact ⟨e, loop_out h1, h2⟩
 exact key (m s0) bigN s0 (Nat.le_refl _) (by unfold bigN; omega) h0
end loops
section lists
variable {α β : Type}
theorem take_succ_of {l : List α} {i : Nat} {x : α} (h : l[i]? = some x) : l.take (i + 1) = l.take i ++ [x] := by
 rw [List.take_add_one, h]; rfl
theorem flat_take {f : α → List β} {l : List α} {i : Nat} {x : α} (h : l[i]? = some x) : (l.take (i + 1)).flatMap f = (l.take i).flatMap f ++ f x := by
 rw [take_succ_of h, List.flatMap_append, List.flatMap_cons, List.flatMap_nil, List.append_nil]
theorem map_take_of {f : α → β} {l : List α} {i : Nat} {x : α} (h : l[i]? = some x) : (l.take (i + 1)).map f = (l.take i).map f ++ [f x] := by
 rw [take_succ_of h, List.map_append]; rfl
def rng (a : Int) (n : Nat) : List Int := (List.range n).map fun i : Nat => a + (i : Int)
theorem rng_succ (a : Int) (n : Nat) : rng a (n + 1) = rng a n ++ [a + (n : Int)] := by simp [rng, List.range_succ]
theorem rng_len (a : Int) (n : Nat) : (rng a n).length = n := by simp [rng]
theorem mem_rng {a x : Int} {n : Nat} : x ∈ rng a n ↔ a ≤ x ∧ x < a + n := by
 simp only [rng, List.mem_map, List.mem_range]
 constructor
 ·rintro ⟨i, hi, rfl⟩; omega
 ·intro h; exact ⟨(x - a).toNat, by omega, by omega⟩
theorem flat_len_le {f : α → List β} {l : List α} {n : Nat} (h : ∀ x ∈ l, (f x).length ≤ n) : (l.flatMap f).length ≤ l.length * n := by
 induction l with
 | nil => simp
 | cons x l ih =>
  have := h x (List.mem_cons_self ..)
  have := ih fun y hy => h y (List.mem_cons_of_mem _ hy)
  simp only [List.flatMap_cons, List.length_append, List.length_cons, Nat.add_mul]
  omega
theorem modLast_app (f : α → α) (x : α) : ∀ l : List α, modLast (l ++ [x]) f = l ++ [f x]
 | [] => rfl
 | [y] => rfl
 | y :: z :: l => by
  show y :: modLast (z :: (l ++ [x])) f = _
  rw [show z :: (l ++ [x]) = (z :: l) ++ [x] from rfl, modLast_app f x (z :: l)]
  rfl
theorem set_last (l : List α) (x y : α) : (l ++ [x]).set l.length y = l ++ [y] := by
 rw [List.set_append_right _ _ (Nat.le_refl _), Nat.sub_self]; rfl
theorem get_last (l : List α) (x : α) : (l ++ [x])[l.length]? = some x := by
 rw [List.getElem?_append_right (Nat.le_refl _), Nat.sub_self]; rfl
end lists
end Go.Dn
namespace Go.Dn
set_option linter.unusedVariables false
set_option linter.unusedSimpArgs false
abbrev Run := Int × Int
abbrev Row := Int × List Run
abbrev Reg := List Row
abbrev Cell := Int × Int
abbrev Track := Int × (Bool × List Cell)
structure RunsOK (lo hi : Int) (l : List Run) : Prop where
 bd : ∀ x ∈ l, lo ≤ x.1 ∧ x.1 < x.2 ∧ x.2 ≤ hi
 pw : l.Pairwise fun a b => a.2 < b.1
structure RegOK (r : Reg) : Prop where
 y : ∀ w ∈ r, -4096 ≤ w.1 ∧ w.1 < 4096
 pw : r.Pairwise fun a b => a.1 < b.1
 ne : ∀ w ∈ r, w.2 ≠ []
 rs : ∀ w ∈ r, RunsOK (-4096) 4096 w.2
def inRuns (l : List Run) (x : Int) : Prop := ∃ u ∈ l, u.1 ≤ x ∧ x < u.2
def inReg (r : Reg) (c : Cell) : Prop := ∃ w ∈ r, w.1 = c.2 ∧ inRuns w.2 c.1
def lineC (y : Int) (u : Run) : List Cell := (rng u.1 (u.2 - u.1).toNat).map fun x => (x, y)
def rowC (w : Row) : List Cell := w.2.flatMap (lineC w.1)
def cellsC (r : Reg) : List Cell := r.flatMap rowC
def yx (a b : Cell) : Prop := a.2 < b.2 ∨ (a.2 = b.2 ∧ a.1 < b.1)
theorem mem_line {y : Int} {u : Run} {c : Cell} : c ∈ lineC y u ↔ c.2 = y ∧ u.1 ≤ c.1 ∧ c.1 < u.2 := by
 simp only [lineC, List.mem_map, mem_rng]
 constructor
 ·rintro ⟨x, hx, rfl⟩; exact ⟨rfl, by omega, by omega⟩
 ·rintro ⟨rfl, h1, h2⟩; exact ⟨c.1, by omega, rfl⟩
theorem mem_row {w : Row} {c : Cell} : c ∈ rowC w ↔ c.2 = w.1 ∧ inRuns w.2 c.1 := by
 simp only [rowC, List.mem_flatMap, mem_line, inRuns]
 constructor
 ·rintro ⟨u, hu, h1, h2⟩; exact ⟨h1, u, hu, h2⟩
 ·rintro ⟨h1, u, hu, h2⟩; exact ⟨u, hu, h1, h2⟩
theorem mem_cells {r : Reg} {c : Cell} : c ∈ cellsC r ↔ inReg r c := by
 simp only [cellsC, List.mem_flatMap, mem_row, inReg]
 constructor
 ·rintro ⟨w, hw, h1, h2⟩; exact ⟨w, hw, h1.symm, h2⟩
 ·rintro ⟨w, hw, h1, h2⟩; exact ⟨w, hw, h1.symm, h2⟩
theorem RegOK.bd {r : Reg} (h : RegOK r) {c : Cell} (hc : inReg r c) : -4096 ≤ c.1 ∧ c.1 < 4096 ∧ -4096 ≤ c.2 ∧ c.2 < 4096 := by
 obtain ⟨w, hw, e, u, hu, h1, h2⟩ := hc
 have := (h.rs w hw).bd u hu
 have := h.y w hw
 omega
theorem pw_adj {α : Type} {R : α → α → Prop} (tr : ∀ a b c, R a b → R b c → R a c) {l : List α} (h : ∀ i a b, l[i]? = some a → l[i + 1]? = some b → R a b) : l.Pairwise R := by
 induction l with
 | nil => exact .nil
 | cons x l ih =>
  have ih' := ih fun i a b ha hb => h (i + 1) a b (by simpa using ha) (by simpa using hb)
  refine List.pairwise_cons.2 ⟨fun y hy => ?_, ih'⟩
  cases l with
  | nil => cases hy
  | cons z l =>
   have hz : R x z := h 0 x z rfl rfl
   rcases List.mem_cons.1 hy with rfl | hy
   ·exact hz
   ·exact tr _ _ _ hz ((List.pairwise_cons.1 ih').1 y hy)
theorem adj_pw {α : Type} {R : α → α → Prop} {l : List α} (h : l.Pairwise R) {i : Nat} {a b : α} (ha : l[i]? = some a) (hb : l[i + 1]? = some b) : R a b := by
 have h1 := (List.getElem?_eq_some_iff.1 ha)
 have h2 := (List.getElem?_eq_some_iff.1 hb)
 obtain ⟨p1, e1⟩ := h1
 obtain ⟨p2, e2⟩ := h2
 have := List.pairwise_iff_getElem.1 h i (i + 1) p1 p2 (by omega)
 rwa [e1, e2] at this
theorem pw_cases {l : List Run} (hp : l.Pairwise fun a b => a.2 < b.1) {u v : Run} (hu : u ∈ l) (hv : v ∈ l) : u = v ∨ u.2 < v.1 ∨ v.2 < u.1 := by
 induction l with
 | nil => cases hu
 | cons x l ih =>
  obtain ⟨p1, p2⟩ := List.pairwise_cons.1 hp
  rcases List.mem_cons.1 hu with rfl | hu' <;> rcases List.mem_cons.1 hv with rfl | hv'
  ·exact .inl rfl
  ·exact .inr (.inl (p1 _ hv'))
  ·exact .inr (.inr (p1 _ hu'))
  ·exact ih p2 hu' hv'
theorem RunsOK.left {lo hi : Int} {l : List Run} (h : RunsOK lo hi l) {u : Run} (hu : u ∈ l) : ¬ inRuns l (u.1 - 1) := by
 rintro ⟨v, hv, h1, h2⟩
 have hub := h.bd u hu
 have hvb := h.bd v hv
 have hpw := h.pw
 rcases pw_cases hpw hu hv with e | e | e
 ·subst e; omega
 ·omega
 ·omega
theorem RunsOK.right {lo hi : Int} {l : List Run} (h : RunsOK lo hi l) {u : Run} (hu : u ∈ l) : ¬ inRuns l u.2 := by
 rintro ⟨v, hv, h1, h2⟩
 have hub := h.bd u hu
 have hvb := h.bd v hv
 rcases pw_cases h.pw hu hv with e | e | e
 ·subst e; omega
 ·omega
 ·omega
theorem RegOK.row_uniq {r : Reg} (h : RegOK r) {w v : Row} (hw : w ∈ r) (hv : v ∈ r) (e : w.1 = v.1) : w = v := by
 have hp := h.pw
 clear h
 induction r with
 | nil => cases hw
 | cons x l ih =>
  obtain ⟨p1, p2⟩ := List.pairwise_cons.1 hp
  rcases List.mem_cons.1 hw with rfl | hw' <;> rcases List.mem_cons.1 hv with rfl | hv'
  ·rfl
  ·have := p1 _ hv'; omega
  ·have := p1 _ hw'; omega
  ·exact ih hw' hv' p2
theorem RegOK.in_row {r : Reg} (h : RegOK r) {w : Row} (hw : w ∈ r) (x : Int) : inReg r (x, w.1) ↔ inRuns w.2 x := by
 constructor
 ·rintro ⟨v, hv, e, hx⟩
  rw [h.row_uniq hw hv e.symm]
  exact hx
 ·exact fun hx => ⟨w, hw, rfl, hx⟩
theorem runsOK_snoc {lo hi : Int} {l : List Run} {u : Run} : RunsOK lo hi (l ++ [u]) ↔ RunsOK lo hi l ∧ (lo ≤ u.1 ∧ u.1 < u.2 ∧ u.2 ≤ hi) ∧ ∀ v ∈ l, v.2 < u.1 := by
 constructor
 ·rintro ⟨h1, h2⟩
  obtain ⟨p1, p2, p3⟩ := List.pairwise_append.1 h2
  exact ⟨⟨fun x hx => h1 x (List.mem_append_left _ hx), p1⟩, h1 u (by simp), fun v hv => p3 v hv u (by simp)⟩
 ·rintro ⟨⟨h1, h2⟩, h3, h4⟩
  refine ⟨fun x hx => ?_, List.pairwise_append.2 ⟨h2, List.pairwise_singleton _ _, fun v hv w hw => ?_⟩⟩
  ·rcases List.mem_append.1 hx with h | h
   ·exact h1 x h
   ·rw [List.mem_singleton.1 h]; exact h3
  ·rw [List.mem_singleton.1 hw]; exact h4 v hv
theorem inRuns_snoc {l : List Run} {u : Run} {x : Int} : inRuns (l ++ [u]) x ↔ inRuns l x ∨ (u.1 ≤ x ∧ x < u.2) := by
 unfold inRuns
 constructor
 ·rintro ⟨v, hv, h⟩
  rcases List.mem_append.1 hv with q | q
  ·exact .inl ⟨v, q, h⟩
  ·rw [List.mem_singleton.1 q] at h; exact .inr h
 ·rintro (⟨v, hv, h⟩ | h)
  ·exact ⟨v, List.mem_append_left _ hv, h⟩
  ·exact ⟨u, by simp, h⟩
theorem regOK_snoc {l : Reg} {w : Row} : RegOK (l ++ [w]) ↔ RegOK l ∧ (-4096 ≤ w.1 ∧ w.1 < 4096) ∧ w.2 ≠ [] ∧ RunsOK (-4096) 4096 w.2 ∧ ∀ v ∈ l, v.1 < w.1 := by
 constructor
 ·rintro ⟨h1, h2, h3, h4⟩
  obtain ⟨p1, p2, p3⟩ := List.pairwise_append.1 h2
  exact ⟨⟨fun x hx => h1 x (List.mem_append_left _ hx), p1, fun x hx => h3 x (List.mem_append_left _ hx), fun x hx => h4 x (List.mem_append_left _ hx)⟩, h1 w (by simp), h3 w (by simp), h4 w (by simp), fun v hv => p3 v hv w (by simp)⟩
 ·rintro ⟨⟨h1, h2, h3, h4⟩, a, b, c, d⟩
  have key : ∀ {P : Row → Prop}, (∀ x ∈ l, P x) → P w → ∀ x ∈ l ++ [w], P x := fun hl hw x hx => by
   rcases List.mem_append.1 hx with h | h
   ·exact hl x h
   ·rw [List.mem_singleton.1 h]; exact hw
  exact ⟨key h1 a, List.pairwise_append.2 ⟨h2, List.pairwise_singleton _ _, fun v hv w' hw => by rw [List.mem_singleton.1 hw]; exact d v hv⟩, key h3 b, key h4 c⟩
theorem inReg_snoc {l : Reg} {w : Row} {c : Cell} : inReg (l ++ [w]) c ↔ inReg l c ∨ (w.1 = c.2 ∧ inRuns w.2 c.1) := by
 unfold inReg
 constructor
 ·rintro ⟨v, hv, h⟩
  rcases List.mem_append.1 hv with q | q
  ·exact .inl ⟨v, q, h⟩
  ·rw [List.mem_singleton.1 q] at h; exact .inr h
 ·rintro (⟨v, hv, h⟩ | h)
  ·exact ⟨v, List.mem_append_left _ hv, h⟩
  ·exact ⟨w, by simp, h⟩
end Go.Dn
namespace Go.Proofs.YtaammoealihpmaaGreat
open Go Go.Vv Go.Dn Go.Dn.W
set_option linter.unusedVariables false
set_option linter.unusedSimpArgs false
set_option maxRecDepth 100000
theorem region_ok_ok (x : Int) : @t_region_ok wv x = some (decide (-4096 ≤ x ∧ x < 4096)) := by
 simp only [t_region_ok, w_br, w_geq, w_lss, decide_eq_true_eq]
 split <;> simp <;> omega
theorem k_region_ok {α : Type} (x : Int) (k : Bool → Option α) : @W.call wv α c_region_ok x k = k (decide (-4096 ≤ x ∧ x < 4096)) := ca_s (c := c_region_ok) (region_ok_ok x)
theorem runs_fits_ok (x : Int × Int) : @t_runs_fits wv x = some (decide (-1048576 ≤ x.1 ∧ x.1 ≤ 1048576 ∧ -1048576 ≤ x.2 ∧ x.2 ≤ 1048576)) := by
 simp only [t_runs_fits, w_br, w_geq, w_leq, decide_eq_true_eq]
 (repeat' split) <;> first | exact congrArg some (decide_eq_decide.2 (by omega)) | exact congrArg some (decide_eq_false (by omega)).symm
theorem k_runs_fits {α : Type} (x : Int × Int) (k : Bool → Option α) : @W.call wv α c_runs_fits x k = k (decide (-1048576 ≤ x.1 ∧ x.1 ≤ 1048576 ∧ -1048576 ≤ x.2 ∧ x.2 ≤ 1048576)) := ca_s (c := c_runs_fits) (runs_fits_ok x)
def goodRun (lo hi : Int) (l : List Run) (i : Nat) : Prop := ∀ x, l[i]? = some x → lo ≤ x.1 ∧ x.1 < x.2 ∧ x.2 ≤ hi ∧ ∀ p, 0 < i → l[i - 1]? = some p → p.2 < x.1
theorem runsOK_iff (lo hi : Int) (l : List Run) : (∀ i, i < l.length → goodRun lo hi l i) ↔ RunsOK lo hi l := by
 constructor
 ·intro h
  have key : ∀ (i : Nat) (x : Run), l[i]? = some x → lo ≤ x.1 ∧ x.1 < x.2 ∧ x.2 ≤ hi ∧ ∀ p, 0 < i → l[i - 1]? = some p → p.2 < x.1 := fun i x hx => h i (List.getElem?_eq_some_iff.1 hx).1 x hx
  refine ⟨fun x hx => ?_, ?_⟩
  ·obtain ⟨i, hi⟩ := List.mem_iff_getElem?.1 hx
   have := key i x hi
   omega
  ·have hp : (l.Pairwise fun a b => (a.1 < a.2 ∧ b.1 < b.2 ∧ a.2 < b.1)) := pw_adj (fun a b c h1 h2 => by omega) fun i a b ha hb => by
    have h1 := key i a ha
    have h2 := key (i + 1) b hb
    have h3 := h2.2.2.2 a (by omega) (by simpa using ha)
    omega
   exact hp.imp fun h => h.2.2
 ·rintro ⟨h1, h2⟩ i hi x hx
  have hb := h1 x (List.mem_of_getElem? hx)
  refine ⟨hb.1, hb.2.1, hb.2.2, fun p h0 hp => ?_⟩
  exact adj_pw h2 hp (by rwa [Nat.sub_add_cancel h0])
open Classical in
theorem runs_Valid_ok (l : List Run) (hl : l.length ≤ 1000000000) : @t_runs_Valid wv l = some (decide (RunsOK (-1048576) 1048576 l)) := by
 have hloop := loop_all (b := @t_runs_Valid_L0 wv) (bad := .inl ()) (fin := .inr ()) (fun i => ⟨l, ⟨l, ⟨(l.length : Int), ⟨(i : Int), ()⟩⟩⟩⟩) l.length (by omega) (goodRun (-1048576) 1048576 l) (fun i hi _ => by
  have hx := List.getElem?_eq_getElem hi
  have hb : @t_runs_Valid_L0 wv ⟨l, ⟨l, ⟨(l.length : Int), ⟨(i : Int), ()⟩⟩⟩⟩ = if goodRun (-1048576) 1048576 l i then some (.go ⟨l, ⟨l, ⟨(l.length : Int), ⟨((i + 1 : Nat) : Int), ()⟩⟩⟩⟩) else some (.out (.inl ())) := by
   unfold t_runs_Valid_L0
   dsimp only
   rw [br_lt (by omega), ge_s (fg hx)]
   simp only [w_br, w_geq, w_gtr, w_leq, w_add, w_nt, k_runs_fits, decide_eq_true_eq, Bool.not_eq_true', decide_eq_false_iff_not]
   rw [wr (by omega) (by omega)]
   by_cases h0 : 0 < i
   ·have hp := List.getElem?_eq_getElem (l := l) (i := i - 1) (by omega)
    rw [ge_s (fgz (i - 1) (by rw [w_sub, wr (by omega) (by omega)]; omega) hp)]
    have hg : goodRun (-1048576) 1048576 l i ↔ -1048576 ≤ l[i].1 ∧ l[i].1 < l[i].2 ∧ l[i].2 ≤ 1048576 ∧ (l[i - 1]'(by omega)).2 < l[i].1 := by
     constructor
     ·intro h; have := h _ hx; exact ⟨this.1, this.2.1, this.2.2.1, this.2.2.2 _ h0 hp⟩
     ·rintro ⟨a, b, c, d⟩ x hx'
      rw [hx] at hx'; injection hx' with e; subst e
      exact ⟨a, b, c, fun p _ hp' => by rw [hp] at hp'; injection hp' with e; subst e; exact d⟩
    simp only [hg]
    (repeat' split) <;> first | rfl | omega
   ·have hg : goodRun (-1048576) 1048576 l i ↔ -1048576 ≤ l[i].1 ∧ l[i].1 < l[i].2 ∧ l[i].2 ≤ 1048576 := by
     constructor
     ·intro h; have := h _ hx; exact ⟨this.1, this.2.1, this.2.2.1⟩
     ·rintro ⟨a, b, c⟩ x hx'
      rw [hx] at hx'; injection hx' with e; subst e
      exact ⟨a, b, c, fun p h => (h0 h).elim⟩
    simp only [hg]
    (repeat' split) <;> first | rfl | omega
  rw [hb]
  exact ⟨fun h => if_pos h, fun h => if_neg h⟩) (fun _ => by unfold t_runs_Valid_L0; dsimp only; rw [br_nlt (by omega)])
 refine (lo_s hloop).trans ?_
 by_cases h : RunsOK (-1048576) 1048576 l
 ·rw [if_pos ((runsOK_iff _ _ _).2 h), decide_eq_true h]
 ·rw [if_neg fun q => h ((runsOK_iff _ _ _).1 q), decide_eq_false h]
open Classical in
theorem k_runs_Valid {α : Type} {l : List Run} (hl : l.length ≤ 1000000000) (k : Bool → Option α) : @W.call wv α c_runs_Valid l k = k (decide (RunsOK (-1048576) 1048576 l)) := ca_s (c := c_runs_Valid) (runs_Valid_ok l hl)
def LimR (r : Reg) : Prop := r.length ≤ 1000000000 ∧ ∀ w ∈ r, w.2.length ≤ 1000000000
theorem runs_first {lo hi : Int} {l : List Run} (h : RunsOK lo hi l) {x0 : Run} (h0 : l[0]? = some x0) : ∀ x ∈ l, x0.1 ≤ x.1 := by
 cases l with
 | nil => simp at h0
 | cons y l =>
  simp only [List.getElem?_cons_zero, Option.some.injEq] at h0
  subst h0
  intro x hx
  rcases List.mem_cons.1 hx with rfl | hx'
  ·omega
  ·have := (List.pairwise_cons.1 h.pw).1 x hx'
   have := h.bd y (List.mem_cons_self ..)
   omega
theorem runs_last {lo hi : Int} {l : List Run} (h : RunsOK lo hi l) {x1 : Run} (h1 : l[l.length - 1]? = some x1) : ∀ x ∈ l, x.2 ≤ x1.2 := by
 intro x hx
 have hm := List.mem_of_getElem? h1
 obtain ⟨i, hi⟩ := List.mem_iff_getElem?.1 hx
 obtain ⟨p1, e1⟩ := List.getElem?_eq_some_iff.1 hi
 obtain ⟨p2, e2⟩ := List.getElem?_eq_some_iff.1 h1
 have hb := h.bd x1 hm
 by_cases e : i = l.length - 1
 ·subst e
  rw [hi] at h1
  injection h1 with h1
  subst h1
  omega
 ·have := List.pairwise_iff_getElem.1 h.pw i (l.length - 1) p1 p2 (by omega)
  rw [e1, e2] at this
  omega
def goodRow (r : Reg) (i : Nat) : Prop := ∀ w, r[i]? = some w → -4096 ≤ w.1 ∧ w.1 < 4096 ∧ w.2 ≠ [] ∧ RunsOK (-4096) 4096 w.2 ∧ ∀ p, 0 < i → r[i - 1]? = some p → p.1 < w.1
theorem regOK_iff (r : Reg) : (∀ i, i < r.length → goodRow r i) ↔ RegOK r := by
 constructor
 ·intro h
  have key : ∀ (i : Nat) (w : Row), r[i]? = some w → -4096 ≤ w.1 ∧ w.1 < 4096 ∧ w.2 ≠ [] ∧ RunsOK (-4096) 4096 w.2 ∧ ∀ p, 0 < i → r[i - 1]? = some p → p.1 < w.1 := fun i x hx => h i (List.getElem?_eq_some_iff.1 hx).1 x hx
  have km : ∀ w ∈ r, -4096 ≤ w.1 ∧ w.1 < 4096 ∧ w.2 ≠ [] ∧ RunsOK (-4096) 4096 w.2 := fun w hw => by
   obtain ⟨i, hi⟩ := List.mem_iff_getElem?.1 hw
   have := key i w hi
   exact ⟨this.1, this.2.1, this.2.2.1, this.2.2.2.1⟩
  exact ⟨fun w hw => ⟨(km w hw).1, (km w hw).2.1⟩, pw_adj (fun a b c h1 h2 => by omega) fun i a b ha hb => (key (i + 1) b hb).2.2.2.2 a (by omega) (by simpa using ha), fun w hw => (km w hw).2.2.1, fun w hw => (km w hw).2.2.2⟩
 ·intro h i hi w hw
  have hm := List.mem_of_getElem? hw
  exact ⟨(h.y w hm).1, (h.y w hm).2, h.ne w hm, h.rs w hm, fun p h0 hp => adj_pw h.pw hp (by rwa [Nat.sub_add_cancel h0])⟩
theorem runs_ends {l : List Run} {x0 x1 : Run} (h0 : l[0]? = some x0) (h1 : l[l.length - 1]? = some x1) : RunsOK (-4096) 4096 l ↔ RunsOK (-1048576) 1048576 l ∧ (-4096 ≤ x0.1 ∧ x0.1 < 4096) ∧ (-4096 ≤ x1.2 - 1 ∧ x1.2 - 1 < 4096) := by
 constructor
 ·intro h
  have a := h.bd x0 (List.mem_of_getElem? h0)
  have b := h.bd x1 (List.mem_of_getElem? h1)
  exact ⟨⟨fun x hx => by have := h.bd x hx; omega, h.pw⟩, by omega, by omega⟩
 ·rintro ⟨h, a, b⟩
  exact ⟨fun x hx => by
   have q1 := runs_first h h0 x hx
   have q2 := runs_last h h1 x hx
   have := h.bd x hx
   omega, h.pw⟩
open Classical in
theorem region_Valid_ok (r : Reg) (hl : LimR r) : @t_region_Valid wv r = some (decide (RegOK r)) := by
 have hloop := loop_all (b := @t_region_Valid_L0 wv) (bad := .inl ()) (fin := .inr ()) (fun i => ⟨r, ⟨(r.length : Int), ⟨(i : Int), ⟨r, ()⟩⟩⟩⟩) r.length (by have := hl.1; omega) (goodRow r) (fun i hi _ => by
  have hx := List.getElem?_eq_getElem hi
  have hL := hl.1
  have hb : @t_region_Valid_L0 wv ⟨r, ⟨(r.length : Int), ⟨(i : Int), ⟨r, ()⟩⟩⟩⟩ = if goodRow r i then some (.go ⟨r, ⟨(r.length : Int), ⟨((i + 1 : Nat) : Int), ⟨r, ()⟩⟩⟩⟩) else some (.out (.inl ())) := by
   generalize hw : r[i] = w at hx
   have hwm := List.mem_of_getElem? hx
   have hLw := hl.2 w hwm
   unfold t_region_Valid_L0
   dsimp only
   rw [br_lt (by omega), ge_s (fg hx)]
   have tail : letI : W := wv; ∀ X : Option (Nx _ (Unit ⊕ Unit)), (br (cm .eql (ln w.2) 0) (some (.out (.inl ()))) (call c_runs_Valid (w.2 : (List (Int × Int))) fun (v3 : Bool) => br (nt v3) (some (.out (.inl ()))) (ge w.2 0 fun v4 => call c_region_ok (v4.1 : Int) fun (v5 : Bool) => br (nt v5) (some (.out (.inl ())))
     (ge w.2 (ar .sub .i64 (ln w.2) 1) fun v6 => call c_region_ok ((ar .sub .i64 v6.2 1) : Int) fun (v7 : Bool) => br (nt v7) (some (.out (.inl ()))) X))) : Option (Nx (HP (List (Int × (List (Int × Int)))) (HP Int (HP Int (HP (List (Int × (List (Int × Int)))) Unit)))) (Unit ⊕ Unit))) = if w.2 ≠ [] ∧ RunsOK (-4096) 4096 w.2 then X else some (.out (.inl ())) := by
    intro X
    cases hr : w.2 with
    | nil => rfl
    | cons u l =>
     rw [hr] at hLw
     have e0 : (u :: l)[0]? = some u := rfl
     have e1 : (u :: l)[(u :: l).length - 1]? = some ((u :: l)[(u :: l).length - 1]'(by simp)) := List.getElem?_eq_getElem _
     generalize ((u :: l)[(u :: l).length - 1]'(by simp)) = x1 at e1
     have hlen : (0 : Int) < ((u :: l).length : Int) := by simp only [List.length_cons]; omega
     rw [br_f (by simp only [w_eql, w_ln, beq_eq_false_iff_ne]; omega), k_runs_Valid hLw]
     by_cases hV : RunsOK (-1048576) 1048576 (u :: l)
     ·have hx1 := hV.bd x1 (List.mem_of_getElem? e1)
      rw [br_f (by simp [w_nt, hV]), ge_s (fg0 e0), k_region_ok, ge_s (fgz ((u :: l).length - 1) (by rw [w_sub, w_ln, wr (by omega) (by omega)]; omega) e1), k_region_ok, w_sub, wr (by omega) (by omega)]
      have he := runs_ends e0 e1
      simp only [ne_eq, reduceCtorEq, not_false_iff, true_and, he, w_br, w_nt, Bool.not_eq_true', decide_eq_false_iff_not, hV]
      (repeat' split) <;> first | rfl | omega
     ·rw [br_t (by simp [w_nt, hV]), if_neg]
      rintro ⟨-, h⟩
      exact hV ((runs_ends e0 e1).1 h).1
   rw [tail]
   simp only [k_region_ok, w_br, w_gtr, w_leq, w_nt, w_add, decide_eq_true_eq, Bool.not_eq_true', decide_eq_false_iff_not]
   rw [wr (by omega) (by omega)]
   by_cases h0 : 0 < i
   ·have hp := List.getElem?_eq_getElem (l := r) (i := i - 1) (by omega)
    generalize r[i - 1] = p at hp
    rw [ge_s (fgz (i - 1) (by rw [w_sub, wr (by omega) (by omega)]; omega) hp)]
    have hg : goodRow r i ↔ (-4096 ≤ w.1 ∧ w.1 < 4096) ∧ (w.2 ≠ [] ∧ RunsOK (-4096) 4096 w.2) ∧ p.1 < w.1 := by
     constructor
     ·intro h; have := h _ hx; exact ⟨⟨this.1, this.2.1⟩, ⟨this.2.2.1, this.2.2.2.1⟩, this.2.2.2.2 _ h0 hp⟩
     ·rintro ⟨⟨a, b⟩, ⟨c, d⟩, e⟩ x hx'
      rw [hx] at hx'; injection hx' with q; subst q
      exact ⟨a, b, c, d, fun p' _ hp' => by rw [hp] at hp'; injection hp' with q; subst q; exact e⟩
    simp only [hg]
    by_cases hT : w.2 ≠ [] ∧ RunsOK (-4096) 4096 w.2
    ·simp only [hT, and_self, true_and, if_true, ne_eq, not_false_iff]
     (repeat' split) <;> first | rfl | omega
    ·simp only [hT, false_and, and_false, if_false]
     (repeat' split) <;> first | rfl | omega
   ·have hg : goodRow r i ↔ (-4096 ≤ w.1 ∧ w.1 < 4096) ∧ (w.2 ≠ [] ∧ RunsOK (-4096) 4096 w.2) := by
     constructor
     ·intro h; have := h _ hx; exact ⟨⟨this.1, this.2.1⟩, ⟨this.2.2.1, this.2.2.2.1⟩⟩
     ·rintro ⟨⟨a, b⟩, ⟨c, d⟩⟩ x hx'
      rw [hx] at hx'; injection hx' with q; subst q
      exact ⟨a, b, c, d, fun p' h => (h0 h).elim⟩
    simp only [hg]
    by_cases hT : w.2 ≠ [] ∧ RunsOK (-4096) 4096 w.2
    ·simp only [hT, and_self, and_true, if_true, ne_eq, not_false_iff]
     (repeat' split) <;> first | rfl | omega
    ·simp only [hT, and_false, if_false]
     (repeat' split) <;> first | rfl | omega
  rw [hb]
  exact ⟨fun h => if_pos h, fun h => if_neg h⟩) (fun _ => by unfold t_region_Valid_L0; dsimp only; rw [br_nlt (by omega)])
 unfold t_region_Valid
 refine (lo_s hloop).trans ?_
 by_cases h : RegOK r
 ·rw [if_pos ((regOK_iff _).2 h), decide_eq_true h]
 ·rw [if_neg fun q => h ((regOK_iff _).1 q), decide_eq_false h]
open Classical in
theorem k_region_Valid {α : Type} {r : Reg} (hl : LimR r) (k : Bool → Option α) : @W.call wv α c_region_Valid r k = k (decide (RegOK r)) := ca_s (c := c_region_Valid) (region_Valid_ok r hl)
end Go.Proofs.YtaammoealihpmaaGreat
namespace Go.Proofs.YtaammoealihpmaaGreat
open Go Go.Vv Go.Dn Go.Dn.W
set_option linter.unusedVariables false
set_option linter.unusedSimpArgs false
set_option maxRecDepth 100000
open Classical in
theorem fine_ok (l : List Run) (hl : l.length ≤ 1000000000) : @t_additiveref18_fine wv l = some (decide (l ≠ [] ∧ RunsOK (-4096) 4096 l)) := by
 have hloop := loop_all (b := @t_additiveref18_fine_L0 wv) (bad := .inl ()) (fin := .inr ⟨l, ()⟩) (fun i => ⟨l, ⟨(i : Int), ()⟩⟩) l.length (by omega) (goodRun (-4096) 4096 l) (fun i hi _ => by
  have hx := List.getElem?_eq_getElem hi
  have hb : @t_additiveref18_fine_L0 wv ⟨l, ⟨(i : Int), ()⟩⟩ = if goodRun (-4096) 4096 l i then some (.go ⟨l, ⟨((i + 1 : Nat) : Int), ()⟩⟩) else some (.out (.inl ())) := by
   generalize hu : l[i] = u at hx
   unfold t_additiveref18_fine_L0
   dsimp only
   simp only [ge_s (fg hx)]
   rw [w_ln, br_lt (by omega)]
   simp only [w_br, w_geq, w_gtr, w_leq, w_lss, w_add, decide_eq_true_eq]
   rw [wr (by omega) (by omega)]
   by_cases h0 : 0 < i
   ·have hp := List.getElem?_eq_getElem (l := l) (i := i - 1) (by omega)
    generalize l[i - 1] = p at hp
    rw [ge_s (fgz (i - 1) (by rw [w_sub, wr (by omega) (by omega)]; omega) hp)]
    have hg : goodRun (-4096) 4096 l i ↔ -4096 ≤ u.1 ∧ u.1 < u.2 ∧ u.2 ≤ 4096 ∧ p.2 < u.1 := by
     constructor
     ·intro h; have := h _ hx; exact ⟨this.1, this.2.1, this.2.2.1, this.2.2.2 _ h0 hp⟩
     ·rintro ⟨a, b, c, d⟩ x hx'
      rw [hx] at hx'; injection hx' with e; subst e
      exact ⟨a, b, c, fun p _ hp' => by rw [hp] at hp'; injection hp' with e; subst e; exact d⟩
    simp only [hg]
    (repeat' split) <;> first | rfl | omega
   ·have hg : goodRun (-4096) 4096 l i ↔ -4096 ≤ u.1 ∧ u.1 < u.2 ∧ u.2 ≤ 4096 := by
     constructor
     ·intro h; have := h _ hx; exact ⟨this.1, this.2.1, this.2.2.1⟩
     ·rintro ⟨a, b, c⟩ x hx'
      rw [hx] at hx'; injection hx' with e; subst e
      exact ⟨a, b, c, fun p h => (h0 h).elim⟩
    simp only [hg]
    (repeat' split) <;> first | rfl | omega
  rw [hb]
  exact ⟨fun h => if_pos h, fun h => if_neg h⟩) (fun _ => by unfold t_additiveref18_fine_L0; dsimp only; rw [w_ln, br_nlt (by omega)])
 unfold t_additiveref18_fine
 refine (lo_s hloop).trans ?_
 by_cases h : RunsOK (-4096) 4096 l
 ·rw [if_pos ((runsOK_iff _ _ _).2 h)]
  show some (decide ((l.length : Int) > 0)) = _
  congr 1
  rw [decide_eq_decide]
  cases l <;> simp [h]
 ·rw [if_neg fun q => h ((runsOK_iff _ _ _).1 q), decide_eq_false fun q => h q.2]
open Classical in
theorem k_fine {α : Type} {l : List Run} (hl : l.length ≤ 1000000000) (k : Bool → Option α) : @W.call wv α c_additiveref18_fine l k = k (decide (l ≠ [] ∧ RunsOK (-4096) 4096 l)) := ca_s (c := c_additiveref18_fine) (fine_ok l hl)
open Classical in
theorem ref_Valid_ok (r : Reg) (hl : LimR r) : @t_additiveref18_Valid wv r = some (decide (RegOK r)) := by
 have hloop := loop_all (b := @t_additiveref18_Valid_L0 wv) (bad := .inl ()) (fin := .inr ()) (fun i => ⟨(i : Int), ⟨r, ()⟩⟩) r.length (by have := hl.1; omega) (goodRow r) (fun i hi _ => by
  have hx := List.getElem?_eq_getElem hi
  have hL := hl.1
  have hb : @t_additiveref18_Valid_L0 wv ⟨(i : Int), ⟨r, ()⟩⟩ = if goodRow r i then some (.go ⟨((i + 1 : Nat) : Int), ⟨r, ()⟩⟩) else some (.out (.inl ())) := by
   generalize hw : r[i] = w at hx
   have hLw := hl.2 w (List.mem_of_getElem? hx)
   unfold t_additiveref18_Valid_L0
   dsimp only
   simp only [ge_s (fg hx)]
   rw [w_ln, br_lt (by omega)]
   simp only [w_br, w_geq, w_gtr, w_leq, w_lss, w_add, w_nt, k_fine hLw, decide_eq_true_eq, Bool.not_eq_true', decide_eq_false_iff_not]
   rw [wr (by omega) (by omega)]
   by_cases h0 : 0 < i
   ·have hp := List.getElem?_eq_getElem (l := r) (i := i - 1) (by omega)
    generalize r[i - 1] = p at hp
    rw [ge_s (fgz (i - 1) (by rw [w_sub, wr (by omega) (by omega)]; omega) hp)]
    have hg : goodRow r i ↔ (-4096 ≤ w.1 ∧ w.1 < 4096) ∧ (w.2 ≠ [] ∧ RunsOK (-4096) 4096 w.2) ∧ p.1 < w.1 := by
     constructor
     ·intro h; have := h _ hx; exact ⟨⟨this.1, this.2.1⟩, ⟨this.2.2.1, this.2.2.2.1⟩, this.2.2.2.2 _ h0 hp⟩
     ·rintro ⟨⟨a, b⟩, ⟨c, d⟩, e⟩ x hx'
      rw [hx] at hx'; injection hx' with q; subst q
      exact ⟨a, b, c, d, fun p' _ hp' => by rw [hp] at hp'; injection hp' with q; subst q; exact e⟩
    simp only [hg]
    by_cases hT : w.2 ≠ [] ∧ RunsOK (-4096) 4096 w.2
    ·simp only [hT, and_self, true_and, if_true, ne_eq, not_false_iff, not_true_eq_false, if_false]
     (repeat' split) <;> first | rfl | omega
    ·simp only [hT, false_and, and_false, if_false, not_false_iff, if_true]
     (repeat' split) <;> first | rfl | omega
   ·have hg : goodRow r i ↔ (-4096 ≤ w.1 ∧ w.1 < 4096) ∧ (w.2 ≠ [] ∧ RunsOK (-4096) 4096 w.2) := by
     constructor
     ·intro h; have := h _ hx; exact ⟨⟨this.1, this.2.1⟩, ⟨this.2.2.1, this.2.2.2.1⟩⟩
     ·rintro ⟨⟨a, b⟩, ⟨c, d⟩⟩ x hx'
      rw [hx] at hx'; injection hx' with q; subst q
      exact ⟨a, b, c, d, fun p' h => (h0 h).elim⟩
    simp only [hg]
    by_cases hT : w.2 ≠ [] ∧ RunsOK (-4096) 4096 w.2
    ·simp only [hT, and_self, and_true, if_true, ne_eq, not_false_iff, not_true_eq_false, if_false]
     (repeat' split) <;> first | rfl | omega
    ·simp only [hT, and_false, if_false, not_false_iff, if_true]
     (repeat' split) <;> first | rfl | omega
  rw [hb]
  exact ⟨fun h => if_pos h, fun h => if_neg h⟩) (fun _ => by unfold t_additiveref18_Valid_L0; dsimp only; rw [w_ln, br_nlt (by omega)])
 unfold t_additiveref18_Valid
 refine (lo_s hloop).trans ?_
 by_cases h : RegOK r
 ·rw [if_pos ((regOK_iff _).2 h), decide_eq_true h]
 ·rw [if_neg fun q => h ((regOK_iff _).1 q), decide_eq_false h]
open Classical in
theorem k_ref_Valid {α : Type} {r : Reg} (hl : LimR r) (k : Bool → Option α) : @W.call wv α c_additiveref18_Valid r k = k (decide (RegOK r)) := ca_s (c := c_additiveref18_Valid) (ref_Valid_ok r hl)
def rowAt (r : Reg) (y : Int) : List Run := match r.find? (fun w => w.1 == y) with | some w => w.2 | none => []
theorem ref_Row_ok (r : Reg) (y : Int) (hl : LimR r) : @t_additiveref18_Row wv (r, y) = some (rowAt r y) := by
 have hloop := loop_find (b := @t_additiveref18_Row_L0 wv) r (by have := hl.1; omega) (fun i => ⟨y, ⟨(i : Int), ⟨r, ()⟩⟩⟩) (fun w => w.1 == y) (fun w => .inl ⟨w.2, ()⟩) (.inr ()) (fun i w hi hw => by
  have hL := hl.1
  unfold t_additiveref18_Row_L0
  dsimp only
  simp only [ge_s (fg hw)]
  rw [w_ln, br_lt (by omega), w_add, wr (by omega) (by omega), w_br]
  rfl) (by unfold t_additiveref18_Row_L0; dsimp only; rw [w_ln, br_nlt (by omega)])
 unfold t_additiveref18_Row
 refine (lo_s hloop).trans ?_
 unfold rowAt
 cases r.find? fun w => w.1 == y <;> rfl
theorem k_ref_Row {α : Type} {r : Reg} {y : Int} (hl : LimR r) (k : List Run → Option α) : @W.call wv α c_additiveref18_Row ((r, y) : List (Int × List (Int × Int)) × Int) k = k (rowAt r y) := ca_s (c := c_additiveref18_Row) (ref_Row_ok r y hl)
theorem rowAt_lim {r : Reg} (hl : LimR r) (y : Int) : (rowAt r y).length ≤ 1000000000 := by
 unfold rowAt
 cases h : r.find? fun w => w.1 == y with
 | none => simp
 | some w => exact hl.2 w (List.mem_of_find?_eq_some h)
theorem rowAt_iff {r : Reg} (h : RegOK r) (c : Cell) : inRuns (rowAt r c.2) c.1 ↔ inReg r c := by
 unfold rowAt
 cases hf : r.find? fun w => w.1 == c.2 with
 | none =>
  constructor
  ·rintro ⟨u, hu, -⟩; cases hu
  ·rintro ⟨w, hw, e, -⟩
   have := List.find?_eq_none.1 hf w hw
   simp [e] at this
 | some w =>
  have hw := List.mem_of_find?_eq_some hf
  have e : w.1 = c.2 := by have := List.find?_some hf; simpa using this
  have := h.in_row hw c.1
  rw [e] at this
  exact this.symm
open Classical in
theorem inside_ok (l : List Run) (x : Int) (hl : l.length ≤ 1000000000) : @t_additiveref18_inside wv (l, x) = some (decide (inRuns l x)) := by
 have hloop := loop_find (b := @t_additiveref18_inside_L0 wv) l (by omega) (fun i => ⟨l, ⟨x, ⟨(i : Int), ()⟩⟩⟩) (fun u => decide (u.1 ≤ x) && decide (x < u.2)) (fun w => .inl ()) (.inr ()) (fun i w hi hw => by
  unfold t_additiveref18_inside_L0
  dsimp only
  simp only [ge_s (fg hw)]
  rw [w_ln, br_lt (by omega), w_add, wr (by omega) (by omega)]
  simp only [w_br, w_leq, w_lss, decide_eq_true_eq, Bool.and_eq_true]
  (repeat' split) <;> first | rfl | omega) (by unfold t_additiveref18_inside_L0; dsimp only; rw [w_ln, br_nlt (by omega)])
 unfold t_additiveref18_inside
 refine (lo_s hloop).trans ?_
 cases hf : l.find? fun u => decide (u.1 ≤ x) && decide (x < u.2) with
 | none =>
  show some false = _
  rw [decide_eq_false]
  rintro ⟨u, hu, h⟩
  have := List.find?_eq_none.1 hf u hu
  simp at this
  omega
 | some w =>
  show some true = _
  rw [decide_eq_true]
  have := List.find?_some hf
  simp at this
  exact ⟨w, List.mem_of_find?_eq_some hf, by omega⟩
open Classical in
theorem k_inside {α : Type} {l : List Run} {x : Int} (hl : l.length ≤ 1000000000) (k : Bool → Option α) : @W.call wv α c_additiveref18_inside ((l, x) : List (Int × Int) × Int) k = k (decide (inRuns l x)) := ca_s (c := c_additiveref18_inside) (inside_ok l x hl)
open Classical in
theorem ref_Contains_ok (r : Reg) (c : Cell) (hl : LimR r) : @t_additiveref18_Contains wv (r, c) = some (decide (RegOK r ∧ inReg r c)) := by
 unfold t_additiveref18_Contains
 dsimp only
 rw [k_ref_Valid hl]
 by_cases h : RegOK r
 ·rw [br_t (by simp [h]), k_ref_Row hl, k_inside (rowAt_lim hl _)]
  simp only [h, rowAt_iff h, true_and]
 ·rw [br_f (by simp [h]), decide_eq_false fun q => h q.1]
open Classical in
theorem k_ref_Contains {α : Type} {r : Reg} {c : Cell} (hl : LimR r) (k : Bool → Option α) : @W.call wv α c_additiveref18_Contains ((r, c) : List (Int × List (Int × Int)) × (Int × Int)) k = k (decide (RegOK r ∧ inReg r c)) := ca_s (c := c_additiveref18_Contains) (ref_Contains_ok r c hl)
end Go.Proofs.YtaammoealihpmaaGreat
namespace Go.Proofs.YtaammoealihpmaaGreat
open Go Go.Vv Go.Dn Go.Dn.W
set_option linter.unusedVariables false
set_option linter.unusedSimpArgs false
set_option maxRecDepth 100000
theorem fitB {α : Type} {b : Nat} {n : Int} {x : Option α} (h : n ≤ 1000000001) (h0 : 0 ≤ n) (hb : b ≤ 64) : @W.gd wv α (@W.ft wv b n) x = x := by
 refine gd_ft ⟨?_, by omega⟩
 have : n * (b : Int) ≤ 1000000001 * 64 := Int.mul_le_mul h (by omega) (by omega) (by omega)
 unfold room
 omega
theorem fit16 {α : Type} {n : Int} {x : Option α} (h : n ≤ 1000000001) (h0 : 0 ≤ n) : @W.gd wv α (@W.ft wv 16 n) x = x := fitB h h0 (by decide)
theorem fit32 {α : Type} {n : Int} {x : Option α} (h : n ≤ 1000000001) (h0 : 0 ≤ n) : @W.gd wv α (@W.ft wv 32 n) x = x := fitB h h0 (by decide)
theorem lineC_len (y : Int) (u : Run) : (lineC y u).length = (u.2 - u.1).toNat := by simp [lineC, rng_len]
theorem lineC_succ (y a : Int) (n : Nat) : ((rng a (n + 1)).map fun x => ((x, y) : Cell)) = ((rng a n).map fun x => ((x, y) : Cell)) ++ [(a + (n : Int), y)] := by rw [rng_succ, List.map_append]; rfl
theorem rowC_take {w : Row} {k : Nat} {u : Run} (h : w.2[k]? = some u) : (w.2.take (k + 1)).flatMap (lineC w.1) = (w.2.take k).flatMap (lineC w.1) ++ lineC w.1 u := flat_take h
theorem flat_take_le {α β : Type} (f : α → List β) (l : List α) (k : Nat) : ((l.take k).flatMap f).length ≤ (l.flatMap f).length := by
 conv => rhs; rw [← List.take_append_drop k l, List.flatMap_append, List.length_append]
 omega
theorem flat_mem_le {α β : Type} (f : α → List β) {l : List α} {x : α} {k : Nat} (h : l[k]? = some x) : ((l.take k).flatMap f).length + (f x).length ≤ (l.flatMap f).length := by
 have := flat_take_le f l (k + 1)
 rw [flat_take h, List.length_append] at this
 exact this
theorem cells_le {r : Reg} {w : Row} {u : Run} {i k : Nat} (hw : r[i]? = some w) (hu : w.2[k]? = some u) : ((r.take i).flatMap rowC).length + ((w.2.take k).flatMap (lineC w.1)).length + (lineC w.1 u).length ≤ (cellsC r).length := by
 have h1 := flat_mem_le rowC hw
 have h2 := flat_mem_le (lineC w.1) hu
 unfold cellsC
 have : (rowC w).length = (w.2.flatMap (lineC w.1)).length := rfl
 omega
open Classical in
theorem ref_Cells_ok (r : Reg) (hl : LimR r) (hc : RegOK r → (cellsC r).length ≤ 1000000000) : @t_additiveref18_Cells wv r = some (if RegOK r then cellsC r else []) := by
 unfold t_additiveref18_Cells
 rw [k_ref_Valid hl]
 by_cases h : RegOK r
 case neg => rw [br_t (by simp [w_nt, h]), if_neg h]
 rw [br_f (by simp [w_nt, h]), if_pos h]
 have hL := hl.1
 have hc := hc h
 have hloop := loop_st (b := @t_additiveref18_Cells_L0 wv) (e := ⟨cellsC r, ()⟩) (fun i => ⟨(i : Int), ⟨r, ⟨(r.take i).flatMap rowC, ()⟩⟩⟩) r.length (by omega) (fun i hi => by
  have hw := List.getElem?_eq_getElem hi
  generalize r[i] = w at hw
  have hLw := hl.2 w (List.mem_of_getElem? hw)
  have hinner := loop_st (b := @t_additiveref18_Cells_L1 wv) (e := ⟨(i : Int), ⟨r, ⟨(r.take i).flatMap rowC ++ rowC w, ()⟩⟩⟩) (fun k => ⟨(i : Int), ⟨(k : Int), ⟨r, ⟨(r.take i).flatMap rowC ++ (w.2.take k).flatMap (lineC w.1), ()⟩⟩⟩⟩) w.2.length (by omega) (fun k hk => by
   have hu := List.getElem?_eq_getElem hk
   generalize w.2[k] = u at hu
   have hb := (h.rs w (List.mem_of_getElem? hw)).bd u (List.mem_of_getElem? hu)
   have hle := cells_le hw hu
   rw [lineC_len] at hle
   have hin := loop_st (b := @t_additiveref18_Cells_L2 wv) (e := ⟨(i : Int), ⟨(k : Int), ⟨r, ⟨(r.take i).flatMap rowC ++ (w.2.take k).flatMap (lineC w.1) ++ lineC w.1 u, ()⟩⟩⟩⟩)
    (fun j => ⟨(i : Int), ⟨(k : Int), ⟨u.1 + (j : Int), ⟨r, ⟨(r.take i).flatMap rowC ++ (w.2.take k).flatMap (lineC w.1) ++ (rng u.1 j).map fun x => (x, w.1), ()⟩⟩⟩⟩⟩) (u.2 - u.1).toNat (by omega) (fun j hj => by
    unfold t_additiveref18_Cells_L2
    dsimp only
    simp only [ge_s (fg hw), ge_s (fg hu)]
    rw [br_lt (by omega), w_ln, w_pl, fit16 (by simp only [List.length_append, List.length_map, rng_len]; omega) (by omega), w_add, wr (by omega) (by omega), w_ap, lineC_succ, show u.1 + (j : Int) + 1 = u.1 + ((j + 1 : Nat) : Int) by omega, List.append_assoc _ _ [_]]) (by
    unfold t_additiveref18_Cells_L2
    dsimp only
    simp only [ge_s (fg hw), ge_s (fg hu)]
    rw [br_nlt (by omega)]
    rfl)
   have e0 : u.1 + ((0 : Nat) : Int) = u.1 := by omega
   simp only [e0, rng, List.range_zero, List.map_nil, List.append_nil] at hin
   unfold t_additiveref18_Cells_L1
   dsimp only
   simp only [ge_s (fg hw), ge_s (fg hu)]
   rw [w_ln, br_lt (by omega), lo_s hin]
   dsimp only
   rw [w_add, wr (by omega) (by omega), rowC_take hu, List.append_assoc]
   rfl) (by
   unfold t_additiveref18_Cells_L1
   dsimp only
   simp only [ge_s (fg hw)]
   rw [w_ln, br_nlt (by omega), List.take_length]
   rfl)
  simp only [List.take_zero, List.flatMap_nil, List.append_nil] at hinner
  unfold t_additiveref18_Cells_L0
  dsimp only
  rw [w_ln, br_lt (by omega)]
  refine (lo_s hinner).trans ?_
  dsimp only
  rw [w_add, wr (by omega) (by omega), flat_take hw]
  rfl) (by unfold t_additiveref18_Cells_L0; dsimp only; rw [w_ln, br_nlt (by omega), List.take_length]; rfl)
 exact lo_s hloop
open Classical in
theorem k_ref_Cells {α : Type} {r : Reg} (hl : LimR r) (hc : RegOK r → (cellsC r).length ≤ 1000000000) (k : List (Int × Int) → Option α) : @W.call wv α c_additiveref18_Cells r k = k (if RegOK r then cellsC r else []) := ca_s (c := c_additiveref18_Cells) (ref_Cells_ok r hl hc)
end Go.Proofs.YtaammoealihpmaaGreat
namespace Go.Proofs.YtaammoealihpmaaGreat
open Go Go.Vv Go.Dn Go.Dn.W
set_option linter.unusedVariables false
set_option linter.unusedSimpArgs false
set_option maxRecDepth 100000
def trk (y : Int) (u : Run) : Track := (4, (false, lineC y u))
def rowT (s p : Int) (w : Row) : List Track := if w.1 % s = p % s then w.2.map (trk w.1) else []
def rowsT (r : Reg) (s p : Int) : List Track := r.flatMap (rowT s p)
theorem runs_le_cells {r : Reg} (h : RegOK r) {w : Row} (hw : w ∈ r) (k : Nat) : (w.2.take k).length ≤ ((w.2.take k).flatMap (lineC w.1)).length := by
 have hb := (h.rs w hw).bd
 have : ∀ l : List Run, (∀ u ∈ l, u ∈ w.2) → l.length ≤ (l.flatMap (lineC w.1)).length := by
  intro l
  induction l with
  | nil => intro _; simp
  | cons u l ih =>
   intro hm
   have h1 := ih fun v hv => hm v (List.mem_cons_of_mem _ hv)
   have h2 := hb u (hm u (List.mem_cons_self ..))
   simp only [List.flatMap_cons, List.length_append, List.length_cons, lineC_len]
   omega
 exact this _ fun u hu => List.mem_of_mem_take hu
theorem run_ok (r : Reg) (dx dy : Int) (hl : LimR r) (h : RegOK r) (hd : -1 ≤ dx ∧ dx ≤ 1 ∧ -1 ≤ dy ∧ dy ≤ 1) (q : Nat → Cell) (hq : ∀ i, q (i + 1) = ((q i).1 + dx, (q i).2 + dy)) (n : Nat) (hn : n ≤ 1000000000) (hin : ∀ i, i < n → inReg r (q i)) (hout : ¬ inReg r (q n)) :
  @t_additiveref29_run wv (r, (q 0, (dx, dy))) = some ((List.range n).map q) := by
 have hloop := loop_st (b := @t_additiveref29_run_L0 wv) (e := ⟨(List.range n).map q, ()⟩) (fun i => ⟨dx, ⟨dy, ⟨r, ⟨(q i).1, ⟨(q i).2, ⟨(List.range i).map q, ()⟩⟩⟩⟩⟩⟩) n (by omega) (fun i hi => by
  have hi' := hin i hi
  have hb := h.bd hi'
  unfold t_additiveref29_run_L0
  dsimp only
  rw [k_ref_Contains hl, br_t (by simp [h, hi']), w_ln, w_pl, fit16 (by rw [List.length_map, List.length_range]; omega) (by omega), w_add, w_add, wr (by omega) (by omega), wr (by omega) (by omega), w_ap, hq i, List.range_succ, List.map_append]
  rfl) (by
  unfold t_additiveref29_run_L0
  dsimp only
  rw [k_ref_Contains hl, br_f (by simp [h, hout])])
 unfold t_additiveref29_run
 exact lo_s hloop
open Classical in
noncomputable def stepT (r : Reg) (s p : Int) (f : Cell → List Cell) (c : Cell) : List Track := if c.2 % s = p % s ∧ ¬ inReg r (c.1 - 1, c.2) then [(4, (false, f c))] else []
end Go.Proofs.YtaammoealihpmaaGreat
namespace Go.Proofs.YtaammoealihpmaaGreat
open Go Go.Vv Go.Dn Go.Dn.W
set_option linter.unusedVariables false
set_option linter.unusedSimpArgs false
set_option maxRecDepth 100000
def leC (x y : Cell) : Bool := !(Go.Proofs.ltOf cmpC) y x
def OfI (out : Reg) (runs : List Run) (done : List Cell) : Prop :=
 (out = [] ∧ runs = [] ∧ done = []) ∨ ∃ (pre : Reg) (y : Int) (z rs : List Run) (a b : Int), out = pre ++ [(y, z)] ∧ runs = rs ++ [(a, b)] ∧ RegOK (pre ++ [(y, rs ++ [(a, b)])]) ∧
  (∀ c, inReg (pre ++ [(y, rs ++ [(a, b)])]) c ↔ c ∈ done)
end Go.Proofs.YtaammoealihpmaaGreat
namespace Go.Proofs.YtaammoealihpmaaGreat
open Go Go.Vv Go.Dn Go.Dn.W
set_option linter.unusedVariables false
set_option linter.unusedSimpArgs false
set_option maxRecDepth 100000
def swp (c : Cell) : Cell := (c.2, c.1)
def flipT (t : Track) : Track := (t.1, (t.2.1, t.2.2.map swp))
theorem empty_reg {T : Reg} (h : RegOK T) (hn : ∀ c, ¬ inReg T c) : T = [] := by
 cases T with
 | nil => rfl
 | cons w T =>
  have h1 := h.ne w (List.mem_cons_self ..)
  cases hr : w.2 with
  | nil => exact (h1 hr).elim
  | cons u l =>
   have h2 := (h.rs w (List.mem_cons_self ..)).bd u (by rw [hr]; exact List.mem_cons_self ..)
   exact (hn (u.1, w.1) ⟨w, List.mem_cons_self .., rfl, u, by rw [hr]; exact List.mem_cons_self .., by dsimp only; omega, by dsimp only; omega⟩).elim
structure Turned (r T : Reg) : Prop where
 ok : RegOK T
 iff : ∀ c, inReg T c ↔ inReg r (swp c)
def xy (a b : Cell) : Prop := a.1 < b.1 ∨ (a.1 = b.1 ∧ a.2 < b.2)
instance (a b : Cell) : Decidable (xy a b) := by unfold xy; exact inferInstance
noncomputable def colT (r : Reg) (c : Cell) : Track := (4, (false, (@t_additiveref29_run wv (r, (c, (0, 1)))).getD []))
def firstC (r : Reg) (s p : Int) (c : Cell) : Prop := c.1 % s = p % s ∧ ¬ inReg r (c.1, c.2 - 1)
end Go.Proofs.YtaammoealihpmaaGreat
namespace Go.Proofs.YtaammoealihpmaaGreat
open Go Go.Vv Go.Dn Go.Dn.W
set_option linter.unusedVariables false
set_option linter.unusedSimpArgs false
set_option maxRecDepth 100000
def fewU (u : Run) : Run := if u.1 < u.2 ∧ u.1 > -4097 ∧ u.2 < 4097 ∧ u.2 - 20 > u.1 then (u.1, u.1 + 20) else u
def fewR (r : Reg) : Reg := (r.take 12).map fun w => (w.1, (w.2.take 4).map fewU)
theorem few_L2 : @t_additivelaw29_few_L2 wv = @t_additivelaw29_few_L1 wv := rfl
theorem few_runs (i y : Int) (r out : Reg) (l : List Run) (hl : l.length ≤ 4) : loopN (@t_additivelaw29_few_L1 wv) bigN ⟨i, ⟨0, ⟨r, ⟨y, ⟨l, ⟨out, ⟨[], ()⟩⟩⟩⟩⟩⟩⟩ = some ⟨i, ⟨r, ⟨y, ⟨l, ⟨l.map fewU, ⟨out, ()⟩⟩⟩⟩⟩⟩ :=
 loop_st (b := @t_additivelaw29_few_L1 wv) (fun k => ⟨i, ⟨(k : Int), ⟨r, ⟨y, ⟨l, ⟨out, ⟨(l.take k).map fewU, ()⟩⟩⟩⟩⟩⟩⟩) l.length (by omega) (fun k hk => by
  have hx := List.getElem?_eq_getElem hk
  generalize l[k] = u at hx
  have hlen : ((l.take k).map fewU).length = k := by rw [List.length_map, List.length_take]; omega
  unfold t_additivelaw29_few_L1
  dsimp only
  rw [w_ln, br_lt (by omega), ge_s (fg hx)]
  simp only [w_ln, w_pl, hlen, w_ap, w_add, w_sub]
  rw [wr (n := (k : Int) + 1) (by omega) (by omega), fit16 (by omega) (by omega), fit16 (by omega) (by omega), map_take_of hx]
  simp only [w_br, w_lss, w_gtr, decide_eq_true_eq]
  unfold fewU
  by_cases h1 : u.1 < u.2 ∧ u.1 > -4097 ∧ u.2 < 4097
  ·rw [if_pos h1.1, if_pos h1.2.1, if_pos h1.2.2, wr (n := u.2 - 20) (by omega) (by omega), wr (n := u.1 + 20) (by omega) (by omega)]
   by_cases h2 : u.2 - 20 > u.1
   ·rw [if_pos h2, if_pos ⟨h1.1, h1.2.1, h1.2.2, h2⟩]; rfl
   ·rw [if_neg h2, if_neg fun q => h2 q.2.2.2]; rfl
  ·rw [if_neg (c := u.1 < u.2 ∧ u.1 > -4097 ∧ u.2 < 4097 ∧ u.2 - 20 > u.1) fun q => h1 ⟨q.1, q.2.1, q.2.2.1⟩]
   (repeat' split) <;> first | rfl | omega) (by
  unfold t_additivelaw29_few_L1
  dsimp only
  rw [w_ln, br_nlt (by omega), List.take_length])
theorem few_ok (r : Reg) : @t_additivelaw29_few wv r = some (fewR r) := by
 have hloop := loop_st (b := @t_additivelaw29_few_L0 wv) (e := ⟨fewR r, ()⟩) (fun i => ⟨(i : Int), ⟨r, ⟨(r.take i).map fun w => (w.1, (w.2.take 4).map fewU), ()⟩⟩⟩) (min r.length 12) (by omega) (fun i hi => by
  have hil : i < r.length := by omega
  have hx := List.getElem?_eq_getElem hil
  generalize r[i] = w at hx
  unfold t_additivelaw29_few_L0
  dsimp only
  rw [w_ln, br_lt (by omega), br_lt (by omega), ge_s (fg hx), w_br, w_gtr, w_ln, map_take_of hx]
  have hlen : ((r.take i).map fun w : Row => (w.1, (w.2.take 4).map fewU)).length = i := by rw [List.length_map, List.length_take]; omega
  have le_t : ∀ {α : Type} {a b : Int} {x : Option α}, a ≤ b → @W.gd wv α (@W.le wv a b) x = x := fun h => gd_t (by rw [w_le]; exact decide_eq_true h)
  by_cases h4 : (w.2.length : Int) > 4
  ·rw [if_pos (decide_eq_true h4), le_t (by omega), le_t (by omega), w_ct, show (0 : Int).toNat = 0 from rfl, show (4 : Int).toNat = 4 from rfl, List.drop_zero]
   refine (lo_s (few_runs _ _ _ _ _ (by rw [List.length_take]; omega))).trans ?_
   dsimp only
   rw [w_ln, w_pl, hlen, fit32 (by omega) (by omega), w_add, wr (by omega) (by omega)]
   rfl
  ·rw [if_neg (by simpa using h4), few_L2, List.take_of_length_le (l := w.2) (by omega)]
   refine (lo_s (few_runs _ _ _ _ _ (by omega))).trans ?_
   dsimp only
   rw [w_ln, w_pl, hlen, fit32 (by omega) (by omega), w_add, wr (by omega) (by omega)]
   rfl) (by
  unfold t_additivelaw29_few_L0
  dsimp only
  rw [w_ln, w_br, w_lss, w_br, w_lss]
  have e : r.take (min r.length 12) = r.take 12 := by rw [List.take_eq_take_iff]; omega
  rw [e]
  by_cases h : ((min r.length 12 : Nat) : Int) < (r.length : Int)
  ·rw [if_pos (decide_eq_true h), if_neg (by simp; omega)]; rfl
  ·rw [if_neg (by simpa using h)]; rfl)
 unfold t_additivelaw29_few
 refine (lo_s hloop).trans rfl
theorem k_few {α : Type} {r : Reg} (k : List (Int × List (Int × Int)) → Option α) : @W.call wv α c_additivelaw29_few r k = k (fewR r) := ca_s (c := c_additivelaw29_few) (few_ok r)
theorem fewR_lim (r : Reg) : LimR (fewR r) := by
 refine ⟨by unfold fewR; rw [List.length_map, List.length_take]; omega, fun w hw => ?_⟩
 obtain ⟨v, hv, rfl⟩ := List.mem_map.1 hw
 dsimp only
 rw [List.length_map, List.length_take]; omega
theorem fewR_cells (r : Reg) (h : RegOK (fewR r)) : (cellsC (fewR r)).length ≤ 960 := by
 have hu : ∀ w ∈ fewR r, ∀ u ∈ w.2, (lineC w.1 u).length ≤ 20 := fun w hw u hu => by
  have hb := (h.rs w hw).bd u hu
  obtain ⟨v, hv, rfl⟩ := List.mem_map.1 hw
  obtain ⟨x, hx, rfl⟩ := List.mem_map.1 hu
  rw [lineC_len]
  unfold fewU at hb ⊢
  split
  ·dsimp only; omega
  ·rename_i hn
   rw [if_neg hn] at hb
   omega
 have hw : ∀ w ∈ fewR r, (rowC w).length ≤ 80 := fun w hw => by
  have h1 := flat_len_le (f := lineC w.1) (l := w.2) (n := 20) (hu w hw)
  have h2 : w.2.length ≤ 4 := by
   obtain ⟨v, hv, rfl⟩ := List.mem_map.1 hw
   dsimp only
   rw [List.length_map, List.length_take]; omega
  unfold rowC
  omega
 have h1 := flat_len_le (f := rowC) (l := fewR r) (n := 80) hw
 have h2 : (fewR r).length ≤ 12 := by unfold fewR; rw [List.length_map, List.length_take]; omega
 unfold cellsC
 omega
end Go.Proofs.YtaammoealihpmaaGreat
namespace Go.Proofs.YtaammoealihpmaaGreat
open Go Go.Vv Go.Dn Go.Dn.W
set_option linter.unusedVariables false
set_option linter.unusedSimpArgs false
set_option maxRecDepth 100000
theorem awake_ok : @t_additivelaw29_awake wv () = some true := by kernel_rfl
theorem k_awake {α : Type} (k : Bool → Option α) : @W.call wv α c_additivelaw29_awake (() : Unit) k = k true := ca_s (c := c_additivelaw29_awake) awake_ok
end Go.Proofs.YtaammoealihpmaaGreat
namespace Go.Proofs.YtaammoealihpmaaGreat
open Go Go.Vv Go.Dn Go.Dn.W
set_option linter.unusedVariables false
set_option linter.unusedSimpArgs false
set_option maxRecDepth 100000
structure NormL (l : List Run) : Prop where
 bd : ∀ u ∈ l, u.1 < u.2
 pw : l.Pairwise fun a b => a.2 < b.1
theorem normL_ok {lo hi : Int} {l : List Run} (h : NormL l) (hb : ∀ x, inRuns l x → lo ≤ x ∧ x < hi) : RunsOK lo hi l := by
 refine ⟨fun u hu => ?_, h.pw⟩
 have h1 := h.bd u hu
 have h2 := hb u.1 ⟨u, hu, by omega, by omega⟩
 have h3 := hb (u.2 - 1) ⟨u, hu, by omega, by omega⟩
 omega
theorem RunsOK.norm {lo hi : Int} {l : List Run} (h : RunsOK lo hi l) : NormL l := ⟨fun u hu => (h.bd u hu).2.1, h.pw⟩
theorem normL_snoc {l : List Run} {u : Run} : NormL (l ++ [u]) ↔ NormL l ∧ u.1 < u.2 ∧ ∀ v ∈ l, v.2 < u.1 := by
 constructor
 ·rintro ⟨h1, h2⟩
  obtain ⟨p1, p2, p3⟩ := List.pairwise_append.1 h2
  exact ⟨⟨fun x hx => h1 x (List.mem_append_left _ hx), p1⟩, h1 u (by simp), fun v hv => p3 v hv u (by simp)⟩
 ·rintro ⟨⟨h1, h2⟩, h3, h4⟩
  refine ⟨fun x hx => ?_, List.pairwise_append.2 ⟨h2, List.pairwise_singleton _ _, fun v hv w hw => ?_⟩⟩
  ·rcases List.mem_append.1 hx with h | h
   ·exact h1 x h
   ·rw [List.mem_singleton.1 h]; exact h3
  ·rw [List.mem_singleton.1 hw]; exact h4 v hv
def bnd (l : List Run) (i : Nat) : Int := match l[i / 2]? with
 | some u => if i % 2 = 1 then u.2 else u.1
 | none => 1048577
theorem over_ok (l : List Run) (i : Nat) (hl : l.length ≤ 1000000000) : @t_runs_bounds_over wv (l, (i : Int)) = some (decide (i = 2 * l.length)) := by
 unfold t_runs_bounds_over
 dsimp only
 rw [w_eql, w_mul, w_ln, wr (by omega) (by omega)]
 refine congrArg some ?_
 rw [Bool.eq_iff_iff, beq_iff_eq, decide_eq_true_eq]
 omega
theorem k_over {α : Type} {l : List Run} {i : Nat} (hl : l.length ≤ 1000000000) (k : Bool → Option α) : @W.call wv α c_runs_bounds_over ((l, (i : Int)) : List (Int × Int) × Int) k = k (decide (i = 2 * l.length)) := ca_s (c := c_runs_bounds_over) (over_ok l i hl)
theorem ins_ok (l : List Run) (i : Nat) : @t_runs_bounds_inside wv (l, (i : Int)) = some (decide (i % 2 = 1)) := by
 unfold t_runs_bounds_inside
 dsimp only
 rw [gd_t (by rfl), w_rem, w_eql, Int.tmod_eq_emod_of_nonneg (by omega)]
 refine congrArg some ?_
 rw [Bool.eq_iff_iff, beq_iff_eq, decide_eq_true_eq]
 omega
theorem k_ins {α : Type} {l : List Run} {i : Nat} (k : Bool → Option α) : @W.call wv α c_runs_bounds_inside ((l, (i : Int)) : List (Int × Int) × Int) k = k (decide (i % 2 = 1)) := ca_s (c := c_runs_bounds_inside) (ins_ok l i)
theorem next_ok (l : List Run) (i : Nat) (hl : l.length ≤ 1000000000) (hi : i ≤ 2 * l.length) : @t_runs_bounds_next wv (l, (i : Int)) = some (bnd l i) := by
 unfold t_runs_bounds_next
 dsimp only
 rw [k_over hl]
 by_cases h : i = 2 * l.length
 ·rw [br_t (decide_eq_true h)]
  have : l[i / 2]? = none := List.getElem?_eq_none (by omega)
  simp only [bnd, this]
 ·rw [br_f (decide_eq_false h), k_ins]
  have hx := List.getElem?_eq_getElem (l := l) (i := i / 2) (by omega)
  have hq : @W.ar wv .quo .i64 (i : Int) 2 = ((i / 2 : Nat) : Int) := by
   rw [w_quo, Int.tdiv_eq_ediv_of_nonneg (by omega), wr (by omega) (by omega)]; omega
  simp only [bnd, hx]
  by_cases hp : i % 2 = 1
  ·rw [br_t (decide_eq_true hp), gd_t (by rfl), hq, ge_s (fg hx), if_pos hp]
  ·rw [br_f (decide_eq_false hp), gd_t (by rfl), hq, ge_s (fg hx), if_neg hp]
theorem k_next {α : Type} {l : List Run} {i : Nat} (hl : l.length ≤ 1000000000) (hi : i ≤ 2 * l.length) (k : Int → Option α) : @W.call wv α c_runs_bounds_next ((l, (i : Int)) : List (Int × Int) × Int) k = k (bnd l i) := ca_s (c := c_runs_bounds_next) (next_ok l i hl hi)
def At (l : List Run) (p : Int) (i : Nat) : Prop := i ≤ 2 * l.length ∧ (∀ k, k < i → bnd l k ≤ p) ∧ ∀ k, i ≤ k → p < bnd l k ∨ 2 * l.length ≤ k
theorem at_in {l : List Run} {p : Int} {i : Nat} (h : At l p i) : inRuns l p ↔ i % 2 = 1 := by
 obtain ⟨h0, h1, h2⟩ := h
 have hb : ∀ q u, l[q]? = some u → bnd l (2 * q) = u.1 ∧ bnd l (2 * q + 1) = u.2 := fun q u hu => by
  constructor
  ·simp only [bnd, show 2 * q / 2 = q by omega, hu]; rw [if_neg (by omega)]
  ·simp only [bnd, show (2 * q + 1) / 2 = q by omega, hu]; rw [if_pos (by omega)]
 constructor
 ·rintro ⟨u, hu, a, b⟩
  obtain ⟨q, hq⟩ := List.mem_iff_getElem?.1 hu
  have hlt := (List.getElem?_eq_some_iff.1 hq).1
  obtain ⟨e1, e2⟩ := hb q u hq
  by_cases c1 : i ≤ 2 * q
  ·have := h2 (2 * q) c1; omega
  ·by_cases c2 : 2 * q + 1 < i
   ·have := h1 (2 * q + 1) c2; omega
   ·omega
 ·intro hp
  have hlt : i / 2 < l.length := by omega
  have hu := List.getElem?_eq_getElem hlt
  obtain ⟨e1, e2⟩ := hb (i / 2) _ hu
  have a1 := h1 (2 * (i / 2)) (by omega)
  have a2 := h2 (2 * (i / 2) + 1) (by omega)
  exact ⟨_, List.mem_of_getElem? hu, by omega, by omega⟩
theorem bnd_mono {lo hi : Int} {l : List Run} (h : RunsOK lo hi l) {i : Nat} (hi' : i + 1 < 2 * l.length) : bnd l i < bnd l (i + 1) := by
 have hu := List.getElem?_eq_getElem (l := l) (i := i / 2) (by omega)
 have hv := List.getElem?_eq_getElem (l := l) (i := (i + 1) / 2) (by omega)
 simp only [bnd, hu, hv]
 by_cases hp : i % 2 = 1
 ·rw [if_pos hp, if_neg (by omega)]
  have e : (i + 1) / 2 = i / 2 + 1 := by omega
  have := adj_pw h.pw hu (by rw [← e]; exact hv)
  exact this
 ·rw [if_neg hp, if_pos (by omega)]
  have e : (i + 1) / 2 = i / 2 := by omega
  simp only [e]
  exact (h.bd _ (List.mem_of_getElem? hu)).2.1
theorem bnd_hi {l : List Run} (h : RunsOK (-1048576) 1048576 l) (i : Nat) : -1048576 ≤ bnd l i ∧ bnd l i ≤ 1048577 := by
 unfold bnd
 split
 ·rename_i u hu
  have := h.bd u (List.mem_of_getElem? hu)
  split <;> omega
 ·omega
theorem bnd_lt {l : List Run} (h : RunsOK (-1048576) 1048576 l) : ∀ {i k : Nat}, i < k → k < 2 * l.length → bnd l i < bnd l k
 | i, 0, h1, _ => by omega
 | i, k + 1, h1, h2 => by
  have := bnd_mono h h2
  by_cases e : i = k
  ·subst e; exact this
  ·have := bnd_lt h (i := i) (k := k) (by omega) (by omega); omega
theorem at_step {l : List Run} (h : RunsOK (-1048576) 1048576 l) {p m : Int} {i : Nat} (ha : At l p i) (hm : m ≤ bnd l i) (hpm : p < m) (hm2 : m < 1048577) : At l m (if bnd l i = m then i + 1 else i) ∧ ∀ x, p ≤ x → x < m → (inRuns l x ↔ i % 2 = 1) := by
 have ha' := ha
 obtain ⟨h0, h1, h2⟩ := ha
 refine ⟨?_, fun x hx1 hx2 => at_in ⟨h0, fun k hk => by have := h1 k hk; omega, fun k hk => ?_⟩⟩
 ·by_cases e : bnd l i = m
  ·rw [if_pos e]
   have hlt : i < 2 * l.length := by
    by_cases q : i < 2 * l.length
    ·exact q
    ·have : l[i / 2]? = none := List.getElem?_eq_none (by omega)
     simp only [bnd, this] at e
     omega
   refine ⟨by omega, fun k hk => ?_, fun k hk => ?_⟩
   ·by_cases q : k = i
    ·subst q; omega
    ·have := h1 k (by omega); omega
   ·by_cases q : 2 * l.length ≤ k
    ·exact .inr q
    ·left
     have := bnd_lt h (i := i) (k := k) (by omega) (by omega)
     omega
  ·rw [if_neg e]
   refine ⟨h0, fun k hk => by have := h1 k hk; omega, fun k hk => ?_⟩
   by_cases q : 2 * l.length ≤ k
   ·exact .inr q
   ·left
    by_cases q2 : k = i
    ·subst q2; omega
    ·have := bnd_lt h (i := i) (k := k) (by omega) (by omega); omega
 ·by_cases q : 2 * l.length ≤ k
  ·exact .inr q
  ·left
   by_cases q2 : k = i
   ·subst q2; omega
   ·have := bnd_lt h (i := i) (k := k) (by omega) (by omega); omega
def subStep (was : Bool) (a : List Run) (i : Nat) (b : List Run) (j : Nat) (out : List Run) : HP Bool (HP (List (Int × Int)) (HP Int (HP (List (Int × Int)) (HP Int (HP (List (Int × Int)) Unit))))) :=
 let m := min (bnd a i) (bnd b j)
 let i' := if bnd a i = m then i + 1 else i
 let j' := if bnd b j = m then j + 1 else j
 let now := decide (i' % 2 = 1) && !decide (j' % 2 = 1)
 ⟨now, ⟨a, ⟨(i' : Int), ⟨b, ⟨(j' : Int), ⟨if now = true ∧ was = false then out ++ [(m, 0)] else if now = false ∧ was = true then modLast out (fun u => (u.1, m)) else out, ()⟩⟩⟩⟩⟩⟩
theorem set_modLast {l : List Run} (hne : l ≠ []) (m : Int) : ∃ v, l[l.length - 1]? = some v ∧ l.set (l.length - 1) (v.1, m) = modLast l fun u => (u.1, m) := by
 obtain ⟨r, v, rfl⟩ : ∃ r v, l = r ++ [v] := by
  rcases l.eq_nil_or_concat with rfl | ⟨r, v, e⟩
  ·exact (hne rfl).elim
  ·exact ⟨r, v, by rw [e, List.concat_eq_append]⟩
 have e : (r ++ [v]).length - 1 = r.length := by simp
 rw [e]
 exact ⟨v, get_last r v, by rw [set_last, modLast_app]⟩
theorem mn_min (x y : Int) : @W.mn wv x y = min x y := by rw [w_mn]; omega
theorem sub_step (was : Bool) (a b out : List Run) (i j : Nat) (ha : a.length ≤ 1000000000) (hb : b.length ≤ 1000000000) (hi : i ≤ 2 * a.length) (hj : j ≤ 2 * b.length) (ho : out.length ≤ 1000000000) (hw : was = true → out ≠ []) (hne : ¬ (i = 2 * a.length ∧ j = 2 * b.length)) :
  @t_runs_Subtract_L0 wv ⟨was, ⟨a, ⟨(i : Int), ⟨b, ⟨(j : Int), ⟨out, ()⟩⟩⟩⟩⟩⟩ = some (.go (subStep was a i b j out)) := by
 have j1 : @t_runs_Subtract_J1 wv ⟨was, ⟨a, ⟨(i : Int), ⟨b, ⟨(j : Int), ⟨out, ()⟩⟩⟩⟩⟩⟩ = some (.inl ⟨was, ⟨a, ⟨(i : Int), ⟨b, ⟨(j : Int), ⟨out, ()⟩⟩⟩⟩⟩⟩) := by
  unfold t_runs_Subtract_J1
  dsimp only
  rw [k_over ha]
  by_cases c1 : i = 2 * a.length
  ·rw [br_f (by simp [w_nt, c1]), k_over hb, br_t (by simp [w_nt]; exact fun q => hne ⟨c1, q⟩)]
  ·rw [br_t (by simp [w_nt, c1])]
 generalize hm : min (bnd a i) (bnd b j) = m
 have j2 : @t_runs_Subtract_J2 wv ⟨was, ⟨a, ⟨(i : Int), ⟨b, ⟨(j : Int), ⟨out, ()⟩⟩⟩⟩⟩⟩ (bnd a i) (bnd b j) = some ⟨was, ⟨m, ⟨a, ⟨((if bnd a i = m then i + 1 else i : Nat) : Int), ⟨b, ⟨(j : Int), ⟨out, ()⟩⟩⟩⟩⟩⟩⟩ := by
  unfold t_runs_Subtract_J2
  dsimp only
  rw [k_next ha hi, mn_min, hm, w_add, wr (by omega) (by omega)]
  by_cases c : bnd a i = m
  ·rw [br_t (by rw [w_eql]; simp [c]), if_pos c]; rfl
  ·rw [br_f (by rw [w_eql]; simp [c]), if_neg c]
 generalize hi' : (if bnd a i = m then i + 1 else i) = i' at j2
 have j3 : @t_runs_Subtract_J3 wv ⟨was, ⟨m, ⟨a, ⟨(i' : Int), ⟨b, ⟨(j : Int), ⟨out, ()⟩⟩⟩⟩⟩⟩⟩ = some ⟨was, ⟨m, ⟨a, ⟨(i' : Int), ⟨b, ⟨((if bnd b j = m then j + 1 else j : Nat) : Int), ⟨out, ()⟩⟩⟩⟩⟩⟩⟩ := by
  unfold t_runs_Subtract_J3
  dsimp only
  rw [k_next hb hj, w_add, wr (by omega) (by omega)]
  by_cases c : bnd b j = m
  ·rw [br_t (by rw [w_eql]; simp [c]), if_pos c]; rfl
  ·rw [br_f (by rw [w_eql]; simp [c]), if_neg c]
 generalize hj' : (if bnd b j = m then j + 1 else j) = j' at j3
 have j4 : @t_runs_Subtract_J4 wv ⟨was, ⟨m, ⟨a, ⟨(i' : Int), ⟨b, ⟨(j' : Int), ⟨out, ()⟩⟩⟩⟩⟩⟩⟩ = some ⟨was, ⟨m, ⟨decide (i' % 2 = 1) && !decide (j' % 2 = 1), ⟨a, ⟨(i' : Int), ⟨b, ⟨(j' : Int), ⟨out, ()⟩⟩⟩⟩⟩⟩⟩⟩ := by
  unfold t_runs_Subtract_J4
  dsimp only
  rw [k_ins, k_ins]
  by_cases c : i' % 2 = 1
  ·rw [br_t (by simp [c])]; simp [c, w_nt]
  ·rw [br_f (by simp [c])]; simp [c]
 generalize hnow : (decide (i' % 2 = 1) && !decide (j' % 2 = 1)) = now at j4
 have hfit : ∀ {α : Type} (x : Option α), @W.gd wv α (@W.ft wv 16 (@W.pl wv (@W.ln wv (Int × Int) out) 1)) x = x := fun x => by rw [w_ln, w_pl]; exact fit16 (by omega) (by omega)
 have j5 : @t_runs_Subtract_J5 wv ⟨was, ⟨m, ⟨now, ⟨a, ⟨(i' : Int), ⟨b, ⟨(j' : Int), ⟨out, ()⟩⟩⟩⟩⟩⟩⟩⟩ = some ⟨now, ⟨a, ⟨(i' : Int), ⟨b, ⟨(j' : Int), ⟨if now = true ∧ was = false then out ++ [(m, 0)] else if now = false ∧ was = true then modLast out (fun u => (u.1, m)) else out, ()⟩⟩⟩⟩⟩⟩ := by
  unfold t_runs_Subtract_J5
  dsimp only
  rw [hfit]
  have nt1 : @W.nt wv true = false := rfl
  have nt0 : @W.nt wv false = true := rfl
  cases now with
  | true =>
   cases was with
   | true => rw [nt1, br_t rfl, br_f rfl, br_f rfl, if_neg (by simp), if_neg (by simp)]
   | false => rw [nt0, br_t rfl, br_t rfl, if_pos (by simp), w_ap]
  | false =>
   cases was with
   | false => rw [nt0, br_f rfl, br_t rfl, br_f rfl, if_neg (by simp), if_neg (by simp)]
   | true =>
    have hpos := List.length_pos_iff.2 (hw rfl)
    obtain ⟨v, hv, h2⟩ := set_modLast (hw rfl) m
    rw [nt0, br_f rfl, br_t rfl, br_t rfl, w_ln, w_sub, wr (by omega) (by omega), gd_ib ⟨by omega, by omega⟩, ge_s (fgz (out.length - 1) (by omega) hv), if_neg (by simp), if_pos (by simp), w_st, show ((out.length : Int) - 1).toNat = out.length - 1 by omega, h2]
 unfold t_runs_Subtract_L0
 rw [jo_s j1]
 dsimp only
 rw [k_next ha hi, k_next hb hj, jo_s j2, jo_s j3, jo_s j4, jo_s j5]
 unfold subStep
 dsimp only
 rw [hm, hi', hj', hnow]
def SubI (a b : List Run) (p : Int) (was : Bool) (i j : Nat) (out : List Run) : Prop :=
 At a p i ∧ At b p j ∧ was = (decide (i % 2 = 1) && !decide (j % 2 = 1)) ∧
 ((was = false ∧ NormL out ∧ (∀ u ∈ out, u.2 ≤ p) ∧ ∀ x, x < p → (inRuns out x ↔ inRuns a x ∧ ¬ inRuns b x)) ∨
  ∃ (o : List Run) (s z : Int), out = o ++ [(s, z)] ∧ was = true ∧ s ≤ p ∧ NormL o ∧ (∀ u ∈ o, u.2 < s) ∧ (∀ x, x < s → (inRuns o x ↔ inRuns a x ∧ ¬ inRuns b x)) ∧ ∀ x, s ≤ x → x ≤ p → inRuns a x ∧ ¬ inRuns b x)
theorem sub_inv {a b : List Run} (ha : RunsOK (-1048576) 1048576 a) (hb : RunsOK (-1048576) 1048576 b) {p : Int} {was : Bool} {i j : Nat} {out : List Run} (hI : SubI a b p was i j out) (hne : ¬ (i = 2 * a.length ∧ j = 2 * b.length)) :
  ∃ m, p < m ∧ ∃ (was' : Bool) (i' j' : Nat) (out' : List Run), subStep was a i b j out = ⟨was', ⟨a, ⟨(i' : Int), ⟨b, ⟨(j' : Int), ⟨out', ()⟩⟩⟩⟩⟩⟩ ∧ SubI a b m was' i' j' out' ∧ i + j < i' + j' ∧ out'.length ≤ out.length + 1 := by
 obtain ⟨hA, hB, hw, hO⟩ := hI
 have hm2 : min (bnd a i) (bnd b j) < 1048577 := by
  have q1 : i < 2 * a.length → bnd a i < 1048577 := fun q => by
   have hu := List.getElem?_eq_getElem (l := a) (i := i / 2) (by omega)
   have := ha.bd _ (List.mem_of_getElem? hu)
   simp only [bnd, hu]; split <;> omega
  have q2 : j < 2 * b.length → bnd b j < 1048577 := fun q => by
   have hu := List.getElem?_eq_getElem (l := b) (i := j / 2) (by omega)
   have := hb.bd _ (List.mem_of_getElem? hu)
   simp only [bnd, hu]; split <;> omega
  have h1 := hA.1
  have h2 := hB.1
  have h3 : i < 2 * a.length ∨ j < 2 * b.length := by omega
  rcases h3 with h3 | h3
  ·have := q1 h3; omega
  ·have := q2 h3; omega
 have hp1 : p < bnd a i := by
  rcases hA.2.2 i (Nat.le_refl _) with h | h
  ·exact h
  ·have e : a[i / 2]? = none := List.getElem?_eq_none (by omega)
   have : p < 1048577 := by
    have q : At b p j := hB
    by_cases q2 : j < 2 * b.length
    ·rcases hB.2.2 j (Nat.le_refl _) with h' | h'
     ·have := bnd_hi hb j; omega
     ·omega
    ·exact (hne ⟨by have := hA.1; omega, by have := hB.1; omega⟩).elim
   simp only [bnd, e]; exact this
 have hp2 : p < bnd b j := by
  rcases hB.2.2 j (Nat.le_refl _) with h | h
  ·exact h
  ·have e : b[j / 2]? = none := List.getElem?_eq_none (by omega)
   have : p < 1048577 := by have := bnd_hi ha i; omega
   simp only [bnd, e]; exact this
 generalize hmdef : min (bnd a i) (bnd b j) = m at hm2
 have hpm : p < m := by omega
 obtain ⟨hA', hAx⟩ := at_step ha hA (m := m) (by omega) hpm hm2
 obtain ⟨hB', hBx⟩ := at_step hb hB (m := m) (by omega) hpm hm2
 refine ⟨m, hpm, _, _, _, _, by unfold subStep; rw [hmdef], ?_, ?_, ?_⟩
 ·refine ⟨hA', hB', rfl, ?_⟩
  have hAm := at_in hA'
  have hBm := at_in hB'
  generalize (if bnd a i = m then i + 1 else i) = i' at *
  generalize (if bnd b j = m then j + 1 else j) = j' at *
  have hD : ∀ x, p ≤ x → x < m → (inRuns a x ∧ ¬ inRuns b x ↔ was = true) := fun x h1 h2 => by
   rw [hAx x h1 h2, hBx x h1 h2, hw]; simp
  have hDm : inRuns a m ∧ ¬ inRuns b m ↔ (decide (i' % 2 = 1) && !decide (j' % 2 = 1)) = true := by
   rw [hAm, hBm]; simp
  generalize (decide (i' % 2 = 1) && !decide (j' % 2 = 1)) = now at *
  rcases hO with ⟨w0, n1, n2, n3⟩ | ⟨o, s, z, rfl, w0, hs, n1, n2, n3, n4⟩
  ·subst w0
   cases now with
   | false =>
    left
    rw [if_neg (by simp), if_neg (by simp)]
    refine ⟨rfl, n1, fun u hu => by have := n2 u hu; omega, fun x hx => ?_⟩
    by_cases q : x < p
    ·exact n3 x q
    ·rw [hD x (by omega) hx]
     refine ⟨fun ⟨u, hu, h1, h2⟩ => by have := n2 u hu; omega, fun h => by simp at h⟩
   | true =>
    right
    rw [if_pos (by simp)]
    refine ⟨out, m, 0, rfl, rfl, Int.le_refl _, n1, fun u hu => by have := n2 u hu; omega, fun x hx => ?_, fun x h1 h2 => ?_⟩
    ·by_cases q : x < p
     ·exact n3 x q
     ·rw [hD x (by omega) hx]
      refine ⟨fun ⟨u, hu, h1, h2⟩ => by have := n2 u hu; omega, fun h => by simp at h⟩
    ·have : x = m := by omega
     subst this
     exact hDm.2 rfl
  ·subst w0
   cases now with
   | true =>
    right
    rw [if_neg (by simp), if_neg (by simp)]
    refine ⟨o, s, z, rfl, rfl, by omega, n1, n2, n3, fun x h1 h2 => ?_⟩
    by_cases q : x ≤ p
    ·exact n4 x h1 q
    ·by_cases q2 : x = m
     ·subst q2; exact hDm.2 rfl
     ·exact (hD x (by omega) (by omega)).2 rfl
   | false =>
    left
    rw [if_neg (by simp), if_pos (by simp), modLast_app]
    refine ⟨rfl, normL_snoc.2 ⟨n1, by dsimp only; omega, n2⟩, fun u hu => ?_, fun x hx => ?_⟩
    ·rcases List.mem_append.1 hu with h | h
     ·have := n2 u h; omega
     ·rw [List.mem_singleton.1 h]; exact Int.le_refl _
    ·rw [inRuns_snoc]
     dsimp only
     by_cases q : x < s
     ·rw [n3 x q]
      exact ⟨fun h => h.resolve_right fun h => by omega, .inl⟩
     ·have hin : inRuns a x ∧ ¬ inRuns b x := by
       by_cases q2 : x ≤ p
       ·exact n4 x (by omega) q2
       ·exact (hD x (by omega) hx).2 rfl
      exact ⟨fun _ => hin, fun _ => .inr ⟨by omega, hx⟩⟩
 ·by_cases q : bnd a i = m
  ·rw [if_pos q]; split <;> omega
  ·have : bnd b j = m := by omega
   rw [if_pos this]; split <;> omega
 ·have hml : ∀ (l : List Run) (f : Run → Run), (modLast l f).length = l.length := fun l f => by
   rcases l.eq_nil_or_concat with rfl | ⟨r, v, rfl⟩
   ·rfl
   ·rw [List.concat_eq_append, modLast_app]; simp
  have key : ∀ nw ws : Bool, (if nw = true ∧ ws = false then out ++ [(m, 0)] else if nw = false ∧ ws = true then modLast out (fun u => (u.1, m)) else out).length ≤ out.length + 1 := fun nw ws => by
   cases nw <;> cases ws <;> simp [hml]
  exact key _ _
theorem sub_loop (a b : List Run) (hla : a.length ≤ 100000000) (hlb : b.length ≤ 100000000) (ha : RunsOK (-1048576) 1048576 a) (hb : RunsOK (-1048576) 1048576 b) :
  ∃ e, loopN (@t_runs_Subtract_L0 wv) bigN ⟨false, ⟨a, ⟨0, ⟨b, ⟨0, ⟨[], ()⟩⟩⟩⟩⟩⟩ = some e ∧ NormL e.hd ∧ ∀ x, inRuns e.hd x ↔ inRuns a x ∧ ¬ inRuns b x := by
 refine loop_meas (b := @t_runs_Subtract_L0 wv) (fun s => ∃ (p : Int) (was : Bool) (i j : Nat) (out : List Run), s = ⟨was, ⟨a, ⟨(i : Int), ⟨b, ⟨(j : Int), ⟨out, ()⟩⟩⟩⟩⟩⟩ ∧ SubI a b p was i j out ∧ out.length ≤ i + j)
  (fun e => NormL e.hd ∧ ∀ x, inRuns e.hd x ↔ inRuns a x ∧ ¬ inRuns b x) (fun s => (2 * (a.length : Int) + 2 * (b.length : Int) - s.tl.tl.hd - s.tl.tl.tl.tl.hd).toNat) ?_ ⟨-1048577, false, 0, 0, [], rfl, ⟨⟨by omega, by omega, fun k hk => ?_⟩, ⟨by omega, by omega, fun k hk => ?_⟩, rfl, .inl ⟨rfl, ⟨by simp, .nil⟩, by simp, fun x hx => ?_⟩⟩, by simp⟩ (by dsimp only; omega)
 ·rintro s ⟨p, was, i, j, out, rfl, hI, ho⟩
  have h1 := hI.1.1
  have h2 := hI.2.1.1
  by_cases hne : i = 2 * a.length ∧ j = 2 * b.length
  ·right
   obtain ⟨rfl, rfl⟩ := hne
   have j1 : @t_runs_Subtract_J1 wv ⟨was, ⟨a, ⟨((2 * a.length : Nat) : Int), ⟨b, ⟨((2 * b.length : Nat) : Int), ⟨out, ()⟩⟩⟩⟩⟩⟩ = some (.inr ⟨out, ()⟩) := by
    unfold t_runs_Subtract_J1
    dsimp only
    rw [k_over (by omega), br_f (by simp [w_nt]), k_over (by omega), br_f (by simp [w_nt])]
   unfold t_runs_Subtract_L0
   rw [jo_s j1]
   refine ⟨_, rfl, ?_⟩
   obtain ⟨hA, hB, hw, hO⟩ := hI
   have hwf : was = false := by rw [hw]; simp
   rcases hO with ⟨w0, n1, n2, n3⟩ | ⟨o, s, z, rfl, w0, -⟩
   ·refine ⟨n1, fun x => ?_⟩
    by_cases q : x < p
    ·exact n3 x q
    ·refine ⟨fun ⟨u, hu, h3, h4⟩ => by have := n2 u hu; omega, fun ⟨h3, h4⟩ => ?_⟩
     have : At a x (2 * a.length) := ⟨Nat.le_refl _, fun k hk => by have := hA.2.1 k hk; omega, fun k hk => .inr hk⟩
     have := (at_in this).1 h3
     omega
   ·rw [hwf] at w0; cases w0
  ·left
   obtain ⟨m, hpm, was', i', j', out', e, hI', hlt, hlen⟩ := sub_inv ha hb hI hne
   refine ⟨_, sub_step was a b out i j (by omega) (by omega) h1 h2 (by omega) (fun q => ?_) hne, ?_, ?_⟩
   ·rcases hI.2.2.2 with ⟨w0, -⟩ | ⟨o, s, z, rfl, -⟩
    ·rw [w0] at q; cases q
    ·simp
   ·rw [e]
    exact ⟨m, was', i', j', out', rfl, hI', by omega⟩
   ·rw [e]
    have h1' := hI'.1.1
    have h2' := hI'.2.1.1
    dsimp only
    omega
 ·by_cases q : 2 * a.length ≤ k
  ·exact .inr q
  ·left; have := bnd_hi ha k; omega
 ·by_cases q : 2 * b.length ≤ k
  ·exact .inr q
  ·left; have := bnd_hi hb k; omega
 ·constructor
  ·rintro ⟨u, hu, -⟩; cases hu
  ·rintro ⟨⟨u, hu, h1, h2⟩, -⟩
   have := ha.bd u hu; omega
open Classical in
theorem Subtract_ok (a b : List Run) (hla : a.length ≤ 100000000) (hlb : b.length ≤ 100000000) (ha : RunsOK (-1048576) 1048576 a) (hb : RunsOK (-1048576) 1048576 b) :
  ∃ l, @t_runs_Subtract wv (a, b) = some l ∧ NormL l ∧ ∀ x, inRuns l x ↔ inRuns a x ∧ ¬ inRuns b x := by
 obtain ⟨e, he, h1, h2⟩ := sub_loop a b hla hlb ha hb
 refine ⟨e.hd, ?_, h1, h2⟩
 unfold t_runs_Subtract
 dsimp only
 rw [k_runs_Valid (by omega), br_f (by simp [w_nt, ha]), k_runs_Valid (by omega), br_f (by simp [w_nt, hb])]
 exact lo_s he
theorem join_loop (l : List Run) (hl : l.length ≤ 1000000000) (hne : ∀ u ∈ l, u.1 < u.2) (hpw : l.Pairwise fun a b => a.1 ≤ b.1) : ∃ e, loopN (@t_runs_join_L0 wv) bigN ⟨l, ⟨(l.length : Int), ⟨0, ⟨[], ()⟩⟩⟩⟩ = some e ∧ NormL e.hd ∧ ∀ x, inRuns e.hd x ↔ inRuns l x := by
 refine loop_inv (b := @t_runs_join_L0 wv) (s0 := ⟨l, ⟨(l.length : Int), ⟨0, ⟨[], ()⟩⟩⟩⟩)
  (fun i s => ∃ out : List Run, s = ⟨l, ⟨(l.length : Int), ⟨(i : Int), ⟨out, ()⟩⟩⟩⟩ ∧ out.length ≤ i ∧ NormL out ∧ (∀ x, inRuns out x ↔ inRuns (l.take i) x) ∧ ∀ u ∈ out, ∃ v ∈ l.take i, u.1 = v.1)
  (fun e => NormL e.hd ∧ ∀ x, inRuns e.hd x ↔ inRuns l x) l.length (by omega) ⟨[], rfl, by simp, ⟨by simp, .nil⟩, by simp, by simp⟩ ?_ ?_
 ·rintro i s hi ⟨out, rfl, ho, hN, hin, hfr⟩
  have hx := List.getElem?_eq_getElem hi
  generalize l[i] = u at hx
  have hu := hne u (List.mem_of_getElem? hx)
  have htk := take_succ_of hx
  have hord : ∀ v ∈ l.take i, v.1 ≤ u.1 := fun v hv => by
   have h1 : (l.take (i + 1)).Pairwise fun a b => a.1 ≤ b.1 := List.Pairwise.sublist (List.take_sublist _ _) hpw
   rw [htk] at h1
   exact (List.pairwise_append.1 h1).2.2 v hv u (by simp)
  have hin' : ∀ x, inRuns (l.take (i + 1)) x ↔ inRuns (l.take i) x ∨ (u.1 ≤ x ∧ x < u.2) := fun x => by rw [htk, inRuns_snoc]
  have fresh : ∀ {out' : List Run}, out' = out ++ [(u.1, u.2)] → (∀ v ∈ out, v.2 < u.1) → out'.length ≤ i + 1 ∧ NormL out' ∧ (∀ x, inRuns out' x ↔ inRuns (l.take (i + 1)) x) ∧ ∀ w ∈ out', ∃ v ∈ l.take (i + 1), w.1 = v.1 := by
   rintro out' rfl hlt
   refine ⟨by simp; omega, normL_snoc.2 ⟨hN, hu, hlt⟩, fun x => by rw [inRuns_snoc, hin', hin], fun w hw => ?_⟩
   rcases List.mem_append.1 hw with h | h
   ·obtain ⟨v, hv, e⟩ := hfr w h
    exact ⟨v, by rw [htk]; exact List.mem_append_left _ hv, e⟩
   ·rw [List.mem_singleton.1 h]
    exact ⟨u, by rw [htk]; simp, rfl⟩
  unfold t_runs_join_L0
  dsimp only
  rw [br_lt (by omega), ge_s (fg hx)]
  simp only [w_ln, w_sub, w_add, w_pl, w_ap]
  rw [wr (n := (i : Int) + 1) (by omega) (by omega), wr (n := (out.length : Int) - 1) (by omega) (by omega)]
  rcases out.eq_nil_or_concat with rfl | ⟨r, v, hcat⟩
  ·rw [br_f (by rfl), fit16 (by simp) (by simp)]
   exact ⟨_, rfl, _, rfl, fresh rfl (by simp)⟩
  ·rw [List.concat_eq_append] at hcat
   subst hcat
   have hlen : ((r ++ [v]).length : Int) = (r.length : Int) + 1 := by simp
   have ho' : (r.length : Int) + 1 ≤ i := by rw [← hlen]; omega
   simp only [hlen]
   rw [show (r.length : Int) + 1 - 1 = (r.length : Int) by omega]
   simp only [ge_s (fg (get_last r v)), gd_ib (show 0 ≤ (r.length : Int) ∧ (r.length : Int) < (r.length : Int) + 1 by omega)]
   rw [br_t (by rw [w_geq]; exact decide_eq_true (by omega))]
   obtain ⟨N1, N2, N3⟩ := normL_snoc.1 hN
   obtain ⟨v', hv', ev⟩ := hfr v (by simp)
   have hvu := hord v' hv'
   by_cases hc : u.1 ≤ v.2
   ·rw [br_t (by rw [w_leq]; exact decide_eq_true hc), w_st, Int.toNat_natCast, set_last, w_mx]
    have hmx : (if u.2 > v.2 then u.2 else v.2) = max v.2 u.2 := by omega
    rw [hmx]
    refine ⟨_, rfl, r ++ [(v.1, max v.2 u.2)], rfl, by simp only [List.length_append, List.length_cons, List.length_nil] at ho ⊢; omega, normL_snoc.2 ⟨N1, by dsimp only; omega, N3⟩, fun x => ?_, fun w hw => ?_⟩
    ·rw [inRuns_snoc, hin', ← hin, inRuns_snoc]
     dsimp only
     constructor
     ·rintro (h | h)
      ·exact .inl (.inl h)
      ·by_cases q : x < v.2
       ·exact .inl (.inr (by omega))
       ·exact .inr (by omega)
     ·rintro ((h | h) | h)
      ·exact .inl h
      ·exact .inr (by omega)
      ·exact .inr (by omega)
    ·rcases List.mem_append.1 hw with h | h
     ·obtain ⟨z, hz, e⟩ := hfr w (List.mem_append_left _ h)
      exact ⟨z, by rw [htk]; exact List.mem_append_left _ hz, e⟩
     ·rw [List.mem_singleton.1 h]
      exact ⟨v', by rw [htk]; exact List.mem_append_left _ hv', ev⟩
   ·rw [br_f (by rw [w_leq]; exact decide_eq_false hc), fit16 (by omega) (by omega)]
    refine ⟨_, rfl, _, rfl, fresh rfl fun w hw => ?_⟩
    rcases List.mem_append.1 hw with h | h
    ·have := N3 w h; omega
    ·rw [List.mem_singleton.1 h]; omega
 ·rintro s ⟨out, rfl, ho, hN, hin, hfr⟩
  unfold t_runs_join_L0
  dsimp only
  rw [br_nlt (by omega)]
  rw [List.take_length] at hin
  exact ⟨_, rfl, hN, hin⟩
theorem join_ok (l : List Run) (hl : l.length ≤ 1000000000) (hne : ∀ u ∈ l, u.1 < u.2) (hpw : l.Pairwise fun a b => a.1 ≤ b.1) : ∃ r, @t_runs_join wv l = some r ∧ NormL r ∧ ∀ x, inRuns r x ↔ inRuns l x := by
 obtain ⟨e, he, hq⟩ := join_loop l hl hne hpw
 refine ⟨e.hd, ?_, hq⟩
 unfold t_runs_join
 exact lo_s he
theorem k_join {α : Type} {l r : List (Int × Int)} (h : @t_runs_join wv l = some r) (k : List (Int × Int) → Option α) : @W.call wv α c_runs_join l k = k r := ca_s (c := c_runs_join) h
theorem k_sortR {l : List Run} (hl : l.length ≤ 1000000000) (hb : ∀ u ∈ l, -4611686018427387904 < u.1 ∧ u.1 < 4611686018427387904) : ∃ r : List Run, (∀ {α : Type} (k : List (Int × Int) → Option α), @W.call wv α c_s111_112 l k = k r) ∧ r.Perm l ∧ r.Pairwise fun a b => a.1 ≤ b.1 := by
 have hok : ∀ x ∈ l, okR x = true := fun x hx => decide_eq_true (hb x hx)
 obtain ⟨r, h1, h2, h3⟩ := sortAny_spec (t := .p I I) swoR (eq := eqR) (d0 := zR) (l := l) (show l.length < _ by omega) hok
 refine ⟨r, fun k => ca_s (c := c_s111_112) (a := l) (r := r) h1, h2, ?_⟩
 refine List.Pairwise.imp_of_mem (fun {a b} ha hb' h => ?_) h3
 have qa := hok a (h2.mem_iff.1 ha)
 have qb := hok b (h2.mem_iff.1 hb')
 simp only [Go.Proofs.ltOf, decide_eq_false_iff_not, cmpR_lt qb qa] at h
 omega
theorem Norm_ok (l : List Run) (hl : l.length ≤ 1000000000) (hne : ∀ u ∈ l, u.1 < u.2 ∧ -1048576 ≤ u.1 ∧ u.2 ≤ 1048576) : ∃ r, @t_runs_Norm wv l = some (r, 0) ∧ NormL r ∧ ∀ x, inRuns r x ↔ inRuns l x := by
 have hloop := loop_st (b := @t_runs_Norm_L0 wv) (e := .inr ⟨l, ()⟩) (fun i => ⟨l, ⟨(l.length : Int), ⟨(i : Int), ⟨l.take i, ()⟩⟩⟩⟩) l.length (by omega) (fun i hi => by
  have hx := List.getElem?_eq_getElem hi
  generalize l[i] = u at hx
  have hu := hne u (List.mem_of_getElem? hx)
  unfold t_runs_Norm_L0
  dsimp only
  rw [br_lt (by omega), ge_s (fg hx), br_f (by rw [w_leq]; exact decide_eq_false (by omega)), k_runs_fits, br_f (by simp [w_nt]; omega), w_ln, w_pl, fit16 (by rw [List.length_take]; omega) (by omega), w_add, wr (by omega) (by omega), w_ap, take_succ_of hx]
  rfl) (by unfold t_runs_Norm_L0; dsimp only; rw [br_nlt (by omega), List.take_length])
 obtain ⟨r, hr, hp, hpw⟩ := k_sortR hl (fun u hu => by have := hne u hu; omega)
 obtain ⟨j, hj, hN, hin⟩ := join_ok r (by rw [hp.length_eq]; exact hl) (fun u hu => (hne u (hp.mem_iff.1 hu)).1) hpw
 refine ⟨j, ?_, hN, fun x => (hin x).trans ?_⟩
 ·unfold t_runs_Norm
  refine (lo_s hloop).trans ?_
  dsimp only
  rw [hr, k_join hj]
 ·unfold inRuns
  exact ⟨fun ⟨u, hu, h⟩ => ⟨u, hp.mem_iff.1 hu, h⟩, fun ⟨u, hu, h⟩ => ⟨u, hp.mem_iff.2 hu, h⟩⟩
end Go.Proofs.YtaammoealihpmaaGreat
namespace Go.Proofs.YtaammoealihpmaaGreat
open Go Go.Vv Go.Dn Go.Dn.W
set_option linter.unusedVariables false
set_option linter.unusedSimpArgs false
set_option maxRecDepth 100000
def dst (a b : Cell) : Int := max (max (a.1 - b.1) (b.1 - a.1)) (max (a.2 - b.2) (b.2 - a.2))
theorem dst_le {a b : Cell} {k : Int} : dst a b ≤ k ↔ (a.1 - b.1 ≤ k ∧ b.1 - a.1 ≤ k) ∧ (a.2 - b.2 ≤ k ∧ b.2 - a.2 ≤ k) := by unfold dst; omega
def wide (k : Int) (u : Run) : Run := (max (u.1 - k) (-4096), min (u.2 + k) 4096)
def near (c : Reg) (k : Int) (p : Cell) : Prop := ∃ d, inReg c d ∧ dst d p ≤ k
def rowW (y k : Int) (w : Row) : List Run := if w.1 < y - k ∨ w.1 > y + k then [] else w.2.map (wide k)
theorem mem_wide {c : Reg} (h : RegOK c) {y k : Int} (hk : 0 ≤ k) {x : Int} (hx : -4096 ≤ x ∧ x < 4096) : inRuns (c.flatMap (rowW y k)) x ↔ near c k (x, y) := by
 constructor
 ·rintro ⟨v, hv, h1, h2⟩
  obtain ⟨w, hw, hm⟩ := List.mem_flatMap.1 hv
  unfold rowW at hm
  split at hm
  ·cases hm
  ·rename_i hy
   obtain ⟨u, hu, rfl⟩ := List.mem_map.1 hm
   have hb := (h.rs w hw).bd u hu
   simp only [wide] at h1 h2
   refine ⟨(max u.1 (min x (u.2 - 1)), w.1), ⟨w, hw, rfl, u, hu, by dsimp only; omega, by dsimp only; omega⟩, dst_le.2 ⟨by dsimp only; omega, by dsimp only; omega⟩⟩
 ·rintro ⟨d, ⟨w, hw, e, u, hu, h1, h2⟩, hd⟩
  have hd := dst_le.1 hd
  dsimp only at hd
  refine ⟨wide k u, List.mem_flatMap.2 ⟨w, hw, ?_⟩, by simp only [wide]; omega, by simp only [wide]; omega⟩
  unfold rowW
  rw [if_neg (by omega)]
  exact List.mem_map.2 ⟨u, hu, rfl⟩
theorem rowW_len (y k : Int) (w : Row) : (rowW y k w).length ≤ w.2.length := by
 unfold rowW; split <;> simp
theorem rowW_take_le (c : Reg) (y k : Int) (i : Nat) : ((c.take i).flatMap (rowW y k)).length ≤ (c.flatMap fun w => w.2).length := by
 have h1 : ∀ l : Reg, (l.flatMap (rowW y k)).length ≤ (l.flatMap fun w => w.2).length := by
  intro l
  induction l with
  | nil => simp
  | cons w l ih => have := rowW_len y k w; simp only [List.flatMap_cons, List.length_append]; omega
 have := h1 (c.take i)
 have := flat_take_le (fun w : Row => w.2) c i
 omega
theorem runs_total {c : Reg} (h : RegOK c) : (c.flatMap fun w => w.2).length ≤ (cellsC c).length := by
 unfold cellsC
 have : ∀ l : Reg, (∀ w ∈ l, w ∈ c) → (l.flatMap fun w => w.2).length ≤ (l.flatMap rowC).length := by
  intro l
  induction l with
  | nil => intro _; simp
  | cons w l ih =>
   intro hm
   have h1 := ih fun v hv => hm v (List.mem_cons_of_mem _ hv)
   have h2 := runs_le_cells h (hm w (List.mem_cons_self ..)) w.2.length
   rw [List.take_length] at h2
   simp only [List.flatMap_cons, List.length_append]
   unfold rowC at *
   omega
 exact this c fun w hw => hw
theorem k_Norm {α : Type} {l r : List Run} (h : @t_runs_Norm wv l = some (r, 0)) (k : List (Int × Int) × Int → Option α) : @W.call wv α c_runs_Norm l k = k (r, 0) := ca_s (c := c_runs_Norm) h
theorem spread_ok (c : Reg) (y k : Int) (hl : LimR c) (h : RegOK c) (hc : (cellsC c).length ≤ 1000000) (hk : 0 ≤ k ∧ k ≤ 100000) (hy : -4096 ≤ y ∧ y < 4096) : ∃ r, @t_hatch_spread wv (c, (y, k)) = some r ∧ NormL r ∧ ∀ x, inRuns r x ↔ (-4096 ≤ x ∧ x < 4096) ∧ near c k (x, y) := by
 have hL := hl.1
 have hrt := runs_total h
 have hloop := loop_st (b := @t_hatch_spread_L0 wv) (e := ⟨c.flatMap (rowW y k), ()⟩) (fun i => ⟨y, ⟨k, ⟨c, ⟨(c.length : Int), ⟨(i : Int), ⟨(c.take i).flatMap (rowW y k), ()⟩⟩⟩⟩⟩⟩) c.length (by omega) (fun i hi => by
  have hw := List.getElem?_eq_getElem hi
  generalize c[i] = w at hw
  have hwm := List.mem_of_getElem? hw
  have hLw := hl.2 w hwm
  have q1 := rowW_take_le c y k i
  have q0 := h.y w hwm
  unfold t_hatch_spread_L0
  dsimp only
  rw [br_lt (by omega), ge_s (fg hw), w_sub, w_add, w_add, wr (n := y - k) (by omega) (by omega), wr (n := y + k) (by omega) (by omega), wr (n := (i : Int) + 1) (by omega) (by omega), flat_take hw]
  by_cases h1 : w.1 < y - k
  ·rw [br_lt h1, rowW, if_pos (.inl h1), List.append_nil]; rfl
  rw [br_nlt h1]
  by_cases h2 : w.1 > y + k
  ·rw [br_t (by rw [w_gtr]; exact decide_eq_true h2), rowW, if_pos (.inr h2), List.append_nil]; rfl
  rw [br_f (by rw [w_gtr]; exact decide_eq_false h2), rowW, if_neg (by omega)]
  have hin := loop_st (b := @t_hatch_spread_L1 wv) (e := ⟨y, ⟨k, ⟨c, ⟨(c.length : Int), ⟨(i : Int), ⟨(c.take i).flatMap (rowW y k) ++ w.2.map (wide k), ()⟩⟩⟩⟩⟩⟩)
   (fun j => ⟨y, ⟨k, ⟨c, ⟨(c.length : Int), ⟨(i : Int), ⟨w.2, ⟨(w.2.length : Int), ⟨(j : Int), ⟨(c.take i).flatMap (rowW y k) ++ (w.2.take j).map (wide k), ()⟩⟩⟩⟩⟩⟩⟩⟩⟩) w.2.length (by omega) (fun j hj => by
   have hu := List.getElem?_eq_getElem hj
   generalize w.2[j] = u at hu
   have hb := (h.rs w hwm).bd u (List.mem_of_getElem? hu)
   have q2 := flat_mem_le (fun w : Row => w.2) hw
   have q3 : ((c.take i).flatMap (rowW y k)).length ≤ ((c.take i).flatMap fun w => w.2).length := by
    have := rowW_take_le (c.take i) y k i
    rwa [List.take_take, Nat.min_self] at this
   unfold t_hatch_spread_L1
   dsimp only
   rw [br_lt (by omega), ge_s (fg hu), w_ln, w_pl, fit16 (by simp only [List.length_append, List.length_map, List.length_take]; omega) (by omega), w_add, w_add, w_sub, wr (n := (j : Int) + 1) (by omega) (by omega), wr (n := u.1 - k) (by omega) (by omega), wr (n := u.2 + k) (by omega) (by omega), w_ap, map_take_of hu, ← List.append_assoc, w_mx, w_mn]
   have e : ((if -4096 > u.1 - k then -4096 else u.1 - k), (if 4096 < u.2 + k then 4096 else u.2 + k)) = wide k u := by
    unfold wide; rw [Prod.mk.injEq]; omega
   rw [e]
   rfl) (by
   unfold t_hatch_spread_L1
   dsimp only
   rw [br_nlt (by omega), List.take_length])
  simp only [List.take_zero, List.map_nil, List.append_nil] at hin
  refine (lo_s hin).trans ?_
  dsimp only
  rw [w_add, wr (by omega) (by omega)]
  rfl) (by unfold t_hatch_spread_L0; dsimp only; rw [br_nlt (by omega), List.take_length])
 have hmem : ∀ u ∈ c.flatMap (rowW y k), u.1 < u.2 ∧ -4096 ≤ u.1 ∧ u.2 ≤ 4096 := fun v hv => by
  obtain ⟨w, hw, hm⟩ := List.mem_flatMap.1 hv
  unfold rowW at hm
  split at hm
  ·cases hm
  ·obtain ⟨u, hu, rfl⟩ := List.mem_map.1 hm
   have hb := (h.rs w hw).bd u hu
   simp only [wide]; omega
 have hlen : (c.flatMap (rowW y k)).length ≤ 1000000 := by
  have := rowW_take_le c y k c.length
  rw [List.take_length] at this
  omega
 obtain ⟨r, hr, hN, hin⟩ := Norm_ok (c.flatMap (rowW y k)) (by omega) (fun u hu => by have := hmem u hu; omega)
 refine ⟨r, ?_, hN, fun x => (hin x).trans ?_⟩
 ·unfold t_hatch_spread
  refine (lo_s hloop).trans ?_
  dsimp only
  rw [k_Norm hr]
 ·constructor
  ·intro hx
   have hb : -4096 ≤ x ∧ x < 4096 := by
    obtain ⟨u, hu, h1, h2⟩ := hx
    have := hmem u hu; omega
   exact ⟨hb, (mem_wide h hk.1 hb).1 hx⟩
  ·exact fun hx => (mem_wide h hk.1 hx.1).2 hx.2
theorem k_spread {α : Type} {c : Reg} {y k : Int} {r : List Run} (h : @t_hatch_spread wv (c, (y, k)) = some r) (k' : List (Int × Int) → Option α) : @W.call wv α c_hatch_spread ((c, (y, k)) : List (Int × List (Int × Int)) × (Int × Int)) k' = k' r := ca_s (c := c_hatch_spread) h
theorem k_Subtract {α : Type} {a b r : List Run} (h : @t_runs_Subtract wv (a, b) = some r) (k : List (Int × Int) → Option α) : @W.call wv α c_runs_Subtract ((a, b) : List (Int × Int) × List (Int × Int)) k = k r := ca_s (c := c_runs_Subtract) h
theorem norm_len {l : List Run} (h : NormL l) (hb : ∀ x, inRuns l x → -4096 ≤ x ∧ x < 4096) : l.length ≤ 8192 := by
 have hV := normL_ok h hb
 have key : ∀ (m : List Run) (lo : Int), RunsOK lo 4096 m → lo ≤ 4096 → (m.length : Int) ≤ 4096 - lo := by
  intro m
  induction m with
  | nil => intro lo _ hlo; simp; omega
  | cons u m ih =>
   intro lo hm hlo
   have hu := hm.bd u (List.mem_cons_self ..)
   have := ih (lo + 1) ⟨fun v hv => by
    have h1 := hm.bd v (List.mem_cons_of_mem _ hv)
    have h2 := (List.pairwise_cons.1 hm.pw).1 v hv
    omega, (List.pairwise_cons.1 hm.pw).2⟩ (by omega)
   simp only [List.length_cons]
   omega
 have := key l (-4096) hV (by omega)
 omega
theorem beyond_ok (r c : Reg) (k : Int) (hl : LimR r) (h : RegOK r) (hcl : LimR c) (hV : RegOK c) (hr : (cellsC r).length ≤ 1000000) (hc : (cellsC c).length ≤ 1000000) (hk : 0 ≤ k ∧ k ≤ 100000) :
  ∃ T, @t_hatch_beyond wv (r, (c, k)) = some T ∧ RegOK T ∧ ∀ p, inReg T p ↔ inReg r p ∧ ¬ near c k p := by
 have hL := hl.1
 have hloop : ∃ e, loopN (@t_hatch_beyond_L0 wv) bigN ⟨k, ⟨r, ⟨(r.length : Int), ⟨0, ⟨c, ⟨[], ()⟩⟩⟩⟩⟩⟩ = some e ∧ RegOK e.hd ∧ ∀ p, inReg e.hd p ↔ inReg r p ∧ ¬ near c k p := by
  refine loop_inv (b := @t_hatch_beyond_L0 wv) (fun i s => ∃ out : Reg, s = ⟨k, ⟨r, ⟨(r.length : Int), ⟨(i : Int), ⟨c, ⟨out, ()⟩⟩⟩⟩⟩⟩ ∧ out.length ≤ i ∧ RegOK out ∧ (∀ p, inReg out p ↔ inReg (r.take i) p ∧ ¬ near c k p) ∧ ∀ w ∈ out, ∃ v ∈ r.take i, v.1 = w.1) _ r.length (by omega) ⟨[], rfl, by simp, ⟨by simp, .nil, by simp, by simp⟩, fun p => by simp [inReg], by simp⟩ ?_ ?_
  ·rintro i s hi ⟨out, rfl, ho, hO, hin, hys⟩
   have hw := List.getElem?_eq_getElem hi
   generalize r[i] = w at hw
   have hwm := List.mem_of_getElem? hw
   have hLw := hl.2 w hwm
   have hy := h.y w hwm
   have hrs := h.rs w hwm
   have htk := take_succ_of hw
   have hlt : ∀ v ∈ r.take i, v.1 < w.1 := fun v hv => by
    have h1 : (r.take (i + 1)).Pairwise fun a b => a.1 < b.1 := List.Pairwise.sublist (List.take_sublist _ _) h.pw
    rw [htk] at h1
    exact (List.pairwise_append.1 h1).2.2 v hv w (by simp)
   obtain ⟨sp, hsp, hspN, hspin⟩ := spread_ok c w.1 k hcl hV hc hk hy
   have hspB : RunsOK (-4096) 4096 sp := normL_ok hspN fun x hx => ((hspin x).1 hx).1
   have hspl := norm_len hspN fun x hx => ((hspin x).1 hx).1
   have hwl := norm_len (RunsOK.norm hrs) fun x ⟨u, hu, h1, h2⟩ => by have := hrs.bd u hu; omega
   obtain ⟨su, hsu, hsuN, hsuin⟩ := Subtract_ok w.2 sp (by omega) (by omega) ⟨fun u hu => by have := hrs.bd u hu; omega, hrs.pw⟩ ⟨fun u hu => by have := hspB.bd u hu; omega, hspB.pw⟩
   have hD : ∀ x, inRuns su x ↔ inRuns w.2 x ∧ ¬ near c k (x, w.1) := fun x => by
    rw [hsuin, hspin]
    constructor
    ·rintro ⟨a, b⟩
     have hb : -4096 ≤ x ∧ x < 4096 := by
      obtain ⟨u, hu, h1, h2⟩ := a
      have := hrs.bd u hu; omega
     exact ⟨a, fun q => b ⟨hb, q⟩⟩
    ·rintro ⟨a, b⟩
     exact ⟨a, fun q => b q.2⟩
   have hsuB : RunsOK (-4096) 4096 su := normL_ok hsuN fun x hx => by
    obtain ⟨u, hu, h1, h2⟩ := ((hD x).1 hx).1
    have := hrs.bd u hu; omega
   unfold t_hatch_beyond_L0
   dsimp only
   rw [br_lt (by omega), ge_s (fg hw), k_spread hsp, k_Subtract hsu, w_add, wr (by omega) (by omega)]
   have hin' : ∀ p, inReg (r.take (i + 1)) p ↔ inReg (r.take i) p ∨ (w.1 = p.2 ∧ inRuns w.2 p.1) := fun p => by rw [htk, inReg_snoc]
   by_cases hse : su = []
   ·subst hse
    rw [br_f (by rfl)]
    refine ⟨_, rfl, out, rfl, by omega, hO, fun p => ?_, fun v hv => ?_⟩
    ·rw [hin, hin']
     constructor
     ·rintro ⟨a, b⟩; exact ⟨.inl a, b⟩
     ·rintro ⟨a | ⟨e, a⟩, b⟩
      ·exact ⟨a, b⟩
      ·have := (hD p.1).2 ⟨a, by rw [e]; exact b⟩
       obtain ⟨u, hu, -⟩ := this
       cases hu
    ·obtain ⟨z, hz, e⟩ := hys v hv
     exact ⟨z, by rw [htk]; exact List.mem_append_left _ hz, e⟩
   ·have hpos := List.length_pos_iff.2 hse
    rw [br_t (by rw [w_ln, w_gtr]; exact decide_eq_true (by omega)), w_ln, w_pl, fit32 (by omega) (by omega), w_ap]
    refine ⟨_, rfl, out ++ [(w.1, su)], rfl, by simp; omega, regOK_snoc.2 ⟨hO, hy, hse, hsuB, fun v hv => ?_⟩, fun p => ?_, fun v hv => ?_⟩
    ·obtain ⟨z, hz, e⟩ := hys v hv
     have := hlt z hz
     dsimp only; omega
    ·rw [inReg_snoc, hin, hin']
     dsimp only
     constructor
     ·rintro (⟨a, b⟩ | ⟨e, a⟩)
      ·exact ⟨.inl a, b⟩
      ·obtain ⟨a1, a2⟩ := (hD p.1).1 a
       exact ⟨.inr ⟨e, a1⟩, by rw [e] at a2; exact a2⟩
     ·rintro ⟨a | ⟨e, a⟩, b⟩
      ·exact .inl ⟨a, b⟩
      ·exact .inr ⟨e, (hD p.1).2 ⟨a, by rw [e]; exact b⟩⟩
    ·rcases List.mem_append.1 hv with q | q
     ·obtain ⟨z, hz, e⟩ := hys v q
      exact ⟨z, by rw [htk]; exact List.mem_append_left _ hz, e⟩
     ·rw [List.mem_singleton.1 q]
      exact ⟨w, by rw [htk]; simp, rfl⟩
  ·rintro s ⟨out, rfl, ho, hO, hin, hys⟩
   unfold t_hatch_beyond_L0
   dsimp only
   rw [br_nlt (by omega)]
   rw [List.take_length] at hin
   exact ⟨_, rfl, hO, hin⟩
 obtain ⟨e, he, h1, h2⟩ := hloop
 refine ⟨e.hd, ?_, h1, h2⟩
 unfold t_hatch_beyond
 exact lo_s he
theorem k_beyond {α : Type} {r c T : Reg} {k : Int} (h : @t_hatch_beyond wv (r, (c, k)) = some T) (k' : List (Int × List (Int × Int)) → Option α) : @W.call wv α c_hatch_beyond ((r, (c, k)) : List (Int × List (Int × Int)) × (List (Int × List (Int × Int)) × Int)) k' = k' T := ca_s (c := c_hatch_beyond) h
def Least (r c : Reg) (m : Int) : Prop := 0 ≤ m ∧ (∀ p, inReg r p → near c m p) ∧ ∀ k, 0 ≤ k → (∀ p, inReg r p → near c k p) → m ≤ k
theorem least_uniq {r c : Reg} {m n : Int} (h : Least r c m) (h' : Least r c n) : m = n := by
 have := h.2.2 n h'.1 h'.2.1
 have := h'.2.2 m h.1 h.2.1
 omega
theorem near_mono {c : Reg} {k k' : Int} (h : k ≤ k') {p : Cell} (hn : near c k p) : near c k' p := by
 obtain ⟨d, h1, h2⟩ := hn
 exact ⟨d, h1, by omega⟩
theorem quo2 (n : Nat) (h : n ≤ 1000000) : @W.ar wv .quo .i64 (IntKind.wrap .i64 (n : Int)) 2 = ((n / 2 : Nat) : Int) := by
 rw [w_quo, wr (n := (n : Int)) (by omega) (by omega), Int.tdiv_eq_ediv_of_nonneg (by omega), wr (by omega) (by omega)]; omega
open Classical in
theorem Far_ok (r c : Reg) (hl : LimR r) (hcl : LimR c) (hr : RegOK r → (cellsC r).length ≤ 1000000) (hc : RegOK c → (cellsC c).length ≤ 1000000) :
  ∃ n, @t_hatch_Far wv (r, c) = some n ∧ (¬ (RegOK r ∧ RegOK c) → n = -1) ∧ (RegOK r ∧ RegOK c → (r = [] → n = 0) ∧ (r ≠ [] → c = [] → n = -1) ∧ (r ≠ [] → c ≠ [] → Least r c n)) := by
 unfold t_hatch_Far
 dsimp only
 rw [k_region_Valid hl]
 by_cases h1 : RegOK r
 case neg => rw [br_t (by simp [w_nt, h1])]; exact ⟨_, rfl, fun _ => rfl, fun q => (h1 q.1).elim⟩
 rw [br_f (by simp [w_nt, h1]), k_region_Valid hcl]
 by_cases h2 : RegOK c
 case neg => rw [br_t (by simp [w_nt, h2])]; exact ⟨_, rfl, fun _ => rfl, fun q => (h2 q.2).elim⟩
 rw [br_f (by simp [w_nt, h2])]
 by_cases h3 : r = []
 ·subst h3
  rw [br_t (by rfl)]
  exact ⟨_, rfl, fun q => (q ⟨h1, h2⟩).elim, fun _ => ⟨fun _ => rfl, fun q => (q rfl).elim, fun q => (q rfl).elim⟩⟩
 have hpos := List.length_pos_iff.2 h3
 rw [br_f (by rw [w_ln, w_eql, beq_eq_false_iff_ne]; omega)]
 by_cases h4 : c = []
 ·subst h4
  rw [br_t (by rfl)]
  exact ⟨_, rfl, fun q => (q ⟨h1, h2⟩).elim, fun _ => ⟨fun q => (h3 q).elim, fun _ _ => rfl, fun _ q => (q rfl).elim⟩⟩
 have hpos4 := List.length_pos_iff.2 h4
 rw [br_f (by rw [w_ln, w_eql, beq_eq_false_iff_ne]; omega)]
 have hB : ∀ k : Int, 0 ≤ k → k ≤ 100000 → ∃ T, @t_hatch_beyond wv (r, (c, k)) = some T ∧ (T = [] ↔ ∀ p, inReg r p → near c k p) := fun k hk1 hk2 => by
  obtain ⟨T, hT, hV, hin⟩ := beyond_ok r c k hl h1 hcl h2 (hr h1) (hc h2) ⟨hk1, hk2⟩
  refine ⟨T, hT, fun e p hp => ?_, fun q => ?_⟩
  ·by_cases hn : near c k p
   ·exact hn
   ·have := (hin p).2 ⟨hp, hn⟩
    rw [e] at this
    obtain ⟨w, hw, -⟩ := this
    cases hw
  ·exact empty_reg hV fun p hp => ((hin p).1 hp).2 (q p ((hin p).1 hp).1)
 have hloop : ∃ e, loopN (@t_hatch_Far_L0 wv) bigN ⟨0, ⟨8192, ⟨r, ⟨c, ()⟩⟩⟩⟩ = some e ∧ Least r c e.hd := by
  refine loop_meas (b := @t_hatch_Far_L0 wv) (fun s => ∃ lo hi : Nat, s = ⟨(lo : Int), ⟨(hi : Int), ⟨r, ⟨c, ()⟩⟩⟩⟩ ∧ lo ≤ hi ∧ hi ≤ 8192 ∧ (∀ p, inReg r p → near c hi p) ∧ ∀ k : Int, 0 ≤ k → (∀ p, inReg r p → near c k p) → (lo : Int) ≤ k) _ (fun s => (s.tl.hd - s.hd).toNat) ?_ ⟨0, 8192, rfl, by omega, by omega, fun p hp => ?_, fun k hk _ => by omega⟩ (by dsimp only; omega)
  ·rintro s ⟨lo, hi, rfl, hlo, hhi, hn, hmin⟩
   unfold t_hatch_Far_L0
   dsimp only
   by_cases hlt : lo < hi
   ·left
    have em : @W.ar wv .quo .i64 (@W.ar wv .add .i64 (lo : Int) (hi : Int)) 2 = (((lo + hi) / 2 : Nat) : Int) := by
     rw [w_add, show (lo : Int) + (hi : Int) = ((lo + hi : Nat) : Int) by omega]
     exact quo2 (lo + hi) (by omega)
    obtain ⟨T, hT, hiff⟩ := hB (((lo + hi) / 2 : Nat) : Int) (by omega) (by omega)
    rw [br_lt (by omega), gd_t (by rfl), em, k_beyond hT]
    by_cases hT0 : T = []
    ·rw [br_t (by rw [hT0]; rfl)]
     exact ⟨_, rfl, ⟨lo, (lo + hi) / 2, rfl, by omega, by omega, hiff.1 hT0, hmin⟩, by dsimp only; omega⟩
    ·have := List.length_pos_iff.2 hT0
     rw [br_f (by rw [w_ln, w_eql, beq_eq_false_iff_ne]; omega), w_add, wr (by omega) (by omega)]
     refine ⟨_, rfl, ⟨(lo + hi) / 2 + 1, hi, by simp only [Int.natCast_add]; rfl, by omega, hhi, hn, fun k hk hall => ?_⟩, by dsimp only; omega⟩
     by_cases q : k ≤ (((lo + hi) / 2 : Nat) : Int)
     ·exact (hT0 (hiff.2 fun p hp => near_mono q (hall p hp))).elim
     ·omega
   ·right
    have : lo = hi := by omega
    subst this
    rw [br_nlt (by omega)]
    exact ⟨_, rfl, by dsimp only; omega, hn, hmin⟩
  ·cases hcc : c with
   | nil => exact (h4 hcc).elim
   | cons w l =>
    have hw : w ∈ c := by rw [hcc]; exact List.mem_cons_self ..
    have hne := h2.ne w hw
    cases hrr : w.2 with
    | nil => exact (hne hrr).elim
    | cons u m =>
     have hu : u ∈ w.2 := by rw [hrr]; exact List.mem_cons_self ..
     have hb := (h2.rs w hw).bd u hu
     have hy := h2.y w hw
     have hp' := h1.bd hp
     refine ⟨(u.1, w.1), ⟨w, by rw [← hcc]; exact hw, rfl, u, hu, by dsimp only; omega, by dsimp only; omega⟩, dst_le.2 ?_⟩
     dsimp only
     omega
 obtain ⟨e, he, hq⟩ := hloop
 exact ⟨e.hd, lo_s he, fun q => (q ⟨h1, h2⟩).elim, fun _ => ⟨fun q => (h3 q).elim, fun _ q => (h4 q).elim, fun _ _ => hq⟩⟩
def grd (c : Cell) : Prop := -4096 ≤ c.1 ∧ c.1 < 4096 ∧ -4096 ≤ c.2 ∧ c.2 < 4096
theorem distance_ok (a b : Cell) (ha : grd a) (hb : grd b) : @t_additiveref29_distance wv (a, b) = some (dst a b) := by
 unfold grd at ha hb
 unfold t_additiveref29_distance
 dsimp only
 simp only [w_br, w_lss, w_gtr, w_sub, w_ng, decide_eq_true_eq]
 rw [wr (n := a.1 - b.1) (by omega) (by omega), wr (n := a.2 - b.2) (by omega) (by omega), wr (n := 0 - (a.1 - b.1)) (by omega) (by omega), wr (n := 0 - (a.2 - b.2)) (by omega) (by omega)]
 unfold dst
 (repeat' split) <;> congr 1 <;> omega
theorem k_distance {α : Type} {a b : Cell} (ha : grd a) (hb : grd b) (k : Int → Option α) : @W.call wv α c_additiveref29_distance (((a.1, a.2), (b.1, b.2)) : (Int × Int) × (Int × Int)) k = k (dst a b) := ca_s (c := c_additiveref29_distance) (distance_ok a b ha hb)
theorem nearest_ok (l : List Cell) (c : Cell) (hl : l.length ≤ 1000000000) (hne : l ≠ []) (hg : ∀ d ∈ l, grd d) (hc : grd c) : ∃ n, @t_additiveref29_nearest wv (l, c) = some n ∧ (∃ d ∈ l, dst d c = n) ∧ ∀ d ∈ l, n ≤ dst d c := by
 cases l with
 | nil => exact (hne rfl).elim
 | cons x l =>
  have hx := hg x (List.mem_cons_self ..)
  have hloop : ∃ e, loopN (@t_additiveref29_nearest_L0 wv) bigN ⟨x :: l, ⟨dst x c, ⟨1, ⟨c.1, ⟨c.2, ()⟩⟩⟩⟩⟩ = some e ∧ (∃ d ∈ x :: l, dst d c = e.hd) ∧ ∀ d ∈ x :: l, e.hd ≤ dst d c := by
   refine loop_inv (b := @t_additiveref29_nearest_L0 wv) (fun i s => ∃ n, s = ⟨x :: l, ⟨n, ⟨((i + 1 : Nat) : Int), ⟨c.1, ⟨c.2, ()⟩⟩⟩⟩⟩ ∧ (∃ d ∈ (x :: l).take (i + 1), dst d c = n) ∧ ∀ d ∈ (x :: l).take (i + 1), n ≤ dst d c) _ l.length (by simp at hl; omega) ⟨dst x c, rfl, ⟨x, by simp, rfl⟩, by simp⟩ ?_ ?_
   ·rintro i s hi ⟨n, rfl, ⟨d, hd, e⟩, hmin⟩
    have hy := List.getElem?_eq_getElem (l := x :: l) (i := i + 1) (by simp; omega)
    generalize ((x :: l)[i + 1]'(by simp; omega)) = y at hy
    have hyg := hg y (List.mem_of_getElem? hy)
    have htk := take_succ_of hy
    simp only [List.length_cons] at hl
    unfold t_additiveref29_nearest_L0
    dsimp only
    rw [w_ln, br_lt (by simp only [List.length_cons]; omega), ge_s (fg hy), k_distance hyg hc, w_add, wr (by omega) (by omega)]
    by_cases hlt : dst y c < n
    ·rw [br_lt hlt]
     refine ⟨_, rfl, dst y c, rfl, ⟨y, by rw [htk]; simp, rfl⟩, fun z hz => ?_⟩
     rw [htk] at hz
     rcases List.mem_append.1 hz with q | q
     ·have := hmin z q; omega
     ·rw [List.mem_singleton.1 q]; exact Int.le_refl _
    ·rw [br_nlt hlt]
     refine ⟨_, rfl, n, rfl, ⟨d, by rw [htk]; exact List.mem_append_left _ hd, e⟩, fun z hz => ?_⟩
     rw [htk] at hz
     rcases List.mem_append.1 hz with q | q
     ·exact hmin z q
     ·rw [List.mem_singleton.1 q]; omega
   ·rintro s ⟨n, rfl, h1, h2⟩
    unfold t_additiveref29_nearest_L0
    dsimp only
    rw [w_ln, br_nlt (by simp only [List.length_cons]; omega)]
    rw [List.take_of_length_le (by simp)] at h1 h2
    exact ⟨_, rfl, h1, h2⟩
  obtain ⟨e, he, hq⟩ := hloop
  refine ⟨e.hd, ?_, hq⟩
  unfold t_additiveref29_nearest
  dsimp only
  rw [ge_s (fg0 rfl), k_distance hx hc]
  exact lo_s he
theorem k_nearest {α : Type} {l : List Cell} {c : Cell} {n : Int} (h : @t_additiveref29_nearest wv (l, c) = some n) (k : Int → Option α) : @W.call wv α c_additiveref29_nearest ((l, (c.1, c.2)) : List (Int × Int) × (Int × Int)) k = k n := ca_s (c := c_additiveref29_nearest) h
open Classical in
theorem ref_Far_ok (r c : Reg) (hl : LimR r) (hcl : LimR c) (hr : RegOK r → (cellsC r).length ≤ 1000000) (hc : RegOK c → (cellsC c).length ≤ 1000000) :
  ∃ n, @t_additiveref29_Far wv (r, c) = some n ∧ (¬ (RegOK r ∧ RegOK c) → n = -1) ∧ (RegOK r ∧ RegOK c → (r = [] → n = 0) ∧ (r ≠ [] → c = [] → n = -1) ∧ (r ≠ [] → c ≠ [] → Least r c n)) := by
 unfold t_additiveref29_Far
 dsimp only
 rw [k_ref_Valid hl]
 by_cases h1 : RegOK r
 case neg => rw [br_t (by simp [w_nt, h1])]; exact ⟨_, rfl, fun _ => rfl, fun q => (h1 q.1).elim⟩
 rw [br_f (by simp [w_nt, h1]), k_ref_Valid hcl]
 by_cases h2 : RegOK c
 case neg => rw [br_t (by simp [w_nt, h2])]; exact ⟨_, rfl, fun _ => rfl, fun q => (h2 q.2).elim⟩
 have hr := hr h1
 have hc := hc h2
 rw [br_f (by simp [w_nt, h2]), k_ref_Cells hl (fun _ => by omega), if_pos h1, k_ref_Cells hcl (fun _ => by omega), if_pos h2]
 have hgr : ∀ d ∈ cellsC r, grd d := fun d hd => h1.bd (mem_cells.1 hd)
 have hgc : ∀ d ∈ cellsC c, grd d := fun d hd => h2.bd (mem_cells.1 hd)
 have some_cell : ∀ {t : Reg}, RegOK t → t ≠ [] → cellsC t ≠ [] := fun {t} ht hne e => hne (empty_reg ht fun p hp => by
  have := mem_cells.2 hp
  rw [e] at this
  cases this)
 by_cases h4 : c = []
 ·subst h4
  by_cases h3 : r = []
  ·subst h3
   have hloop : loopN (@t_additiveref29_Far_L0 wv) bigN ⟨cellsC [], ⟨cellsC [], ⟨0, ⟨0, ()⟩⟩⟩⟩ = some (.inr ⟨0, ()⟩) := loop_out (n := 18446744073709551615) rfl
   exact ⟨_, lo_s hloop, fun q => (q ⟨h1, h2⟩).elim, fun _ => ⟨fun _ => rfl, fun q => (q rfl).elim, fun q => (q rfl).elim⟩⟩
  ·have hne := List.length_pos_iff.2 (some_cell h1 h3)
   have hloop : loopN (@t_additiveref29_Far_L0 wv) bigN ⟨cellsC r, ⟨cellsC [], ⟨0, ⟨0, ()⟩⟩⟩⟩ = some (.inl ⟨-1, ()⟩) := by
    refine loop_out (n := 18446744073709551615) ?_
    unfold t_additiveref29_Far_L0
    dsimp only
    rw [w_ln, br_lt (by omega), br_t (by rfl)]
   exact ⟨_, lo_s hloop, fun q => (q ⟨h1, h2⟩).elim, fun _ => ⟨fun q => (h3 q).elim, fun _ _ => rfl, fun _ q => (q rfl).elim⟩⟩
 have hcne := some_cell h2 h4
 have hcpos := List.length_pos_iff.2 hcne
 have hloop : ∃ e, loopN (@t_additiveref29_Far_L0 wv) bigN ⟨cellsC r, ⟨cellsC c, ⟨0, ⟨0, ()⟩⟩⟩⟩ = some e ∧ ∃ n, e = .inr ⟨n, ()⟩ ∧ 0 ≤ n ∧ (∀ p ∈ cellsC r, near c n p) ∧ (n = 0 ∨ ∃ p ∈ cellsC r, ∀ k, near c k p → n ≤ k) := by
  refine loop_inv (b := @t_additiveref29_Far_L0 wv) (fun i s => ∃ n, s = ⟨cellsC r, ⟨cellsC c, ⟨n, ⟨(i : Int), ()⟩⟩⟩⟩ ∧ 0 ≤ n ∧ (∀ p ∈ (cellsC r).take i, near c n p) ∧ (n = 0 ∨ ∃ p ∈ (cellsC r).take i, ∀ k, near c k p → n ≤ k)) _ (cellsC r).length (by omega) ⟨0, rfl, by omega, by simp, .inl rfl⟩ ?_ ?_
  ·rintro i s hi ⟨n, rfl, hn0, hn1, hn2⟩
   have hx := List.getElem?_eq_getElem hi
   generalize (cellsC r)[i] = p at hx
   have hpg := hgr p (List.mem_of_getElem? hx)
   have htk := take_succ_of hx
   obtain ⟨m, hm, ⟨d, hd, e⟩, hmin⟩ := nearest_ok (cellsC c) p (by omega) hcne hgc hpg
   have hnm : near c m p := ⟨d, mem_cells.1 hd, by omega⟩
   have hlow : ∀ k, near c k p → m ≤ k := fun k ⟨d', h1', h2'⟩ => by have := hmin d' (mem_cells.2 h1'); omega
   have hd0 : 0 ≤ dst d p := by
    unfold dst
    omega
   have hm0 : 0 ≤ m := by omega
   unfold t_additiveref29_Far_L0
   dsimp only
   rw [w_ln, br_lt (by omega), br_f (by rw [w_ln, w_eql, beq_eq_false_iff_ne]; omega), ge_s (fg hx), k_nearest hm, w_add, wr (by omega) (by omega)]
   by_cases hgt : m > n
   ·rw [br_t (by rw [w_gtr]; exact decide_eq_true hgt)]
    refine ⟨_, rfl, m, rfl, hm0, fun q hq => ?_, .inr ⟨p, by rw [htk]; simp, hlow⟩⟩
    rw [htk] at hq
    rcases List.mem_append.1 hq with q1 | q1
    ·exact near_mono (by omega) (hn1 q q1)
    ·rw [List.mem_singleton.1 q1]; exact hnm
   ·rw [br_f (by rw [w_gtr]; exact decide_eq_false hgt)]
    refine ⟨_, rfl, n, rfl, hn0, fun q hq => ?_, ?_⟩
    ·rw [htk] at hq
     rcases List.mem_append.1 hq with q1 | q1
     ·exact hn1 q q1
     ·rw [List.mem_singleton.1 q1]; exact near_mono (by omega) hnm
    ·rcases hn2 with q | ⟨q, hq, q2⟩
     ·exact .inl q
     ·exact .inr ⟨q, by rw [htk]; exact List.mem_append_left _ hq, q2⟩
  ·rintro s ⟨n, rfl, hn0, hn1, hn2⟩
   unfold t_additiveref29_Far_L0
   dsimp only
   rw [w_ln, br_nlt (by omega)]
   rw [List.take_length] at hn1 hn2
   exact ⟨_, rfl, n, rfl, hn0, hn1, hn2⟩
 obtain ⟨e, he, n, rfl, hn0, hn1, hn2⟩ := hloop
 refine ⟨n, lo_s he, fun q => (q ⟨h1, h2⟩).elim, fun _ => ⟨fun q => ?_, fun _ q => (h4 q).elim, fun _ _ => ⟨hn0, fun p hp => hn1 p (mem_cells.2 hp), fun k hk hall => ?_⟩⟩⟩
 ·subst q
  rcases hn2 with q | ⟨p, hp, -⟩
  ·exact q
  ·cases hp
 ·rcases hn2 with q | ⟨p, hp, q⟩
  ·omega
  ·exact q k (hall p (mem_cells.1 hp))
theorem fars_true (r c : Reg) : @t_additivelaw29_HatchFars wv (r, c) = some true := by
 unfold t_additivelaw29_HatchFars
 dsimp only
 rw [k_few, k_few]
 have lim : ∀ r : Reg, RegOK (fewR r) → (cellsC (fewR r)).length ≤ 1000000 := fun r h => by have := fewR_cells r h; omega
 obtain ⟨n, hn, n1, n2⟩ := Far_ok (fewR r) (fewR c) (fewR_lim r) (fewR_lim c) (lim r) (lim c)
 obtain ⟨m, hm, m1, m2⟩ := ref_Far_ok (fewR r) (fewR c) (fewR_lim r) (fewR_lim c) (lim r) (lim c)
 have e : n = m := by
  by_cases h : RegOK (fewR r) ∧ RegOK (fewR c)
  ·obtain ⟨a1, a2, a3⟩ := n2 h
   obtain ⟨b1, b2, b3⟩ := m2 h
   by_cases h3 : fewR r = []
   ·rw [a1 h3, b1 h3]
   ·by_cases h4 : fewR c = []
    ·rw [a2 h3 h4, b2 h3 h4]
    ·exact least_uniq (a3 h3 h4) (b3 h3 h4)
  ·rw [n1 h, m1 h]
 subst e
 refine (ca_s (c := c_hatch_Far) hn).trans ?_
 refine (ca_s (c := c_additiveref29_Far) hm).trans ?_
 rw [br_t (by rw [w_eql]; simp), k_awake]
end Go.Proofs.YtaammoealihpmaaGreat
