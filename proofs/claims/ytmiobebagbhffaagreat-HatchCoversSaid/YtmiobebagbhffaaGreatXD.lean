/- Plain tools: what the words of the printed texts mean, loops. Conditions: none. -/
import Derived.Test.YtmiobebagbhffaaGreatFA
import Derived.Test.YtmiobebagbhffaaGreatXC
namespace Go.Dn
open Go Go.Vv Go.Dn.W
set_option linter.unusedVariables false
set_option linter.unusedSimpArgs false
section words
variable {α β : Type}
theorem w_br (c : Bool) (x y : Option α) : @W.br wv α c x y = if c = true then x else y := rfl
theorem w_gd (c : Bool) (x : Option α) : @W.gd wv α c x = if c = true then x else none := rfl
theorem w_ge (l : List β) (i : Int) (k : β → Option α) : @W.ge wv α β l i k = obind (fget l i) k := rfl
theorem w_call (c : Ctr) (a : c.aT.T) (k : c.rT.T → Option α) : @W.call wv α c a k = obind (c.fn a) k := rfl
theorem w_loop {A B : Type} (b : A → Option (Nx A B)) (a : A) (k : B → Option α) : @W.loop wv A B α b a k = obind (loopN b bigN a) k := rfl
theorem w_join {B : Type} (x : Option B) (k : B → Option α) : @W.join wv B α x k = obind x k := rfl
theorem jo_s {B : Type} {x : Option B} {k : B → Option α} {e : B} (h : x = some e) : @W.join wv B α x k = k e := by rw [w_join, h]; rfl
theorem w_ln (l : List α) : @W.ln wv α l = (l.length : Int) := rfl
theorem w_pl (a b : Int) : @W.pl wv a b = a + b := rfl
theorem w_ib (i n : Int) : @W.ib wv i n = decide (0 ≤ i ∧ i < n) := rfl
theorem w_le (a b : Int) : @W.le wv a b = decide (a ≤ b) := rfl
theorem w_ft (b : Nat) (n : Int) : @W.ft wv b n = decide (n * b ≤ room ∧ n ≤ 9223372036854775807) := rfl
theorem w_ap (l m : List α) : @W.ap wv α l m = l ++ m := rfl
theorem w_ct (l : List α) (a n : Int) : @W.ct wv α l a n = (l.drop a.toNat).take n.toNat := rfl
theorem w_st (l : List α) (i : Int) (x : α) : @W.st wv α l i x = l.set i.toNat x := rfl
theorem w_rp (x : α) (n : Int) : @W.rp wv α x n = List.replicate n.toNat x := rfl
theorem w_ml (l : List α) (f : α → α) : @W.ml wv α l f = modLast l f := rfl
theorem w_mx (a b : Int) : @W.mx wv a b = if b > a then b else a := rfl
theorem w_nt (a : Bool) : @W.nt wv a = !a := rfl
theorem w_an (a b : Bool) : @W.an wv a b = (a && b) := rfl
theorem w_nq (n : Int) (k : Bool → Option α) : @W.nq wv α n k = nlv n k := rfl
theorem w_add (a b : Int) : @W.ar wv .add .i64 a b = IntKind.wrap .i64 (a + b) := rfl
theorem w_sub (a b : Int) : @W.ar wv .sub .i64 a b = IntKind.wrap .i64 (a - b) := rfl
theorem w_mul (a b : Int) : @W.ar wv .mul .i64 a b = IntKind.wrap .i64 (a * b) := rfl
theorem w_rem (a b : Int) : @W.ar wv .rem .i64 a b = a.tmod b := rfl
theorem w_eql (a b : Int) : @W.cm wv .eql a b = (a == b) := rfl
theorem w_neq (a b : Int) : @W.cm wv .neq a b = (a != b) := rfl
theorem w_lss (a b : Int) : @W.cm wv .lss a b = decide (a < b) := rfl
theorem w_leq (a b : Int) : @W.cm wv .leq a b = decide (a ≤ b) := rfl
theorem w_gtr (a b : Int) : @W.cm wv .gtr a b = decide (a > b) := rfl
theorem w_geq (a b : Int) : @W.cm wv .geq a b = decide (a ≥ b) := rfl
theorem wr {n : Int} (h : -9223372036854775808 ≤ n) (h2 : n ≤ 9223372036854775807) : IntKind.wrap .i64 n = n := by
 rw [IntKind.wrap_i64, Int.emod_eq_of_lt] <;> omega
theorem fg {l : List α} {i : Nat} {x : α} (h : l[i]? = some x) : fget l (i : Int) = some x := by
 unfold fget
 rw [if_pos (by omega), Int.toNat_natCast, h]
theorem fgz {l : List α} {i : Int} (j : Nat) {x : α} (e : i = j) (h : l[j]? = some x) : fget l i = some x := by subst e; exact fg h
theorem fg0 {l : List α} {x : α} (h : l[0]? = some x) : fget l 0 = some x := fg h
theorem ge_s {l : List β} {i : Int} {k : β → Option α} {x : β} (h : fget l i = some x) : @W.ge wv α β l i k = k x := by rw [w_ge, h]; rfl
theorem ca_s {c : Ctr} {a : c.aT.T} {k : c.rT.T → Option α} {r : c.rT.T} (h : c.fn a = some r) : @W.call wv α c a k = k r := by rw [w_call, h]; rfl
theorem lo_s {A B : Type} {b : A → Option (Nx A B)} {a : A} {k : B → Option α} {e : B} (h : loopN b bigN a = some e) : @W.loop wv A B α b a k = k e := by rw [w_loop, h]; rfl
theorem br_t {c : Bool} {x y : Option α} (h : c = true) : @W.br wv α c x y = x := by rw [w_br, if_pos h]
theorem br_f {c : Bool} {x y : Option α} (h : c = false) : @W.br wv α c x y = y := by rw [w_br, h]; rfl
theorem gd_t {c : Bool} {x : Option α} (h : c = true) : @W.gd wv α c x = x := by rw [w_gd, if_pos h]
theorem br_lt {a b : Int} {x y : Option α} (h : a < b) : @W.br wv α (@W.cm wv .lss a b) x y = x := br_t (by rw [w_lss]; exact decide_eq_true h)
theorem br_nlt {a b : Int} {x y : Option α} (h : ¬ a < b) : @W.br wv α (@W.cm wv .lss a b) x y = y := br_f (by rw [w_lss]; exact decide_eq_false h)
theorem gd_ft {b : Nat} {n : Int} {x : Option α} (h : n * b ≤ room ∧ n ≤ 9223372036854775807) : @W.gd wv α (@W.ft wv b n) x = x := gd_t (by rw [w_ft]; exact decide_eq_true h)
theorem gd_ib {i n : Int} {x : Option α} (h : 0 ≤ i ∧ i < n) : @W.gd wv α (@W.ib wv i n) x = x := gd_t (by rw [w_ib]; exact decide_eq_true h)
end words
section loops
variable {A B : Type} {b : A → Option (Nx A B)}
theorem loop_go {n : Nat} {s s' : A} (h : b s = some (.go s')) : loopN b (n + 1) s = loopN b n s' := by simp only [loopN, h]
theorem loop_out {n : Nat} {s : A} {e : B} (h : b s = some (.out e)) : loopN b (n + 1) s = some e := by simp only [loopN, h]
theorem loop_stn (st : Nat → A) {e : B} : ∀ (k i N M : Nat), N = i + k → k < M → (∀ j, i ≤ j → j < N → b (st j) = some (.go (st (j + 1)))) → b (st N) = some (.out e) → loopN b M (st i) = some e
 | 0, i, N, M + 1, hN, hM, h1, h2 => by
  subst hN
  exact loop_out h2
 | k + 1, i, N, M + 1, hN, hM, h1, h2 => by
  rw [loop_go (h1 i (Nat.le_refl _) (by omega))]
  exact loop_stn st k (i + 1) N M (by omega) (by omega) (fun j hj => h1 j (by omega)) h2
theorem loop_st (st : Nat → A) (N : Nat) {e : B} (hN : N < 1000000000000) (h1 : ∀ i, i < N → b (st i) = some (.go (st (i + 1)))) (h2 : b (st N) = some (.out e)) : loopN b bigN (st 0) = some e :=
 loop_stn st N 0 N bigN (by omega) (by unfold bigN; omega) (fun j _ hj => h1 j hj) h2
open Classical in
theorem loop_all (st : Nat → A) (N : Nat) (hN : N < 1000000000000) (good : Nat → Prop) {bad fin : B}
  (h1 : ∀ i, i < N → (∀ j, j < i → good j) → (good i → b (st i) = some (.go (st (i + 1)))) ∧ (¬ good i → b (st i) = some (.out bad))) (h2 : (∀ i, i < N → good i) → b (st N) = some (.out fin)) :
  loopN b bigN (st 0) = some (if ∀ i, i < N → good i then fin else bad) := by
 by_cases hg : ∀ i, i < N → good i
 ·rw [if_pos hg]
  exact loop_st st N hN (fun i hi => (h1 i hi fun j hj => hg j (by omega)).1 (hg i hi)) (h2 hg)
 ·rw [if_neg hg]
  have : ∃ i, i < N ∧ ¬ good i ∧ ∀ j, j < i → good j := by
   simp only [Classical.not_forall] at hg
   obtain ⟨i, hi, hn⟩ := hg
   induction i using Nat.strongRecOn with
   | _ i ih =>
    by_cases h : ∀ j, j < i → good j
    ·exact ⟨i, hi, hn, h⟩
    ·simp only [Classical.not_forall] at h
     obtain ⟨j, hj, hnj⟩ := h
     exact ih j hj (by omega) hnj
  obtain ⟨i, hi, hn, hlt⟩ := this
  exact loop_st st i (by omega) (fun j hj => (h1 j (by omega) fun k hk => hlt k (by omega)).1 (hlt j hj)) ((h1 i hi hlt).2 hn)
theorem loop_find {α : Type} (l : List α) (hl : l.length < 1000000000000) (st : Nat → A) (p : α → Bool) (out : α → B) (nf : B)
  (h1 : ∀ i x, i < l.length → l[i]? = some x → b (st i) = if p x = true then some (.out (out x)) else some (.go (st (i + 1)))) (h2 : b (st l.length) = some (.out nf)) :
  loopN b bigN (st 0) = some (match l.find? p with | some x => out x | none => nf) := by
 have key : ∀ (m : List α) (i M : Nat), i + m.length = l.length → m.length < M → (∀ j, m[j]? = l[i + j]?) → loopN b M (st i) = some (match m.find? p with | some x => out x | none => nf) := by
  intro m
  induction m with
  | nil =>
   intro i M hi hM hm
   have : i = l.length := by simpa using hi
   subst this
   cases M with
   | zero => simp at hM
   | succ M => exact loop_out h2
  | cons x m ih =>
   intro i M hi hM hm
   simp only [List.length_cons] at hi hM
   have hx : l[i]? = some x := by have := hm 0; simpa using this.symm
   have := h1 i x (by omega) hx
   cases M with
   | zero => omega
   | succ M =>
    cases hp : p x with
    | true =>
     rw [hp, if_pos rfl] at this
     rw [loop_out this, List.find?_cons_of_pos (by exact hp)]
    | false =>
     rw [hp, if_neg (by simp)] at this
     rw [loop_go this, List.find?_cons_of_neg (by simp [hp])]
     exact ih (i + 1) M (by omega) (by omega) fun j => by have := hm (j + 1); rw [List.getElem?_cons_succ] at this; rw [this]; congr 1; omega
 exact key l 0 bigN (by simp) (by unfold bigN; omega) fun j => by simp
theorem loop_inv (I : Nat → A → Prop) (Q : B → Prop) (N : Nat) (hN : N < 1000000000000) {s0 : A} (h0 : I 0 s0) (h1 : ∀ i s, i < N → I i s → ∃ s', b s = some (.go s') ∧ I (i + 1) s') (h2 : ∀ s, I N s → ∃ e, b s = some (.out e) ∧ Q e) :
  ∃ e, loopN b bigN s0 = some e ∧ Q e := by
 have key : ∀ (k i M : Nat) (s : A), i + k = N → k < M → I i s → ∃ e, loopN b M s = some e ∧ Q e := by
  intro k
  induction k with
  | zero =>
   intro i M s hi hM hs
   have : i = N := by omega
   subst this
   obtain ⟨e, he, hq⟩ := h2 s hs
   cases M with
   | zero => omega
   | succ M => exact ⟨e, loop_out he, hq⟩
  | succ k ih =>
   intro i M s hi hM hs
   obtain ⟨s', hs', hi'⟩ := h1 i s (by omega) hs
   cases M with
   | zero => omega
   | succ M =>
    obtain ⟨e, he, hq⟩ := ih (i + 1) M s' (by omega) (by omega) hi'
    exact ⟨e, (loop_go hs').trans he, hq⟩
 exact key N 0 bigN s0 (by omega) (by unfold bigN; omega) h0
end loops
section lists
variable {α β : Type}
theorem take_succ_of {l : List α} {i : Nat} {x : α} (h : l[i]? = some x) : l.take (i + 1) = l.take i ++ [x] := by
 rw [List.take_add_one, h]; rfl
theorem flat_take {f : α → List β} {l : List α} {i : Nat} {x : α} (h : l[i]? = some x) : (l.take (i + 1)).flatMap f = (l.take i).flatMap f ++ f x := by
 rw [take_succ_of h, List.flatMap_append, List.flatMap_cons, List.flatMap_nil, List.append_nil]
theorem map_take_of {f : α → β} {l : List α} {i : Nat} {x : α} (h : l[i]? = some x) : (l.take (i + 1)).map f = (l.take i).map f ++ [f x] := by
 rw [take_succ_of h, List.map_append]; rfl
def rng (a : Int) (n : Nat) : List Int := (List.range n).map fun i : Nat => a + (i : Int)
theorem rng_succ (a : Int) (n : Nat) : rng a (n + 1) = rng a n ++ [a + (n : Int)] := by simp [rng, List.range_succ]
theorem rng_len (a : Int) (n : Nat) : (rng a n).length = n := by simp [rng]
theorem mem_rng {a x : Int} {n : Nat} : x ∈ rng a n ↔ a ≤ x ∧ x < a + n := by
 simp only [rng, List.mem_map, List.mem_range]
 constructor
 ·rintro ⟨i, hi, rfl⟩; omega
 ·intro h; exact ⟨(x - a).toNat, by omega, by omega⟩
theorem rng_cons (a : Int) (n : Nat) : rng a (n + 1) = a :: rng (a + 1) n := by
 simp only [rng, List.range_succ_eq_map, List.map_cons, List.map_map]
 congr 1
 ·simp
 ·apply List.map_congr_left
  intro i _
  simp only [Function.comp]
  omega
theorem rng_pw (a : Int) (n : Nat) : (rng a n).Pairwise (· < ·) := by
 induction n generalizing a with
 | zero => exact .nil
 | succ n ih =>
  rw [rng_cons]
  refine List.pairwise_cons.2 ⟨fun x hx => ?_, ih _⟩
  have := mem_rng.1 hx
  omega
theorem flat_len_le {f : α → List β} {l : List α} {n : Nat} (h : ∀ x ∈ l, (f x).length ≤ n) : (l.flatMap f).length ≤ l.length * n := by
 induction l with
 | nil => simp
 | cons x l ih =>
  have := h x (List.mem_cons_self ..)
  have := ih fun y hy => h y (List.mem_cons_of_mem _ hy)
  simp only [List.flatMap_cons, List.length_append, List.length_cons, Nat.add_mul]
  omega
theorem modLast_app (f : α → α) (x : α) : ∀ l : List α, modLast (l ++ [x]) f = l ++ [f x]
 | [] => rfl
 | [y] => rfl
 | y :: z :: l => by
  show y :: modLast (z :: (l ++ [x])) f = _
  rw [show z :: (l ++ [x]) = (z :: l) ++ [x] from rfl, modLast_app f x (z :: l)]
  rfl
theorem set_last (l : List α) (x y : α) : (l ++ [x]).set l.length y = l ++ [y] := by
 rw [List.set_append_right _ _ (Nat.le_refl _), Nat.sub_self]; rfl
theorem get_last (l : List α) (x : α) : (l ++ [x])[l.length]? = some x := by
 rw [List.getElem?_append_right (Nat.le_refl _), Nat.sub_self]; rfl
end lists
end Go.Dn
namespace Go.Dn
set_option linter.unusedVariables false
set_option linter.unusedSimpArgs false
abbrev Run := Int × Int
abbrev Row := Int × List Run
abbrev Reg := List Row
abbrev Cell := Int × Int
abbrev Track := Int × (Bool × List Cell)
structure RunsOK (lo hi : Int) (l : List Run) : Prop where
 bd : ∀ x ∈ l, lo ≤ x.1 ∧ x.1 < x.2 ∧ x.2 ≤ hi
 pw : l.Pairwise fun a b => a.2 < b.1
structure RegOK (r : Reg) : Prop where
 y : ∀ w ∈ r, -4096 ≤ w.1 ∧ w.1 < 4096
 pw : r.Pairwise fun a b => a.1 < b.1
 ne : ∀ w ∈ r, w.2 ≠ []
 rs : ∀ w ∈ r, RunsOK (-4096) 4096 w.2
def inRuns (l : List Run) (x : Int) : Prop := ∃ u ∈ l, u.1 ≤ x ∧ x < u.2
def inReg (r : Reg) (c : Cell) : Prop := ∃ w ∈ r, w.1 = c.2 ∧ inRuns w.2 c.1
def lineC (y : Int) (u : Run) : List Cell := (rng u.1 (u.2 - u.1).toNat).map fun x => (x, y)
def rowC (w : Row) : List Cell := w.2.flatMap (lineC w.1)
def cellsC (r : Reg) : List Cell := r.flatMap rowC
def yx (a b : Cell) : Prop := a.2 < b.2 ∨ (a.2 = b.2 ∧ a.1 < b.1)
theorem mem_line {y : Int} {u : Run} {c : Cell} : c ∈ lineC y u ↔ c.2 = y ∧ u.1 ≤ c.1 ∧ c.1 < u.2 := by
 simp only [lineC, List.mem_map, mem_rng]
 constructor
 ·rintro ⟨x, hx, rfl⟩; exact ⟨rfl, by omega, by omega⟩
 ·rintro ⟨rfl, h1, h2⟩; exact ⟨c.1, by omega, rfl⟩
theorem mem_row {w : Row} {c : Cell} : c ∈ rowC w ↔ c.2 = w.1 ∧ inRuns w.2 c.1 := by
 simp only [rowC, List.mem_flatMap, mem_line, inRuns]
 constructor
 ·rintro ⟨u, hu, h1, h2⟩; exact ⟨h1, u, hu, h2⟩
 ·rintro ⟨h1, u, hu, h2⟩; exact ⟨u, hu, h1, h2⟩
theorem mem_cells {r : Reg} {c : Cell} : c ∈ cellsC r ↔ inReg r c := by
 simp only [cellsC, List.mem_flatMap, mem_row, inReg]
 constructor
 ·rintro ⟨w, hw, h1, h2⟩; exact ⟨w, hw, h1.symm, h2⟩
 ·rintro ⟨w, hw, h1, h2⟩; exact ⟨w, hw, h1.symm, h2⟩
theorem RegOK.bd {r : Reg} (h : RegOK r) {c : Cell} (hc : inReg r c) : -4096 ≤ c.1 ∧ c.1 < 4096 ∧ -4096 ≤ c.2 ∧ c.2 < 4096 := by
 obtain ⟨w, hw, e, u, hu, h1, h2⟩ := hc
 have := (h.rs w hw).bd u hu
 have := h.y w hw
 omega
theorem line_pw (y : Int) (u : Run) : (lineC y u).Pairwise yx := by
 refine List.pairwise_map.2 ((rng_pw _ _).imp fun h => .inr ⟨rfl, h⟩)
theorem row_pw {lo hi : Int} {w : Row} (h : RunsOK lo hi w.2) : (rowC w).Pairwise yx := by
 refine List.pairwise_flatMap.2 ⟨fun u _ => line_pw _ _, h.pw.imp fun {a b} hab c hc d hd => ?_⟩
 have hc := mem_line.1 hc
 have hd := mem_line.1 hd
 exact .inr ⟨by omega, by omega⟩
theorem RegOK.cells_pw {r : Reg} (h : RegOK r) : (cellsC r).Pairwise yx := by
 refine List.pairwise_flatMap.2 ⟨fun w hw => row_pw (h.rs w hw), h.pw.imp fun {a b} hab c hc d hd => ?_⟩
 have hc := mem_row.1 hc
 have hd := mem_row.1 hd
 exact .inl (by omega)
theorem yx_irrefl (a : Cell) : ¬ yx a a := by unfold yx; omega
theorem strict_uniq {α : Type} {R : α → α → Prop} (asy : ∀ a b, R a b → ¬ R b a) : ∀ {l m : List α}, l.Pairwise R → m.Pairwise R → (∀ x, x ∈ l ↔ x ∈ m) → l = m
 | [], [], _, _, _ => rfl
 | [], y :: m, _, _, h => by have := (h y).2 (List.mem_cons_self ..); cases this
 | x :: l, [], _, _, h => by have := (h x).1 (List.mem_cons_self ..); cases this
 | x :: l, y :: m, h1, h2, h => by
  obtain ⟨p1, p2⟩ := List.pairwise_cons.1 h1
  obtain ⟨q1, q2⟩ := List.pairwise_cons.1 h2
  have e : x = y := by
   rcases List.mem_cons.1 ((h x).1 (List.mem_cons_self ..)) with e | hx
   ·exact e
   ·rcases List.mem_cons.1 ((h y).2 (List.mem_cons_self ..)) with e | hy
    ·exact e.symm
    ·exact (asy _ _ (p1 y hy) (q1 x hx)).elim
  subst e
  have irr : ∀ z, ¬ R z z := fun z hz => asy z z hz hz
  rw [strict_uniq asy p2 q2 fun z => ?_]
  constructor
  ·intro hz
   rcases List.mem_cons.1 ((h z).1 (List.mem_cons_of_mem _ hz)) with e | hz'
   ·subst e; exact (irr _ (p1 _ hz)).elim
   ·exact hz'
  ·intro hz
   rcases List.mem_cons.1 ((h z).2 (List.mem_cons_of_mem _ hz)) with e | hz'
   ·subst e; exact (irr _ (q1 _ hz)).elim
   ·exact hz'
theorem pw_adj {α : Type} {R : α → α → Prop} (tr : ∀ a b c, R a b → R b c → R a c) {l : List α} (h : ∀ i a b, l[i]? = some a → l[i + 1]? = some b → R a b) : l.Pairwise R := by
 induction l with
 | nil => exact .nil
 | cons x l ih =>
  have ih' := ih fun i a b ha hb => h (i + 1) a b (by simpa using ha) (by simpa using hb)
  refine List.pairwise_cons.2 ⟨fun y hy => ?_, ih'⟩
  cases l with
  | nil => cases hy
  | cons z l =>
   have hz : R x z := h 0 x z rfl rfl
   rcases List.mem_cons.1 hy with rfl | hy
   ·exact hz
   ·exact tr _ _ _ hz ((List.pairwise_cons.1 ih').1 y hy)
theorem adj_pw {α : Type} {R : α → α → Prop} {l : List α} (h : l.Pairwise R) {i : Nat} {a b : α} (ha : l[i]? = some a) (hb : l[i + 1]? = some b) : R a b := by
 have h1 := (List.getElem?_eq_some_iff.1 ha)
 have h2 := (List.getElem?_eq_some_iff.1 hb)
 obtain ⟨p1, e1⟩ := h1
 obtain ⟨p2, e2⟩ := h2
 have := List.pairwise_iff_getElem.1 h i (i + 1) p1 p2 (by omega)
 rwa [e1, e2] at this
theorem pw_cases {l : List Run} (hp : l.Pairwise fun a b => a.2 < b.1) {u v : Run} (hu : u ∈ l) (hv : v ∈ l) : u = v ∨ u.2 < v.1 ∨ v.2 < u.1 := by
 induction l with
 | nil => cases hu
 | cons x l ih =>
  obtain ⟨p1, p2⟩ := List.pairwise_cons.1 hp
  rcases List.mem_cons.1 hu with rfl | hu' <;> rcases List.mem_cons.1 hv with rfl | hv'
  ·exact .inl rfl
  ·exact .inr (.inl (p1 _ hv'))
  ·exact .inr (.inr (p1 _ hu'))
  ·exact ih p2 hu' hv'
theorem RunsOK.left {lo hi : Int} {l : List Run} (h : RunsOK lo hi l) {u : Run} (hu : u ∈ l) : ¬ inRuns l (u.1 - 1) := by
 rintro ⟨v, hv, h1, h2⟩
 have hub := h.bd u hu
 have hvb := h.bd v hv
 have hpw := h.pw
 rcases pw_cases hpw hu hv with e | e | e
 ·subst e; omega
 ·omega
 ·omega
theorem RunsOK.right {lo hi : Int} {l : List Run} (h : RunsOK lo hi l) {u : Run} (hu : u ∈ l) : ¬ inRuns l u.2 := by
 rintro ⟨v, hv, h1, h2⟩
 have hub := h.bd u hu
 have hvb := h.bd v hv
 rcases pw_cases h.pw hu hv with e | e | e
 ·subst e; omega
 ·omega
 ·omega
theorem RegOK.row_uniq {r : Reg} (h : RegOK r) {w v : Row} (hw : w ∈ r) (hv : v ∈ r) (e : w.1 = v.1) : w = v := by
 have hp := h.pw
 clear h
 induction r with
 | nil => cases hw
 | cons x l ih =>
  obtain ⟨p1, p2⟩ := List.pairwise_cons.1 hp
  rcases List.mem_cons.1 hw with rfl | hw' <;> rcases List.mem_cons.1 hv with rfl | hv'
  ·rfl
  ·have := p1 _ hv'; omega
  ·have := p1 _ hw'; omega
  ·exact ih hw' hv' p2
theorem RegOK.in_row {r : Reg} (h : RegOK r) {w : Row} (hw : w ∈ r) (x : Int) : inReg r (x, w.1) ↔ inRuns w.2 x := by
 constructor
 ·rintro ⟨v, hv, e, hx⟩
  rw [h.row_uniq hw hv e.symm]
  exact hx
 ·exact fun hx => ⟨w, hw, rfl, hx⟩
theorem runsOK_snoc {lo hi : Int} {l : List Run} {u : Run} : RunsOK lo hi (l ++ [u]) ↔ RunsOK lo hi l ∧ (lo ≤ u.1 ∧ u.1 < u.2 ∧ u.2 ≤ hi) ∧ ∀ v ∈ l, v.2 < u.1 := by
 constructor
 ·rintro ⟨h1, h2⟩
  obtain ⟨p1, p2, p3⟩ := List.pairwise_append.1 h2
  exact ⟨⟨fun x hx => h1 x (List.mem_append_left _ hx), p1⟩, h1 u (by simp), fun v hv => p3 v hv u (by simp)⟩
 ·rintro ⟨⟨h1, h2⟩, h3, h4⟩
  refine ⟨fun x hx => ?_, List.pairwise_append.2 ⟨h2, List.pairwise_singleton _ _, fun v hv w hw => ?_⟩⟩
  ·rcases List.mem_append.1 hx with h | h
   ·exact h1 x h
   ·rw [List.mem_singleton.1 h]; exact h3
  ·rw [List.mem_singleton.1 hw]; exact h4 v hv
theorem inRuns_snoc {l : List Run} {u : Run} {x : Int} : inRuns (l ++ [u]) x ↔ inRuns l x ∨ (u.1 ≤ x ∧ x < u.2) := by
 unfold inRuns
 constructor
 ·rintro ⟨v, hv, h⟩
  rcases List.mem_append.1 hv with q | q
  ·exact .inl ⟨v, q, h⟩
  ·rw [List.mem_singleton.1 q] at h; exact .inr h
 ·rintro (⟨v, hv, h⟩ | h)
  ·exact ⟨v, List.mem_append_left _ hv, h⟩
  ·exact ⟨u, by simp, h⟩
theorem regOK_snoc {l : Reg} {w : Row} : RegOK (l ++ [w]) ↔ RegOK l ∧ (-4096 ≤ w.1 ∧ w.1 < 4096) ∧ w.2 ≠ [] ∧ RunsOK (-4096) 4096 w.2 ∧ ∀ v ∈ l, v.1 < w.1 := by
 constructor
 ·rintro ⟨h1, h2, h3, h4⟩
  obtain ⟨p1, p2, p3⟩ := List.pairwise_append.1 h2
  exact ⟨⟨fun x hx => h1 x (List.mem_append_left _ hx), p1, fun x hx => h3 x (List.mem_append_left _ hx), fun x hx => h4 x (List.mem_append_left _ hx)⟩, h1 w (by simp), h3 w (by simp), h4 w (by simp), fun v hv => p3 v hv w (by simp)⟩
 ·rintro ⟨⟨h1, h2, h3, h4⟩, a, b, c, d⟩
  have key : ∀ {P : Row → Prop}, (∀ x ∈ l, P x) → P w → ∀ x ∈ l ++ [w], P x := fun hl hw x hx => by
   rcases List.mem_append.1 hx with h | h
   ·exact hl x h
   ·rw [List.mem_singleton.1 h]; exact hw
  exact ⟨key h1 a, List.pairwise_append.2 ⟨h2, List.pairwise_singleton _ _, fun v hv w' hw => by rw [List.mem_singleton.1 hw]; exact d v hv⟩, key h3 b, key h4 c⟩
theorem inReg_snoc {l : Reg} {w : Row} {c : Cell} : inReg (l ++ [w]) c ↔ inReg l c ∨ (w.1 = c.2 ∧ inRuns w.2 c.1) := by
 unfold inReg
 constructor
 ·rintro ⟨v, hv, h⟩
  rcases List.mem_append.1 hv with q | q
  ·exact .inl ⟨v, q, h⟩
  ·rw [List.mem_singleton.1 q] at h; exact .inr h
 ·rintro (⟨v, hv, h⟩ | h)
  ·exact ⟨v, List.mem_append_left _ hv, h⟩
  ·exact ⟨w, by simp, h⟩
end Go.Dn
namespace Go.Proofs.YtmiobebagbhffaaGreat
open Go Go.Vv Go.Dn Go.Dn.W
set_option linter.unusedVariables false
set_option linter.unusedSimpArgs false
set_option maxRecDepth 100000
theorem region_ok_ok (x : Int) : @t_region_ok wv x = some (decide (-4096 ≤ x ∧ x < 4096)) := by
 simp only [t_region_ok, w_br, w_geq, w_lss, decide_eq_true_eq]
 split <;> simp <;> omega
theorem k_region_ok {α : Type} (x : Int) (k : Bool → Option α) : @W.call wv α c_region_ok x k = k (decide (-4096 ≤ x ∧ x < 4096)) := ca_s (c := c_region_ok) (region_ok_ok x)
theorem runs_fits_ok (x : Int × Int) : @t_runs_fits wv x = some (decide (-1048576 ≤ x.1 ∧ x.1 ≤ 1048576 ∧ -1048576 ≤ x.2 ∧ x.2 ≤ 1048576)) := by
 simp only [t_runs_fits, w_br, w_geq, w_leq, decide_eq_true_eq]
 (repeat' split) <;> first | exact congrArg some (decide_eq_decide.2 (by omega)) | exact congrArg some (decide_eq_false (by omega)).symm
theorem k_runs_fits {α : Type} (x : Int × Int) (k : Bool → Option α) : @W.call wv α c_runs_fits x k = k (decide (-1048576 ≤ x.1 ∧ x.1 ≤ 1048576 ∧ -1048576 ≤ x.2 ∧ x.2 ≤ 1048576)) := ca_s (c := c_runs_fits) (runs_fits_ok x)
def goodRun (lo hi : Int) (l : List Run) (i : Nat) : Prop := ∀ x, l[i]? = some x → lo ≤ x.1 ∧ x.1 < x.2 ∧ x.2 ≤ hi ∧ ∀ p, 0 < i → l[i - 1]? = some p → p.2 < x.1
theorem runsOK_iff (lo hi : Int) (l : List Run) : (∀ i, i < l.length → goodRun lo hi l i) ↔ RunsOK lo hi l := by
 constructor
 ·intro h
  have key : ∀ (i : Nat) (x : Run), l[i]? = some x → lo ≤ x.1 ∧ x.1 < x.2 ∧ x.2 ≤ hi ∧ ∀ p, 0 < i → l[i - 1]? = some p → p.2 < x.1 := fun i x hx => h i (List.getElem?_eq_some_iff.1 hx).1 x hx
  refine ⟨fun x hx => ?_, ?_⟩
  ·obtain ⟨i, hi⟩ := List.mem_iff_getElem?.1 hx
   have := key i x hi
   omega
  ·have hp : (l.Pairwise fun a b => (a.1 < a.2 ∧ b.1 < b.2 ∧ a.2 < b.1)) := pw_adj (fun a b c h1 h2 => by omega) fun i a b ha hb => by
    have h1 := key i a ha
    have h2 := key (i + 1) b hb
    have h3 := h2.2.2.2 a (by omega) (by simpa using ha)
    omega
   exact hp.imp fun h => h.2.2
 ·rintro ⟨h1, h2⟩ i hi x hx
  have hb := h1 x (List.mem_of_getElem? hx)
  refine ⟨hb.1, hb.2.1, hb.2.2, fun p h0 hp => ?_⟩
  exact adj_pw h2 hp (by rwa [Nat.sub_add_cancel h0])
open Classical in
theorem runs_Valid_ok (l : List Run) (hl : l.length ≤ 1000000000) : @t_runs_Valid wv l = some (decide (RunsOK (-1048576) 1048576 l)) := by
 have hloop := loop_all (b := @t_runs_Valid_L0 wv) (bad := .inl ()) (fin := .inr ()) (fun i => ⟨l, ⟨l, ⟨(l.length : Int), ⟨(i : Int), ()⟩⟩⟩⟩) l.length (by omega) (goodRun (-1048576) 1048576 l) (fun i hi _ => by
  have hx := List.getElem?_eq_getElem hi
  have hb : @t_runs_Valid_L0 wv ⟨l, ⟨l, ⟨(l.length : Int), ⟨(i : Int), ()⟩⟩⟩⟩ = if goodRun (-1048576) 1048576 l i then some (.go ⟨l, ⟨l, ⟨(l.length : Int), ⟨((i + 1 : Nat) : Int), ()⟩⟩⟩⟩) else some (.out (.inl ())) := by
   unfold t_runs_Valid_L0
   dsimp only
   rw [br_lt (by omega), ge_s (fg hx)]
   simp only [w_br, w_geq, w_gtr, w_leq, w_add, w_nt, k_runs_fits, decide_eq_true_eq, Bool.not_eq_true', decide_eq_false_iff_not]
   rw [wr (by omega) (by omega)]
   by_cases h0 : 0 < i
   ·have hp := List.getElem?_eq_getElem (l := l) (i := i - 1) (by omega)
    rw [ge_s (fgz (i - 1) (by rw [w_sub, wr (by omega) (by omega)]; omega) hp)]
    have hg : goodRun (-1048576) 1048576 l i ↔ -1048576 ≤ l[i].1 ∧ l[i].1 < l[i].2 ∧ l[i].2 ≤ 1048576 ∧ (l[i - 1]'(by omega)).2 < l[i].1 := by
     constructor
     ·intro h; have := h _ hx; exact ⟨this.1, this.2.1, this.2.2.1, this.2.2.2 _ h0 hp⟩
     ·rintro ⟨a, b, c, d⟩ x hx'
      rw [hx] at hx'; injection hx' with e; subst e
      exact ⟨a, b, c, fun p _ hp' => by rw [hp] at hp'; injection hp' with e; subst e; exact d⟩
    simp only [hg]
    (repeat' split) <;> first | rfl | omega
   ·have hg : goodRun (-1048576) 1048576 l i ↔ -1048576 ≤ l[i].1 ∧ l[i].1 < l[i].2 ∧ l[i].2 ≤ 1048576 := by
     constructor
     ·intro h; have := h _ hx; exact ⟨this.1, this.2.1, this.2.2.1⟩
     ·rintro ⟨a, b, c⟩ x hx'
      rw [hx] at hx'; injection hx' with e; subst e
      exact ⟨a, b, c, fun p h => (h0 h).elim⟩
    simp only [hg]
    (repeat' split) <;> first | rfl | omega
  rw [hb]
  exact ⟨fun h => if_pos h, fun h => if_neg h⟩) (fun _ => by unfold t_runs_Valid_L0; dsimp only; rw [br_nlt (by omega)])
 refine (lo_s hloop).trans ?_
 by_cases h : RunsOK (-1048576) 1048576 l
 ·rw [if_pos ((runsOK_iff _ _ _).2 h), decide_eq_true h]
 ·rw [if_neg fun q => h ((runsOK_iff _ _ _).1 q), decide_eq_false h]
open Classical in
theorem k_runs_Valid {α : Type} {l : List Run} (hl : l.length ≤ 1000000000) (k : Bool → Option α) : @W.call wv α c_runs_Valid l k = k (decide (RunsOK (-1048576) 1048576 l)) := ca_s (c := c_runs_Valid) (runs_Valid_ok l hl)
def LimR (r : Reg) : Prop := r.length ≤ 1000000000 ∧ ∀ w ∈ r, w.2.length ≤ 1000000000
theorem runs_first {lo hi : Int} {l : List Run} (h : RunsOK lo hi l) {x0 : Run} (h0 : l[0]? = some x0) : ∀ x ∈ l, x0.1 ≤ x.1 := by
 cases l with
 | nil => simp at h0
 | cons y l =>
  simp only [List.getElem?_cons_zero, Option.some.injEq] at h0
  subst h0
  intro x hx
  rcases List.mem_cons.1 hx with rfl | hx'
  ·omega
  ·have := (List.pairwise_cons.1 h.pw).1 x hx'
   have := h.bd y (List.mem_cons_self ..)
   omega
theorem runs_last {lo hi : Int} {l : List Run} (h : RunsOK lo hi l) {x1 : Run} (h1 : l[l.length - 1]? = some x1) : ∀ x ∈ l, x.2 ≤ x1.2 := by
 intro x hx
 have hm := List.mem_of_getElem? h1
 obtain ⟨i, hi⟩ := List.mem_iff_getElem?.1 hx
 obtain ⟨p1, e1⟩ := List.getElem?_eq_some_iff.1 hi
 obtain ⟨p2, e2⟩ := List.getElem?_eq_some_iff.1 h1
 have hb := h.bd x1 hm
 by_cases e : i = l.length - 1
 ·subst e
  rw [hi] at h1
  injection h1 with h1
  subst h1
  omega
 ·have := List.pairwise_iff_getElem.1 h.pw i (l.length - 1) p1 p2 (by omega)
  rw [e1, e2] at this
  omega
def goodRow (r : Reg) (i : Nat) : Prop := ∀ w, r[i]? = some w → -4096 ≤ w.1 ∧ w.1 < 4096 ∧ w.2 ≠ [] ∧ RunsOK (-4096) 4096 w.2 ∧ ∀ p, 0 < i → r[i - 1]? = some p → p.1 < w.1
theorem regOK_iff (r : Reg) : (∀ i, i < r.length → goodRow r i) ↔ RegOK r := by
 constructor
 ·intro h
  have key : ∀ (i : Nat) (w : Row), r[i]? = some w → -4096 ≤ w.1 ∧ w.1 < 4096 ∧ w.2 ≠ [] ∧ RunsOK (-4096) 4096 w.2 ∧ ∀ p, 0 < i → r[i - 1]? = some p → p.1 < w.1 := fun i x hx => h i (List.getElem?_eq_some_iff.1 hx).1 x hx
  have km : ∀ w ∈ r, -4096 ≤ w.1 ∧ w.1 < 4096 ∧ w.2 ≠ [] ∧ RunsOK (-4096) 4096 w.2 := fun w hw => by
   obtain ⟨i, hi⟩ := List.mem_iff_getElem?.1 hw
   have := key i w hi
   exact ⟨this.1, this.2.1, this.2.2.1, this.2.2.2.1⟩
  exact ⟨fun w hw => ⟨(km w hw).1, (km w hw).2.1⟩, pw_adj (fun a b c h1 h2 => by omega) fun i a b ha hb => (key (i + 1) b hb).2.2.2.2 a (by omega) (by simpa using ha), fun w hw => (km w hw).2.2.1, fun w hw => (km w hw).2.2.2⟩
 ·intro h i hi w hw
  have hm := List.mem_of_getElem? hw
  exact ⟨(h.y w hm).1, (h.y w hm).2, h.ne w hm, h.rs w hm, fun p h0 hp => adj_pw h.pw hp (by rwa [Nat.sub_add_cancel h0])⟩
theorem runs_ends {l : List Run} {x0 x1 : Run} (h0 : l[0]? = some x0) (h1 : l[l.length - 1]? = some x1) : RunsOK (-4096) 4096 l ↔ RunsOK (-1048576) 1048576 l ∧ (-4096 ≤ x0.1 ∧ x0.1 < 4096) ∧ (-4096 ≤ x1.2 - 1 ∧ x1.2 - 1 < 4096) := by
 constructor
 ·intro h
  have a := h.bd x0 (List.mem_of_getElem? h0)
  have b := h.bd x1 (List.mem_of_getElem? h1)
  exact ⟨⟨fun x hx => by have := h.bd x hx; omega, h.pw⟩, by omega, by omega⟩
 ·rintro ⟨h, a, b⟩
  exact ⟨fun x hx => by
   have q1 := runs_first h h0 x hx
   have q2 := runs_last h h1 x hx
   have := h.bd x hx
   omega, h.pw⟩
open Classical in
theorem region_Valid_ok (r : Reg) (hl : LimR r) : @t_region_Valid wv r = some (decide (RegOK r)) := by
 have hloop := loop_all (b := @t_region_Valid_L0 wv) (bad := .inl ()) (fin := .inr ()) (fun i => ⟨r, ⟨(r.length : Int), ⟨(i : Int), ⟨r, ()⟩⟩⟩⟩) r.length (by have := hl.1; omega) (goodRow r) (fun i hi _ => by
  have hx := List.getElem?_eq_getElem hi
  have hL := hl.1
  have hb : @t_region_Valid_L0 wv ⟨r, ⟨(r.length : Int), ⟨(i : Int), ⟨r, ()⟩⟩⟩⟩ = if goodRow r i then some (.go ⟨r, ⟨(r.length : Int), ⟨((i + 1 : Nat) : Int), ⟨r, ()⟩⟩⟩⟩) else some (.out (.inl ())) := by
   generalize hw : r[i] = w at hx
   have hwm := List.mem_of_getElem? hx
   have hLw := hl.2 w hwm
   unfold t_region_Valid_L0
   dsimp only
   rw [br_lt (by omega), ge_s (fg hx)]
   have tail : letI : W := wv; ∀ X : Option (Nx _ (Unit ⊕ Unit)), (br (cm .eql (ln w.2) 0) (some (.out (.inl ()))) (call c_runs_Valid (w.2 : (List (Int × Int))) fun (v3 : Bool) => br (nt v3) (some (.out (.inl ()))) (ge w.2 0 fun v4 => call c_region_ok (v4.1 : Int) fun (v5 : Bool) => br (nt v5) (some (.out (.inl ())))
     (ge w.2 (ar .sub .i64 (ln w.2) 1) fun v6 => call c_region_ok ((ar .sub .i64 v6.2 1) : Int) fun (v7 : Bool) => br (nt v7) (some (.out (.inl ()))) X))) : Option (Nx (HP (List (Int × (List (Int × Int)))) (HP Int (HP Int (HP (List (Int × (List (Int × Int)))) Unit)))) (Unit ⊕ Unit))) = if w.2 ≠ [] ∧ RunsOK (-4096) 4096 w.2 then X else some (.out (.inl ())) := by
    intro X
    cases hr : w.2 with
    | nil => rfl
    | cons u l =>
     rw [hr] at hLw
     have e0 : (u :: l)[0]? = some u := rfl
     have e1 : (u :: l)[(u :: l).length - 1]? = some ((u :: l)[(u :: l).length - 1]'(by simp)) := List.getElem?_eq_getElem _
     generalize ((u :: l)[(u :: l).length - 1]'(by simp)) = x1 at e1
     have hlen : (0 : Int) < ((u :: l).length : Int) := by simp only [List.length_cons]; omega
     rw [br_f (by simp only [w_eql, w_ln, beq_eq_false_iff_ne]; omega), k_runs_Valid hLw]
     by_cases hV : RunsOK (-1048576) 1048576 (u :: l)
     ·have hx1 := hV.bd x1 (List.mem_of_getElem? e1)
      rw [br_f (by simp [w_nt, hV]), ge_s (fg0 e0), k_region_ok, ge_s (fgz ((u :: l).length - 1) (by rw [w_sub, w_ln, wr (by omega) (by omega)]; omega) e1), k_region_ok, w_sub, wr (by omega) (by omega)]
      have he := runs_ends e0 e1
      simp only [ne_eq, reduceCtorEq, not_false_iff, true_and, he, w_br, w_nt, Bool.not_eq_true', decide_eq_false_iff_not, hV]
      (repeat' split) <;> first | rfl | omega
     ·rw [br_t (by simp [w_nt, hV]), if_neg]
      rintro ⟨-, h⟩
      exact hV ((runs_ends e0 e1).1 h).1
   rw [tail]
   simp only [k_region_ok, w_br, w_gtr, w_leq, w_nt, w_add, decide_eq_true_eq, Bool.not_eq_true', decide_eq_false_iff_not]
   rw [wr (by omega) (by omega)]
   by_cases h0 : 0 < i
   ·have hp := List.getElem?_eq_getElem (l := r) (i := i - 1) (by omega)
    generalize r[i - 1] = p at hp
    rw [ge_s (fgz (i - 1) (by rw [w_sub, wr (by omega) (by omega)]; omega) hp)]
    have hg : goodRow r i ↔ (-4096 ≤ w.1 ∧ w.1 < 4096) ∧ (w.2 ≠ [] ∧ RunsOK (-4096) 4096 w.2) ∧ p.1 < w.1 := by
     constructor
     ·intro h; have := h _ hx; exact ⟨⟨this.1, this.2.1⟩, ⟨this.2.2.1, this.2.2.2.1⟩, this.2.2.2.2 _ h0 hp⟩
     ·rintro ⟨⟨a, b⟩, ⟨c, d⟩, e⟩ x hx'
      rw [hx] at hx'; injection hx' with q; subst q
      exact ⟨a, b, c, d, fun p' _ hp' => by rw [hp] at hp'; injection hp' with q; subst q; exact e⟩
    simp only [hg]
    by_cases hT : w.2 ≠ [] ∧ RunsOK (-4096) 4096 w.2
    ·simp only [hT, and_self, true_and, if_true, ne_eq, not_false_iff]
     (repeat' split) <;> first | rfl | omega
    ·simp only [hT, false_and, and_false, if_false]
     (repeat' split) <;> first | rfl | omega
   ·have hg : goodRow r i ↔ (-4096 ≤ w.1 ∧ w.1 < 4096) ∧ (w.2 ≠ [] ∧ RunsOK (-4096) 4096 w.2) := by
     constructor
     ·intro h; have := h _ hx; exact ⟨⟨this.1, this.2.1⟩, ⟨this.2.2.1, this.2.2.2.1⟩⟩
     ·rintro ⟨⟨a, b⟩, ⟨c, d⟩⟩ x hx'
      rw [hx] at hx'; injection hx' with q; subst q
      exact ⟨a, b, c, d, fun p' h => (h0 h).elim⟩
    simp only [hg]
    by_cases hT : w.2 ≠ [] ∧ RunsOK (-4096) 4096 w.2
    ·simp only [hT, and_self, and_true, if_true, ne_eq, not_false_iff]
     (repeat' split) <;> first | rfl | omega
    ·simp only [hT, and_false, if_false]
     (repeat' split) <;> first | rfl | omega
  rw [hb]
  exact ⟨fun h => if_pos h, fun h => if_neg h⟩) (fun _ => by unfold t_region_Valid_L0; dsimp only; rw [br_nlt (by omega)])
 unfold t_region_Valid
 refine (lo_s hloop).trans ?_
 by_cases h : RegOK r
 ·rw [if_pos ((regOK_iff _).2 h), decide_eq_true h]
 ·rw [if_neg fun q => h ((regOK_iff _).1 q), decide_eq_false h]
open Classical in
theorem k_region_Valid {α : Type} {r : Reg} (hl : LimR r) (k : Bool → Option α) : @W.call wv α c_region_Valid r k = k (decide (RegOK r)) := ca_s (c := c_region_Valid) (region_Valid_ok r hl)
end Go.Proofs.YtmiobebagbhffaaGreat
namespace Go.Proofs.YtmiobebagbhffaaGreat
open Go Go.Vv Go.Dn Go.Dn.W
set_option linter.unusedVariables false
set_option linter.unusedSimpArgs false
set_option maxRecDepth 100000
open Classical in
theorem fine_ok (l : List Run) (hl : l.length ≤ 1000000000) : @t_additiveref18_fine wv l = some (decide (l ≠ [] ∧ RunsOK (-4096) 4096 l)) := by
 have hloop := loop_all (b := @t_additiveref18_fine_L0 wv) (bad := .inl ()) (fin := .inr ⟨l, ()⟩) (fun i => ⟨l, ⟨(i : Int), ()⟩⟩) l.length (by omega) (goodRun (-4096) 4096 l) (fun i hi _ => by
  have hx := List.getElem?_eq_getElem hi
  have hb : @t_additiveref18_fine_L0 wv ⟨l, ⟨(i : Int), ()⟩⟩ = if goodRun (-4096) 4096 l i then some (.go ⟨l, ⟨((i + 1 : Nat) : Int), ()⟩⟩) else some (.out (.inl ())) := by
   generalize hu : l[i] = u at hx
   unfold t_additiveref18_fine_L0
   dsimp only
   simp only [ge_s (fg hx)]
   rw [w_ln, br_lt (by omega)]
   simp only [w_br, w_geq, w_gtr, w_leq, w_lss, w_add, decide_eq_true_eq]
   rw [wr (by omega) (by omega)]
   by_cases h0 : 0 < i
   ·have hp := List.getElem?_eq_getElem (l := l) (i := i - 1) (by omega)
    generalize l[i - 1] = p at hp
    rw [ge_s (fgz (i - 1) (by rw [w_sub, wr (by omega) (by omega)]; omega) hp)]
    have hg : goodRun (-4096) 4096 l i ↔ -4096 ≤ u.1 ∧ u.1 < u.2 ∧ u.2 ≤ 4096 ∧ p.2 < u.1 := by
     constructor
     ·intro h; have := h _ hx; exact ⟨this.1, this.2.1, this.2.2.1, this.2.2.2 _ h0 hp⟩
     ·rintro ⟨a, b, c, d⟩ x hx'
      rw [hx] at hx'; injection hx' with e; subst e
      exact ⟨a, b, c, fun p _ hp' => by rw [hp] at hp'; injection hp' with e; subst e; exact d⟩
    simp only [hg]
    (repeat' split) <;> first | rfl | omega
   ·have hg : goodRun (-4096) 4096 l i ↔ -4096 ≤ u.1 ∧ u.1 < u.2 ∧ u.2 ≤ 4096 := by
     constructor
     ·intro h; have := h _ hx; exact ⟨this.1, this.2.1, this.2.2.1⟩
     ·rintro ⟨a, b, c⟩ x hx'
      rw [hx] at hx'; injection hx' with e; subst e
      exact ⟨a, b, c, fun p h => (h0 h).elim⟩
    simp only [hg]
    (repeat' split) <;> first | rfl | omega
  rw [hb]
  exact ⟨fun h => if_pos h, fun h => if_neg h⟩) (fun _ => by unfold t_additiveref18_fine_L0; dsimp only; rw [w_ln, br_nlt (by omega)])
 unfold t_additiveref18_fine
 refine (lo_s hloop).trans ?_
 by_cases h : RunsOK (-4096) 4096 l
 ·rw [if_pos ((runsOK_iff _ _ _).2 h)]
  show some (decide ((l.length : Int) > 0)) = _
  congr 1
  rw [decide_eq_decide]
  cases l <;> simp [h]
 ·rw [if_neg fun q => h ((runsOK_iff _ _ _).1 q), decide_eq_false fun q => h q.2]
open Classical in
theorem k_fine {α : Type} {l : List Run} (hl : l.length ≤ 1000000000) (k : Bool → Option α) : @W.call wv α c_additiveref18_fine l k = k (decide (l ≠ [] ∧ RunsOK (-4096) 4096 l)) := ca_s (c := c_additiveref18_fine) (fine_ok l hl)
open Classical in
theorem ref_Valid_ok (r : Reg) (hl : LimR r) : @t_additiveref18_Valid wv r = some (decide (RegOK r)) := by
 have hloop := loop_all (b := @t_additiveref18_Valid_L0 wv) (bad := .inl ()) (fin := .inr ()) (fun i => ⟨(i : Int), ⟨r, ()⟩⟩) r.length (by have := hl.1; omega) (goodRow r) (fun i hi _ => by
  have hx := List.getElem?_eq_getElem hi
  have hL := hl.1
  have hb : @t_additiveref18_Valid_L0 wv ⟨(i : Int), ⟨r, ()⟩⟩ = if goodRow r i then some (.go ⟨((i + 1 : Nat) : Int), ⟨r, ()⟩⟩) else some (.out (.inl ())) := by
   generalize hw : r[i] = w at hx
   have hLw := hl.2 w (List.mem_of_getElem? hx)
   unfold t_additiveref18_Valid_L0
   dsimp only
   simp only [ge_s (fg hx)]
   rw [w_ln, br_lt (by omega)]
   simp only [w_br, w_geq, w_gtr, w_leq, w_lss, w_add, w_nt, k_fine hLw, decide_eq_true_eq, Bool.not_eq_true', decide_eq_false_iff_not]
   rw [wr (by omega) (by omega)]
   by_cases h0 : 0 < i
   ·have hp := List.getElem?_eq_getElem (l := r) (i := i - 1) (by omega)
    generalize r[i - 1] = p at hp
    rw [ge_s (fgz (i - 1) (by rw [w_sub, wr (by omega) (by omega)]; omega) hp)]
    have hg : goodRow r i ↔ (-4096 ≤ w.1 ∧ w.1 < 4096) ∧ (w.2 ≠ [] ∧ RunsOK (-4096) 4096 w.2) ∧ p.1 < w.1 := by
     constructor
     ·intro h; have := h _ hx; exact ⟨⟨this.1, this.2.1⟩, ⟨this.2.2.1, this.2.2.2.1⟩, this.2.2.2.2 _ h0 hp⟩
     ·rintro ⟨⟨a, b⟩, ⟨c, d⟩, e⟩ x hx'
      rw [hx] at hx'; injection hx' with q; subst q
      exact ⟨a, b, c, d, fun p' _ hp' => by rw [hp] at hp'; injection hp' with q; subst q; exact e⟩
    simp only [hg]
    by_cases hT : w.2 ≠ [] ∧ RunsOK (-4096) 4096 w.2
    ·simp only [hT, and_self, true_and, if_true, ne_eq, not_false_iff, not_true_eq_false, if_false]
     (repeat' split) <;> first | rfl | omega
    ·simp only [hT, false_and, and_false, if_false, not_false_iff, if_true]
     (repeat' split) <;> first | rfl | omega
   ·have hg : goodRow r i ↔ (-4096 ≤ w.1 ∧ w.1 < 4096) ∧ (w.2 ≠ [] ∧ RunsOK (-4096) 4096 w.2) := by
     constructor
     ·intro h; have := h _ hx; exact ⟨⟨this.1, this.2.1⟩, ⟨this.2.2.1, this.2.2.2.1⟩⟩
     ·rintro ⟨⟨a, b⟩, ⟨c, d⟩⟩ x hx'
      rw [hx] at hx'; injection hx' with q; subst q
      exact ⟨a, b, c, d, fun p' h => (h0 h).elim⟩
    simp only [hg]
    by_cases hT : w.2 ≠ [] ∧ RunsOK (-4096) 4096 w.2
    ·simp only [hT, and_self, and_true, if_true, ne_eq, not_false_iff, not_true_eq_false, if_false]
     (repeat' split) <;> first | rfl | omega
    ·simp only [hT, and_false, if_false, not_false_iff, if_true]
     (repeat' split) <;> first | rfl | omega
  rw [hb]
  exact ⟨fun h => if_pos h, fun h => if_neg h⟩) (fun _ => by unfold t_additiveref18_Valid_L0; dsimp only; rw [w_ln, br_nlt (by omega)])
 unfold t_additiveref18_Valid
 refine (lo_s hloop).trans ?_
 by_cases h : RegOK r
 ·rw [if_pos ((regOK_iff _).2 h), decide_eq_true h]
 ·rw [if_neg fun q => h ((regOK_iff _).1 q), decide_eq_false h]
open Classical in
theorem k_ref_Valid {α : Type} {r : Reg} (hl : LimR r) (k : Bool → Option α) : @W.call wv α c_additiveref18_Valid r k = k (decide (RegOK r)) := ca_s (c := c_additiveref18_Valid) (ref_Valid_ok r hl)
def rowAt (r : Reg) (y : Int) : List Run := match r.find? (fun w => w.1 == y) with | some w => w.2 | none => []
theorem ref_Row_ok (r : Reg) (y : Int) (hl : LimR r) : @t_additiveref18_Row wv (r, y) = some (rowAt r y) := by
 have hloop := loop_find (b := @t_additiveref18_Row_L0 wv) r (by have := hl.1; omega) (fun i => ⟨y, ⟨(i : Int), ⟨r, ()⟩⟩⟩) (fun w => w.1 == y) (fun w => .inl ⟨w.2, ()⟩) (.inr ()) (fun i w hi hw => by
  have hL := hl.1
  unfold t_additiveref18_Row_L0
  dsimp only
  simp only [ge_s (fg hw)]
  rw [w_ln, br_lt (by omega), w_add, wr (by omega) (by omega), w_br]
  rfl) (by unfold t_additiveref18_Row_L0; dsimp only; rw [w_ln, br_nlt (by omega)])
 unfold t_additiveref18_Row
 refine (lo_s hloop).trans ?_
 unfold rowAt
 cases r.find? fun w => w.1 == y <;> rfl
theorem k_ref_Row {α : Type} {r : Reg} {y : Int} (hl : LimR r) (k : List Run → Option α) : @W.call wv α c_additiveref18_Row ((r, y) : List (Int × List (Int × Int)) × Int) k = k (rowAt r y) := ca_s (c := c_additiveref18_Row) (ref_Row_ok r y hl)
theorem rowAt_lim {r : Reg} (hl : LimR r) (y : Int) : (rowAt r y).length ≤ 1000000000 := by
 unfold rowAt
 cases h : r.find? fun w => w.1 == y with
 | none => simp
 | some w => exact hl.2 w (List.mem_of_find?_eq_some h)
theorem rowAt_iff {r : Reg} (h : RegOK r) (c : Cell) : inRuns (rowAt r c.2) c.1 ↔ inReg r c := by
 unfold rowAt
 cases hf : r.find? fun w => w.1 == c.2 with
 | none =>
  constructor
  ·rintro ⟨u, hu, -⟩; cases hu
  ·rintro ⟨w, hw, e, -⟩
   have := List.find?_eq_none.1 hf w hw
   simp [e] at this
 | some w =>
  have hw := List.mem_of_find?_eq_some hf
  have e : w.1 = c.2 := by have := List.find?_some hf; simpa using this
  have := h.in_row hw c.1
  rw [e] at this
  exact this.symm
open Classical in
theorem inside_ok (l : List Run) (x : Int) (hl : l.length ≤ 1000000000) : @t_additiveref18_inside wv (l, x) = some (decide (inRuns l x)) := by
 have hloop := loop_find (b := @t_additiveref18_inside_L0 wv) l (by omega) (fun i => ⟨l, ⟨x, ⟨(i : Int), ()⟩⟩⟩) (fun u => decide (u.1 ≤ x) && decide (x < u.2)) (fun w => .inl ()) (.inr ()) (fun i w hi hw => by
  unfold t_additiveref18_inside_L0
  dsimp only
  simp only [ge_s (fg hw)]
  rw [w_ln, br_lt (by omega), w_add, wr (by omega) (by omega)]
  simp only [w_br, w_leq, w_lss, decide_eq_true_eq, Bool.and_eq_true]
  (repeat' split) <;> first | rfl | omega) (by unfold t_additiveref18_inside_L0; dsimp only; rw [w_ln, br_nlt (by omega)])
 unfold t_additiveref18_inside
 refine (lo_s hloop).trans ?_
 cases hf : l.find? fun u => decide (u.1 ≤ x) && decide (x < u.2) with
 | none =>
  show some false = _
  rw [decide_eq_false]
  rintro ⟨u, hu, h⟩
  have := List.find?_eq_none.1 hf u hu
  simp at this
  omega
 | some w =>
  show some true = _
  rw [decide_eq_true]
  have := List.find?_some hf
  simp at this
  exact ⟨w, List.mem_of_find?_eq_some hf, by omega⟩
open Classical in
theorem k_inside {α : Type} {l : List Run} {x : Int} (hl : l.length ≤ 1000000000) (k : Bool → Option α) : @W.call wv α c_additiveref18_inside ((l, x) : List (Int × Int) × Int) k = k (decide (inRuns l x)) := ca_s (c := c_additiveref18_inside) (inside_ok l x hl)
open Classical in
theorem ref_Contains_ok (r : Reg) (c : Cell) (hl : LimR r) : @t_additiveref18_Contains wv (r, c) = some (decide (RegOK r ∧ inReg r c)) := by
 unfold t_additiveref18_Contains
 dsimp only
 rw [k_ref_Valid hl]
 by_cases h : RegOK r
 ·rw [br_t (by simp [h]), k_ref_Row hl, k_inside (rowAt_lim hl _)]
  simp only [h, rowAt_iff h, true_and]
 ·rw [br_f (by simp [h]), decide_eq_false fun q => h q.1]
open Classical in
theorem k_ref_Contains {α : Type} {r : Reg} {c : Cell} (hl : LimR r) (k : Bool → Option α) : @W.call wv α c_additiveref18_Contains ((r, c) : List (Int × List (Int × Int)) × (Int × Int)) k = k (decide (RegOK r ∧ inReg r c)) := ca_s (c := c_additiveref18_Contains) (ref_Contains_ok r c hl)
end Go.Proofs.YtmiobebagbhffaaGreat
namespace Go.Proofs.YtmiobebagbhffaaGreat
open Go Go.Vv Go.Dn Go.Dn.W
set_option linter.unusedVariables false
set_option linter.unusedSimpArgs false
set_option maxRecDepth 100000
theorem fitB {α : Type} {b : Nat} {n : Int} {x : Option α} (h : n ≤ 1000000001) (h0 : 0 ≤ n) (hb : b ≤ 64) : @W.gd wv α (@W.ft wv b n) x = x := by
 refine gd_ft ⟨?_, by omega⟩
 have : n * (b : Int) ≤ 1000000001 * 64 := Int.mul_le_mul h (by omega) (by omega) (by omega)
 unfold room
 omega
theorem fit16 {α : Type} {n : Int} {x : Option α} (h : n ≤ 1000000001) (h0 : 0 ≤ n) : @W.gd wv α (@W.ft wv 16 n) x = x := fitB h h0 (by decide)
theorem fit40 {α : Type} {n : Int} {x : Option α} (h : n ≤ 1000000001) (h0 : 0 ≤ n) : @W.gd wv α (@W.ft wv 40 n) x = x := fitB h h0 (by decide)
theorem fit32 {α : Type} {n : Int} {x : Option α} (h : n ≤ 1000000001) (h0 : 0 ≤ n) : @W.gd wv α (@W.ft wv 32 n) x = x := fitB h h0 (by decide)
theorem lineC_len (y : Int) (u : Run) : (lineC y u).length = (u.2 - u.1).toNat := by simp [lineC, rng_len]
theorem lineC_succ (y a : Int) (n : Nat) : ((rng a (n + 1)).map fun x => ((x, y) : Cell)) = ((rng a n).map fun x => ((x, y) : Cell)) ++ [(a + (n : Int), y)] := by rw [rng_succ, List.map_append]; rfl
theorem line_ok (y a b : Int) (h1 : -4611686018427387904 ≤ a) (h2 : b ≤ 4611686018427387904) (h3 : b - a ≤ 1000000000) : @t_hatch_line wv (y, (a, b)) = some (lineC y (a, b)) := by
 have hloop := loop_st (b := @t_hatch_line_L0 wv) (e := ⟨lineC y (a, b), ()⟩) (fun i => ⟨y, ⟨a + (i : Int), ⟨a, ⟨b, ⟨(rng a i).map fun x => (x, y), ()⟩⟩⟩⟩⟩) (b - a).toNat (by omega) (fun i hi => by
  unfold t_hatch_line_L0
  dsimp only
  rw [br_lt (by omega), w_ln, w_pl, fit16 (by rw [List.length_map, rng_len]; omega) (by omega), w_add, wr (by omega) (by omega), w_ap, lineC_succ, show a + (i : Int) + 1 = a + ((i + 1 : Nat) : Int) by omega]) (by unfold t_hatch_line_L0; dsimp only; rw [br_nlt (by omega)]; rfl)
 unfold t_hatch_line
 have e0 : a + ((0 : Nat) : Int) = a := by omega
 simp only [e0] at hloop
 exact lo_s hloop
theorem k_line {α : Type} {y a b : Int} (h1 : -4611686018427387904 ≤ a) (h2 : b ≤ 4611686018427387904) (h3 : b - a ≤ 1000000000) (k : List (Int × Int) → Option α) : @W.call wv α c_hatch_line ((y, (a, b)) : Int × (Int × Int)) k = k (lineC y (a, b)) := ca_s (c := c_hatch_line) (line_ok y a b h1 h2 h3)
theorem rowC_take {w : Row} {k : Nat} {u : Run} (h : w.2[k]? = some u) : (w.2.take (k + 1)).flatMap (lineC w.1) = (w.2.take k).flatMap (lineC w.1) ++ lineC w.1 u := flat_take h
theorem flat_take_le {α β : Type} (f : α → List β) (l : List α) (k : Nat) : ((l.take k).flatMap f).length ≤ (l.flatMap f).length := by
 conv => rhs; rw [← List.take_append_drop k l, List.flatMap_append, List.length_append]
 omega
theorem flat_mem_le {α β : Type} (f : α → List β) {l : List α} {x : α} {k : Nat} (h : l[k]? = some x) : ((l.take k).flatMap f).length + (f x).length ≤ (l.flatMap f).length := by
 have := flat_take_le f l (k + 1)
 rw [flat_take h, List.length_append] at this
 exact this
theorem cells_le {r : Reg} {w : Row} {u : Run} {i k : Nat} (hw : r[i]? = some w) (hu : w.2[k]? = some u) : ((r.take i).flatMap rowC).length + ((w.2.take k).flatMap (lineC w.1)).length + (lineC w.1 u).length ≤ (cellsC r).length := by
 have h1 := flat_mem_le rowC hw
 have h2 := flat_mem_le (lineC w.1) hu
 unfold cellsC
 have : (rowC w).length = (w.2.flatMap (lineC w.1)).length := rfl
 omega
open Classical in
theorem region_Cells_ok (r : Reg) (hl : LimR r) (hc : RegOK r → (cellsC r).length ≤ 1000000000) : @t_region_Cells wv r = some (if RegOK r then cellsC r else []) := by
 unfold t_region_Cells
 rw [k_region_Valid hl]
 by_cases h : RegOK r
 case neg => rw [br_t (by simp [w_nt, h]), if_neg h]
 rw [br_f (by simp [w_nt, h]), if_pos h]
 have hL := hl.1
 have hc := hc h
 have hloop := loop_st (b := @t_region_Cells_L0 wv) (e := ⟨cellsC r, ()⟩) (fun i => ⟨r, ⟨(r.length : Int), ⟨(i : Int), ⟨(r.take i).flatMap rowC, ()⟩⟩⟩⟩) r.length (by omega) (fun i hi => by
  have hw := List.getElem?_eq_getElem hi
  generalize r[i] = w at hw
  have hLw := hl.2 w (List.mem_of_getElem? hw)
  have hinner := loop_st (b := @t_region_Cells_L1 wv) (e := ⟨r, ⟨(r.length : Int), ⟨(i : Int), ⟨(r.take i).flatMap rowC ++ rowC w, ()⟩⟩⟩⟩) (fun k => ⟨r, ⟨(r.length : Int), ⟨(i : Int), ⟨w.2, ⟨(w.2.length : Int), ⟨(k : Int), ⟨w.1, ⟨w.2, ⟨(r.take i).flatMap rowC ++ (w.2.take k).flatMap (lineC w.1), ()⟩⟩⟩⟩⟩⟩⟩⟩⟩) w.2.length (by omega) (fun k hk => by
   have hu := List.getElem?_eq_getElem hk
   generalize w.2[k] = u at hu
   have hb := (h.rs w (List.mem_of_getElem? hw)).bd u (List.mem_of_getElem? hu)
   have hle := cells_le hw hu
   rw [lineC_len] at hle
   have hin := loop_st (b := @t_region_Cells_L2 wv) (e := ⟨r, ⟨(r.length : Int), ⟨(i : Int), ⟨w.2, ⟨(w.2.length : Int), ⟨(k : Int), ⟨w.1, ⟨w.2, ⟨(r.take i).flatMap rowC ++ (w.2.take k).flatMap (lineC w.1) ++ lineC w.1 u, ()⟩⟩⟩⟩⟩⟩⟩⟩⟩)
    (fun j => ⟨u.1 + (j : Int), ⟨r, ⟨(r.length : Int), ⟨(i : Int), ⟨w.2, ⟨(w.2.length : Int), ⟨(k : Int), ⟨w.1, ⟨w.2, ⟨u.1, ⟨u.2, ⟨(r.take i).flatMap rowC ++ (w.2.take k).flatMap (lineC w.1) ++ (rng u.1 j).map fun x => (x, w.1), ()⟩⟩⟩⟩⟩⟩⟩⟩⟩⟩⟩⟩) (u.2 - u.1).toNat (by omega) (fun j hj => by
    unfold t_region_Cells_L2
    dsimp only
    rw [br_lt (by omega), w_ln, w_pl, fit16 (by simp only [List.length_append, List.length_map, rng_len]; omega) (by omega), w_add, wr (by omega) (by omega), w_ap, lineC_succ, show u.1 + (j : Int) + 1 = u.1 + ((j + 1 : Nat) : Int) by omega, List.append_assoc _ _ [_]]) (by
    unfold t_region_Cells_L2
    dsimp only
    rw [br_nlt (by omega)]
    rfl)
   have e0 : u.1 + ((0 : Nat) : Int) = u.1 := by omega
   simp only [e0, rng, List.range_zero, List.map_nil, List.append_nil] at hin
   unfold t_region_Cells_L1
   dsimp only
   rw [br_lt (by omega), ge_s (fg hu), lo_s hin]
   dsimp only
   rw [w_add, wr (by omega) (by omega), rowC_take hu, List.append_assoc]
   rfl) (by
   unfold t_region_Cells_L1
   dsimp only
   rw [br_nlt (by omega), List.take_length]
   rfl)
  simp only [List.take_zero, List.flatMap_nil, List.append_nil] at hinner
  unfold t_region_Cells_L0
  dsimp only
  rw [br_lt (by omega), ge_s (fg hw)]
  refine (lo_s hinner).trans ?_
  dsimp only
  rw [w_add, wr (by omega) (by omega), flat_take hw]
  rfl) (by unfold t_region_Cells_L0; dsimp only; rw [br_nlt (by omega), List.take_length]; rfl)
 exact lo_s hloop
open Classical in
theorem k_region_Cells {α : Type} {r : Reg} (hl : LimR r) (hc : RegOK r → (cellsC r).length ≤ 1000000000) (k : List (Int × Int) → Option α) : @W.call wv α c_region_Cells r k = k (if RegOK r then cellsC r else []) := ca_s (c := c_region_Cells) (region_Cells_ok r hl hc)
end Go.Proofs.YtmiobebagbhffaaGreat
namespace Go.Proofs.YtmiobebagbhffaaGreat
open Go Go.Vv Go.Dn Go.Dn.W
set_option linter.unusedVariables false
set_option linter.unusedSimpArgs false
set_option maxRecDepth 100000
theorem tmod_cases (n : Int) {b : Int} (hb : 0 < b) : (n.tmod b = n % b ∨ n.tmod b = n % b - b) ∧ 0 ≤ n % b ∧ n % b < b ∧ -b < n.tmod b ∧ n.tmod b < b := by
 have h1 := Int.lt_tmod_of_pos n hb
 have h2 := Int.tmod_lt_of_pos n hb
 have h3 := Int.emod_nonneg n (show b ≠ 0 by omega)
 have h4 := Int.emod_lt_of_pos n hb
 have h5 := Int.tmod_eq_emod (a := n) (b := b)
 refine ⟨?_, h3, h4, h1, h2⟩
 split at h5
 ·left; omega
 ·right; rw [h5]; omega
theorem rest_ok (n b : Int) (h1 : 1 ≤ b) (h2 : b ≤ 1000000) : @t_hatch_rest wv (n, b) = some (n % b) := by
 obtain ⟨hc, a1, a2, a3, a4⟩ := tmod_cases n (b := b) (by omega)
 unfold t_hatch_rest
 dsimp only
 have hb : @W.cm wv .neq b 0 = true := by rw [w_neq]; simp; omega
 rw [gd_t hb, gd_t hb, w_rem, w_rem, w_add, wr (by omega) (by omega), Int.tmod_eq_emod_of_nonneg (by omega), Int.add_emod_right]
 congr 1
 rcases hc with e | e
 ·rw [e, Int.emod_emod_of_dvd _ (Int.dvd_refl b)]
 ·rw [e, ← Int.add_emod_right, Int.sub_add_cancel, Int.emod_emod_of_dvd _ (Int.dvd_refl b)]
theorem k_rest {α : Type} {n b : Int} (h1 : 1 ≤ b) (h2 : b ≤ 1000000) (k : Int → Option α) : @W.call wv α c_hatch_rest ((n, b) : Int × Int) k = k (n % b) := ca_s (c := c_hatch_rest) (rest_ok n b h1 h2)
theorem hits_ok (y s p : Int) (h1 : 1 ≤ s) (h2 : s ≤ 1000000) : @t_hatch_hits wv (y, (s, p)) = some (decide (y % s = p % s)) := by
 unfold t_hatch_hits
 dsimp only
 rw [k_rest h1 h2, k_rest h1 h2, w_eql]
 congr 1
theorem k_hits {α : Type} {y s p : Int} (h1 : 1 ≤ s) (h2 : s ≤ 1000000) (k : Bool → Option α) : @W.call wv α c_hatch_hits ((y, (s, p)) : Int × (Int × Int)) k = k (decide (y % s = p % s)) := ca_s (c := c_hatch_hits) (hits_ok y s p h1 h2)
theorem spaced_ok (s : Int) : @t_hatch_spaced wv s = some (decide (1 ≤ s ∧ s ≤ 64)) := by
 simp only [t_hatch_spaced, w_br, w_geq, w_leq, decide_eq_true_eq]
 split <;> first | exact congrArg some (decide_eq_decide.2 (by omega)) | exact congrArg some (decide_eq_false (by omega)).symm
theorem k_spaced {α : Type} (s : Int) (k : Bool → Option α) : @W.call wv α c_hatch_spaced s k = k (decide (1 ≤ s ∧ s ≤ 64)) := ca_s (c := c_hatch_spaced) (spaced_ok s)
def trk (y : Int) (u : Run) : Track := (4, (false, lineC y u))
def rowT (s p : Int) (w : Row) : List Track := if w.1 % s = p % s then w.2.map (trk w.1) else []
def rowsT (r : Reg) (s p : Int) : List Track := r.flatMap (rowT s p)
theorem runs_le_cells {r : Reg} (h : RegOK r) {w : Row} (hw : w ∈ r) (k : Nat) : (w.2.take k).length ≤ ((w.2.take k).flatMap (lineC w.1)).length := by
 have hb := (h.rs w hw).bd
 have : ∀ l : List Run, (∀ u ∈ l, u ∈ w.2) → l.length ≤ (l.flatMap (lineC w.1)).length := by
  intro l
  induction l with
  | nil => intro _; simp
  | cons u l ih =>
   intro hm
   have h1 := ih fun v hv => hm v (List.mem_cons_of_mem _ hv)
   have h2 := hb u (hm u (List.mem_cons_self ..))
   simp only [List.flatMap_cons, List.length_append, List.length_cons, lineC_len]
   omega
 exact this _ fun u hu => List.mem_of_mem_take hu
theorem rowT_le {r : Reg} (h : RegOK r) (s p : Int) {w : Row} (hw : w ∈ r) : (rowT s p w).length ≤ (rowC w).length := by
 have := runs_le_cells h hw w.2.length
 rw [List.take_length] at this
 unfold rowT
 split
 ·simp only [List.length_map]; exact this
 ·simp
theorem rowsT_take_le {r : Reg} (h : RegOK r) (s p : Int) (i : Nat) : ((r.take i).flatMap (rowT s p)).length ≤ ((r.take i).flatMap rowC).length := by
 have : ∀ l : Reg, (∀ w ∈ l, w ∈ r) → (l.flatMap (rowT s p)).length ≤ (l.flatMap rowC).length := by
  intro l
  induction l with
  | nil => intro _; simp
  | cons u l ih =>
   intro hm
   have h1 := ih fun v hv => hm v (List.mem_cons_of_mem _ hv)
   have h2 := rowT_le h s p (hm u (List.mem_cons_self ..))
   simp only [List.flatMap_cons, List.length_append]
   omega
 exact this _ fun u hu => List.mem_of_mem_take hu
theorem Rows_loop (r : Reg) (s p : Int) (hl : LimR r) (hc : (cellsC r).length ≤ 1000000000) (h : RegOK r) (hs : 1 ≤ s ∧ s ≤ 64) : loopN (@t_hatch_Rows_L0 wv) bigN ⟨s, ⟨p, ⟨r, ⟨(r.length : Int), ⟨0, ⟨[], ()⟩⟩⟩⟩⟩⟩ = some ⟨rowsT r s p, ()⟩ := by
 have hL := hl.1
 exact loop_st (b := @t_hatch_Rows_L0 wv) (e := ⟨rowsT r s p, ()⟩) (fun i => ⟨s, ⟨p, ⟨r, ⟨(r.length : Int), ⟨(i : Int), ⟨(r.take i).flatMap (rowT s p), ()⟩⟩⟩⟩⟩⟩) r.length (by omega) (fun i hi => by
  have hw := List.getElem?_eq_getElem hi
  generalize r[i] = w at hw
  have hwm := List.mem_of_getElem? hw
  have hLw := hl.2 w hwm
  unfold t_hatch_Rows_L0
  dsimp only
  rw [br_lt (by omega), ge_s (fg hw), k_hits hs.1 (by omega), w_add, flat_take hw]
  by_cases hh : w.1 % s = p % s
  ·rw [br_f (by simp [w_nt, hh])]
   have hin := loop_st (b := @t_hatch_Rows_L1 wv) (e := ⟨s, ⟨p, ⟨r, ⟨(r.length : Int), ⟨(i : Int), ⟨(r.take i).flatMap (rowT s p) ++ w.2.map (trk w.1), ()⟩⟩⟩⟩⟩⟩)
    (fun k => ⟨s, ⟨p, ⟨r, ⟨(r.length : Int), ⟨(i : Int), ⟨w.2, ⟨(w.2.length : Int), ⟨(k : Int), ⟨(r.take i).flatMap (rowT s p) ++ (w.2.take k).map (trk w.1), ⟨w.1, ⟨w.2, ()⟩⟩⟩⟩⟩⟩⟩⟩⟩⟩⟩) w.2.length (by omega) (fun k hk => by
    have hu := List.getElem?_eq_getElem hk
    generalize w.2[k] = u at hu
    have hb := (h.rs w hwm).bd u (List.mem_of_getElem? hu)
    have q1 := rowsT_take_le h s p i
    have q2 := runs_le_cells h hwm k
    have q3 := cells_le hw hu
    unfold t_hatch_Rows_L1
    dsimp only
    rw [br_lt (by omega), ge_s (fg hu), k_line (by omega) (by omega) (by omega), w_ln, w_pl, fit40 (by simp only [List.length_append, List.length_map]; omega) (by omega), w_add, wr (by omega) (by omega), w_ap, map_take_of hu, List.append_assoc]
    rfl) (by
    unfold t_hatch_Rows_L1
    dsimp only
    rw [br_nlt (by omega), List.take_length])
   simp only [List.take_zero, List.map_nil, List.append_nil] at hin
   refine (lo_s hin).trans ?_
   dsimp only
   rw [w_add, wr (by omega) (by omega), rowT, if_pos hh]
   rfl
  ·rw [br_t (by simp [w_nt, hh]), wr (by omega) (by omega), rowT, if_neg hh, List.append_nil]
   rfl) (by unfold t_hatch_Rows_L0; dsimp only; rw [br_nlt (by omega), List.take_length]; rfl)
open Classical in
theorem Rows_ok (r : Reg) (s p : Int) (hl : LimR r) (hc : RegOK r → (cellsC r).length ≤ 1000000000) : @t_hatch_Rows wv (r, (s, p)) = some (if RegOK r ∧ 1 ≤ s ∧ s ≤ 64 then rowsT r s p else []) := by
 unfold t_hatch_Rows
 dsimp only
 rw [k_region_Valid hl]
 by_cases h : RegOK r
 case neg => rw [br_t (by simp [w_nt, h]), if_neg fun q => h q.1]
 rw [br_f (by simp [w_nt, h]), k_spaced]
 by_cases hs : 1 ≤ s ∧ s ≤ 64
 case neg => rw [br_t (by simp [w_nt]; omega), if_neg fun q => hs q.2]
 rw [br_f (by simp [w_nt]; omega), if_pos ⟨h, hs⟩]
 exact lo_s (Rows_loop r s p hl (hc h) h hs)
open Classical in
theorem k_Rows {α : Type} {r : Reg} {s p : Int} (hl : LimR r) (hc : RegOK r → (cellsC r).length ≤ 1000000000) (k : List (Int × (Bool × List (Int × Int))) → Option α) : @W.call wv α c_hatch_Rows ((r, (s, p)) : List (Int × List (Int × Int)) × (Int × Int)) k = k (if RegOK r ∧ 1 ≤ s ∧ s ≤ 64 then rowsT r s p else []) := ca_s (c := c_hatch_Rows) (Rows_ok r s p hl hc)
theorem run_ok (r : Reg) (dx dy : Int) (hl : LimR r) (h : RegOK r) (hd : -1 ≤ dx ∧ dx ≤ 1 ∧ -1 ≤ dy ∧ dy ≤ 1) (q : Nat → Cell) (hq : ∀ i, q (i + 1) = ((q i).1 + dx, (q i).2 + dy)) (n : Nat) (hn : n ≤ 1000000000) (hin : ∀ i, i < n → inReg r (q i)) (hout : ¬ inReg r (q n)) :
  @t_additiveref29_run wv (r, (q 0, (dx, dy))) = some ((List.range n).map q) := by
 have hloop := loop_st (b := @t_additiveref29_run_L0 wv) (e := ⟨(List.range n).map q, ()⟩) (fun i => ⟨dx, ⟨dy, ⟨r, ⟨(q i).1, ⟨(q i).2, ⟨(List.range i).map q, ()⟩⟩⟩⟩⟩⟩) n (by omega) (fun i hi => by
  have hi' := hin i hi
  have hb := h.bd hi'
  unfold t_additiveref29_run_L0
  dsimp only
  rw [k_ref_Contains hl, br_t (by simp [h, hi']), w_ln, w_pl, fit16 (by rw [List.length_map, List.length_range]; omega) (by omega), w_add, w_add, wr (by omega) (by omega), wr (by omega) (by omega), w_ap, hq i, List.range_succ, List.map_append]
  rfl) (by
  unfold t_additiveref29_run_L0
  dsimp only
  rw [k_ref_Contains hl, br_f (by simp [h, hout])])
 unfold t_additiveref29_run
 exact lo_s hloop
open Classical in
noncomputable def stepT (r : Reg) (s p : Int) (f : Cell → List Cell) (c : Cell) : List Track := if c.2 % s = p % s ∧ ¬ inReg r (c.1 - 1, c.2) then [(4, (false, f c))] else []
end Go.Proofs.YtmiobebagbhffaaGreat
namespace Go.Proofs.YtmiobebagbhffaaGreat
open Go Go.Vv Go.Dn Go.Dn.W
set_option linter.unusedVariables false
set_option linter.unusedSimpArgs false
set_option maxRecDepth 100000
def leC (x y : Cell) : Bool := !(Go.Proofs.ltOf cmpC) y x
theorem leC_iff {x y : Cell} : leC x y = true ↔ x.2 < y.2 ∨ (x.2 = y.2 ∧ x.1 ≤ y.1) := by
 simp only [leC, Go.Proofs.ltOf, Bool.not_eq_true', decide_eq_false_iff_not, cmpC_lt]
 omega
theorem sorted_pw (l : List Cell) : (isort leC l).Pairwise fun a b => a.2 < b.2 ∨ (a.2 = b.2 ∧ a.1 ≤ b.1) := by
 refine (isort_pw (le := leC) (fun x y z h1 h2 => ?_) (fun x y => ?_) l).imp fun h => leC_iff.1 h
 ·rw [leC_iff] at *; omega
 ·rw [leC_iff, leC_iff]; omega
theorem k_sortC {α : Type} {l : List Cell} (hl : l.length ≤ 1000000000) (k : List (Int × Int) → Option α) : @W.call wv α c_s57_58 l k = k (isort leC l) := by
 refine ca_s (c := c_s57_58) (a := l) (r := isort leC l) ?_
 show (if List.length (α := Int × Int) l < 4611686018427387904 then some (isort (α := Int × Int) (fun x y => !(Go.Proofs.ltOf cmpC) y x) l) else none) = _
 rw [if_pos (by omega)]
 rfl
def OfI (out : Reg) (runs : List Run) (done : List Cell) : Prop :=
 (out = [] ∧ runs = [] ∧ done = []) ∨ ∃ (pre : Reg) (y : Int) (z rs : List Run) (a b : Int), out = pre ++ [(y, z)] ∧ runs = rs ++ [(a, b)] ∧ RegOK (pre ++ [(y, rs ++ [(a, b)])]) ∧
  (∀ c, inReg (pre ++ [(y, rs ++ [(a, b)])]) c ↔ c ∈ done)
theorem of_new {T : Reg} {c : Cell} (h : RegOK T) (hb : (-4096 ≤ c.1 ∧ c.1 < 4096) ∧ (-4096 ≤ c.2 ∧ c.2 < 4096)) (hy : ∀ w ∈ T, w.1 < c.2) : RegOK (T ++ [(c.2, [(c.1, c.1 + 1)])]) ∧ ∀ d, inReg (T ++ [(c.2, [(c.1, c.1 + 1)])]) d ↔ inReg T d ∨ d = c := by
 refine ⟨regOK_snoc.2 ⟨h, hb.2, by simp, ⟨fun x hx => ?_, List.pairwise_singleton _ _⟩, hy⟩, fun d => ?_⟩
 ·rw [List.mem_singleton.1 hx]; dsimp only; omega
 ·rw [inReg_snoc]
  constructor
  ·rintro (h | ⟨h1, u, hu, h2⟩)
   ·exact .inl h
   ·rw [List.mem_singleton.1 hu] at h2
    right
    obtain ⟨d1, d2⟩ := d
    obtain ⟨c1, c2⟩ := c
    simp only [Prod.mk.injEq] at *
    omega
  ·rintro (h | rfl)
   ·exact .inl h
   ·exact .inr ⟨rfl, _, List.mem_singleton.2 rfl, by dsimp only; omega⟩
open Classical in
theorem Of_loop (l : List Cell) (hl : l.length ≤ 1000000000) (hb : ∀ c ∈ l, (-4096 ≤ c.1 ∧ c.1 < 4096) ∧ (-4096 ≤ c.2 ∧ c.2 < 4096)) (hs : l.Pairwise fun a b => a.2 < b.2 ∨ (a.2 = b.2 ∧ a.1 ≤ b.1)) :
  ∃ e, loopN (@t_region_Of_L2 wv) bigN ⟨(l.length : Int), ⟨0, ⟨l, ⟨[], ⟨[], ()⟩⟩⟩⟩⟩ = some e ∧ RegOK (modLast e.hd fun y => (y.1, e.tl.hd)) ∧ ∀ c, inReg (modLast e.hd fun y => (y.1, e.tl.hd)) c ↔ c ∈ l := by
 refine loop_inv (b := @t_region_Of_L2 wv) (fun i s => ∃ out runs, s = ⟨(l.length : Int), ⟨(i : Int), ⟨l, ⟨out, ⟨runs, ()⟩⟩⟩⟩⟩ ∧ out.length ≤ i ∧ runs.length ≤ i ∧ OfI out runs (l.take i)) (fun e => RegOK (modLast e.hd fun y => (y.1, e.tl.hd)) ∧ ∀ c, inReg (modLast e.hd fun y => (y.1, e.tl.hd)) c ↔ c ∈ l) l.length (by omega) ⟨[], [], rfl, by simp, by simp, .inl ⟨rfl, rfl, by simp⟩⟩ ?_ ?_
 ·rintro i s hi ⟨out, runs, rfl, ho, hr, hI⟩
  have hx := List.getElem?_eq_getElem hi
  generalize l[i] = c at hx
  have hbc := hb c (List.mem_of_getElem? hx)
  have htk := take_succ_of hx
  have hord : ∀ d ∈ l.take i, d.2 < c.2 ∨ (d.2 = c.2 ∧ d.1 ≤ c.1) := fun d hd => by
   have h1 : (l.take (i + 1)).Pairwise fun a b => a.2 < b.2 ∨ (a.2 = b.2 ∧ a.1 ≤ b.1) := List.Pairwise.sublist (List.take_sublist _ _) hs
   rw [htk] at h1
   exact (List.pairwise_append.1 h1).2.2 d hd c (by simp)
  unfold t_region_Of_L2
  dsimp only
  rw [br_lt (by omega), gd_ib ⟨by omega, by rw [w_ln]; omega⟩, ge_s (fg hx)]
  simp only [w_ln, w_add, w_ap, w_ml, w_pl, w_sub]
  rw [wr (n := (i : Int) + 1) (by omega) (by omega), wr (n := c.1 + 1) (by omega) (by omega)]
  rcases hI with ⟨rfl, rfl, hd⟩ | ⟨pre, y, z, rs, a, b, rfl, rfl, hV, hin⟩
  ·rw [br_t (by rfl), fit32 (by simp) (by simp)]
   refine ⟨_, rfl, [(c.2, [])], [(c.1, c.1 + 1)], rfl, by simp, by simp, .inr ⟨[], c.2, [], [], c.1, c.1 + 1, rfl, rfl, ?_⟩⟩
   have := of_new (T := []) ⟨(by simp), .nil, (by simp), (by simp)⟩ hbc (by simp)
   refine ⟨this.1, fun d => ?_⟩
   rw [htk, hd]
   have h2 := this.2 d
   simp only [List.nil_append] at h2 ⊢
   rw [h2]
   simp [inReg]
  ·have hlen : ((pre ++ [(y, z)]).length : Int) = (pre.length : Int) + 1 := by simp
   have hlr : ((rs ++ [(a, b)]).length : Int) = (rs.length : Int) + 1 := by simp
   have ho' : (pre.length : Int) + 1 ≤ i := by rw [← hlen]; omega
   have hr' : (rs.length : Int) + 1 ≤ i := by rw [← hlr]; omega
   obtain ⟨v1, v2, v3, v4, v5⟩ := regOK_snoc.1 hV
   obtain ⟨u1, u2, u3⟩ := runsOK_snoc.1 v4
   dsimp only at u2 u3 v2 v5
   have hlast : (b - 1, y) ∈ l.take i := (hin _).1 (inReg_snoc.2 (.inr ⟨rfl, inRuns_snoc.2 (.inr ⟨by dsimp only; omega, by dsimp only; omega⟩)⟩))
   have hc := hord _ hlast
   dsimp only at hc
   simp only [hlen, hlr]
   rw [show (pre.length : Int) + 1 - 1 = (pre.length : Int) by omega, show (rs.length : Int) + 1 - 1 = (rs.length : Int) by omega, wr (n := (pre.length : Int)) (by omega) (by omega), wr (n := (rs.length : Int)) (by omega) (by omega)]
   simp only [ge_s (fg (get_last pre (y, z))), ge_s (fg (get_last rs (a, b)))]
   rw [br_f (by rw [w_eql, beq_eq_false_iff_ne]; omega), gd_ib (by omega)]
   by_cases hy : y = c.2
   ·subst hy
    rw [br_f (by rw [w_neq]; simp)]
    simp only [gd_ib (show 0 ≤ (pre.length : Int) ∧ (pre.length : Int) < (pre.length : Int) + 1 by omega), gd_ib (show 0 ≤ (rs.length : Int) ∧ (rs.length : Int) < (rs.length : Int) + 1 by omega), gd_t (show @W.cm wv .eql ((pre.length : Int) + 1) ((pre.length : Int) + 1) = true by rw [w_eql]; simp)]
    by_cases hxx : c.1 > b
    ·rw [br_t (by rw [w_gtr]; exact decide_eq_true hxx), fit16 (by omega) (by omega), w_st, Int.toNat_natCast, set_last]
     refine ⟨_, rfl, pre ++ [(c.2, z)], rs ++ [(a, b)] ++ [(c.1, c.1 + 1)], rfl, by omega, by simp only [List.length_append, List.length_cons, List.length_nil] at hr ⊢; omega, .inr ⟨pre, c.2, z, rs ++ [(a, b)], c.1, c.1 + 1, rfl, rfl, regOK_snoc.2 ⟨v1, v2, by simp, runsOK_snoc.2 ⟨v4, by dsimp only; omega, fun v hv => ?_⟩, v5⟩, fun d => ?_⟩⟩
     ·rcases List.mem_append.1 hv with q | q
      ·have := u3 v q; dsimp only; omega
      ·rw [List.mem_singleton.1 q]; exact hxx
     ·rw [htk, List.mem_append, ← hin, inReg_snoc, inReg_snoc, inRuns_snoc]
      simp only [List.mem_singleton]
      obtain ⟨d1, d2⟩ := d
      obtain ⟨c1, c2⟩ := c
      simp only [Prod.mk.injEq]
      constructor
      ·rintro (h | ⟨h1, h2 | h2⟩)
       ·exact .inl (.inl h)
       ·exact .inl (.inr ⟨h1, h2⟩)
       ·exact .inr ⟨by omega, by omega⟩
      ·rintro ((h | ⟨h1, h2⟩) | ⟨h1, h2⟩)
       ·exact .inl h
       ·exact .inr ⟨h1, .inl h2⟩
       ·exact .inr ⟨by omega, .inr (by omega)⟩
    ·rw [br_f (by rw [w_gtr]; exact decide_eq_false hxx), w_st, Int.toNat_natCast, set_last, w_mx]
     have hmx : (if c.1 + 1 > b then c.1 + 1 else b) = max b (c.1 + 1) := by omega
     rw [hmx]
     refine ⟨_, rfl, pre ++ [(c.2, z)], rs ++ [(a, max b (c.1 + 1))], rfl, by omega, by simp only [List.length_append, List.length_cons, List.length_nil] at hr ⊢; omega, .inr ⟨pre, c.2, z, rs, a, max b (c.1 + 1), rfl, rfl, regOK_snoc.2 ⟨v1, v2, by simp, runsOK_snoc.2 ⟨u1, by dsimp only; omega, u3⟩, v5⟩, fun d => ?_⟩⟩
     rw [htk, List.mem_append, ← hin, inReg_snoc, inReg_snoc, inRuns_snoc, inRuns_snoc]
     simp only [List.mem_singleton]
     obtain ⟨d1, d2⟩ := d
     obtain ⟨c1, c2⟩ := c
     simp only [Prod.mk.injEq] at *
     constructor
     ·rintro (h | ⟨h1, h2 | h2⟩)
      ·exact .inl (.inl h)
      ·exact .inl (.inr ⟨h1, .inl h2⟩)
      ·by_cases q : d1 < b
       ·exact .inl (.inr ⟨h1, .inr (by omega)⟩)
       ·exact .inr ⟨by omega, by omega⟩
     ·rintro ((h | ⟨h1, h2 | h2⟩) | ⟨h1, h2⟩)
      ·exact .inl h
      ·exact .inr ⟨h1, .inl h2⟩
      ·exact .inr ⟨h1, .inr (by omega)⟩
      ·exact .inr ⟨by omega, .inr (by omega)⟩
   ·rw [br_t (by rw [w_neq]; simp [hy]), fit32 (by omega) (by omega), modLast_app]
    have := of_new hV hbc (fun w hw => by
     rcases List.mem_append.1 hw with q | q
     ·have := v5 w q; omega
     ·rw [List.mem_singleton.1 q]; dsimp only; omega)
    refine ⟨_, rfl, pre ++ [(y, rs ++ [(a, b)])] ++ [(c.2, [])], [(c.1, c.1 + 1)], rfl, by simp only [List.length_append, List.length_cons, List.length_nil] at ho ⊢; omega, by simp, .inr ⟨pre ++ [(y, rs ++ [(a, b)])], c.2, [], [], c.1, c.1 + 1, rfl, rfl, this.1, fun d => ?_⟩⟩
    rw [htk, List.mem_append, ← hin, List.mem_singleton]
    exact this.2 d
 ·rintro s ⟨out, runs, rfl, ho, hr, hI⟩
  unfold t_region_Of_L2
  dsimp only
  rw [br_nlt (by omega)]
  refine ⟨_, rfl, ?_⟩
  rw [List.take_length] at hI
  dsimp only
  rcases hI with ⟨rfl, rfl, rfl⟩ | ⟨pre, y, z, rs, a, b, rfl, rfl, hV, hin⟩
  ·exact ⟨⟨(by simp [modLast]), .nil, (by simp [modLast]), (by simp [modLast])⟩, fun c => by simp [modLast, inReg]⟩
  ·rw [modLast_app]
   exact ⟨hV, hin⟩
theorem Of_check (l : List Cell) (hl : l.length ≤ 1000000000) (hb : ∀ c ∈ l, (-4096 ≤ c.1 ∧ c.1 < 4096) ∧ (-4096 ≤ c.2 ∧ c.2 < 4096)) : loopN (@t_region_Of_L0 wv) bigN ⟨l, ⟨l, ⟨(l.length : Int), ⟨0, ()⟩⟩⟩⟩ = some (.inr ⟨l, ()⟩) :=
 loop_st (b := @t_region_Of_L0 wv) (fun i => ⟨l, ⟨l, ⟨(l.length : Int), ⟨(i : Int), ()⟩⟩⟩⟩) l.length (by omega) (fun i hi => by
  have hx := List.getElem?_eq_getElem hi
  generalize l[i] = c at hx
  have hbc := hb c (List.mem_of_getElem? hx)
  unfold t_region_Of_L0
  dsimp only
  rw [br_lt (by omega), ge_s (fg hx), k_region_ok, k_region_ok, br_f (by simp [w_nt]; omega), br_f (by simp [w_nt]; omega), w_add, wr (by omega) (by omega)]
  rfl) (by
  unfold t_region_Of_L0
  dsimp only
  rw [br_nlt (by omega)])
theorem Of_ok (l : List Cell) (hl : l.length ≤ 1000000000) (hb : ∀ c ∈ l, (-4096 ≤ c.1 ∧ c.1 < 4096) ∧ (-4096 ≤ c.2 ∧ c.2 < 4096)) : ∃ T, @t_region_Of wv l = some (T, 0) ∧ RegOK T ∧ ∀ c, inReg T c ↔ c ∈ l := by
 have hp := isort_perm (le := leC) l
 have hlen := hp.length_eq
 obtain ⟨e, he, hV, hin⟩ := Of_loop (isort leC l) (by omega) (fun c hc => hb c (hp.mem_iff.1 hc)) (sorted_pw l)
 refine ⟨_, ?_, hV, fun c => (hin c).trans hp.mem_iff⟩
 unfold t_region_Of
 rw [w_ln]
 refine (lo_s (Of_check l hl hb)).trans ?_
 dsimp only
 have hf : ∀ x, x = some ((modLast e.hd fun y => (y.1, e.tl.hd)), (0 : Int)) → nlv (l.length : Int) (fun v6 => if v6 = true then (@W.loop wv _ _ _ (@t_region_Of_L1 wv) ⟨0, ⟨0, ()⟩⟩ fun v7 => some (([] : Reg), (0 : Int))) else x) = some ((modLast e.hd fun y => (y.1, e.tl.hd)), (0 : Int)) := by
  rintro x rfl
  unfold nlv
  split
  ·rename_i h0
   have hl0 : l = [] := List.eq_nil_of_length_eq_zero (by omega)
   subst hl0
   have he0 : e = ⟨[], ⟨[], ()⟩⟩ := by
    have : loopN (@t_region_Of_L2 wv) bigN ⟨(([] : List Cell).length : Int), ⟨0, ⟨[], ⟨[], ⟨[], ()⟩⟩⟩⟩⟩ = some ⟨[], ⟨[], ()⟩⟩ := loop_out (n := 18446744073709551615) rfl
    have h2 : isort leC [] = [] := rfl
    rw [h2] at he
    rw [this] at he
    injection he with he
    exact he.symm
   subst he0
   have hd : loopN (@t_region_Of_L1 wv) bigN ⟨0, ⟨0, ()⟩⟩ = some () := loop_out (n := 18446744073709551615) rfl
   exact (if_pos (show (@W.loop wv _ _ _ (@t_region_Of_L1 wv) ⟨0, ⟨0, ()⟩⟩ fun v7 => some (([] : Reg), (0 : Int))) = _ from lo_s hd)).trans rfl
  ·rfl
 rw [w_nq, w_ln]
 refine hf _ ?_
 rw [w_pl, fit16 (by omega) (by omega), k_sortC hl, w_ln]
 refine (lo_s he).trans ?_
 rw [w_ml]
theorem k_Of {α : Type} {l : List Cell} {T : Reg} (h : @t_region_Of wv l = some (T, 0)) (k : (List (Int × List (Int × Int))) × Int → Option α) : @W.call wv α c_region_Of l k = k (T, 0) := ca_s (c := c_region_Of) h
end Go.Proofs.YtmiobebagbhffaaGreat
namespace Go.Proofs.YtmiobebagbhffaaGreat
open Go Go.Vv Go.Dn Go.Dn.W
set_option linter.unusedVariables false
set_option linter.unusedSimpArgs false
set_option maxRecDepth 100000
def swp (c : Cell) : Cell := (c.2, c.1)
theorem swp_swp (c : Cell) : swp (swp c) = c := rfl
theorem flip_ok (l : List Cell) (hl : l.length ≤ 1000000000) : @t_hatch_flip wv l = some (l.map swp) := by
 have hloop := loop_st (b := @t_hatch_flip_L0 wv) (e := ⟨l.map swp, ()⟩) (fun i => ⟨l, ⟨(l.length : Int), ⟨(i : Int), ⟨(l.take i).map swp ++ List.replicate (l.length - i) ((0 : Int), (0 : Int)), ()⟩⟩⟩⟩) l.length (by omega) (fun i hi => by
  have hx := List.getElem?_eq_getElem hi
  generalize l[i] = c at hx
  obtain ⟨m, hm⟩ : ∃ m, l.length - i = m + 1 := ⟨l.length - i - 1, by omega⟩
  have hlen : ((l.take i).map swp).length = i := by rw [List.length_map, List.length_take]; omega
  have hg : ((l.take i).map swp ++ List.replicate (m + 1) ((0 : Int), (0 : Int)))[i]? = some (0, 0) := by
   rw [List.getElem?_append_right (by omega), hlen, Nat.sub_self]; rfl
  unfold t_hatch_flip_L0
  dsimp only
  rw [hm, br_lt (by omega), ge_s (fg hx), gd_ib ⟨by omega, by rw [w_ln, List.length_append, hlen, List.length_replicate]; omega⟩, ge_s (fg hg), w_add, wr (by omega) (by omega), w_st, Int.toNat_natCast, map_take_of hx, List.set_append_right _ _ (by omega), hlen, Nat.sub_self, List.replicate_succ, List.set_cons_zero, show l.length - (i + 1) = m by omega, List.append_assoc]
  rfl) (by
  unfold t_hatch_flip_L0
  dsimp only
  rw [br_nlt (by omega), List.take_length, Nat.sub_self, List.replicate_zero, List.append_nil])
 unfold t_hatch_flip
 rw [w_ln, w_rp, gd_t (by rw [w_le]; exact decide_eq_true (by omega)), fit16 (by omega) (by omega), Int.toNat_natCast]
 refine (lo_s hloop)
theorem k_flip {α : Type} {l : List Cell} (hl : l.length ≤ 1000000000) (k : List (Int × Int) → Option α) : @W.call wv α c_hatch_flip l k = k (l.map swp) := ca_s (c := c_hatch_flip) (flip_ok l hl)
def flipT (t : Track) : Track := (t.1, (t.2.1, t.2.2.map swp))
theorem flips_loop (l : List Track) (hl : l.length ≤ 1000000000) (hc : ∀ t ∈ l, t.2.2.length ≤ 1000000000) : loopN (@t_hatch_Columns_L4 wv) bigN ⟨(l.length : Int), ⟨0, ⟨l, ()⟩⟩⟩ = some ⟨l.map flipT, ()⟩ :=
 loop_st (b := @t_hatch_Columns_L4 wv) (fun i => ⟨(l.length : Int), ⟨(i : Int), ⟨(l.take i).map flipT ++ l.drop i, ()⟩⟩⟩) l.length (by omega) (fun i hi => by
  have hx := List.getElem?_eq_getElem hi
  have hdr : l.drop i = l[i] :: l.drop (i + 1) := List.drop_eq_getElem_cons hi
  generalize l[i] = t at hx hdr
  have hlen : ((l.take i).map flipT).length = i := by rw [List.length_map, List.length_take]; omega
  have hg : ((l.take i).map flipT ++ l.drop i)[i]? = some t := by
   rw [hdr, List.getElem?_append_right (by omega), hlen, Nat.sub_self]; rfl
  have hib : 0 ≤ (i : Int) ∧ (i : Int) < @W.ln wv Track ((l.take i).map flipT ++ l.drop i) := ⟨by omega, by rw [w_ln, List.length_append, hlen, List.length_drop]; omega⟩
  unfold t_hatch_Columns_L4
  dsimp only
  rw [br_lt (by omega), gd_ib hib, ge_s (fg hg), k_flip (hc t (List.mem_of_getElem? hx)), gd_ib hib, ge_s (fg hg), w_add, wr (by omega) (by omega), w_st, Int.toNat_natCast, map_take_of hx, hdr, List.set_append_right _ _ (by omega), hlen, Nat.sub_self, List.set_cons_zero, List.append_assoc]
  rfl) (by
  unfold t_hatch_Columns_L4
  dsimp only
  rw [br_nlt (by omega), List.take_length, List.drop_length, List.append_nil])
theorem empty_reg {T : Reg} (h : RegOK T) (hn : ∀ c, ¬ inReg T c) : T = [] := by
 cases T with
 | nil => rfl
 | cons w T =>
  have h1 := h.ne w (List.mem_cons_self ..)
  cases hr : w.2 with
  | nil => exact (h1 hr).elim
  | cons u l =>
   have h2 := (h.rs w (List.mem_cons_self ..)).bd u (by rw [hr]; exact List.mem_cons_self ..)
   exact (hn (u.1, w.1) ⟨w, List.mem_cons_self .., rfl, u, by rw [hr]; exact List.mem_cons_self .., by dsimp only; omega, by dsimp only; omega⟩).elim
theorem nodup_len : ∀ {l m : List Cell}, l.Nodup → l ⊆ m → l.length ≤ m.length
 | [], m, _, _ => by simp
 | x :: l, m, hn, hs => by
  obtain ⟨h1, h2⟩ := List.nodup_cons.1 hn
  have hx : x ∈ m := hs (List.mem_cons_self ..)
  have := nodup_len h2 (m := m.erase x) fun y hy => (List.mem_erase_of_ne (by rintro rfl; exact h1 hy)).2 (hs (List.mem_cons_of_mem _ hy))
  rw [List.length_erase_of_mem hx] at this
  have := List.length_pos_of_mem hx
  rw [List.length_cons]
  omega
theorem cells_le_of {r T : Reg} (h : RegOK r) (hT : RegOK T) (f : Cell → Cell) (hf : ∀ a b, f a = f b → a = b) (hin : ∀ c, inReg T c → inReg r (f c)) : (cellsC T).length ≤ (cellsC r).length := by
 have h1 : ((cellsC T).map f).Nodup := by
  rw [List.nodup_iff_pairwise_ne, List.pairwise_map]
  exact hT.cells_pw.imp fun h e => by
   have := hf _ _ e
   subst this
   exact yx_irrefl _ h
 have h2 : (cellsC T).map f ⊆ cellsC r := fun c hc => by
  obtain ⟨d, hd, rfl⟩ := List.mem_map.1 hc
  exact mem_cells.2 (hin d (mem_cells.1 hd))
 have := nodup_len h1 h2
 rwa [List.length_map] at this
theorem lim_of_cells {T : Reg} (hT : RegOK T) {n : Nat} (h : (cellsC T).length ≤ n) : T.length ≤ n ∧ ∀ w ∈ T, w.2.length ≤ n := by
 have h1 : ∀ w ∈ T, 1 ≤ (rowC w).length ∧ w.2.length ≤ (rowC w).length := fun w hw => by
  have := runs_le_cells hT hw w.2.length
  rw [List.take_length] at this
  have hne := List.length_pos_iff.2 (hT.ne w hw)
  unfold rowC
  omega
 have h2 : ∀ l : Reg, (∀ w ∈ l, w ∈ T) → l.length ≤ (l.flatMap rowC).length ∧ ∀ w ∈ l, w.2.length ≤ (l.flatMap rowC).length := by
  intro l
  induction l with
  | nil => intro _; simp
  | cons u l ih =>
   intro hm
   have a := ih fun v hv => hm v (List.mem_cons_of_mem _ hv)
   have b := h1 u (hm u (List.mem_cons_self ..))
   rw [List.flatMap_cons, List.length_append, List.length_cons]
   refine ⟨by omega, fun w hw => ?_⟩
   rcases List.mem_cons.1 hw with rfl | hw
   ·omega
   ·have := a.2 w hw; omega
 have := h2 T fun w hw => hw
 unfold cellsC at h
 exact ⟨by omega, fun w hw => by have := this.2 w hw; omega⟩
structure Turned (r T : Reg) : Prop where
 ok : RegOK T
 iff : ∀ c, inReg T c ↔ inReg r (swp c)
open Classical in
theorem Columns_ok (r : Reg) (s p : Int) (hl : LimR r) (hc : RegOK r → (cellsC r).length ≤ 1000000000) :
  ∃ T, (RegOK r → Turned r T) ∧ @t_hatch_Columns wv (r, (s, p)) = some (if RegOK r ∧ 1 ≤ s ∧ s ≤ 64 then (rowsT T s p).map flipT else []) := by
 unfold t_hatch_Columns
 dsimp only
 rw [k_region_Cells hl hc]
 have hd : loopN (@t_hatch_Columns_L0 wv) bigN ⟨0, ⟨0, ()⟩⟩ = some () := loop_out (n := 18446744073709551615) rfl
 have hd1 : loopN (@t_hatch_Columns_L1 wv) bigN ⟨0, ⟨0, ()⟩⟩ = some () := loop_out (n := 18446744073709551615) rfl
 by_cases h : RegOK r
 ·have hc := hc h
  rw [if_pos h, k_flip hc]
  obtain ⟨T, hT, hV, hin⟩ := Of_ok ((cellsC r).map swp) (by rw [List.length_map]; exact hc) (fun c hc => by
   obtain ⟨d, hd, rfl⟩ := List.mem_map.1 hc
   have := h.bd (mem_cells.1 hd)
   simp only [swp]
   omega)
  have hiff : ∀ c, inReg T c ↔ inReg r (swp c) := fun c => by
   rw [hin, ← mem_cells]
   constructor
   ·intro hc
    obtain ⟨d, hd, rfl⟩ := List.mem_map.1 hc
    exact hd
   ·exact fun hc => List.mem_map.2 ⟨_, hc, rfl⟩
  have hcT : (cellsC T).length ≤ 1000000000 := Nat.le_trans (cells_le_of h hV swp (fun a b e => by rw [← swp_swp a, e, swp_swp]) fun c hc => (hiff c).1 hc) hc
  have hlT : LimR T := lim_of_cells hV hcT
  refine ⟨T, fun _ => ⟨hV, hiff⟩, ?_⟩
  rw [k_Of hT, br_f (by rfl), k_region_Valid hlT, br_f (by simp [w_nt, hV]), k_spaced]
  by_cases hs : 1 ≤ s ∧ s ≤ 64
  ·rw [br_f (by simp [w_nt]; omega), if_pos ⟨h, hs⟩]
   refine (lo_s (b := @t_hatch_Columns_L2 wv) (Rows_loop T s p hlT hcT hV hs)).trans ?_
   dsimp only
   have q := rowsT_take_le hV s p T.length
   rw [List.take_length] at q
   refine lo_s (flips_loop (rowsT T s p) (Nat.le_trans q hcT) fun t ht => ?_)
   obtain ⟨w, hw, hm⟩ := List.mem_flatMap.1 ht
   unfold rowT at hm
   split at hm
   ·obtain ⟨u, hu, rfl⟩ := List.mem_map.1 hm
    have := (hV.rs w hw).bd u hu
    simp only [trk, lineC_len]
    omega
   ·cases hm
  ·rw [br_t (by simp [w_nt]; omega), if_neg fun q => hs q.2]
   exact lo_s hd1
 ·rw [if_neg h, k_flip (by simp)]
  obtain ⟨T, hT, hV, hin⟩ := Of_ok [] (by simp) (by simp)
  have hT0 : T = [] := empty_reg hV fun c hc => by have := (hin c).1 hc; cases this
  subst hT0
  refine ⟨[], fun q => (h q).elim, ?_⟩
  rw [List.map_nil, k_Of hT, br_f (by rfl), k_region_Valid ⟨by simp, by simp⟩, br_f (by simp [w_nt, hV]), k_spaced, if_neg fun q => h q.1]
  by_cases hs : 1 ≤ s ∧ s ≤ 64
  ·rw [br_f (by simp [w_nt]; omega)]
   refine (lo_s (b := @t_hatch_Columns_L2 wv) (Rows_loop [] s p ⟨by simp, by simp⟩ (by simp [cellsC]) hV hs)).trans ?_
   exact lo_s (flips_loop [] (by simp) (by simp))
  ·rw [br_t (by simp [w_nt]; omega)]
   exact lo_s hd1
def xy (a b : Cell) : Prop := a.1 < b.1 ∨ (a.1 = b.1 ∧ a.2 < b.2)
instance (a b : Cell) : Decidable (xy a b) := by unfold xy; exact inferInstance
noncomputable def colT (r : Reg) (c : Cell) : Track := (4, (false, (@t_additiveref29_run wv (r, (c, (0, 1)))).getD []))
def firstC (r : Reg) (s p : Int) (c : Cell) : Prop := c.1 % s = p % s ∧ ¬ inReg r (c.1, c.2 - 1)
end Go.Proofs.YtmiobebagbhffaaGreat
namespace Go.Proofs.YtmiobebagbhffaaGreat
open Go Go.Vv Go.Dn Go.Dn.W
set_option linter.unusedVariables false
set_option linter.unusedSimpArgs false
set_option maxRecDepth 100000
def fewU (u : Run) : Run := if u.1 < u.2 ∧ u.1 > -4097 ∧ u.2 < 4097 ∧ u.2 - 20 > u.1 then (u.1, u.1 + 20) else u
def fewR (r : Reg) : Reg := (r.take 12).map fun w => (w.1, (w.2.take 4).map fewU)
theorem few_L2 : @t_additivelaw29_few_L2 wv = @t_additivelaw29_few_L1 wv := rfl
theorem few_runs (i y : Int) (r out : Reg) (l : List Run) (hl : l.length ≤ 4) : loopN (@t_additivelaw29_few_L1 wv) bigN ⟨i, ⟨0, ⟨r, ⟨y, ⟨l, ⟨out, ⟨[], ()⟩⟩⟩⟩⟩⟩⟩ = some ⟨i, ⟨r, ⟨y, ⟨l, ⟨l.map fewU, ⟨out, ()⟩⟩⟩⟩⟩⟩ :=
 loop_st (b := @t_additivelaw29_few_L1 wv) (fun k => ⟨i, ⟨(k : Int), ⟨r, ⟨y, ⟨l, ⟨out, ⟨(l.take k).map fewU, ()⟩⟩⟩⟩⟩⟩⟩) l.length (by omega) (fun k hk => by
  have hx := List.getElem?_eq_getElem hk
  generalize l[k] = u at hx
  have hlen : ((l.take k).map fewU).length = k := by rw [List.length_map, List.length_take]; omega
  unfold t_additivelaw29_few_L1
  dsimp only
  rw [w_ln, br_lt (by omega), ge_s (fg hx)]
  simp only [w_ln, w_pl, hlen, w_ap, w_add, w_sub]
  rw [wr (n := (k : Int) + 1) (by omega) (by omega), fit16 (by omega) (by omega), fit16 (by omega) (by omega), map_take_of hx]
  simp only [w_br, w_lss, w_gtr, decide_eq_true_eq]
  unfold fewU
  by_cases h1 : u.1 < u.2 ∧ u.1 > -4097 ∧ u.2 < 4097
  ·rw [if_pos h1.1, if_pos h1.2.1, if_pos h1.2.2, wr (n := u.2 - 20) (by omega) (by omega), wr (n := u.1 + 20) (by omega) (by omega)]
   by_cases h2 : u.2 - 20 > u.1
   ·rw [if_pos h2, if_pos ⟨h1.1, h1.2.1, h1.2.2, h2⟩]; rfl
   ·rw [if_neg h2, if_neg fun q => h2 q.2.2.2]; rfl
  ·rw [if_neg (c := u.1 < u.2 ∧ u.1 > -4097 ∧ u.2 < 4097 ∧ u.2 - 20 > u.1) fun q => h1 ⟨q.1, q.2.1, q.2.2.1⟩]
   (repeat' split) <;> first | rfl | omega) (by
  unfold t_additivelaw29_few_L1
  dsimp only
  rw [w_ln, br_nlt (by omega), List.take_length])
theorem few_ok (r : Reg) : @t_additivelaw29_few wv r = some (fewR r) := by
 have hloop := loop_st (b := @t_additivelaw29_few_L0 wv) (e := ⟨fewR r, ()⟩) (fun i => ⟨(i : Int), ⟨r, ⟨(r.take i).map fun w => (w.1, (w.2.take 4).map fewU), ()⟩⟩⟩) (min r.length 12) (by omega) (fun i hi => by
  have hil : i < r.length := by omega
  have hx := List.getElem?_eq_getElem hil
  generalize r[i] = w at hx
  unfold t_additivelaw29_few_L0
  dsimp only
  rw [w_ln, br_lt (by omega), br_lt (by omega), ge_s (fg hx), w_br, w_gtr, w_ln, map_take_of hx]
  have hlen : ((r.take i).map fun w : Row => (w.1, (w.2.take 4).map fewU)).length = i := by rw [List.length_map, List.length_take]; omega
  have le_t : ∀ {α : Type} {a b : Int} {x : Option α}, a ≤ b → @W.gd wv α (@W.le wv a b) x = x := fun h => gd_t (by rw [w_le]; exact decide_eq_true h)
  by_cases h4 : (w.2.length : Int) > 4
  ·rw [if_pos (decide_eq_true h4), le_t (by omega), le_t (by omega), w_ct, show (0 : Int).toNat = 0 from rfl, show (4 : Int).toNat = 4 from rfl, List.drop_zero]
   refine (lo_s (few_runs _ _ _ _ _ (by rw [List.length_take]; omega))).trans ?_
   dsimp only
   rw [w_ln, w_pl, hlen, fit32 (by omega) (by omega), w_add, wr (by omega) (by omega)]
   rfl
  ·rw [if_neg (by simpa using h4), few_L2, List.take_of_length_le (l := w.2) (by omega)]
   refine (lo_s (few_runs _ _ _ _ _ (by omega))).trans ?_
   dsimp only
   rw [w_ln, w_pl, hlen, fit32 (by omega) (by omega), w_add, wr (by omega) (by omega)]
   rfl) (by
  unfold t_additivelaw29_few_L0
  dsimp only
  rw [w_ln, w_br, w_lss, w_br, w_lss]
  have e : r.take (min r.length 12) = r.take 12 := by rw [List.take_eq_take_iff]; omega
  rw [e]
  by_cases h : ((min r.length 12 : Nat) : Int) < (r.length : Int)
  ·rw [if_pos (decide_eq_true h), if_neg (by simp; omega)]; rfl
  ·rw [if_neg (by simpa using h)]; rfl)
 unfold t_additivelaw29_few
 refine (lo_s hloop).trans rfl
theorem k_few {α : Type} {r : Reg} (k : List (Int × List (Int × Int)) → Option α) : @W.call wv α c_additivelaw29_few r k = k (fewR r) := ca_s (c := c_additivelaw29_few) (few_ok r)
theorem fewR_lim (r : Reg) : LimR (fewR r) := by
 refine ⟨by unfold fewR; rw [List.length_map, List.length_take]; omega, fun w hw => ?_⟩
 obtain ⟨v, hv, rfl⟩ := List.mem_map.1 hw
 dsimp only
 rw [List.length_map, List.length_take]; omega
theorem fewR_cells (r : Reg) (h : RegOK (fewR r)) : (cellsC (fewR r)).length ≤ 960 := by
 have hu : ∀ w ∈ fewR r, ∀ u ∈ w.2, (lineC w.1 u).length ≤ 20 := fun w hw u hu => by
  have hb := (h.rs w hw).bd u hu
  obtain ⟨v, hv, rfl⟩ := List.mem_map.1 hw
  obtain ⟨x, hx, rfl⟩ := List.mem_map.1 hu
  rw [lineC_len]
  unfold fewU at hb ⊢
  split
  ·dsimp only; omega
  ·rename_i hn
   rw [if_neg hn] at hb
   omega
 have hw : ∀ w ∈ fewR r, (rowC w).length ≤ 80 := fun w hw => by
  have h1 := flat_len_le (f := lineC w.1) (l := w.2) (n := 20) (hu w hw)
  have h2 : w.2.length ≤ 4 := by
   obtain ⟨v, hv, rfl⟩ := List.mem_map.1 hw
   dsimp only
   rw [List.length_map, List.length_take]; omega
  unfold rowC
  omega
 have h1 := flat_len_le (f := rowC) (l := fewR r) (n := 80) hw
 have h2 : (fewR r).length ≤ 12 := by unfold fewR; rw [List.length_map, List.length_take]; omega
 unfold cellsC
 omega
end Go.Proofs.YtmiobebagbhffaaGreat
namespace Go.Proofs.YtmiobebagbhffaaGreat
open Go Go.Vv Go.Dn Go.Dn.W
set_option linter.unusedVariables false
set_option linter.unusedSimpArgs false
set_option maxRecDepth 100000
theorem awake_ok : @t_additivelaw29_awake wv () = some true := by kernel_rfl
theorem k_awake {α : Type} (k : Bool → Option α) : @W.call wv α c_additivelaw29_awake (() : Unit) k = k true := ca_s (c := c_additivelaw29_awake) awake_ok
theorem rowsT_lim {r : Reg} (h : RegOK r) (s p : Int) (hc : (cellsC r).length ≤ 1000000000) : (rowsT r s p).length ≤ 1000000000 ∧ ∀ t ∈ rowsT r s p, t.2.2.length ≤ 1000000000 := by
 have q := rowsT_take_le h s p r.length
 rw [List.take_length] at q
 refine ⟨Nat.le_trans q hc, fun t ht => ?_⟩
 obtain ⟨w, hw, hm⟩ := List.mem_flatMap.1 ht
 unfold rowT at hm
 split at hm
 ·obtain ⟨u, hu, rfl⟩ := List.mem_map.1 hm
  have := (h.rs w hw).bd u hu
  simp only [trk, lineC_len]
  omega
 ·cases hm
end Go.Proofs.YtmiobebagbhffaaGreat
namespace Go.Proofs.YtmiobebagbhffaaGreat
open Go Go.Vv Go.Dn Go.Dn.W
set_option linter.unusedVariables false
set_option linter.unusedSimpArgs false
set_option maxRecDepth 100000
def grid (c : Cell) : Prop := -4096 ≤ c.1 ∧ c.1 < 4096 ∧ -4096 ≤ c.2 ∧ c.2 < 4096
instance (c : Cell) : Decidable (grid c) := by unfold grid; exact inferInstance
def nb (a b : Cell) : Prop := (a.1 - b.1) * (a.1 - b.1) + (a.2 - b.2) * (a.2 - b.2) = 1
instance (a b : Cell) : Decidable (nb a b) := by unfold nb; exact inferInstance
theorem onGrid_ok (c : Cell) : @t_track_onGrid wv c = some (decide (grid c)) := by
 simp only [t_track_onGrid, w_br, w_geq, w_lss, decide_eq_true_eq]
 (repeat' split) <;> first | exact congrArg some (decide_eq_decide.2 (by unfold grid; omega)) | exact congrArg some (decide_eq_false (by unfold grid; omega)).symm
theorem k_onGrid {α : Type} (c : Cell) (k : Bool → Option α) : @W.call wv α c_track_onGrid ((c.1, c.2) : Int × Int) k = k (decide (grid c)) := ca_s (c := c_track_onGrid) (onGrid_ok c)
theorem sq_bd {d : Int} (h1 : -100000 ≤ d) (h2 : d ≤ 100000) : 0 ≤ d * d ∧ d * d ≤ 10000000000 := by
 have e : d * d = ((d.natAbs * d.natAbs : Nat) : Int) := (Int.natAbs_mul_self (a := d)).symm
 have : d.natAbs * d.natAbs ≤ 100000 * 100000 := Nat.mul_le_mul (by omega) (by omega)
 omega
theorem neighbors_ok (a b : Cell) (ha : grid a) (hb : grid b) : @t_track_neighbors wv (a, b) = some (decide (nb a b)) := by
 unfold grid at ha hb
 have h1 := sq_bd (d := a.1 - b.1) (by omega) (by omega)
 have h2 := sq_bd (d := a.2 - b.2) (by omega) (by omega)
 unfold t_track_neighbors
 dsimp only
 simp only [w_add, w_mul, w_sub, w_eql]
 rw [wr (n := a.1 - b.1) (by omega) (by omega), wr (n := a.2 - b.2) (by omega) (by omega), wr (n := (a.1 - b.1) * (a.1 - b.1)) (by omega) (by omega), wr (n := (a.2 - b.2) * (a.2 - b.2)) (by omega) (by omega), wr (by omega) (by omega)]
 congr 1
theorem k_neighbors {α : Type} {a b : Cell} (ha : grid a) (hb : grid b) (k : Bool → Option α) : @W.call wv α c_track_neighbors (((a.1, a.2), (b.1, b.2)) : (Int × Int) × (Int × Int)) k = k (decide (nb a b)) := ca_s (c := c_track_neighbors) (neighbors_ok a b ha hb)
def goodC (l : List Cell) (i : Nat) : Prop := ∀ c, l[i]? = some c → grid c ∧ ∀ p, 0 < i → l[i - 1]? = some p → nb p c
def VT (t : Track) : Prop := (1 ≤ t.1 ∧ t.1 ≤ 7) ∧ (1 ≤ t.2.2.length ∧ t.2.2.length ≤ 65536) ∧ (∀ i, i < t.2.2.length → goodC t.2.2 i) ∧ (t.2.1 = true → t.2.2.length = 1 ∨ ∀ a b, t.2.2[t.2.2.length - 1]? = some a → t.2.2[0]? = some b → nb a b)
open Classical in
theorem track_Valid_ok (t : Track) : @t_track_Valid wv t = some (decide (VT t)) := by
 obtain ⟨role, closed, l⟩ := t
 unfold t_track_Valid
 dsimp only
 simp only [w_ln]
 by_cases h1 : 1 ≤ role ∧ role ≤ 7
 case neg =>
  rw [decide_eq_false fun q : VT _ => h1 q.1]
  simp only [w_br, w_lss, w_gtr, decide_eq_true_eq]
  by_cases h2 : role < 1
  ·rw [if_pos h2]
  ·rw [if_neg h2, if_pos (by omega)]
 rw [br_nlt (by omega), br_f (by rw [w_gtr]; exact decide_eq_false (by omega))]
 by_cases h2 : 1 ≤ l.length ∧ l.length ≤ 65536
 case neg =>
  rw [decide_eq_false fun q : VT _ => h2 q.2.1]
  simp only [w_br, w_lss, w_gtr, decide_eq_true_eq]
  by_cases h3 : (l.length : Int) < 1
  ·rw [if_pos h3]
  ·rw [if_neg h3, if_pos (by omega)]
 rw [br_nlt (by omega), br_f (by rw [w_gtr]; exact decide_eq_false (by omega))]
 have hloop := loop_all (b := @t_track_Valid_L0 wv) (bad := .inl ()) (fin := .inr ⟨(l.length : Int), ⟨role, ⟨closed, ⟨l, ()⟩⟩⟩⟩) (fun i => ⟨(l.length : Int), ⟨l, ⟨(l.length : Int), ⟨(i : Int), ⟨role, ⟨closed, ⟨l, ()⟩⟩⟩⟩⟩⟩⟩) l.length (by omega) (goodC l) (fun i hi hprev => by
  have hx := List.getElem?_eq_getElem hi
  generalize l[i] = c at hx
  have hb : @t_track_Valid_L0 wv ⟨(l.length : Int), ⟨l, ⟨(l.length : Int), ⟨(i : Int), ⟨role, ⟨closed, ⟨l, ()⟩⟩⟩⟩⟩⟩⟩ = if goodC l i then some (.go ⟨(l.length : Int), ⟨l, ⟨(l.length : Int), ⟨((i + 1 : Nat) : Int), ⟨role, ⟨closed, ⟨l, ()⟩⟩⟩⟩⟩⟩⟩) else some (.out (.inl ())) := by
   unfold t_track_Valid_L0
   dsimp only
   rw [br_lt (by omega), ge_s (fg hx), k_onGrid]
   by_cases hg : grid c
   case neg => rw [br_t (by simp [w_nt, hg]), if_neg fun q => hg (q c hx).1]
   rw [br_f (by simp [w_nt, hg]), w_add, wr (by omega) (by omega)]
   by_cases h0 : 0 < i
   ·have hp := List.getElem?_eq_getElem (l := l) (i := i - 1) (by omega)
    generalize l[i - 1] = p at hp
    have hpg : grid p := (hprev (i - 1) (by omega) p hp).1
    rw [br_t (by rw [w_gtr]; exact decide_eq_true (by omega)), ge_s (fgz (i - 1) (by rw [w_sub, wr (by omega) (by omega)]; omega) hp), k_neighbors hpg hg]
    have hiff : goodC l i ↔ nb p c := by
     constructor
     ·intro q; exact (q c hx).2 p h0 hp
     ·intro q c' hc'
      rw [hx] at hc'; injection hc' with e; subst e
      exact ⟨hg, fun p' _ hp' => by rw [hp] at hp'; injection hp' with e; subst e; exact q⟩
    by_cases hn : nb p c
    ·rw [br_f (by simp [w_nt, hn]), if_pos (hiff.2 hn)]; rfl
    ·rw [br_t (by simp [w_nt, hn]), if_neg fun q => hn (hiff.1 q)]
   ·rw [br_f (by rw [w_gtr]; exact decide_eq_false (by omega)), if_pos]
    ·rfl
    ·intro c' hc'
     rw [hx] at hc'; injection hc' with e; subst e
     exact ⟨hg, fun p' h => (h0 h).elim⟩
  rw [hb]
  exact ⟨fun h => if_pos h, fun h => if_neg h⟩) (fun _ => by unfold t_track_Valid_L0; dsimp only; rw [br_nlt (by omega)])
 refine (lo_s hloop).trans ?_
 by_cases h3 : ∀ i, i < l.length → goodC l i
 case neg => rw [if_neg h3, decide_eq_false fun q : VT _ => h3 q.2.2.1]
 rw [if_pos h3]
 dsimp only
 cases hcl : closed with
 | false => rw [br_t (by rfl), decide_eq_true]; exact ⟨h1, h2, h3, fun q => by cases q⟩
 | true =>
  rw [br_f (by rfl)]
  by_cases h4 : l.length = 1
  ·rw [br_t (by rw [w_eql, h4]; rfl), decide_eq_true]; exact ⟨h1, h2, h3, fun _ => .inl h4⟩
  ·have hla := List.getElem?_eq_getElem (l := l) (i := l.length - 1) (by omega)
   have hfi := List.getElem?_eq_getElem (l := l) (i := 0) (by omega)
   generalize l[l.length - 1] = a at hla
   generalize l[0] = b at hfi
   rw [br_f (by rw [w_eql, beq_eq_false_iff_ne]; omega), ge_s (fgz (l.length - 1) (by rw [w_sub, wr (by omega) (by omega)]; omega) hla), ge_s (fg0 hfi), k_neighbors (h3 _ (by omega) a hla).1 (h3 _ (by omega) b hfi).1]
   refine congrArg some (decide_eq_decide.2 ⟨fun q => ⟨h1, h2, h3, fun _ => .inr fun a' b' ha' hb' => ?_⟩, fun q => ?_⟩)
   ·dsimp only at ha' hb'
    rw [hla] at ha'; rw [hfi] at hb'
    injection ha' with e1; injection hb' with e2
    subst e1; subst e2; exact q
   ·rcases q.2.2.2 rfl with e | e
    ·exact (h4 e).elim
    ·exact e a b hla hfi
open Classical in
theorem k_track_Valid {α : Type} {t : Track} (k : Bool → Option α) : @W.call wv α c_track_Valid ((t.1, (t.2.1, t.2.2)) : Int × (Bool × List (Int × Int))) k = k (decide (VT t)) := ca_s (c := c_track_Valid) (track_Valid_ok t)
open Classical in
noncomputable def coverC (l : List Track) : List Cell := l.flatMap fun t => if VT t then t.2.2 else []
open Classical in
theorem coverC_le (l : List Track) : (coverC l).length ≤ (l.flatMap fun t => t.2.2).length := by
 unfold coverC
 induction l with
 | nil => simp
 | cons t l ih =>
  simp only [List.flatMap_cons, List.length_append]
  split
  ·omega
  ·rw [List.length_nil]; omega
open Classical in
theorem Cover_ok (l : List Track) (hl : l.length ≤ 1000000000) (hc : (l.flatMap fun t => t.2.2).length ≤ 1000000000) : ∃ T, @t_track_Cover wv l = some T ∧ RegOK T ∧ ∀ c, inReg T c ↔ ∃ t ∈ l, VT t ∧ c ∈ t.2.2 := by
 have hmem : ∀ c, c ∈ coverC l ↔ ∃ t ∈ l, VT t ∧ c ∈ t.2.2 := fun c => by
  unfold coverC
  rw [List.mem_flatMap]
  constructor
  ·rintro ⟨t, ht, h⟩
   split at h
   ·exact ⟨t, ht, by assumption, h⟩
   ·cases h
  ·rintro ⟨t, ht, h1, h2⟩
   exact ⟨t, ht, by rw [if_pos h1]; exact h2⟩
 obtain ⟨T, hT, hV, hin⟩ := Of_ok (coverC l) (Nat.le_trans (coverC_le l) hc) (fun c hc => by
  obtain ⟨t, ht, h1, h2⟩ := (hmem c).1 hc
  obtain ⟨i, hi⟩ := List.mem_iff_getElem?.1 h2
  have := (h1.2.2.1 i (List.getElem?_eq_some_iff.1 hi).1 c hi).1
  unfold grid at this
  omega)
 refine ⟨T, ?_, hV, fun c => (hin c).trans (hmem c)⟩
 have hloop := loop_st (b := @t_track_Cover_L0 wv) (e := ⟨coverC l, ()⟩) (fun i => ⟨l, ⟨(l.length : Int), ⟨(i : Int), ⟨coverC (l.take i), ()⟩⟩⟩⟩) l.length (by omega) (fun i hi => by
  have hx := List.getElem?_eq_getElem hi
  generalize l[i] = t at hx
  have h1 := coverC_le (l.take i)
  have h2 := flat_mem_le (fun t : Track => t.2.2) hx
  have e : coverC (l.take (i + 1)) = coverC (l.take i) ++ if VT t then t.2.2 else [] := flat_take hx
  unfold t_track_Cover_L0
  dsimp only
  rw [br_lt (by omega), ge_s (fg hx), k_track_Valid, w_add, wr (by omega) (by omega), e]
  by_cases hV : VT t
  ·rw [br_t (by simp [hV]), w_ln, w_ln, w_pl, fit16 (by omega) (by omega), w_ap, if_pos hV]; rfl
  ·rw [br_f (by simp [hV]), if_neg hV, List.append_nil]; rfl) (by unfold t_track_Cover_L0; dsimp only; rw [br_nlt (by omega), List.take_length])
 unfold t_track_Cover
 refine (lo_s hloop).trans ?_
 dsimp only
 rw [k_Of hT]
theorem k_compare {α : Type} {a b : Int} (k : Int → Option α) : @W.call wv α c_cmp_Compare ((a, b) : Int × Int) k = k (cmpI a b) := ca_s (c := c_cmp_Compare) (compare_ok a b)
end Go.Proofs.YtmiobebagbhffaaGreat
namespace Go.Proofs.YtmiobebagbhffaaGreat
open Go Go.Vv Go.Dn Go.Dn.W
set_option linter.unusedVariables false
set_option linter.unusedSimpArgs false
set_option maxRecDepth 100000
theorem lineC_get {y : Int} {u : Run} {i : Nat} {c : Cell} (h : (lineC y u)[i]? = some c) : c = (u.1 + (i : Int), y) ∧ i < (u.2 - u.1).toNat := by
 have hi := (List.getElem?_eq_some_iff.1 h).1
 rw [lineC_len] at hi
 refine ⟨?_, hi⟩
 simp only [lineC, rng, List.getElem?_map, Option.map_eq_some_iff] at h
 obtain ⟨x, ⟨j, hj, rfl⟩, rfl⟩ := h
 have := List.getElem?_eq_some_iff.1 hj
 obtain ⟨h1, h2⟩ := this
 rw [List.getElem_range] at h2
 subst h2
 rfl
theorem trk_VT {r : Reg} (h : RegOK r) {w : Row} (hw : w ∈ r) {u : Run} (hu : u ∈ w.2) : VT (trk w.1 u) ∧ VT (flipT (trk w.1 u)) := by
 have hb := (h.rs w hw).bd u hu
 have hy := h.y w hw
 have hlen : (lineC w.1 u).length = (u.2 - u.1).toNat := lineC_len _ _
 refine ⟨⟨by simp only [trk]; omega, by simp only [trk]; omega, fun i hi c hc => ?_, fun q => by cases q⟩, ⟨by simp only [flipT, trk]; omega, by simp only [flipT, trk, List.length_map]; omega, fun i hi c hc => ?_, fun q => by cases q⟩⟩
 ·obtain ⟨rfl, h1⟩ := lineC_get (show (lineC w.1 u)[i]? = some c from hc)
  refine ⟨by unfold grid; dsimp only; omega, fun p h0 hp => ?_⟩
  obtain ⟨rfl, h2⟩ := lineC_get (show (lineC w.1 u)[i - 1]? = some p from hp)
  unfold nb
  dsimp only
  rw [show u.1 + ((i - 1 : Nat) : Int) - (u.1 + (i : Int)) = -1 by omega, Int.sub_self]
  rfl
 ·simp only [flipT, trk, List.getElem?_map, Option.map_eq_some_iff] at hc
  obtain ⟨d, hd, rfl⟩ := hc
  obtain ⟨rfl, h1⟩ := lineC_get hd
  refine ⟨by unfold grid swp; dsimp only; omega, fun p h0 hp => ?_⟩
  simp only [flipT, trk, List.getElem?_map, Option.map_eq_some_iff] at hp
  obtain ⟨e, he, rfl⟩ := hp
  obtain ⟨rfl, h2⟩ := lineC_get he
  unfold nb swp
  dsimp only
  rw [show u.1 + ((i - 1 : Nat) : Int) - (u.1 + (i : Int)) = -1 by omega, Int.sub_self]
  rfl
theorem mem_rowsT {r : Reg} (s p : Int) {t : Track} : t ∈ rowsT r s p ↔ ∃ w ∈ r, w.1 % s = p % s ∧ ∃ u ∈ w.2, t = trk w.1 u := by
 unfold rowsT rowT
 rw [List.mem_flatMap]
 constructor
 ·rintro ⟨w, hw, h⟩
  split at h
  ·obtain ⟨u, hu, rfl⟩ := List.mem_map.1 h
   exact ⟨w, hw, by assumption, u, hu, rfl⟩
  ·cases h
 ·rintro ⟨w, hw, h1, u, hu, rfl⟩
  exact ⟨w, hw, by rw [if_pos h1]; exact List.mem_map.2 ⟨u, hu, rfl⟩⟩
theorem rows_cover {r : Reg} (h : RegOK r) (s p : Int) (c : Cell) : (∃ t ∈ rowsT r s p, VT t ∧ c ∈ t.2.2) ↔ inReg r c ∧ c.2 % s = p % s := by
 constructor
 ·rintro ⟨t, ht, -, hc⟩
  obtain ⟨w, hw, h1, u, hu, rfl⟩ := (mem_rowsT s p).1 ht
  obtain ⟨e, h2⟩ := mem_line.1 hc
  exact ⟨⟨w, hw, e.symm, u, hu, h2⟩, by rw [e]; exact h1⟩
 ·rintro ⟨⟨w, hw, e, u, hu, h2⟩, h1⟩
  exact ⟨trk w.1 u, (mem_rowsT s p).2 ⟨w, hw, by rw [e]; exact h1, u, hu, rfl⟩, (trk_VT h hw hu).1, mem_line.2 ⟨e.symm, h2⟩⟩
theorem cols_cover {T : Reg} (h : RegOK T) (s p : Int) (c : Cell) : (∃ t ∈ (rowsT T s p).map flipT, VT t ∧ c ∈ t.2.2) ↔ inReg T (swp c) ∧ c.1 % s = p % s := by
 constructor
 ·rintro ⟨t, ht, -, hc⟩
  obtain ⟨v, hv, rfl⟩ := List.mem_map.1 ht
  obtain ⟨w, hw, h1, u, hu, rfl⟩ := (mem_rowsT s p).1 hv
  obtain ⟨d, hd, rfl⟩ := List.mem_map.1 hc
  obtain ⟨e, h2⟩ := mem_line.1 hd
  exact ⟨⟨w, hw, e.symm, u, hu, h2⟩, by show d.2 % s = _; rw [e]; exact h1⟩
 ·rintro ⟨⟨w, hw, e, u, hu, h2⟩, h1⟩
  refine ⟨flipT (trk w.1 u), List.mem_map.2 ⟨_, (mem_rowsT s p).2 ⟨w, hw, by rw [e]; exact h1, u, hu, rfl⟩, rfl⟩, (trk_VT h hw hu).2, List.mem_map.2 ⟨swp c, mem_line.2 ⟨e.symm, h2⟩, rfl⟩⟩
theorem flip_cells_len (l : List Track) : ((l.map flipT).flatMap fun t => t.2.2).length = (l.flatMap fun t => t.2.2).length := by
 induction l with
 | nil => rfl
 | cons t l ih => simp only [List.map_cons, List.flatMap_cons, List.length_append, ih]; simp [flipT]
end Go.Proofs.YtmiobebagbhffaaGreat
namespace Go.Proofs.YtmiobebagbhffaaGreat
open Go Go.Vv Go.Dn Go.Dn.W
set_option linter.unusedVariables false
set_option linter.unusedSimpArgs false
set_option maxRecDepth 100000
noncomputable def nearB (a b : Cell) : Bool := (@t_additiveref29_near wv (a, b)).getD false
theorem near_hatch (a b : Cell) : @t_hatch_near wv (a, b) = some (nearB a b) := rfl
theorem k_near {α : Type} {a b : Cell} (k : Bool → Option α) : @W.call wv α c_hatch_near (((a.1, a.2), (b.1, b.2)) : (Int × Int) × (Int × Int)) k = k (nearB a b) := ca_s (c := c_hatch_near) (near_hatch a b)
abbrev Zs := Option (List Track × List Cell)
def zT : Zs → List Track
 | none => []
 | some (O, C) => O ++ [(3, (false, C))]
def zA : Zs → List Track
 | none => []
 | some (O, _) => O ++ [(3, (false, []))]
def zC : Zs → List Cell
 | none => []
 | some (_, C) => C
noncomputable def joinB (C l : List Cell) : Bool := nearB (C.getD (C.length - 1) (0, 0)) (l.getD 0 (0, 0)) && decide ((C.length : Int) + (l.length : Int) ≤ 65536)
noncomputable def zPut : Zs → List Cell → Zs
 | none, l => some ([], l)
 | some (O, C), l => if joinB C l = true then some (O, C ++ l) else some (O ++ [(3, (false, C))], l)
def zCells (z : Zs) : List Cell := (zT z).flatMap fun t => t.2.2
def zOK (z : Zs) : Prop := ∀ t ∈ zT z, t.2.2 ≠ []
theorem zPut_cells (z : Zs) (l : List Cell) : zCells (zPut z l) = zCells z ++ l := by
 rcases z with _ | ⟨O, C⟩
 ·simp [zCells, zPut, zT]
 ·simp only [zPut]
  split <;> simp [zCells, zT]
theorem zPut_ok {z : Zs} {l : List Cell} (h : zOK z) (hl : l ≠ []) : zOK (zPut z l) := by
 rcases z with _ | ⟨O, C⟩
 ·intro t ht
  simp only [zPut, zT, List.nil_append, List.mem_singleton] at ht
  rw [ht]; exact hl
 ·have hO : ∀ t ∈ O, t.2.2 ≠ [] := fun t ht => h t (List.mem_append_left _ ht)
  have hC : C ≠ [] := h (3, (false, C)) (List.mem_append_right _ (List.mem_singleton_self _))
  simp only [zPut]
  split
  ·intro t ht
   rcases List.mem_append.1 ht with q | q
   ·exact hO t q
   ·rw [List.mem_singleton.1 q]
    intro e
    exact hC (List.append_eq_nil_iff.1 e).1
  ·intro t ht
   rcases List.mem_append.1 ht with q | q
   ·rcases List.mem_append.1 q with q | q
    ·exact hO t q
    ·rw [List.mem_singleton.1 q]; exact hC
   ·rw [List.mem_singleton.1 q]; exact hl
theorem tracks_le : ∀ {T : List Track}, (∀ t ∈ T, t.2.2 ≠ []) → T.length ≤ (T.flatMap fun t => t.2.2).length ∧ ∀ t ∈ T, t.2.2.length ≤ (T.flatMap fun t => t.2.2).length
 | [], _ => ⟨by simp, fun t ht => by cases ht⟩
 | t :: T, h => by
  obtain ⟨h1, h2⟩ := tracks_le (T := T) fun s hs => h s (List.mem_cons_of_mem _ hs)
  have h3 := List.length_pos_iff.2 (h t (List.mem_cons_self ..))
  simp only [List.flatMap_cons, List.length_append, List.length_cons]
  refine ⟨by omega, fun s hs => ?_⟩
  rcases List.mem_cons.1 hs with rfl | hs
  ·omega
  ·have := h2 s hs; omega
theorem zOK.le {z : Zs} (h : zOK z) : (zT z).length ≤ (zCells z).length ∧ ∀ t ∈ zT z, t.2.2.length ≤ (zCells z).length := tracks_le h
theorem zFold_ok : ∀ (ls : List (List Cell)) {z : Zs}, zOK z → (∀ l ∈ ls, l ≠ []) → zOK (ls.foldl zPut z)
 | [], _, h, _ => h
 | l :: ls, z, h, hl => zFold_ok ls (zPut_ok h (hl l (List.mem_cons_self ..))) fun m hm => hl m (List.mem_cons_of_mem _ hm)
theorem zFold_cells : ∀ (ls : List (List Cell)) (z : Zs), zCells (ls.foldl zPut z) = zCells z ++ ls.flatten
 | [], z => by simp
 | l :: ls, z => by
  rw [List.foldl_cons, zFold_cells ls, zPut_cells, List.flatten_cons, List.append_assoc]
def zLines (w : Row) : List (List Cell) := if w.1 % 2 = 0 then w.2.map (lineC w.1) else w.2.reverse.map fun u => (lineC w.1 u).reverse
noncomputable def zRow (z : Zs) (w : Row) : Zs := (zLines w).foldl zPut z
theorem lineC_ne {lo hi : Int} {w : Row} (h : RunsOK lo hi w.2) {u : Run} (hu : u ∈ w.2) : lineC w.1 u ≠ [] := by
 have := h.bd u hu
 intro e
 have h2 := lineC_len w.1 u
 rw [e, List.length_nil] at h2
 omega
theorem flat_rev_len {α β : Type} (f : α → List β) : ∀ l : List α, ((l.reverse.map fun u => (f u).reverse).flatten).length = (l.flatMap f).length
 | [] => rfl
 | x :: l => by
  have := flat_rev_len f l
  simp only [List.reverse_cons, List.map_append, List.flatten_append, List.length_append, List.map_cons, List.map_nil, List.flatten_cons, List.flatten_nil, List.append_nil, List.length_reverse, List.flatMap_cons, List.length_nil] at this ⊢
  omega
theorem zLines_ne {w : Row} {lo hi : Int} (h : RunsOK lo hi w.2) : ∀ l ∈ zLines w, l ≠ [] := by
 intro l hl
 unfold zLines at hl
 split at hl
 ·obtain ⟨u, hu, rfl⟩ := List.mem_map.1 hl
  exact lineC_ne h hu
 ·obtain ⟨u, hu, rfl⟩ := List.mem_map.1 hl
  intro e
  exact lineC_ne h (List.mem_reverse.1 hu) (List.reverse_eq_nil_iff.1 e)
theorem zLines_len (w : Row) : (zLines w).flatten.length = (rowC w).length := by
 unfold zLines rowC
 split
 ·rw [List.flatMap_def]
 ·exact flat_rev_len (lineC w.1) w.2
theorem zRow_ok {w : Row} {lo hi : Int} (h : RunsOK lo hi w.2) {z : Zs} (hz : zOK z) : zOK (zRow z w) := zFold_ok _ hz (zLines_ne h)
theorem zRow_len (z : Zs) (w : Row) : (zCells (zRow z w)).length = (zCells z).length + (rowC w).length := by
 rw [zRow, zFold_cells, List.length_append, zLines_len]
theorem zRows_ok : ∀ (l : Reg) {z : Zs}, (∀ w ∈ l, RunsOK (-4096) 4096 w.2) → zOK z → zOK (l.foldl zRow z)
 | [], _, _, hz => hz
 | w :: l, z, h, hz => zRows_ok l (fun v hv => h v (List.mem_cons_of_mem _ hv)) (zRow_ok (h w (List.mem_cons_self ..)) hz)
theorem zRows_len : ∀ (l : Reg) (z : Zs), (zCells (l.foldl zRow z)).length = (zCells z).length + (l.flatMap rowC).length
 | [], z => by simp
 | w :: l, z => by rw [List.foldl_cons, zRows_len l, zRow_len, List.flatMap_cons, List.length_append]; omega
noncomputable abbrev putX [W] {α : Type} (A : List Track) (C l : List Cell) (mk : List Track → List Cell → Option α) : Option α :=
 br (cm .geq (ar .sub .i64 (ln A) 1) 0) (gd (ib (ar .sub .i64 (ln A) 1) (ln A)) <|
 ge A (ar .sub .i64 (ln A) 1) fun v5 =>
 gd (cm .eql (pl (ar .sub .i64 (ln A) 1) 1) (ln A)) <|
 ge A (ar .sub .i64 (ln A) 1) fun v6 =>
 gd (cm .eql (pl (ar .sub .i64 (ln A) 1) 1) (ln A)) <|
 gd (ib (ar .sub .i64 (ln C) 1) (ln C)) <|
 ge C (ar .sub .i64 (ln C) 1) fun v7 =>
 gd (ib 0 (ln l)) <|
 ge l 0 fun v8 =>
 call c_hatch_near (((v7.1, v7.2), (v8.1, v8.2)) : ((Int × Int) × (Int × Int))) fun (v9 : Bool) =>
 br v9 (ge A (ar .sub .i64 (ln A) 1) fun v10 =>
 gd (cm .eql (pl (ar .sub .i64 (ln A) 1) 1) (ln A)) <|
 br (cm .leq (ar .add .i64 (ln C) (ln l)) 65536) (ge A (ar .sub .i64 (ln A) 1) fun v11 =>
 gd (cm .eql (pl (ar .sub .i64 (ln A) 1) 1) (ln A)) <|
 gd (ft 16 (pl (ln C) (ln l))) <|
 ge A (ar .sub .i64 (ln A) 1) fun v12 =>
 gd (cm .eql (pl (ar .sub .i64 (ln A) 1) 1) (ln A)) <|
 mk (st A (ar .sub .i64 (ln A) 1) (v12.1, (v12.2.1, v12.2.2))) (ap C l))
 (gd (ft 40 (pl (ln A) 1)) <|
 mk (ap (ml A fun y => (y.1, (y.2.1, C))) ((3, (false, [])) :: [])) l))
 (gd (ft 40 (pl (ln A) 1)) <|
 mk (ap (ml A fun y => (y.1, (y.2.1, C))) ((3, (false, [])) :: [])) l))
 (gd (ft 40 (pl (ln A) 1)) <|
 mk (ap (ml A fun y => (y.1, (y.2.1, C))) ((3, (false, [])) :: [])) l)
theorem get_end {C : List Cell} (h : C ≠ []) : C[C.length - 1]? = some (C.getD (C.length - 1) (0, 0)) := by
 have := List.length_pos_iff.2 h
 rw [List.getD_eq_getElem?_getD, List.getElem?_eq_getElem (by omega)]; rfl
theorem get_fst {l : List Cell} (h : l ≠ []) : l[0]? = some (l.getD 0 (0, 0)) := by
 have := List.length_pos_iff.2 h
 rw [List.getD_eq_getElem?_getD, List.getElem?_eq_getElem (by omega)]; rfl
theorem putX_ok {α : Type} {z : Zs} {l : List Cell} (hz : zOK z) (hl : l ≠ []) (hc : (zCells z).length + l.length ≤ 1000000000) (mk : List Track → List Cell → Option α) :
  @putX wv α (zA z) (zC z) l mk = mk (zA (zPut z l)) (zC (zPut z l)) := by
 have hle := hz.le
 have hlp := List.length_pos_iff.2 hl
 rcases z with _ | ⟨O, C⟩
 ·unfold putX
  dsimp only [zA, zC, zPut]
  have e : @W.cm wv .geq (@W.ar wv .sub .i64 (@W.ln wv Track []) 1) 0 = false := by decide
  rw [br_f e, fit40 (by rw [w_pl, w_ln]; simp) (by rw [w_pl, w_ln]; simp)]
  rfl
 ·have hC : C ≠ [] := hz (3, (false, C)) (List.mem_append_right _ (List.mem_singleton_self _))
  have hCp := List.length_pos_iff.2 hC
  have hT : O.length + 1 ≤ (zCells (some (O, C))).length := by
   have := hle.1
   simpa only [zT, List.length_append, List.length_singleton] using this
  have hCl : C.length ≤ (zCells (some (O, C))).length := hle.2 (3, (false, C)) (List.mem_append_right _ (List.mem_singleton_self _))
  unfold putX
  dsimp only [zA, zC]
  have e1 : @W.ar wv .sub .i64 ((O.length : Int) + 1) 1 = (O.length : Int) := by
   rw [w_sub, wr (by omega) (by omega)]; omega
  have e0 : @W.ln wv _ (O ++ [((3, (false, [])) : Track)]) = (O.length : Int) + 1 := by
   rw [w_ln, List.length_append, List.length_singleton]; omega
  have e2 : @W.ar wv .sub .i64 (@W.ln wv _ C) 1 = ((C.length - 1 : Nat) : Int) := by
   rw [w_ln, w_sub, wr (by omega) (by omega)]; omega
  simp only [e0, e1, e2]
  have hg : fget (O ++ [((3, (false, [])) : Track)]) (O.length : Int) = some (3, (false, [])) := fg (get_last O _)
  have hq : @W.cm wv .eql (@W.pl wv (O.length : Int) 1) ((O.length : Int) + 1) = true := by rw [w_eql, w_pl]; simp
  rw [br_t (by rw [w_geq]; exact decide_eq_true (by omega)), gd_ib (by omega), ge_s hg, gd_t hq, ge_s hg, gd_t hq, w_ln, gd_ib (by omega), ge_s (fg (get_end hC)), w_ln, gd_ib (by omega), ge_s (fg0 (get_fst hl)), k_near]
  have hft : ∀ {β : Type} (x : Option β), @W.gd wv β (@W.ft wv 40 (@W.pl wv ((O.length : Int) + 1) 1)) x = x := fun x => fit40 (by rw [w_pl]; omega) (by rw [w_pl]; omega)
  have hap : @W.ap wv _ (@W.ml wv _ (O ++ [((3, (false, [])) : Track)]) fun y => (y.1, (y.2.1, C))) ((3, (false, [])) :: []) = (O ++ [(3, (false, C))]) ++ [(3, (false, []))] := by rw [w_ap, w_ml, modLast_app]
  cases hn : nearB (C.getD (C.length - 1) (0, 0)) (l.getD 0 (0, 0)) with
  | false =>
   rw [br_f rfl, hft, hap]
   simp only [zPut, joinB, hn, Bool.false_and, Bool.false_eq_true, if_false, zA, zC]
  | true =>
   rw [br_t rfl, ge_s hg, gd_t hq, w_add, wr (by omega) (by omega)]
   by_cases hj : (C.length : Int) + (l.length : Int) ≤ 65536
   ·rw [br_t (by rw [w_leq]; exact decide_eq_true hj), ge_s hg, gd_t hq, fit16 (by rw [w_pl]; omega) (by rw [w_pl]; omega), ge_s hg, gd_t hq, w_st, Int.toNat_natCast, set_last]
    simp only [zPut, joinB, hn, Bool.true_and, decide_eq_true hj, if_true, zA, zC]
    rfl
   ·rw [br_f (by rw [w_leq]; exact decide_eq_false hj), hft, hap]
    simp only [zPut, joinB, hn, Bool.true_and, decide_eq_false hj, Bool.false_eq_true, if_false, zA, zC]
theorem zline_L3 (y a b : Int) (h1 : -4611686018427387904 ≤ a) (h2 : b ≤ 4611686018427387904) (h3 : b - a ≤ 1000000000) (s2 : Reg) (s3 s4 : Int) (s5 : List Run) (s6 s7 s8 s10 : Int) (s11 : List Run) (s12 : List Track) (s13 : List Cell) :
  loopN (@t_hatch_Zigzag_L3 wv) bigN ⟨y, ⟨a, ⟨s2, ⟨s3, ⟨s4, ⟨s5, ⟨s6, ⟨s7, ⟨s8, ⟨b, ⟨s10, ⟨s11, ⟨s12, ⟨s13, ⟨[], ()⟩⟩⟩⟩⟩⟩⟩⟩⟩⟩⟩⟩⟩⟩⟩ = some ⟨s2, ⟨s3, ⟨s4, ⟨s5, ⟨s6, ⟨s7, ⟨lineC y (a, b), ⟨s10, ⟨s11, ⟨s12, ⟨s13, ()⟩⟩⟩⟩⟩⟩⟩⟩⟩⟩⟩ := by
 have hloop := loop_st (b := @t_hatch_Zigzag_L3 wv) (e := ⟨s2, ⟨s3, ⟨s4, ⟨s5, ⟨s6, ⟨s7, ⟨lineC y (a, b), ⟨s10, ⟨s11, ⟨s12, ⟨s13, ()⟩⟩⟩⟩⟩⟩⟩⟩⟩⟩⟩) (fun i => ⟨y, ⟨a + (i : Int), ⟨s2, ⟨s3, ⟨s4, ⟨s5, ⟨s6, ⟨s7, ⟨s8, ⟨b, ⟨s10, ⟨s11, ⟨s12, ⟨s13, ⟨(rng a i).map fun x => (x, y), ()⟩⟩⟩⟩⟩⟩⟩⟩⟩⟩⟩⟩⟩⟩⟩) (b - a).toNat (by omega) (fun i hi => by
  unfold t_hatch_Zigzag_L3
  dsimp only
  rw [br_lt (by omega), w_ln, w_pl, fit16 (by rw [List.length_map, rng_len]; omega) (by omega), w_add, wr (by omega) (by omega), w_ap, lineC_succ, show a + (i : Int) + 1 = a + ((i + 1 : Nat) : Int) by omega]) (by unfold t_hatch_Zigzag_L3; dsimp only; rw [br_nlt (by omega)]; rfl)
 have e0 : a + ((0 : Nat) : Int) = a := by omega
 simp only [e0] at hloop
 exact hloop
theorem zline_L5 (y a b : Int) (h1 : -4611686018427387904 ≤ a) (h2 : b ≤ 4611686018427387904) (h3 : b - a ≤ 1000000000) (s2 : Int) (s3 : Reg) (s4 s5 s6 : Int) (s8 : List Run) (s9 : Int) (s10 : List Run) (s11 : List Track) (s12 : List Cell) :
  loopN (@t_hatch_Zigzag_L5 wv) bigN ⟨y, ⟨a, ⟨s2, ⟨s3, ⟨s4, ⟨s5, ⟨s6, ⟨b, ⟨s8, ⟨s9, ⟨s10, ⟨s11, ⟨s12, ⟨[], ()⟩⟩⟩⟩⟩⟩⟩⟩⟩⟩⟩⟩⟩⟩ = some ⟨s2, ⟨s3, ⟨s4, ⟨s5, ⟨lineC y (a, b), ⟨s8, ⟨s9, ⟨s10, ⟨s11, ⟨s12, ()⟩⟩⟩⟩⟩⟩⟩⟩⟩⟩ := by
 have hloop := loop_st (b := @t_hatch_Zigzag_L5 wv) (e := ⟨s2, ⟨s3, ⟨s4, ⟨s5, ⟨lineC y (a, b), ⟨s8, ⟨s9, ⟨s10, ⟨s11, ⟨s12, ()⟩⟩⟩⟩⟩⟩⟩⟩⟩⟩) (fun i => ⟨y, ⟨a + (i : Int), ⟨s2, ⟨s3, ⟨s4, ⟨s5, ⟨s6, ⟨b, ⟨s8, ⟨s9, ⟨s10, ⟨s11, ⟨s12, ⟨(rng a i).map fun x => (x, y), ()⟩⟩⟩⟩⟩⟩⟩⟩⟩⟩⟩⟩⟩⟩) (b - a).toNat (by omega) (fun i hi => by
  unfold t_hatch_Zigzag_L5
  dsimp only
  rw [br_lt (by omega), w_ln, w_pl, fit16 (by rw [List.length_map, rng_len]; omega) (by omega), w_add, wr (by omega) (by omega), w_ap, lineC_succ, show a + (i : Int) + 1 = a + ((i + 1 : Nat) : Int) by omega]) (by unfold t_hatch_Zigzag_L5; dsimp only; rw [br_nlt (by omega)]; rfl)
 have e0 : a + ((0 : Nat) : Int) = a := by omega
 simp only [e0] at hloop
 exact hloop
def rvS (l : List Cell) (m : Nat) : List Cell := (List.range l.length).map fun t => l.getD (if t < m ∨ l.length - m ≤ t then l.length - 1 - t else t) (0, 0)
theorem rvS_len (l : List Cell) (m : Nat) : (rvS l m).length = l.length := by simp [rvS]
theorem rvS_get (l : List Cell) (m : Nat) {t : Nat} (h : t < l.length) : (rvS l m)[t]? = some (l.getD (if t < m ∨ l.length - m ≤ t then l.length - 1 - t else t) (0, 0)) := by
 simp only [rvS, List.getElem?_map, List.getElem?_range h, Option.map_some]
theorem getD_get {l : List Cell} {t : Nat} (h : t < l.length) : l[t]? = some (l.getD t (0, 0)) := by
 rw [List.getD_eq_getElem?_getD, List.getElem?_eq_getElem h]; rfl
theorem rvS_zero (l : List Cell) : rvS l 0 = l := by
 refine List.ext_getElem? fun t => ?_
 by_cases h : t < l.length
 ·rw [rvS_get l 0 h, if_neg (by omega), getD_get h]
 ·rw [List.getElem?_eq_none (by rw [rvS_len]; omega), List.getElem?_eq_none (by omega)]
theorem rvS_fin (l : List Cell) : rvS l (l.length / 2) = l.reverse := by
 refine List.ext_getElem? fun t => ?_
 by_cases h : t < l.length
 ·rw [rvS_get l _ h, List.getElem?_reverse h, getD_get (by omega)]
  split
  ·rfl
  ·rw [show l.length - 1 - t = t by omega]
 ·rw [List.getElem?_eq_none (by rw [rvS_len]; omega), List.getElem?_eq_none (by rw [List.length_reverse]; omega)]
theorem rvS_step (l : List Cell) (m : Nat) (h : 2 * m + 1 < l.length) : ((rvS l m).set m (l.getD (l.length - 1 - m) (0, 0))).set (l.length - 1 - m) (l.getD m (0, 0)) = rvS l (m + 1) := by
 refine List.ext_getElem? fun t => ?_
 by_cases ht : t < l.length
 ·rw [rvS_get l (m + 1) ht, List.getElem?_set, List.getElem?_set, List.length_set, rvS_len, rvS_get l m ht]
  by_cases h1 : l.length - 1 - m = t
  ·rw [if_pos h1, if_pos (by omega), if_pos (by omega), show l.length - 1 - t = m by omega]
  ·rw [if_neg h1]
   by_cases h2 : m = t
   ·rw [if_pos h2, if_pos (by omega), if_pos (by omega), h2]
   ·rw [if_neg h2]
    congr 2
    by_cases h3 : t < m ∨ l.length - m ≤ t
    ·rw [if_pos h3, if_pos (by omega)]
    ·rw [if_neg h3, if_neg (by omega)]
 ·rw [List.getElem?_eq_none (by rw [List.length_set, List.length_set, rvS_len]; omega), List.getElem?_eq_none (by rw [rvS_len]; omega)]
theorem zrev_L6 (l : List Cell) (hl : l.length ≤ 1000000000) (s2 : Int) (s3 : Reg) (s4 s5 : Int) (s7 : List Run) (s8 : Int) (s9 : List Run) (s10 : List Track) (s11 : List Cell) :
  loopN (@t_hatch_Zigzag_L6 wv) bigN ⟨0, ⟨(l.length : Int) - 1, ⟨s2, ⟨s3, ⟨s4, ⟨s5, ⟨l, ⟨s7, ⟨s8, ⟨s9, ⟨s10, ⟨s11, ()⟩⟩⟩⟩⟩⟩⟩⟩⟩⟩⟩⟩ = some ⟨s2, ⟨s3, ⟨s4, ⟨s5, ⟨l.reverse, ⟨s7, ⟨s8, ⟨s9, ⟨s10, ⟨s11, ()⟩⟩⟩⟩⟩⟩⟩⟩⟩⟩ := by
 have hloop := loop_st (b := @t_hatch_Zigzag_L6 wv) (e := ⟨s2, ⟨s3, ⟨s4, ⟨s5, ⟨l.reverse, ⟨s7, ⟨s8, ⟨s9, ⟨s10, ⟨s11, ()⟩⟩⟩⟩⟩⟩⟩⟩⟩⟩) (fun m => ⟨(m : Int), ⟨(l.length : Int) - 1 - (m : Int), ⟨s2, ⟨s3, ⟨s4, ⟨s5, ⟨rvS l m, ⟨s7, ⟨s8, ⟨s9, ⟨s10, ⟨s11, ()⟩⟩⟩⟩⟩⟩⟩⟩⟩⟩⟩⟩) (l.length / 2) (by omega) (fun m hm => by
  have hm2 : 2 * m + 1 < l.length := by omega
  have ej : (l.length : Int) - 1 - (m : Int) = ((l.length - 1 - m : Nat) : Int) := by omega
  have g1 : fget (rvS l m) ((l.length - 1 - m : Nat) : Int) = some (l.getD (l.length - 1 - m) (0, 0)) := fg (by rw [rvS_get l m (by omega), if_neg (by omega)])
  have g2 : fget (rvS l m) (m : Int) = some (l.getD m (0, 0)) := fg (by rw [rvS_get l m (by omega), if_neg (by omega)])
  unfold t_hatch_Zigzag_L6
  dsimp only
  rw [ej, br_lt (by omega), w_ln, rvS_len, gd_ib (by omega), ge_s g1, gd_ib (by omega), ge_s g2, gd_ib (by omega), ge_s g2]
  rw [w_st, Int.toNat_natCast, w_ln, List.length_set, rvS_len, gd_ib (by omega)]
  have g3 : ∃ x, fget ((rvS l m).set m ((l.getD (l.length - 1 - m) (0, 0)).1, (l.getD (l.length - 1 - m) (0, 0)).2)) ((l.length - 1 - m : Nat) : Int) = some x := ⟨_, fg (getD_get (by rw [List.length_set, rvS_len]; omega))⟩
  obtain ⟨x, hx⟩ := g3
  rw [ge_s hx, w_st, Int.toNat_natCast, w_add, wr (by omega) (by omega), w_sub, wr (by omega) (by omega), show (((l.getD (l.length - 1 - m) (0, 0)).1, (l.getD (l.length - 1 - m) (0, 0)).2) : Cell) = l.getD (l.length - 1 - m) (0, 0) from rfl, show (((l.getD m (0, 0)).1, (l.getD m (0, 0)).2) : Cell) = l.getD m (0, 0) from rfl, rvS_step l m hm2, show ((l.length - 1 - m : Nat) : Int) - 1 = (l.length : Int) - 1 - ((m + 1 : Nat) : Int) by omega]
  rfl) (by
  unfold t_hatch_Zigzag_L6
  dsimp only
  rw [br_nlt (by omega), rvS_fin])
 have e0 : (l.length : Int) - 1 - ((0 : Nat) : Int) = (l.length : Int) - 1 := by omega
 simp only [e0, rvS_zero] at hloop
 exact hloop
noncomputable def zFwd (w : Row) (z : Zs) (k : Nat) : Zs := ((w.2.take k).map (lineC w.1)).foldl zPut z
noncomputable def zBwd (w : Row) (z : Zs) (k : Nat) : Zs := ((w.2.reverse.take k).map fun u => (lineC w.1 u).reverse).foldl zPut z
theorem zFwd_succ {w : Row} (z : Zs) {k : Nat} {u : Run} (h : w.2[k]? = some u) : zFwd w z (k + 1) = zPut (zFwd w z k) (lineC w.1 u) := by
 rw [zFwd, map_take_of h, List.foldl_append]; rfl
theorem zBwd_succ {w : Row} (z : Zs) {k : Nat} {u : Run} (h : w.2.reverse[k]? = some u) : zBwd w z (k + 1) = zPut (zBwd w z k) (lineC w.1 u).reverse := by
 rw [zBwd, map_take_of h, List.foldl_append]; rfl
theorem zFwd_ok {w : Row} {lo hi : Int} (h : RunsOK lo hi w.2) {z : Zs} (hz : zOK z) (k : Nat) : zOK (zFwd w z k) := zFold_ok _ hz fun l hl => by
 obtain ⟨u, hu, rfl⟩ := List.mem_map.1 hl
 exact lineC_ne h (List.mem_of_mem_take hu)
theorem zBwd_ok {w : Row} {lo hi : Int} (h : RunsOK lo hi w.2) {z : Zs} (hz : zOK z) (k : Nat) : zOK (zBwd w z k) := zFold_ok _ hz fun l hl => by
 obtain ⟨u, hu, rfl⟩ := List.mem_map.1 hl
 intro e
 exact lineC_ne h (List.mem_reverse.1 (List.mem_of_mem_take hu)) (List.reverse_eq_nil_iff.1 e)
theorem zFwd_len {w : Row} (z : Zs) {k : Nat} {u : Run} (h : w.2[k]? = some u) : (zCells (zFwd w z k)).length + (lineC w.1 u).length ≤ (zCells z).length + (rowC w).length := by
 have := flat_mem_le (lineC w.1) h
 rw [zFwd, zFold_cells, List.length_append, ← List.flatMap_def]
 unfold rowC
 omega
theorem rev_flat_len {α β : Type} (f : α → List β) (l : List α) : (l.reverse.flatMap fun u => (f u).reverse).length = (l.flatMap f).length := by
 rw [List.flatMap_def]; exact flat_rev_len f l
theorem zBwd_len {w : Row} (z : Zs) {k : Nat} {u : Run} (h : w.2.reverse[k]? = some u) : (zCells (zBwd w z k)).length + (lineC w.1 u).reverse.length ≤ (zCells z).length + (rowC w).length := by
 have := flat_mem_le (fun u => (lineC w.1 u).reverse) h
 rw [rev_flat_len] at this
 rw [zBwd, zFold_cells, List.length_append, ← List.flatMap_def]
 unfold rowC
 omega
theorem zig_even {w : Row} (h : RunsOK (-4096) 4096 w.2) (hy : w.1 % 2 = 0) (hw : w.2.length ≤ 1000000000) {z : Zs} (hz : zOK z) (hc : (zCells z).length + (rowC w).length ≤ 1000000000) (r : Reg) (n i : Int) :
  loopN (@t_hatch_Zigzag_L1 wv) bigN ⟨r, ⟨n, ⟨i, ⟨w.2, ⟨(w.2.length : Int), ⟨0, ⟨w.1, ⟨w.2, ⟨zA z, ⟨zC z, ()⟩⟩⟩⟩⟩⟩⟩⟩⟩⟩ = some ⟨r, ⟨n, ⟨i, ⟨zA (zRow z w), ⟨zC (zRow z w), ()⟩⟩⟩⟩⟩ := by
 have hloop := loop_st (b := @t_hatch_Zigzag_L1 wv) (e := ⟨r, ⟨n, ⟨i, ⟨zA (zFwd w z w.2.length), ⟨zC (zFwd w z w.2.length), ()⟩⟩⟩⟩⟩) (fun k => ⟨r, ⟨n, ⟨i, ⟨w.2, ⟨(w.2.length : Int), ⟨(k : Int), ⟨w.1, ⟨w.2, ⟨zA (zFwd w z k), ⟨zC (zFwd w z k), ()⟩⟩⟩⟩⟩⟩⟩⟩⟩⟩) w.2.length (by omega) (fun k hk => by
  have hu := List.getElem?_eq_getElem hk
  generalize w.2[k] = u at hu
  have hum := List.mem_of_getElem? hu
  have hb := h.bd u hum
  have hl := zFwd_len z hu
  have hJ : @t_hatch_Zigzag_J2 wv ⟨r, ⟨n, ⟨i, ⟨w.2, ⟨(w.2.length : Int), ⟨(k : Int), ⟨w.1, ⟨w.2, ⟨zA (zFwd w z k), ⟨zC (zFwd w z k), ()⟩⟩⟩⟩⟩⟩⟩⟩⟩⟩ = some ⟨r, ⟨n, ⟨i, ⟨w.2, ⟨(w.2.length : Int), ⟨(k : Int), ⟨w.1, ⟨w.2, ⟨zA (zFwd w z (k + 1)), ⟨zC (zFwd w z (k + 1)), ()⟩⟩⟩⟩⟩⟩⟩⟩⟩⟩ := by
   unfold t_hatch_Zigzag_J2
   dsimp only
   rw [ge_s (fg hu)]
   refine (lo_s (zline_L3 w.1 u.1 u.2 (by omega) (by omega) (by omega) ..)).trans ?_
   have hp := putX_ok (zFwd_ok h hz k) (lineC_ne h hum) (by omega) fun (A : List Track) (C : List Cell) => some (⟨r, ⟨n, ⟨i, ⟨w.2, ⟨(w.2.length : Int), ⟨(k : Int), ⟨w.1, ⟨w.2, ⟨A, ⟨C, ()⟩⟩⟩⟩⟩⟩⟩⟩⟩⟩ : HP Reg (HP Int (HP Int (HP (List Run) (HP Int (HP Int (HP Int (HP (List Run) (HP (List Track) (HP (List Cell) Unit))))))))))
   dsimp only [putX] at hp ⊢
   rw [zFwd_succ z hu, show ((u.1, u.2) : Run) = u from rfl]
   exact hp
  unfold t_hatch_Zigzag_L1
  dsimp only
  rw [br_lt (by omega)]
  refine (jo_s hJ).trans ?_
  dsimp only
  rw [w_add, wr (by omega) (by omega)]
  rfl) (by
  unfold t_hatch_Zigzag_L1
  dsimp only
  rw [br_nlt (by omega)])
 have e2 : zFwd w z w.2.length = zRow z w := by rw [zFwd, List.take_length, zRow, zLines, if_pos hy]
 rw [e2] at hloop
 exact hloop
theorem zig_odd {w : Row} (h : RunsOK (-4096) 4096 w.2) (hy : ¬ w.1 % 2 = 0) (hw : w.2.length ≤ 1000000000) {z : Zs} (hz : zOK z) (hc : (zCells z).length + (rowC w).length ≤ 1000000000) (r : Reg) (n i : Int) :
  loopN (@t_hatch_Zigzag_L4 wv) bigN ⟨(w.2.length : Int) - 1, ⟨r, ⟨n, ⟨i, ⟨w.2, ⟨w.1, ⟨w.2, ⟨zA z, ⟨zC z, ()⟩⟩⟩⟩⟩⟩⟩⟩⟩ = some ⟨r, ⟨n, ⟨i, ⟨w.1, ⟨w.2, ⟨zA (zRow z w), ⟨zC (zRow z w), ()⟩⟩⟩⟩⟩⟩⟩ := by
 have hloop := loop_st (b := @t_hatch_Zigzag_L4 wv) (e := ⟨r, ⟨n, ⟨i, ⟨w.1, ⟨w.2, ⟨zA (zBwd w z w.2.length), ⟨zC (zBwd w z w.2.length), ()⟩⟩⟩⟩⟩⟩⟩) (fun k => ⟨(w.2.length : Int) - 1 - (k : Int), ⟨r, ⟨n, ⟨i, ⟨w.2, ⟨w.1, ⟨w.2, ⟨zA (zBwd w z k), ⟨zC (zBwd w z k), ()⟩⟩⟩⟩⟩⟩⟩⟩⟩) w.2.length (by omega) (fun k hk => by
  have hu' : w.2.reverse[k]? = some w.2[w.2.length - 1 - k] := by rw [List.getElem?_reverse hk, List.getElem?_eq_getElem]
  have hu : w.2[w.2.length - 1 - k]? = some w.2[w.2.length - 1 - k] := List.getElem?_eq_getElem _
  generalize w.2[w.2.length - 1 - k] = u at hu hu'
  have hum := List.mem_of_getElem? hu
  have hb := h.bd u hum
  have hl := zBwd_len z hu'
  have hlen := lineC_len w.1 u
  have ek : (w.2.length : Int) - 1 - (k : Int) = ((w.2.length - 1 - k : Nat) : Int) := by omega
  unfold t_hatch_Zigzag_L4
  dsimp only
  rw [br_t (by rw [w_geq]; exact decide_eq_true (by omega)), ek, ge_s (fg hu)]
  refine (lo_s (zline_L5 w.1 u.1 u.2 (by omega) (by omega) (by omega) ..)).trans ?_
  dsimp only
  rw [show ((u.1, u.2) : Run) = u from rfl, w_ln, w_sub, wr (by omega) (by omega)]
  refine (lo_s (zrev_L6 (lineC w.1 u) (by omega) ..)).trans ?_
  have hp := putX_ok (zBwd_ok h hz k) (fun e => lineC_ne h hum (List.reverse_eq_nil_iff.1 e)) (by omega) fun (A : List Track) (C : List Cell) => some (Nx.go (B := HP Reg (HP Int (HP Int (HP Int (HP (List Run) (HP (List Track) (HP (List Cell) Unit))))))) (⟨@W.ar wv .sub .i64 ((w.2.length - 1 - k : Nat) : Int) 1, ⟨r, ⟨n, ⟨i, ⟨w.2, ⟨w.1, ⟨w.2, ⟨A, ⟨C, ()⟩⟩⟩⟩⟩⟩⟩⟩⟩ : HP Int (HP Reg (HP Int (HP Int (HP (List Run) (HP Int (HP (List Run) (HP (List Track) (HP (List Cell) Unit))))))))))
  dsimp only [putX] at hp ⊢
  rw [zBwd_succ z hu']
  refine hp.trans ?_
  rw [w_sub, wr (by omega) (by omega), show ((w.2.length - 1 - k : Nat) : Int) - 1 = (w.2.length : Int) - 1 - ((k + 1 : Nat) : Int) by omega]) (by
  unfold t_hatch_Zigzag_L4
  dsimp only
  rw [br_f (by rw [w_geq]; exact decide_eq_false (by omega))])
 have e0 : (w.2.length : Int) - 1 - ((0 : Nat) : Int) = (w.2.length : Int) - 1 := by omega
 have e2 : zBwd w z w.2.length = zRow z w := by
  rw [zBwd, List.take_of_length_le (by rw [List.length_reverse]; omega), zRow, zLines, if_neg hy]
 simp only [e0, e2] at hloop
 exact hloop
noncomputable def zigT (r : Reg) : List Track := zT (r.foldl zRow none)
theorem none_ok : zOK none := fun t ht => by cases ht
theorem zig_fin (z : Zs) : @W.ml wv _ (zA z) (fun y => (y.1, (y.2.1, zC z))) = zT z := by
 rcases z with _ | ⟨O, C⟩
 ·rfl
 ·rw [w_ml]
  exact modLast_app _ _ O
open Classical in
theorem Zigzag_ok (r : Reg) (hl : LimR r) (hc : RegOK r → (cellsC r).length ≤ 1000000000) : @t_hatch_Zigzag wv r = some (if RegOK r then zigT r else []) := by
 unfold t_hatch_Zigzag
 rw [k_region_Valid hl]
 by_cases h : RegOK r
 case neg => rw [br_t (by simp [w_nt, h]), if_neg h]
 rw [br_f (by simp [w_nt, h]), if_pos h]
 have hL := hl.1
 have hc := hc h
 have hloop := loop_st (b := @t_hatch_Zigzag_L0 wv) (e := ⟨zA (r.foldl zRow none), ⟨zC (r.foldl zRow none), ()⟩⟩) (fun i => ⟨r, ⟨(r.length : Int), ⟨(i : Int), ⟨zA ((r.take i).foldl zRow none), ⟨zC ((r.take i).foldl zRow none), ()⟩⟩⟩⟩⟩) r.length (by omega) (fun i hi => by
  have hw := List.getElem?_eq_getElem hi
  generalize r[i] = w at hw
  have hwm := List.mem_of_getElem? hw
  have hLw := hl.2 w hwm
  have hz : zOK ((r.take i).foldl zRow none) := zRows_ok _ (fun v hv => h.rs v (List.mem_of_mem_take hv)) none_ok
  have hlen : (zCells ((r.take i).foldl zRow none)).length + (rowC w).length ≤ 1000000000 := by
   rw [zRows_len]
   have := flat_mem_le rowC hw
   unfold cellsC at hc
   simp only [zCells, zT, List.flatMap_nil, List.length_nil]
   omega
  have hs : (r.take (i + 1)).foldl zRow none = zRow ((r.take i).foldl zRow none) w := by rw [take_succ_of hw, List.foldl_append]; rfl
  unfold t_hatch_Zigzag_L0
  dsimp only
  rw [br_lt (by omega), ge_s (fg hw), k_rest (by omega) (by omega), hs]
  by_cases hy : w.1 % 2 = 0
  ·rw [br_t (by rw [w_eql]; simp [hy])]
   refine (lo_s (zig_even (h.rs w hwm) hy hLw hz hlen r (r.length : Int) (i : Int))).trans ?_
   dsimp only
   rw [w_add, wr (by omega) (by omega)]
   rfl
  ·rw [br_f (by rw [w_eql]; simp [hy]), w_ln, w_sub, wr (by omega) (by omega)]
   refine (lo_s (zig_odd (h.rs w hwm) hy hLw hz hlen r (r.length : Int) (i : Int))).trans ?_
   dsimp only
   rw [w_add, wr (by omega) (by omega)]
   rfl) (by
  unfold t_hatch_Zigzag_L0
  dsimp only
  rw [br_nlt (by omega), List.take_length])
 refine (lo_s hloop).trans ?_
 exact congrArg some (zig_fin _)
open Classical in
theorem k_Zigzag {α : Type} {r : Reg} (hl : LimR r) (hc : RegOK r → (cellsC r).length ≤ 1000000000) (k : List (Int × (Bool × List (Int × Int))) → Option α) : @W.call wv α c_hatch_Zigzag r k = k (if RegOK r then zigT r else []) := ca_s (c := c_hatch_Zigzag) (Zigzag_ok r hl hc)
end Go.Proofs.YtmiobebagbhffaaGreat
namespace Go.Proofs.YtmiobebagbhffaaGreat
open Go Go.Vv Go.Dn Go.Dn.W
set_option linter.unusedVariables false
set_option linter.unusedSimpArgs false
set_option maxRecDepth 100000
section reach
variable {A B : Type} {b : A → Option (Nx A B)}
def Reach (b : A → Option (Nx A B)) (n : Nat) (s s' : A) : Prop := ∀ M, loopN b (n + M) s = loopN b M s'
theorem Reach.refl (s : A) : Reach b 0 s s := fun M => by rw [Nat.zero_add]
theorem Reach.trans {n m : Nat} {s t u : A} (h1 : Reach b n s t) (h2 : Reach b m t u) : Reach b (n + m) s u := fun M => by rw [Nat.add_assoc, h1, h2]
theorem Reach.one {s t : A} (h : b s = some (.go t)) : Reach b 1 s t := fun M => by rw [Nat.add_comm]; exact loop_go h
theorem Reach.many (st : Nat → A) : ∀ N : Nat, (∀ i, i < N → b (st i) = some (.go (st (i + 1)))) → Reach b N (st 0) (st N)
 | 0, _ => Reach.refl _
 | N + 1, h => (Reach.many st N fun i hi => h i (by omega)).trans (Reach.one (h N (by omega)))
theorem Reach.out {n : Nat} {s t : A} {e : B} (h1 : Reach b n s t) (h2 : b t = some (.out e)) (hn : n < 1000000000000) : loopN b bigN s = some e := by
 obtain ⟨M, hM⟩ : ∃ M, bigN = n + (M + 1) := ⟨bigN - n - 1, by unfold bigN; omega⟩
 rw [hM, h1]
 exact loop_out h2
end reach
noncomputable abbrev putR [W] {α : Type} (A : List Track) (l : List Cell) (ro : Int) (mk : List Track → Option α) : Option α :=
 br (cm .gtr (ln A) 0) (gd (ib (ar .sub .i64 (ln A) 1) (ln A)) <|
 ge A (ar .sub .i64 (ln A) 1) fun v7 =>
 ge v7.2.2 (ar .sub .i64 (ln v7.2.2) 1) fun v8 =>
 ge l 0 fun v9 =>
 call c_additiveref29_near (((v8.1, v8.2), (v9.1, v9.2)) : ((Int × Int) × (Int × Int))) fun (v10 : Bool) =>
 br v10 (br (cm .leq (ar .add .i64 (ln v7.2.2) (ln l)) 65536) (gd (le 0 (ar .sub .i64 (ln A) 1)) <|
 gd (le (ar .sub .i64 (ln A) 1) (ln A)) <|
 gd (le 0 0) <|
 gd (le 0 (ar .sub .i64 (ln A) 1)) <|
 gd (le (pl 0 (ar .sub .i64 (ln A) 1)) (ln A)) <|
 gd (ft 40 (pl 0 (ln (ct A 0 (ar .sub .i64 (ln A) 1))))) <|
 gd (ft 16 (pl 0 (ln v7.2.2))) <|
 gd (ft 16 (pl (ln v7.2.2) (ln l))) <|
 gd (ft 40 (pl (ln (ct A 0 (ar .sub .i64 (ln A) 1))) 1)) <|
 mk (ap (ct A 0 (ar .sub .i64 (ln A) 1)) ((ro, (false, (ap v7.2.2 l))) :: [])))
 (gd (ft 40 (pl (ln A) 1)) <|
 mk (ap A ((ro, (false, l)) :: []))))
 (gd (ft 40 (pl (ln A) 1)) <|
 mk (ap A ((ro, (false, l)) :: []))))
 (gd (ft 40 (pl (ln A) 1)) <|
 mk (ap A ((ro, (false, l)) :: [])))
abbrev St := HP Int (HP (List Cell) (HP Int (HP Reg (HP (List Track) Unit))))
abbrev stZ (r : Reg) (i : Nat) (z : Zs) : St := ⟨3, ⟨cellsC r, ⟨(i : Int), ⟨r, ⟨zT z, ()⟩⟩⟩⟩⟩
abbrev St5 := HP Int (HP (List Cell) (HP Int (HP Int (HP Reg (HP (List Track) Unit)))))
abbrev St7 := HP Int (HP (List Cell) (HP Int (HP Int (HP Int (HP Reg (HP (List Track) Unit))))))
abbrev stD (r : Reg) (i : Nat) (y k : Int) (z : Zs) : St7 := ⟨3, ⟨cellsC r, ⟨(i : Int), ⟨y, ⟨k, ⟨r, ⟨zT z, ()⟩⟩⟩⟩⟩⟩⟩
theorem zigT_ok {r : Reg} (h : RegOK r) : zOK (r.foldl zRow none) := zRows_ok _ h.rs none_ok
theorem zigT_lim {r : Reg} (h : RegOK r) (hc : (cellsC r).length ≤ 1000000000) : (zigT r).length ≤ 1000000000 ∧ ∀ t ∈ zigT r, t.2.2.length ≤ 1000000000 := by
 obtain ⟨h1, h2⟩ := (zigT_ok h).le
 have h3 : (zCells (r.foldl zRow none)).length ≤ 1000000000 := by
  rw [zRows_len]
  unfold cellsC at hc
  simp only [zCells, zT, List.flatMap_nil, List.length_nil]
  omega
 exact ⟨Nat.le_trans h1 h3, fun t ht => Nat.le_trans (h2 t ht) h3⟩
end Go.Proofs.YtmiobebagbhffaaGreat
namespace Go.Proofs.YtmiobebagbhffaaGreat
open Go Go.Vv Go.Dn Go.Dn.W
set_option linter.unusedVariables false
set_option linter.unusedSimpArgs false
set_option maxRecDepth 100000
theorem runs_mem_of {lo hi : Int} {l m : List Run} (hl : RunsOK lo hi l) (hm : RunsOK lo hi m) (h : ∀ x, inRuns l x ↔ inRuns m x) {u : Run} (hu : u ∈ l) : u ∈ m := by
 have hb := hl.bd u hu
 obtain ⟨v, hv, h1, h2⟩ := (h u.1).1 ⟨u, hu, by omega, by omega⟩
 have hbv := hm.bd v hv
 have e1 : v.1 = u.1 := by
  by_cases q : v.1 = u.1
  ·exact q
  ·exact (hl.left hu ((h _).2 ⟨v, hv, by omega, by omega⟩)).elim
 have e2 : v.2 = u.2 := by
  by_cases q : v.2 < u.2
  ·exact (hm.right hv ((h _).1 ⟨u, hu, by omega, by omega⟩)).elim
  ·by_cases q2 : u.2 < v.2
   ·exact (hl.right hu ((h _).2 ⟨v, hv, by omega, by omega⟩)).elim
   ·omega
 rw [show u = v from Prod.ext e1.symm e2.symm]
 exact hv
theorem runs_fst_pw {lo hi : Int} {l : List Run} (h : RunsOK lo hi l) : l.Pairwise fun a b => a.1 < b.1 := by
 have hb := h.bd
 have hp := h.pw
 clear h
 induction l with
 | nil => exact .nil
 | cons x l ih =>
  obtain ⟨p1, p2⟩ := List.pairwise_cons.1 hp
  have hx := hb x (List.mem_cons_self ..)
  refine List.pairwise_cons.2 ⟨fun y hy => ?_, ih (fun y hy => hb y (List.mem_cons_of_mem _ hy)) p2⟩
  have := p1 y hy
  omega
theorem runs_uniq {lo hi : Int} {l m : List Run} (hl : RunsOK lo hi l) (hm : RunsOK lo hi m) (h : ∀ x, inRuns l x ↔ inRuns m x) : l = m :=
 strict_uniq (R := fun a b : Run => a.1 < b.1) (fun a b h1 h2 => by omega) (runs_fst_pw hl) (runs_fst_pw hm) fun u => ⟨runs_mem_of hl hm h, runs_mem_of hm hl fun x => (h x).symm⟩
theorem row_mem_of {a b : Reg} (ha : RegOK a) (hb : RegOK b) (h : ∀ c, inReg a c ↔ inReg b c) {w : Row} (hw : w ∈ a) : w ∈ b := by
 obtain ⟨u, hu⟩ := List.exists_mem_of_ne_nil _ (ha.ne w hw)
 have hbd := (ha.rs w hw).bd u hu
 obtain ⟨v, hv, e, -⟩ := (h (u.1, w.1)).1 ⟨w, hw, rfl, u, hu, Int.le_refl _, hbd.2.1⟩
 have e2 : w.2 = v.2 := runs_uniq (ha.rs w hw) (hb.rs v hv) fun x => by
  rw [← ha.in_row hw x, ← hb.in_row hv x, e]
  exact h _
 rw [show w = v from Prod.ext e.symm e2]
 exact hv
theorem reg_uniq {a b : Reg} (ha : RegOK a) (hb : RegOK b) (h : ∀ c, inReg a c ↔ inReg b c) : a = b :=
 strict_uniq (R := fun a b : Row => a.1 < b.1) (fun a b h1 h2 => by omega) ha.pw hb.pw fun w => ⟨row_mem_of ha hb h, row_mem_of hb ha fun c => (h c).symm⟩
structure Walk (l : List Cell) : Prop where
 gr : ∀ c ∈ l, grid c
 nx : ∀ i a b, l[i]? = some a → l[i + 1]? = some b → nb a b
theorem nb_symm {a b : Cell} (h : nb a b) : nb b a := by
 unfold nb at *
 rw [show b.1 - a.1 = -(a.1 - b.1) by omega, show b.2 - a.2 = -(a.2 - b.2) by omega, Int.neg_mul_neg, Int.neg_mul_neg]
 exact h
theorem near_nb {a b : Cell} (ha : grid a) (hb : grid b) : nearB a b = decide (nb a b) := by
 unfold grid at ha hb
 have h1 := sq_bd (d := a.1 - b.1) (by omega) (by omega)
 have h2 := sq_bd (d := a.2 - b.2) (by omega) (by omega)
 unfold nearB t_additiveref29_near
 dsimp only [Option.getD_some]
 simp only [w_add, w_mul, w_sub, w_eql]
 rw [wr (n := a.1 - b.1) (by omega) (by omega), wr (n := a.2 - b.2) (by omega) (by omega), wr (n := (a.1 - b.1) * (a.1 - b.1)) (by omega) (by omega), wr (n := (a.2 - b.2) * (a.2 - b.2)) (by omega) (by omega), wr (by omega) (by omega)]
 rfl
theorem walk_app {C l : List Cell} (hC : Walk C) (hl : Walk l) (h : ∀ a b, C[C.length - 1]? = some a → l[0]? = some b → nb a b) : Walk (C ++ l) := by
 refine ⟨fun c hc => ?_, fun i a b ha hb => ?_⟩
 ·rcases List.mem_append.1 hc with q | q
  ·exact hC.gr c q
  ·exact hl.gr c q
 ·by_cases h1 : i + 1 < C.length
  ·rw [List.getElem?_append_left (by omega)] at ha
   rw [List.getElem?_append_left h1] at hb
   exact hC.nx i a b ha hb
  ·by_cases h2 : i + 1 = C.length
   ·rw [List.getElem?_append_left (by omega)] at ha
    rw [List.getElem?_append_right (by omega), show i + 1 - C.length = 0 by omega] at hb
    exact h a b (by rw [show C.length - 1 = i by omega]; exact ha) hb
   ·rw [List.getElem?_append_right (by omega)] at ha
    rw [List.getElem?_append_right (by omega), show i + 1 - C.length = i - C.length + 1 by omega] at hb
    exact hl.nx _ a b ha hb
theorem walk_rev {l : List Cell} (h : Walk l) : Walk l.reverse := by
 refine ⟨fun c hc => h.gr c (List.mem_reverse.1 hc), fun i a b ha hb => ?_⟩
 have h1 := (List.getElem?_eq_some_iff.1 hb).1
 rw [List.length_reverse] at h1
 rw [List.getElem?_reverse (by omega)] at ha hb
 refine nb_symm (h.nx (l.length - 1 - (i + 1)) b a hb ?_)
 rw [show l.length - 1 - (i + 1) + 1 = l.length - 1 - i by omega]
 exact ha
theorem walk_line {r : Reg} (h : RegOK r) {w : Row} (hw : w ∈ r) {u : Run} (hu : u ∈ w.2) : Walk (lineC w.1 u) := by
 have hb := (h.rs w hw).bd u hu
 have hy := h.y w hw
 refine ⟨fun c hc => ?_, fun i a b ha hb2 => ?_⟩
 ·obtain ⟨e, h1⟩ := mem_line.1 hc
  unfold grid
  omega
 ·obtain ⟨rfl, h1⟩ := lineC_get ha
  obtain ⟨rfl, h2⟩ := lineC_get hb2
  unfold nb
  dsimp only
  rw [show u.1 + (i : Int) - (u.1 + ((i + 1 : Nat) : Int)) = -1 by omega, Int.sub_self]
  rfl
theorem VT_walk {l : List Cell} (h : Walk l) (h0 : l ≠ []) (hl : l.length ≤ 65536) : VT (3, (false, l)) := by
 have := List.length_pos_iff.2 h0
 refine ⟨by dsimp only; omega, ⟨by dsimp only; omega, hl⟩, fun i hi c hc => ⟨h.gr c (List.mem_of_getElem? hc), fun p hp0 hp => ?_⟩, fun q => by cases q⟩
 exact h.nx (i - 1) p c hp (by rw [show i - 1 + 1 = i by omega]; exact hc)
def zV (z : Zs) : Prop := ∀ t ∈ zT z, t.1 = 3 ∧ t.2.1 = false ∧ t.2.2 ≠ [] ∧ t.2.2.length ≤ 65536 ∧ Walk t.2.2
theorem zPut_V {z : Zs} {l : List Cell} (h : zV z) (h0 : l ≠ []) (hl : l.length ≤ 65536) (hw : Walk l) : zV (zPut z l) := by
 have hn : (3 : Int) = 3 ∧ false = false ∧ l ≠ [] ∧ l.length ≤ 65536 ∧ Walk l := ⟨rfl, rfl, h0, hl, hw⟩
 rcases z with _ | ⟨O, C⟩
 ·intro t ht
  simp only [zPut, zT, List.nil_append, List.mem_singleton] at ht
  rw [ht]; exact hn
 ·have hO : ∀ t ∈ O, t.1 = 3 ∧ t.2.1 = false ∧ t.2.2 ≠ [] ∧ t.2.2.length ≤ 65536 ∧ Walk t.2.2 := fun t ht => h t (List.mem_append_left _ ht)
  obtain ⟨-, -, hC0, hCl, hCw⟩ := h (3, (false, C)) (List.mem_append_right _ (List.mem_singleton_self _))
  dsimp only at hC0 hCl hCw
  simp only [zPut]
  split
  ·rename_i hj
   unfold joinB at hj
   rw [Bool.and_eq_true, decide_eq_true_eq] at hj
   intro t ht
   rcases List.mem_append.1 ht with q | q
   ·exact hO t q
   ·rw [List.mem_singleton.1 q]
    refine ⟨rfl, rfl, fun e => hC0 (List.append_eq_nil_iff.1 e).1, by rw [List.length_append]; omega, walk_app hCw hw fun a b ha hb => ?_⟩
    rw [get_end hC0] at ha
    rw [get_fst h0] at hb
    injection ha with e1; injection hb with e2
    rw [e1, e2] at hj
    have ga : grid a := hCw.gr a (by rw [← e1]; exact List.mem_of_getElem? (get_end hC0))
    have gb : grid b := hw.gr b (by rw [← e2]; exact List.mem_of_getElem? (get_fst h0))
    have := hj.1
    rw [near_nb ga gb] at this
    exact of_decide_eq_true this
  ·intro t ht
   rcases List.mem_append.1 ht with q | q
   ·rcases List.mem_append.1 q with q | q
    ·exact hO t q
    ·rw [List.mem_singleton.1 q]; exact ⟨rfl, rfl, hC0, hCl, hCw⟩
   ·rw [List.mem_singleton.1 q]; exact hn
theorem zFold_V : ∀ (ls : List (List Cell)) {z : Zs}, zV z → (∀ l ∈ ls, l ≠ [] ∧ l.length ≤ 65536 ∧ Walk l) → zV (ls.foldl zPut z)
 | [], _, h, _ => h
 | l :: ls, z, h, hl => by
  obtain ⟨h1, h2, h3⟩ := hl l (List.mem_cons_self ..)
  exact zFold_V ls (zPut_V h h1 h2 h3) fun m hm => hl m (List.mem_cons_of_mem _ hm)
theorem zLines_V {r : Reg} (h : RegOK r) {w : Row} (hw : w ∈ r) : ∀ l ∈ zLines w, l ≠ [] ∧ l.length ≤ 65536 ∧ Walk l := by
 intro l hl
 have hlen : ∀ u ∈ w.2, (lineC w.1 u).length ≤ 65536 := fun u hu => by
  have := (h.rs w hw).bd u hu
  rw [lineC_len]; omega
 refine ⟨zLines_ne (h.rs w hw) l hl, ?_⟩
 unfold zLines at hl
 split at hl
 ·obtain ⟨u, hu, rfl⟩ := List.mem_map.1 hl
  exact ⟨hlen u hu, walk_line h hw hu⟩
 ·obtain ⟨u, hu, rfl⟩ := List.mem_map.1 hl
  have hu := List.mem_reverse.1 hu
  exact ⟨by rw [List.length_reverse]; exact hlen u hu, walk_rev (walk_line h hw hu)⟩
theorem zRows_V {r : Reg} (h : RegOK r) : ∀ (l : Reg) {z : Zs}, (∀ w ∈ l, w ∈ r) → zV z → zV (l.foldl zRow z)
 | [], _, _, hz => hz
 | w :: l, z, hm, hz => zRows_V h l (fun v hv => hm v (List.mem_cons_of_mem _ hv)) (zFold_V _ hz (zLines_V h (hm w (List.mem_cons_self ..))))
theorem zigT_V {r : Reg} (h : RegOK r) {t : Track} (ht : t ∈ zigT r) : VT t ∧ t.1 = 3 := by
 obtain ⟨e1, e2, h1, h2, h3⟩ := zRows_V h r (fun _ hw => hw) (z := none) (fun t ht => by cases ht) t ht
 obtain ⟨a, b, c⟩ := t
 dsimp only at e1 e2 h1 h2 h3
 subst e1; subst e2
 exact ⟨VT_walk h3 h1 h2, rfl⟩
theorem mem_zLines {w : Row} {c : Cell} : c ∈ (zLines w).flatten ↔ c ∈ rowC w := by
 unfold zLines rowC
 rw [List.mem_flatten, List.mem_flatMap]
 split
 ·constructor
  ·rintro ⟨l, hl, hc⟩
   obtain ⟨u, hu, rfl⟩ := List.mem_map.1 hl
   exact ⟨u, hu, hc⟩
  ·rintro ⟨u, hu, hc⟩
   exact ⟨_, List.mem_map.2 ⟨u, hu, rfl⟩, hc⟩
 ·constructor
  ·rintro ⟨l, hl, hc⟩
   obtain ⟨u, hu, rfl⟩ := List.mem_map.1 hl
   exact ⟨u, List.mem_reverse.1 hu, List.mem_reverse.1 hc⟩
  ·rintro ⟨u, hu, hc⟩
   exact ⟨_, List.mem_map.2 ⟨u, List.mem_reverse.2 hu, rfl⟩, List.mem_reverse.2 hc⟩
theorem mem_zRows {c : Cell} : ∀ (l : Reg) (z : Zs), c ∈ zCells (l.foldl zRow z) ↔ c ∈ zCells z ∨ c ∈ l.flatMap rowC
 | [], z => by simp
 | w :: l, z => by
  rw [List.foldl_cons, mem_zRows l, zRow, zFold_cells, List.mem_append, mem_zLines, List.flatMap_cons, List.mem_append, or_assoc]
theorem zig_cover {r : Reg} (h : RegOK r) (c : Cell) : (∃ t ∈ zigT r, VT t ∧ c ∈ t.2.2) ↔ inReg r c := by
 have e := mem_zRows (c := c) r none
 rw [← mem_cells]
 constructor
 ·rintro ⟨t, ht, -, hc⟩
  rcases e.1 (List.mem_flatMap.2 ⟨t, ht, hc⟩) with q | q
  ·simp only [zCells, zT, List.flatMap_nil] at q; cases q
  ·exact q
 ·intro hc
  obtain ⟨t, ht, hc⟩ := List.mem_flatMap.1 (e.2 (.inr hc))
  exact ⟨t, ht, (zigT_V h ht).1, hc⟩
theorem zig_len (r : Reg) : ((zigT r).flatMap fun t => t.2.2).length = (cellsC r).length := by
 have := zRows_len r none
 simp only [zCells, zT, List.flatMap_nil, List.length_nil, Nat.zero_add] at this
 exact this
theorem rows_one (r : Reg) (p : Int) : ((rowsT r 1 p).flatMap fun t => t.2.2) = cellsC r := by
 unfold rowsT cellsC
 rw [List.flatMap_assoc]
 congr 1
 funext w
 unfold rowT rowC
 rw [if_pos (by omega)]
 generalize w.2 = l
 induction l with
 | nil => rfl
 | cons u l ih => rw [List.map_cons, List.flatMap_cons, List.flatMap_cons, ih]; rfl
theorem rows_V {r : Reg} (h : RegOK r) (s p : Int) {t : Track} (ht : t ∈ rowsT r s p) : VT t ∧ t.1 = 4 := by
 obtain ⟨w, hw, -, u, hu, rfl⟩ := (mem_rowsT s p).1 ht
 exact ⟨(trk_VT h hw hu).1, rfl⟩
theorem cols_V {T : Reg} (h : RegOK T) (s p : Int) {t : Track} (ht : t ∈ (rowsT T s p).map flipT) : VT t ∧ t.1 = 4 := by
 obtain ⟨v, hv, rfl⟩ := List.mem_map.1 ht
 obtain ⟨w, hw, -, u, hu, rfl⟩ := (mem_rowsT s p).1 hv
 exact ⟨(trk_VT h hw hu).2, rfl⟩
theorem swp_inj : ∀ a b : Cell, swp a = swp b → a = b := fun a b e => by rw [← swp_swp a, e, swp_swp]
theorem turned_len {r T : Reg} (h : RegOK r) (hT : Turned r T) : (cellsC T).length = (cellsC r).length :=
 Nat.le_antisymm (cells_le_of h hT.ok swp swp_inj fun c hc => (hT.iff c).1 hc) (cells_le_of hT.ok h swp swp_inj fun c hc => (hT.iff (swp c)).2 (by rw [swp_swp]; exact hc))
def runsLen (l : List Run) : Nat := (l.flatMap (lineC 0)).length
theorem runsLen_row (w : Row) : (rowC w).length = runsLen w.2 := by
 unfold rowC runsLen
 generalize w.2 = l
 induction l with
 | nil => rfl
 | cons u l ih => rw [List.flatMap_cons, List.flatMap_cons, List.length_append, List.length_append, ih, lineC_len, lineC_len]
end Go.Proofs.YtmiobebagbhffaaGreat
namespace Go.Proofs.YtmiobebagbhffaaGreat
open Go Go.Vv Go.Dn Go.Dn.W
set_option linter.unusedVariables false
set_option linter.unusedSimpArgs false
set_option maxRecDepth 100000
theorem runs_Length_ok (l : List Run) (h : RunsOK (-1048576) 1048576 l) (hl : l.length ≤ 1000000000) (hn : runsLen l ≤ 1000000000) : @t_runs_Length wv l = some ((runsLen l : Nat) : Int) := by
 have hloop := loop_st (b := @t_runs_Length_L0 wv) (e := ⟨((runsLen l : Nat) : Int), ()⟩) (fun i => ⟨((((l.take i).flatMap (lineC 0)).length : Nat) : Int), ⟨l, ⟨(l.length : Int), ⟨(i : Int), ()⟩⟩⟩⟩) l.length (by omega) (fun i hi => by
  have hu := List.getElem?_eq_getElem hi
  generalize l[i] = u at hu
  have hb := h.bd u (List.mem_of_getElem? hu)
  have hle := flat_mem_le (lineC 0) hu
  have hll := lineC_len 0 u
  unfold runsLen at hn
  unfold t_runs_Length_L0
  dsimp only
  rw [br_lt (by omega), ge_s (fg hu), w_sub, w_add, w_add, wr (n := u.2 - u.1) (by omega) (by omega), wr (by omega) (by omega), wr (n := (i : Int) + 1) (by omega) (by omega), flat_take hu, List.length_append, show ((((l.take i).flatMap (lineC 0)).length : Nat) : Int) + (u.2 - u.1) = ((((l.take i).flatMap (lineC 0)).length + (lineC 0 u).length : Nat) : Int) by omega]
  rfl) (by
  unfold t_runs_Length_L0
  dsimp only
  rw [br_nlt (by omega), List.take_length]
  rfl)
 unfold t_runs_Length
 rw [k_runs_Valid hl, br_f (by simp [w_nt, h])]
 exact lo_s hloop
theorem Count_ok (r : Reg) (hl : LimR r) (h : RegOK r) (hc : (cellsC r).length ≤ 1000000000) : @t_region_Count wv r = some (((cellsC r).length : Nat) : Int) := by
 have hL := hl.1
 have hloop := loop_st (b := @t_region_Count_L0 wv) (e := ⟨(((cellsC r).length : Nat) : Int), ()⟩) (fun i => ⟨((((r.take i).flatMap rowC).length : Nat) : Int), ⟨r, ⟨(r.length : Int), ⟨(i : Int), ()⟩⟩⟩⟩) r.length (by omega) (fun i hi => by
  have hw := List.getElem?_eq_getElem hi
  generalize r[i] = w at hw
  have hwm := List.mem_of_getElem? hw
  have hle := flat_mem_le rowC hw
  have hrl := runsLen_row w
  unfold cellsC at hc
  have hv : RunsOK (-1048576) 1048576 w.2 := ⟨fun x hx => by have := (h.rs w hwm).bd x hx; omega, (h.rs w hwm).pw⟩
  unfold t_region_Count_L0
  dsimp only
  rw [br_lt (by omega), ge_s (fg hw)]
  refine (ca_s (c := c_runs_Length) (runs_Length_ok w.2 hv (hl.2 w hwm) (by omega))).trans ?_
  rw [w_add, w_add, wr (by omega) (by omega), wr (n := (i : Int) + 1) (by omega) (by omega), flat_take hw, List.length_append, hrl]
  rfl) (by
  unfold t_region_Count_L0
  dsimp only
  rw [br_nlt (by omega), List.take_length]
  rfl)
 unfold t_region_Count
 rw [k_region_Valid hl, br_f (by simp [w_nt, h])]
 exact lo_s hloop
theorem Same18_ok (r : Reg) (hl : LimR r) : @t_additiveref18_Same wv (r, r) = some true := by
 have hL := hl.1
 have hloop := loop_st (b := @t_additiveref18_Same_L0 wv) (e := .inr ()) (fun i => ⟨(i : Int), ⟨r, ⟨r, ()⟩⟩⟩) r.length (by omega) (fun i hi => by
  have hw := List.getElem?_eq_getElem hi
  generalize r[i] = w at hw
  have hwm := List.mem_of_getElem? hw
  have hLw := hl.2 w hwm
  have hin := loop_st (b := @t_additiveref18_Same_L1 wv) (e := .inr ⟨(i : Int), ⟨r, ⟨r, ()⟩⟩⟩) (fun k => ⟨(i : Int), ⟨(k : Int), ⟨r, ⟨r, ⟨w.1, ⟨w.2, ⟨w.1, ⟨w.2, ()⟩⟩⟩⟩⟩⟩⟩⟩) w.2.length (by omega) (fun k hk => by
   have hu := List.getElem?_eq_getElem hk
   generalize w.2[k] = u at hu
   unfold t_additiveref18_Same_L1
   dsimp only
   rw [w_ln, br_lt (by omega), ge_s (fg hu), ge_s (fg hu), br_f (by simp [w_nt, w_an, w_eql]), w_add, wr (by omega) (by omega)]
   rfl) (by
   unfold t_additiveref18_Same_L1
   dsimp only
   rw [w_ln, br_nlt (by omega)])
  unfold t_additiveref18_Same_L0
  dsimp only
  rw [w_ln, br_lt (by omega), ge_s (fg hw), ge_s (fg hw), br_f (by simp [w_neq]), br_f (by simp [w_neq])]
  refine (lo_s hin).trans ?_
  dsimp only
  rw [w_add, wr (by omega) (by omega)]
  rfl) (by
  unfold t_additiveref18_Same_L0
  dsimp only
  rw [w_ln, br_nlt (by omega)])
 unfold t_additiveref18_Same
 dsimp only
 rw [br_f (by simp [w_neq])]
 exact lo_s hloop
theorem cells_ok (l : List Track) (role : Int) (hV : ∀ t ∈ l, VT t ∧ t.1 = role) (hl : l.length ≤ 1000000000) (hc : (l.flatMap fun t => t.2.2).length ≤ 1000000000) : @t_additivelaw29_cells wv (l, role) = some ((((l.flatMap fun t => t.2.2).length : Nat) : Int), true) := by
 have hloop := loop_st (b := @t_additivelaw29_cells_L0 wv) (e := .inr ⟨(((l.flatMap fun t => t.2.2).length : Nat) : Int), ()⟩) (fun i => ⟨l, ⟨role, ⟨((((l.take i).flatMap fun t => t.2.2).length : Nat) : Int), ⟨(i : Int), ()⟩⟩⟩⟩) l.length (by omega) (fun i hi => by
  have hx := List.getElem?_eq_getElem hi
  generalize l[i] = t at hx
  obtain ⟨v1, v2⟩ := hV t (List.mem_of_getElem? hx)
  have hle := flat_mem_le (fun t : Track => t.2.2) hx
  unfold t_additivelaw29_cells_L0
  dsimp only
  rw [w_ln, br_lt (by omega), ge_s (fg hx), ge_s (fg hx), k_track_Valid, br_f (by simp [w_nt, v1]), ge_s (fg hx), br_f (by rw [w_neq, v2]; simp), w_ln, w_add, w_add, wr (by omega) (by omega), wr (n := (i : Int) + 1) (by omega) (by omega), flat_take hx, List.length_append]
  rfl) (by
  unfold t_additivelaw29_cells_L0
  dsimp only
  rw [w_ln, br_nlt (by omega), List.take_length])
 unfold t_additivelaw29_cells
 exact lo_s hloop
theorem eql_t {a b : Int} (h : a = b) : @W.cm wv .eql a b = true := by rw [w_eql, h]; simp
open Classical in
theorem covers_true (r : Reg) (p : Int) : @t_additivelaw29_HatchCovers wv (r, p) = some true := by
 unfold t_additivelaw29_HatchCovers
 dsimp only
 rw [k_few]
 generalize hF : fewR r = F
 have hl : LimR F := hF ▸ fewR_lim r
 have hc : RegOK F → (cellsC F).length ≤ 1000000000 := fun h => by
  have := fewR_cells r (by rw [hF]; exact h)
  rw [hF] at this
  omega
 rw [k_Zigzag hl hc, k_Rows hl hc]
 obtain ⟨T, hT, e1⟩ := Columns_ok F 1 p hl hc
 refine (ca_s (c := c_hatch_Columns) e1).trans ?_
 rw [k_ref_Valid hl]
 by_cases h : RegOK F
 case neg =>
  have h2 : ¬ (RegOK F ∧ 1 ≤ (1 : Int) ∧ (1 : Int) ≤ 64) := fun q => h q.1
  simp only [if_neg h, if_neg h2]
  rw [br_t (by simp [w_nt, h])]
  refine (br_t (eql_t rfl)).trans ?_
  refine (br_t (eql_t rfl)).trans ?_
  refine (br_t (eql_t rfl)).trans ?_
  rw [k_awake]
 have h2 : RegOK F ∧ 1 ≤ (1 : Int) ∧ (1 : Int) ≤ 64 := ⟨h, by omega, by omega⟩
 simp only [if_pos h, if_pos h2]
 rw [br_f (by simp [w_nt, h])]
 have hc := hc h
 have hT := hT h
 have n1 : ((zigT F).flatMap fun t => t.2.2).length = (cellsC F).length := zig_len F
 have n2 : ((rowsT F 1 p).flatMap fun t => t.2.2).length = (cellsC F).length := by rw [rows_one]
 have n3 : (((rowsT T 1 p).map flipT).flatMap fun t => t.2.2).length = (cellsC F).length := by rw [flip_cells_len, rows_one, turned_len h hT]
 have l1 := (zigT_lim h hc).1
 have l2 := (rowsT_lim h 1 p hc).1
 have l3 : ((rowsT T 1 p).map flipT).length ≤ 1000000000 := by
  rw [List.length_map]
  exact (rowsT_lim hT.ok 1 p (by rw [turned_len h hT]; exact hc)).1
 have c1 := cells_ok (zigT F) 3 (fun t ht => zigT_V h ht) l1 (by omega)
 have c2 := cells_ok (rowsT F 1 p) 4 (fun t ht => rows_V h 1 p ht) l2 (by omega)
 have c3 := cells_ok ((rowsT T 1 p).map flipT) 4 (fun t ht => cols_V hT.ok 1 p ht) l3 (by omega)
 rw [n1] at c1
 rw [n2] at c2
 rw [n3] at c3
 refine (ca_s (c := c_additivelaw29_cells) c1).trans ?_
 refine (ca_s (c := c_additivelaw29_cells) c2).trans ?_
 refine (ca_s (c := c_additivelaw29_cells) c3).trans ?_
 refine (ca_s (c := c_region_Count) (Count_ok F hl h hc)).trans ?_
 refine (br_t rfl).trans ?_
 refine (br_t rfl).trans ?_
 refine (br_t rfl).trans ?_
 refine (br_t (eql_t rfl)).trans ?_
 refine (br_t (eql_t rfl)).trans ?_
 refine (br_t (eql_t rfl)).trans ?_
 have mod1 : ∀ a b : Int, a % 1 = b % 1 := fun a b => by omega
 have cov : ∀ (l : List Track), l.length ≤ 1000000000 → (l.flatMap fun t => t.2.2).length ≤ 1000000000 → (∀ c, (∃ t ∈ l, VT t ∧ c ∈ t.2.2) ↔ inReg F c) → @t_track_Cover wv l = some F := fun l a b hm => by
  obtain ⟨T1, x1, x2, x3⟩ := Cover_ok l a b
  rw [x1, reg_uniq x2 h fun c => (x3 c).trans (hm c)]
 have k1 := cov (zigT F) l1 (by omega) fun c => zig_cover h c
 have k2 := cov (rowsT F 1 p) l2 (by omega) fun c => (rows_cover h 1 p c).trans ⟨fun q => q.1, fun q => ⟨q, mod1 _ _⟩⟩
 have k3 := cov ((rowsT T 1 p).map flipT) l3 (by omega) fun c => (cols_cover hT.ok 1 p c).trans ⟨fun q => by have := (hT.iff _).1 q.1; rwa [swp_swp] at this, fun q => ⟨(hT.iff _).2 (by rw [swp_swp]; exact q), mod1 _ _⟩⟩
 refine (ca_s (c := c_track_Cover) k1).trans ?_
 refine (ca_s (c := c_additiveref18_Same) (Same18_ok F hl)).trans ?_
 refine (br_t rfl).trans ?_
 refine (ca_s (c := c_track_Cover) k2).trans ?_
 refine (ca_s (c := c_additiveref18_Same) (Same18_ok F hl)).trans ?_
 refine (br_t rfl).trans ?_
 refine (ca_s (c := c_track_Cover) k3).trans ?_
 refine (ca_s (c := c_additiveref18_Same) (Same18_ok F hl)).trans ?_
 refine (br_t rfl).trans ?_
 rw [k_awake]
end Go.Proofs.YtmiobebagbhffaaGreat
