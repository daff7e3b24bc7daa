/- Toolpath: travels, prints and groups of tracks, in plain Lean. Conditions: none. -/
import Derived.Test.YtemehoioeoohmaaMb
namespace Go.Proofs.Ytemehoioeoohmaa
open Go Go.Vv Go.Proofs
set_option linter.unusedSimpArgs false
set_option linter.unusedVariables false
set_option linter.unusedSectionVars false
instance : DecidableEq Ja := fun a b => if h : a.X = b.X ∧ a.Y = b.Y then isTrue (Cell.ext' h.1 h.2) else isFalse fun e => h ⟨by rw [e], by rw [e]⟩
theorem Jz {α β : Type} (v : α) (f : α → Option β) : J3 (some v) f = f v := id rfl
structure SV (s : J6) : Prop where
 pitch : 32 ≤ s.Pitch ∧ s.Pitch ≤ 1024
 height : 4 ≤ s.Height ∧ s.Height ≤ 1024
 feed : 1 ≤ s.Feed ∧ s.Feed ≤ 1048576
 travel : 1 ≤ s.Travel ∧ s.Travel ≤ 1048576
 minfeed : 1 ≤ s.MinFeed ∧ s.MinFeed ≤ s.Feed
 mintime : 0 ≤ s.MinTime ∧ s.MinTime ≤ 1048576
theorem bor_ff {a b : Bool} : bor a b = false ↔ a = false ∧ b = false := by cases a <;> cases b <;> simp [bor]
theorem J5r {a : Bool} : bnot a = false ↔ a = true := by cases a <;> simp [bnot]
theorem J24 {s : J6} (h : Xo s = true) : SV s := by
 simp only [Jz, Xo, Ys, Zk, Jc, Jbl, Jt9, bor_ff, J5r, Jbc, Jdp] at h
 obtain ⟨⟨⟨h1, -⟩, ⟨h2, -⟩⟩, -, -, -, -, ⟨⟨⟨h3, h4⟩, h5⟩, h6⟩, -⟩ := h
 exact ⟨h1, h2, h3, h4, h6, h5⟩
def spd (s : J6) (u : Int) : Int := imax (iquo .i64 u s.Pitch) 1
theorem quo_eq {s : J6} (h : SV s) {u : Int} (h0 : 0 ≤ u) (h1 : u ≤ 1048576) : iquo .i64 u s.Pitch = u / s.Pitch ∧ 0 ≤ u / s.Pitch ∧ u / s.Pitch ≤ 1048576 := by
 have hp := h.pitch
 have e : u.tdiv s.Pitch = u / s.Pitch := Int.tdiv_eq_ediv_of_nonneg h0
 have n0 : 0 ≤ u / s.Pitch := Int.ediv_nonneg h0 (by omega)
 have n1 : u / s.Pitch ≤ u := Int.ediv_le_self _ h0
 refine ⟨?_, n0, by omega⟩
 unfold iquo
 rw [e, w64 _ (by omega) (by omega)]
theorem Ju4 {b : Jo} (h : SV b.s) (u : Int) : Zs b u = some (spd b.s u) := by
 have hp := h.pitch
 have : ieq b.s.Pitch 0 = false := Jem (by omega)
 simp only [Jz, Zs, this, if_false, Bool.false_eq_true]; rfl
theorem ch_last {r : Ji} {a : Ja} {Q : List Seen} (ok : QOK r a Q) {j : Nat} {l : List Ja} (h : Ch Q j l) : l.getLast? = some a ∧ ∀ c ∈ l, In r c := by
 induction h with
 | @base s hs =>
  have := ok.first; rw [hs] at this; cases this
  exact ⟨rfl, fun c hc => by simp at hc; subst hc; exact ok.inr _ (List.mem_of_getElem? hs)⟩
 | @step j p s l hs h0 hb hc ih =>
  obtain ⟨s', t, -, rfl⟩ := hc.head
  refine ⟨by rw [List.getLast?_cons_cons]; exact ih.1, fun c hc' => ?_⟩
  rcases List.mem_cons.1 hc' with rfl | hc'
  ·exact ok.inr _ (List.mem_of_getElem? hs)
  ·exact ih.2 c hc'
theorem Jxk {r : Ji} (hL : Lim r) {p q : Ja} : ∃ x o, Jdm r p q = some (x, o) ∧ (o = true → x.l.length ≤ 67108865 ∧ (p ≠ q → 2 ≤ x.l.length) ∧ x.l[0]? = some p ∧ x.l[x.l.length - 1]? = some q ∧ ∀ c ∈ x.l, In r c) := by
 obtain ⟨x, o, e, h⟩ := J0h hL (a := p) (b := q)
 refine ⟨x, o, e, fun ho => ?_⟩
 rcases h with ⟨ho', _⟩ | ⟨-, hin, m, u, full, hm, hu, hf, hlen, hx⟩
 ·rw [ho] at ho'; cases ho'
 ·obtain ⟨h1, h2⟩ := ch_last (J5g hL hin) hf
  obtain ⟨s, t, hs, hst⟩ := hf.head
  rw [hm] at hs; cases hs
  have hne : full ≠ [] := by rw [hst]; simp
  have hpos : 0 < full.length := List.length_pos_iff.2 hne
  refine ⟨by rw [hx, List.length_reverse]; exact hlen, fun hpq => ?_, ?_, ?_, fun c hc => h2 c (by rw [hx] at hc; simpa using hc)⟩
  ·rw [hx, List.length_reverse]
   cases t with
   | nil =>
    exfalso
    rw [hst] at h1
    simp at h1
    exact hpq (h1.symm.trans hu)
   | cons c t => rw [hst]; simp
  ·rw [hx, List.getElem?_reverse hpos, Nat.sub_zero, ← List.getLast?_eq_getElem?]; exact h1
  ·rw [hx, List.length_reverse, List.getElem?_reverse (by omega), show full.length - 1 - (full.length - 1) = 0 by omega, hst]
   simp [hu]
def way (r : Ji) (p q : Ja) : List Ja × Bool :=
 match Jdm r p q with
 | some (x, true) => (x.l.drop 1, true)
 | _ => (Jhz q (dist p q) p, false)
def op2 (s : J6) (c : List Ja) : Kj := ⟨2, 0, 0, 0, spd s s.Travel, .lst c⟩
def op4 : Kj := ⟨4, 0, 0, 0, 0, .nil⟩
def op5 : Kj := ⟨5, 0, 0, 0, 0, .nil⟩
def op3 (s : J6) (t : Jd) : Kj := ⟨3, t.Role, 0, 0, spd s s.Feed, .lst t.Cells.l⟩
def Jex (r : Ji) (s : J6) (p q : Ja) : List Kj :=
 if p = q then [] else
 if (way r p q).2 = true then [op2 s (way r p q).1] else
 if s.Retract = 0 then [op2 s (way r p q).1] else [op4, op2 s (way r p q).1, op5]
theorem Jk2 {b : Jo} (h : b.list.ops.l.length ≤ 1000000) (o : Kj) : J0 b o = some ⟨⟨Y0 b.list.ops o⟩, b.r, b.s, b.nozzle⟩ := by
 simp only [Jz, J0, Xx (bytes := 64) (n := flen b.list.ops + 1) (by rw [Js]; omega) (by rw [Js]; omega) (by omega), if_true]
theorem Jtw (a b : Ja) : band (ieq a.X b.X) (band (ieq a.Y b.Y) true) = true ↔ a = b := by
 rw [q_eq]; exact Jpk a b
theorem J29 {b : Jo} (hL : Lim b.r) (hs : SV b.s) {q : Ja} (hp : InR b.nozzle) (hq : InR q) (hn : b.list.ops.l.length ≤ 900000) :
  ∃ x, Xp b q = some ⟨⟨x⟩, b.r, b.s, b.nozzle⟩ ∧ x.l = b.list.ops.l ++ Jex b.r b.s b.nozzle q := by
 obtain ⟨⟨ops⟩, r, s, p⟩ := b
 simp only at hL hs hp hn ⊢
 unfold Xp Jex
 by_cases hpq : p = q
 ·rw [if_pos ((Jtw p q).2 hpq), if_pos hpq]
  exact ⟨ops, rfl, by rw [List.append_nil]⟩
 ·rw [if_neg (fun h => hpq ((Jtw p q).1 h)), if_neg hpq]
  simp only [Jz, Ju4 (b := ⟨⟨ops⟩, r, s, p⟩) hs, Jz]
  obtain ⟨x, o, e, hx⟩ := Jxk hL (p := p) (q := q)
  rw [e, Jz]
  cases o with
  | true =>
   obtain ⟨h1, h2, -⟩ := hx rfl
   have h2 := h2 hpq
   obtain ⟨y, ey, hy⟩ := Jqc (x := x) (by omega)
   have hyl : 0 < y.l.length := by rw [hy, List.length_drop]; omega
   have hw : way r p q = (x.l.drop 1, true) := by unfold way; rw [e]
   simp only [Jz, Y4, if_false, Bool.false_eq_true, ey, Jz, Jb7, Jk2 (b := ⟨⟨ops⟩, r, s, p⟩) (by simp only; omega), hw, if_true]
   refine ⟨_, rfl, ?_⟩
   rw [Jap, Jl0 hyl, hy]; rfl
  | false =>
   have hd : 0 < dist p q := by
    apply Nat.pos_of_ne_zero
    intro h0
    apply hpq
    unfold dist at h0
    exact Cell.ext' (by omega) (by omega)
   have es := Js9 hp hq
   obtain ⟨y, ey, hy⟩ := Jqc (x := .lst (p :: Jhz q (dist p q) p)) (by simp [FS.l])
   have hy' : y.l = Jhz q (dist p q) p := by rw [hy]; rfl
   have hyl : 0 < y.l.length := by rw [hy', Jis]; exact hd
   have hw : way r p q = (Jhz q (dist p q) p, false) := by unfold way; rw [e]
   simp only [Jz, Zn, if_true, es, Jz, ey, Ja3, hw, if_false, Bool.false_eq_true]
   by_cases hr : s.Retract = 0
   ·have c : ine s.Retract 0 = false := by rw [← Bool.not_eq_true, Jm2]; exact fun h => h hr
    simp only [Jz, c, if_false, Bool.false_eq_true, Jk2 (b := ⟨⟨ops⟩, r, s, p⟩) (by simp only; omega), Jz, hr, if_true]
    refine ⟨_, rfl, ?_⟩
    rw [Jap, Jl0 hyl, hy']; rfl
   ·have c : ine s.Retract 0 = true := by rw [Jm2]; exact hr
    simp only [Jz, c, if_true, hr, if_false]
    rw [Jk2 (b := ⟨⟨ops⟩, r, s, p⟩) (by simp only; omega), Jz, Jk2 (by simp only [Jz, Jap, List.length_append, List.length_cons, List.length_nil]; omega), Jz, Jk2 (by simp only [Jz, Jap, List.length_append, List.length_cons, List.length_nil]; omega), Jz]
    refine ⟨_, rfl, ?_⟩
    simp only [Jz, Jap]
    rw [Jl0 hyl, hy']
    simp [op4, op5, op2, spd]
theorem Jj6 (r : Ji) (s : J6) (p q : Ja) : (Jex r s p q).length ≤ 3 := by
 unfold Jex; split
 ·simp
 ·split
  ·simp
  ·split <;> simp
theorem print_ok {b : Jo} (hL : Lim b.r) (hs : SV b.s) {t : Jd} (ht : VT t) (hp : InR b.nozzle) (hn : b.list.ops.l.length ≤ 900000) :
  ∃ x, X7 b t = some ⟨⟨x⟩, b.r, b.s, lstC t⟩ ∧ x.l = b.list.ops.l ++ (Jex b.r b.s b.nozzle (fstC t) ++ [op3 b.s t]) := by
 have hl := ht.len
 obtain ⟨-, i1, i2⟩ := Jbz ht
 have g1 : fget t.Cells 0 = some (fstC t) := by
  show fget t.Cells ((0 : Nat) : Int) = _
  rw [Qb (x := t.Cells) (i := 0) (by omega)]
  unfold fstC; rw [List.getElem?_eq_getElem (by omega)]; rfl
 have g2 : fget t.Cells (isub .i64 (flen t.Cells) 1) = some (lstC t) := by
  rw [Zj (by rw [Js]; omega) (by rw [Js]; omega), Js, show (t.Cells.l.length : Int) - 1 = ((t.Cells.l.length - 1 : Nat) : Int) by omega, Qb (by omega)]
  unfold lstC; rw [List.getElem?_eq_getElem (by omega)]; rfl
 obtain ⟨x, ex, hx⟩ := J29 hL hs hp i1 hn
 have hxl : x.l.length ≤ 900003 := by
  rw [hx, List.length_append]; have := Jj6 b.r b.s b.nozzle (fstC t); omega
 have f : fits 16 (flen (flit ([] : List Ja)) + flen t.Cells) = true := Xx (by simp only [Jz, Js, Jdf]; omega) (by simp only [Jz, Js, Jdf, List.length_nil]; omega) (by omega)
 refine ⟨Y0 x (op3 b.s t), ?_, by rw [Jap, hx, List.append_assoc]⟩
 unfold X7
 rw [g1, Jz]; try simp only [Jz]
 simp only [Jz, ex, Jz, Ju4 (b := ⟨⟨x⟩, b.r, b.s, b.nozzle⟩) hs, f, if_true, Jk2 (b := ⟨⟨x⟩, b.r, b.s, b.nozzle⟩) (by simp only; omega), g2]
 rfl
def Jel (r : Ji) (s : J6) : Ja → List Jd → List Kj
 | _, [] => []
 | p, t :: ts => Jex r s p (fstC t) ++ [op3 s t] ++ Jel r s (lstC t) ts
def endC : Ja → List Jd → Ja
 | p, [] => p
 | _, t :: ts => endC (lstC t) ts
theorem Jlv (r : Ji) (s : J6) : ∀ (ts : List Jd) (p : Ja), (Jel r s p ts).length ≤ 4 * ts.length
 | [], p => by simp [Jel]
 | t :: ts, p => by
  have := Jlv r s ts (lstC t)
  have := Jj6 r s p (fstC t)
  simp only [Jz, Jel, List.length_append, List.length_cons, List.length_nil]; omega
theorem Jmi : ∀ {ts : List Jd} {p : Ja}, InR p → (∀ t ∈ ts, VT t) → InR (endC p ts)
 | [], _, hp, _ => hp
 | t :: ts, p, _, hv => Jmi (ts := ts) (Jbz (hv t (List.mem_cons_self ..))).2.2 fun u hu => hv u (List.mem_cons_of_mem _ hu)
theorem group_ok {b : Jo} (hL : Lim b.r) (hs : SV b.s) (x : FS Jd) (hv : ∀ t ∈ x.l, VT t) (hxl : x.l.length ≤ 1000) (hp : InR b.nozzle) (hn : b.list.ops.l.length ≤ 800000) :
  ∃ (g ts : List Jd) (y : FS Kj), Yh b x = some ⟨⟨y⟩, b.r, b.s, endC b.nozzle ts⟩ ∧ Gre b.nozzle x.l g ∧ Imp b.nozzle 8 g ts ∧ y.l = b.list.ops.l ++ Jel b.r b.s b.nozzle ts := by
 obtain ⟨g, eg, hg⟩ := J3j hp x hv (by omega)
 have gv := hg.valid hv
 obtain ⟨z, ez, hz⟩ := Jva hp g gv (by rw [hg.len]; omega) 8 (by omega)
 obtain ⟨zv, zl, -⟩ := hz.props gv
 have zl2 : z.l.length ≤ 1000 := by rw [zl, hg.len]; exact hxl
 obtain ⟨r, e, hr⟩ := Xd (body := Yg z (flen z)) (fun s => ∃ n : Nat, s.2 = n ∧ n ≤ z.l.length ∧ s.1.r = b.r ∧ s.1.s = b.s ∧ InR s.1.nozzle ∧ s.1.list.ops.l.length ≤ 800000 + 4 * n ∧ s.1.list.ops.l ++ Jel b.r b.s s.1.nozzle (z.l.drop n) = b.list.ops.l ++ Jel b.r b.s b.nozzle z.l ∧ endC s.1.nozzle (z.l.drop n) = endC b.nozzle z.l)
  (fun s => (z.l.length - s.2).toNat) (fun v => v.r = b.r ∧ v.s = b.s ∧ v.nozzle = endC b.nozzle z.l ∧ v.list.ops.l = b.list.ops.l ++ Jel b.r b.s b.nozzle z.l)
  (by
   rintro ⟨v, i⟩ ⟨n, h1, h2, h3, h4, h5, h6, h7, h8⟩
   obtain ⟨⟨ops⟩, r, s, p⟩ := v
   simp only at h1 h2 h3 h4 h5 h6 h7 h8 ⊢
   subst h1 h3 h4
   by_cases hn : n < z.l.length
   ·left
    have c : ilt (n : Int) (flen z) = true := Ye (by rw [Js]; omega)
    have gz := Qb hn
    obtain ⟨x, ex, hx⟩ := print_ok (b := ⟨⟨ops⟩, b.r, b.s, p⟩) hL hs (zv _ (List.getElem_mem hn)) h5 (by simp only; omega)
    have hd := List.drop_eq_getElem_cons hn
    simp only at ex hx
    refine ⟨(⟨⟨x⟩, b.r, b.s, lstC z.l[n]⟩, ((n + 1 : Nat) : Int)), by simp only [Jz, Yg, c, if_true, gz, ex, zf (i := n) (by omega)], ⟨n + 1, rfl, hn, rfl, rfl, (Jbz (zv _ (List.getElem_mem hn))).2.2, ?_, ?_, ?_⟩, by simp only; omega⟩
    ·simp only [Jz, hx, List.length_append, List.length_cons, List.length_nil]
     have := Jj6 b.r b.s p (fstC z.l[n]); omega
    ·simp only
     rw [← h7, hd, hx]
     simp only [Jz, Jel, List.append_assoc]
    ·simp only
     rw [← h8, hd]; rfl
   ·right
    have hn' : n = z.l.length := by omega
    subst hn'
    have c : ilt ((z.l.length : Nat) : Int) (flen z) = false := Yf (by rw [Js]; omega)
    rw [List.drop_length] at h7 h8
    exact ⟨⟨⟨ops⟩, b.r, b.s, p⟩, by simp only [Jz, Yg, c, if_false, Bool.false_eq_true], rfl, rfl, h8, by simpa [Jel] using h7⟩)
  bigN (b, 0) ⟨0, rfl, by omega, rfl, rfl, hp, by simp only; omega, rfl, rfl⟩ (Xn (by simp only; omega))
 refine ⟨g.l, z.l, r.list.ops, ?_, hg, hz, hr.2.2.2⟩
 obtain ⟨⟨ops⟩, rr, ss, pp⟩ := r
 obtain ⟨rfl, rfl, rfl, h4⟩ := hr
 unfold Yh
 rw [eg]; try rw [Jz]; try simp only [Jz]
 have e8 : Jb4 b.nozzle g 8 = some z := ez
 simp only [Jz, e8]
 rw [show (⟨⟨b.list.ops⟩, b.r, b.s, b.nozzle⟩ : Jo) = b from rfl, e, Jz]
end Go.Proofs.Ytemehoioeoohmaa
namespace Go.Proofs.Ytemehoioeoohmaa
open Go Go.Vv Go.Proofs
set_option linter.unusedSimpArgs false
set_option linter.unusedVariables false
set_option linter.unusedSectionVars false
def Nice {α : Type} (x : FS α) : Prop := x = .nil ∨ ∃ a l, x = .lst (a :: l)
theorem Jya {α : Type} {x : FS α} (h : 0 < x.l.length) : ∃ a l, x = .lst (a :: l) := by
 have := Jl0 h
 cases hx : x.l with
 | nil => rw [hx] at h; simp at h
 | cons a l => exact ⟨a, l, by rw [this, hx]⟩
theorem J5e {x : FS Ja} (h : Nice x) (hL : x.l.length ≤ 100000000) : X2 x = some x := by
 unfold X2
 rcases h with rfl | ⟨a, l, rfl⟩
 ·rfl
 ·simp only [Jz, Jq8, Bool.false_eq_true, if_false]
  rw [if_pos (Xx (by simp only [Jz, Js, Jdf]; omega) (by simp only [Jz, Js, Jdf, List.length_nil]; omega) (by omega))]
  rfl
theorem Jrm {x : FS Kj} (h : ∃ a l, x = .lst (a :: l)) (hL : x.l.length ≤ 1000000) : X0 x = some x := by
 unfold X0
 obtain ⟨a, l, rfl⟩ := h
 simp only [Jz, Jq8, Bool.false_eq_true, if_false]
 rw [if_pos (Xx (by simp only [Jz, Js, Jdf]; omega) (by simp only [Jz, Js, Jdf, List.length_nil]; omega) (by omega))]
 rfl
theorem set_self {α : Type} {l : List α} {n : Nat} (h : n < l.length) : l.set n l[n] = l := List.set_getElem_self h
theorem Jpx {x : FS Kj} (h0 : 0 < x.l.length) (hL : x.l.length ≤ 1000000) (hc : ∀ o ∈ x.l, Nice o.Cells ∧ o.Cells.l.length ≤ 100000000) : ∃ y, Jdy x = some y ∧ y.l = x.l := by
 have hx := Jya h0
 obtain ⟨r, e, hr⟩ := Xd (body := Jbj (flen x)) (fun s => s.1.l = x.l ∧ ∃ n : Nat, s.2 = n ∧ n ≤ x.l.length) (fun s => (x.l.length - s.2).toNat) (fun r => r.l = x.l)
  (by
   rintro ⟨y, i⟩ ⟨h1, n, h2, h3⟩
   simp only at h1 h2 h3 ⊢
   subst h2
   by_cases hn : n < x.l.length
   ·left
    have c : ilt (n : Int) (flen x) = true := Ye (by rw [Js]; omega)
    have hy : n < y.l.length := by rw [h1]; exact hn
    have g := Qb hy
    have he : y.l[n] = x.l[n] := by simp only [Jz, h1]
    obtain ⟨k1, k2⟩ := hc _ (List.getElem_mem hn)
    refine ⟨(fset y (n : Int) y.l[n], ((n + 1 : Nat) : Int)), ?_, ⟨?_, n + 1, rfl, hn⟩, by simp only; omega⟩
    ·simp only [Jz, Jbj, c, if_true, g, he, J5e k1 k2, zf (i := n) (by omega)]
    ·simp only [Jz, Jic, Int.toNat_natCast, set_self, h1]
   ·right
    have c : ilt (n : Int) (flen x) = false := Yf (by rw [Js]; omega)
    exact ⟨y, by simp only [Jz, Jbj, c, if_false, Bool.false_eq_true], h1⟩)
  bigN (x, 0) ⟨rfl, 0, rfl, by omega⟩ (Xn (by simp only; omega))
 unfold Jdy
 rw [Jrm hx hL]; try simp only [Jz]
 simp only [Jz, e]
 exact ⟨r, rfl, hr⟩
def lim (v : Int) (o : Kj) : Kj := if o.Kind = 3 then ⟨o.Kind, o.Role, o.Layer, o.Z, imin o.Speed v, o.Cells⟩ else o
theorem Jo7 {x : FS Kj} (h0 : 0 < x.l.length) (hL : x.l.length ≤ 1000000) (v : Int) : ∃ y, Jcm x v = some y ∧ y.l = x.l.map (lim v) := by
 have hx := Jya h0
 obtain ⟨r, e, hr⟩ := Xd (body := Jae v (flen x)) (fun s => ∃ n : Nat, s.2 = n ∧ n ≤ x.l.length ∧ s.1.l = (x.l.take n).map (lim v) ++ x.l.drop n) (fun s => (x.l.length - s.2).toNat) (fun r => r.l = x.l.map (lim v))
  (by
   rintro ⟨y, i⟩ ⟨n, h2, h3, h1⟩
   simp only at h1 h2 h3 ⊢
   subst h2
   by_cases hn : n < x.l.length
   ·left
    have c : ilt (n : Int) (flen x) = true := Ye (by rw [Js]; omega)
    have l1 : ((x.l.take n).map (lim v)).length = n := by rw [List.length_map, List.length_take]; omega
    have hyl : y.l.length = x.l.length := by rw [h1, List.length_append, l1, List.length_drop]; omega
    have hy : n < y.l.length := by omega
    have g := Qb hy
    have hd := List.drop_eq_getElem_cons hn
    have he : y.l[n] = x.l[n] := by
     have : y.l[n]? = x.l[n]? := by rw [h1, List.getElem?_append_right (by omega), l1, List.getElem?_drop]; simp
     rw [List.getElem?_eq_getElem hy, List.getElem?_eq_getElem hn] at this
     exact Option.some.inj this
    by_cases hk : (x.l[n]).Kind = 3
    ·have c2 : ieq (x.l[n]).Kind 3 = true := Jhh hk
     refine ⟨(fset y (n : Int) (lim v x.l[n]), ((n + 1 : Nat) : Int)), ?_, ⟨n + 1, rfl, hn, ?_⟩, by simp only; omega⟩
     ·simp only [Jz, Jae, c, if_true, g, he, c2, zf (i := n) (by omega)]
      rw [lim, if_pos hk]
     ·simp only [Jz, Jic, Int.toNat_natCast, h1]
      rw [List.set_append_right _ _ (by omega), l1, Nat.sub_self, hd, List.set_cons_zero, List.take_succ_eq_append_getElem hn, List.map_append, List.append_assoc]
      rfl
    ·have c2 : ieq (x.l[n]).Kind 3 = false := Jem hk
     refine ⟨(y, ((n + 1 : Nat) : Int)), by simp only [Jz, Jae, c, if_true, g, he, c2, if_false, Bool.false_eq_true, zf (i := n) (by omega)], ⟨n + 1, rfl, hn, ?_⟩, by simp only; omega⟩
     simp only [Jz, h1]
     rw [hd, List.take_succ_eq_append_getElem hn, List.map_append, List.append_assoc]
     have : lim v x.l[n] = x.l[n] := by rw [lim, if_neg hk]
     simp only [Jz, List.map_cons, List.map_nil, this, List.cons_append, List.nil_append]
   ·right
    have hn' : n = x.l.length := by omega
    subst hn'
    have c : ilt ((x.l.length : Nat) : Int) (flen x) = false := Yf (by rw [Js]; omega)
    exact ⟨y, by simp only [Jz, Jae, c, if_false, Bool.false_eq_true], by rw [h1, List.take_length, List.drop_length, List.append_nil]⟩)
  bigN (x, 0) ⟨0, rfl, by omega, by simp⟩ (Xn (by simp only; omega))
 unfold Jcm
 rw [Jrm hx hL]; try simp only [Jz]
 simp only [Jz, e]
 exact ⟨r, rfl, hr⟩
theorem Js5 (o : Kj) : ∃ n, Jcy o = some n := by
 unfold Jcy
 by_cases hc : bor (band (ine o.Kind 2) (ine o.Kind 3)) (ile o.Speed 0) = true
 ·exact ⟨0, by rw [if_pos hc]⟩
 ·rw [if_neg hc]
  have hs : ieq o.Speed 0 = false := Jem (fun h => hc (by rw [Jaw, Jdp]; right; omega))
  rw [hs]; try rw [Jz]
  simp only [Jz, Bool.false_eq_true, if_false]
  split
  ·exact ⟨_, rfl⟩
  ·exact ⟨_, rfl⟩
theorem Time_ok (x : FS Kj) (hL : x.l.length ≤ 1000000) : ∃ n, Jfp x = some n := by
 obtain ⟨r, e, -⟩ := Xd (body := Jck x (flen x)) (fun s => ∃ n : Nat, s.2 = n ∧ n ≤ x.l.length) (fun s => (x.l.length - s.2).toNat) (fun _ => True)
  (by
   rintro ⟨t, i⟩ ⟨n, h2, h3⟩
   simp only at h2 h3 ⊢
   subst h2
   by_cases hn : n < x.l.length
   ·left
    have c : ilt (n : Int) (flen x) = true := Ye (by rw [Js]; omega)
    obtain ⟨d, ed⟩ := Js5 x.l[n]
    exact ⟨(iadd .i64 t d, ((n + 1 : Nat) : Int)), by simp only [Jz, Jck, c, if_true, Qb hn, ed, zf (i := n) (by omega)], ⟨n + 1, rfl, hn⟩, by simp only; omega⟩
   ·right
    have c : ilt (n : Int) (flen x) = false := Yf (by rw [Js]; omega)
    exact ⟨t, by simp only [Jz, Jck, c, if_false, Bool.false_eq_true], trivial⟩)
  bigN (0, 0) ⟨0, rfl, by omega⟩ (Xn (by simp only; omega))
 unfold Jfp
 rw [e]; try rw [Jz]; try simp only [Jz]
 exact ⟨r, rfl⟩
theorem Slow1_ok {x : FS Kj} (h0 : 0 < x.l.length) (hL : x.l.length ≤ 1000000) (v : Int) (s : J6) : ∃ b, Jd1 v x s = some b := by
 obtain ⟨y, ey, hy⟩ := Jo7 h0 hL v
 obtain ⟨n, en⟩ := Time_ok y (by rw [hy, List.length_map]; exact hL)
 unfold Jd1
 rw [ey]; try rw [Jz]; try simp only [Jz]
 simp only [Jz, en]
 exact ⟨_, rfl⟩
theorem half_ok {lo hi : Int} (h0 : 0 ≤ lo) (h1 : lo < hi) (h2 : hi ≤ 2097152) : iquo .i64 (iadd .i64 (iadd .i64 lo hi) 1) 2 = (lo + hi + 1) / 2 ∧ lo < (lo + hi + 1) / 2 ∧ (lo + hi + 1) / 2 ≤ hi := by
 rw [Jbb (a := lo) (by omega) (by omega), Jbb (by omega) (by omega)]
 refine ⟨?_, by omega, by omega⟩
 unfold iquo
 rw [Int.tdiv_eq_ediv_of_nonneg (by omega), w64 _ (by omega) (by omega)]
theorem Slow_ok {x : FS Kj} {s : J6} (hv : Xo s = true) (h0 : 0 < x.l.length) (hL : x.l.length ≤ 1000000) (hc : ∀ o ∈ x.l, Nice o.Cells ∧ o.Cells.l.length ≤ 100000000) :
  ∃ (y : FS Kj) (v : Int), Jdo x s = some y ∧ 1 ≤ v ∧ y.l = x.l.map (lim v) := by
 have sv := J24 hv
 obtain ⟨z, ez, hz⟩ := Jpx h0 hL hc
 have hz0 : 0 < z.l.length := by rw [hz]; exact h0
 have hzL : z.l.length ≤ 1000000 := by rw [hz]; exact hL
 have q1 := quo_eq sv (u := s.MinFeed) (by have := sv.minfeed; omega) (by have := sv.minfeed; have := sv.feed; omega)
 have q2 := quo_eq sv (u := s.Feed) (by have := sv.feed; omega) (by have := sv.feed; omega)
 obtain ⟨v, e, hv1⟩ := Xd (body := Jbt z s) (fun w => 1 ≤ w.1 ∧ w.2 ≤ 2097152) (fun w => (w.2 - w.1).toNat) (fun r => 1 ≤ r)
  (by
   rintro ⟨lo, hi⟩ ⟨h1, h2⟩
   simp only at h1 h2 ⊢
   by_cases hlt : lo < hi
   ·left
    have c : ilt lo hi = true := Ye hlt
    obtain ⟨m1, m2, m3⟩ := half_ok (by omega) hlt h2
    obtain ⟨b, eb⟩ := Slow1_ok hz0 hzL ((lo + hi + 1) / 2) s
    cases b with
    | true => exact ⟨((lo + hi + 1) / 2, hi), by simp only [Jz, Jbt, c, if_true, m1, eb], ⟨by simp only; omega, h2⟩, by simp only; omega⟩
    | false =>
     refine ⟨(lo, (lo + hi + 1) / 2 - 1), ?_, ⟨h1, by simp only; omega⟩, by simp only; omega⟩
     simp only [Jz, Jbt, c, if_true, m1, eb, if_false, Bool.false_eq_true]
     rw [Zj (by omega) (by omega)]
   ·right
    have c : ilt lo hi = false := Yf hlt
    exact ⟨lo, by simp only [Jz, Jbt, c, if_false, Bool.false_eq_true], h1⟩)
  bigN (imax (iquo .i64 s.MinFeed s.Pitch) 1, imax (iquo .i64 s.Feed s.Pitch) 1) ⟨by simp only [Jz, Jlm]; omega, by simp only [Jz, Jlm, q2.1]; omega⟩ (Xn (by simp only [Jz, Jlm, q1.1, q2.1]; omega))
 obtain ⟨y, ey, hy⟩ := Jo7 hz0 hzL v
 refine ⟨y, v, ?_, hv1, by rw [hy, hz]⟩
 have p0 : ieq s.Pitch 0 = false := Jem (by have := sv.pitch; omega)
 unfold Jdo
 rw [ez]; try rw [Jz]; try simp only [Jz]
 simp only [Jz, hv, Y4, p0, if_false, Bool.false_eq_true, e, ey]
end Go.Proofs.Ytemehoioeoohmaa
namespace Go.Proofs.Ytemehoioeoohmaa
open Go Go.Vv Go.Proofs
set_option linter.unusedSimpArgs false
set_option linter.unusedVariables false
set_option linter.unusedSectionVars false
structure Jm8 (s : J6) (o : Kj) : Prop where
 kind : (o.Kind = 2 ∧ o.Speed = spd s s.Travel) ∨ (o.Kind = 3 ∧ o.Speed = spd s s.Feed) ∨ o.Kind = 4 ∨ o.Kind = 5
 nice : Nice o.Cells
 len : o.Cells.l.length ≤ 100000000
theorem Jtp {α : Type} {l : List α} (h : 0 < l.length) : Nice (FS.lst l) := by
 cases l with
 | nil => simp at h
 | cons a l => exact Or.inr ⟨a, l, rfl⟩
theorem Jtv {p q : Ja} (h : p ≠ q) : 0 < dist p q := by
 apply Nat.pos_of_ne_zero
 intro h0
 apply h
 unfold dist at h0
 exact Cell.ext' (by omega) (by omega)
theorem Ju5 {r : Ji} (hL : Lim r) {p q : Ja} (hp : InR p) (hq : InR q) (h : p ≠ q) : 0 < (way r p q).1.length ∧ (way r p q).1.length ≤ 100000000 := by
 obtain ⟨x, o, e, hx⟩ := Jxk hL (p := p) (q := q)
 unfold way; rw [e]
 cases o with
 | true =>
  obtain ⟨h1, h2, -⟩ := hx rfl
  have := h2 h
  simp only [Jz, List.length_drop]; omega
 | false =>
  have hd := Jtv h
  have := Jec hp hq
  simp only [Jz, Jis]; omega
theorem op2_good {s : J6} {l : List Ja} (h : 0 < l.length ∧ l.length ≤ 100000000) : Jm8 s (op2 s l) := ⟨Or.inl ⟨rfl, rfl⟩, Jtp h.1, h.2⟩
theorem op4_good (s : J6) : Jm8 s op4 := ⟨Or.inr (Or.inr (Or.inl rfl)), Or.inl rfl, Nat.zero_le _⟩
theorem op5_good (s : J6) : Jm8 s op5 := ⟨Or.inr (Or.inr (Or.inr rfl)), Or.inl rfl, Nat.zero_le _⟩
theorem op3_good (s : J6) {t : Jd} (h : VT t) : Jm8 s (op3 s t) := ⟨Or.inr (Or.inl ⟨rfl, rfl⟩), Jtp h.len.1, by have := h.len.2; show t.Cells.l.length ≤ _; omega⟩
theorem Jq0 {r : Ji} (hL : Lim r) (s : J6) {p q : Ja} (hp : InR p) (hq : InR q) : ∀ o ∈ Jex r s p q, Jm8 s o := by
 intro o ho
 unfold Jex at ho
 split at ho
 ·cases ho
 ·rename_i h
  have hw := op2_good (s := s) (Ju5 hL hp hq h)
  split at ho
  ·rw [List.mem_singleton.1 ho]; exact hw
  ·split at ho
   ·rw [List.mem_singleton.1 ho]; exact hw
   ·simp only [Jz, List.mem_cons, List.not_mem_nil, or_false] at ho
    rcases ho with rfl | rfl | rfl
    ·exact op4_good s
    ·exact hw
    ·exact op5_good s
theorem Jnn {r : Ji} (hL : Lim r) (s : J6) : ∀ (ts : List Jd) (p : Ja), InR p → (∀ t ∈ ts, VT t) → ∀ o ∈ Jel r s p ts, Jm8 s o
 | [], _, _, _, o, ho => by cases ho
 | t :: ts, p, hp, hv, o, ho => by
  have ht := hv t (List.mem_cons_self ..)
  have he := Jbz ht
  simp only [Jz, Jel, List.mem_append, List.mem_singleton] at ho
  rcases ho with (ho | rfl) | ho
  ·exact Jq0 hL s hp he.2.1 o ho
  ·exact op3_good s ht
  ·exact Jnn hL s ts _ he.2.2 (fun u hu => hv u (List.mem_cons_of_mem _ hu)) o ho
def HeadNe (k : Int) (l : List Jd) : Prop := ∀ t, l[0]? = some t → t.Role ≠ k
inductive LayR (r : Ji) (s : J6) : Ja → List Jd → List Kj → Ja → Prop
 | done (p : Ja) : LayR r s p [] [] p
 | group {p : Ja} {t : Jd} {g' rest g ts : List Jd} {ops : List Kj} {q : Ja} (same : ∀ u ∈ g', u.Role = t.Role) (diff : HeadNe t.Role rest) (gre : Gre p (t :: g') g) (imp : Imp p 8 g ts) (next : LayR r s (endC p ts) rest ops q) :
   LayR r s p ((t :: g') ++ rest) (Jel r s p ts ++ ops) q
theorem LayR.good {r : Ji} (hL : Lim r) {s : J6} {p q : Ja} {l : List Jd} {ops : List Kj} (h : LayR r s p l ops q) : InR p → (∀ t ∈ l, VT t) → ∀ o ∈ ops, Jm8 s o := by
 induction h with
 | done p => intro _ _ o ho; cases ho
 | @group p t g' rest g ts ops q same diff gre imp next ih =>
  intro hp hv o ho
  have hg : ∀ u ∈ t :: g', VT u := fun u hu => hv u (List.mem_append_left _ hu)
  have hts := (imp.props (gre.valid hg)).1
  rcases List.mem_append.1 ho with ho | ho
  ·exact Jnn hL s ts p hp hts o ho
  ·exact ih (Jmi hp hts) (fun u hu => hv u (List.mem_append_right _ hu)) o ho
theorem LayR.len {r : Ji} {s : J6} {p q : Ja} {l : List Jd} {ops : List Kj} (h : LayR r s p l ops q) : (∀ t ∈ l, VT t) → ops.length ≤ 4 * l.length := by
 induction h with
 | done p => intro _; simp
 | @group p t g' rest g ts ops q same diff gre imp next ih =>
  intro hv
  have hg : ∀ u ∈ t :: g', VT u := fun u hu => hv u (List.mem_append_left _ hu)
  have h1 := Jlv r s ts p
  have h2 := (imp.props (gre.valid hg)).2.1
  have h3 := gre.len
  have h4 := ih (fun u hu => hv u (List.mem_append_right _ hu))
  simp only [Jz, List.length_append] at *
  omega
end Go.Proofs.Ytemehoioeoohmaa
namespace Go.Proofs.Ytemehoioeoohmaa
open Go Go.Vv Go.Proofs
set_option linter.unusedSimpArgs false
set_option linter.unusedVariables false
set_option linter.unusedSectionVars false
theorem Ju6 {lo hi : Int} {l : List Jf} (h : Jix lo hi l) : ∀ (i : Nat) (r : Jf), l[i]? = some r → lo + i ≤ r.From
 | 0, r, hr => by
  have := (h 0 (List.getElem?_eq_some_iff.1 hr).1 _ hr).1
  omega
 | i + 1, r, hr => by
  have hi := (List.getElem?_eq_some_iff.1 hr).1
  have hp : l[i]? = some (l[i]'(by omega)) := List.getElem?_eq_getElem (by omega)
  have ih := Ju6 h i _ hp
  have a := (h i (by omega) _ hp).2.1
  have b := (h (i + 1) hi _ hr).2.2.2 _ (by omega) hp
  omega
theorem Jtz {r : Ji} (h : Jcc r) : ∀ (i : Nat) (w : Jm), r.Rows.l[i]? = some w → -4096 + (i : Int) ≤ w.Y
 | 0, w, hw => by
  have := (h 0 (List.getElem?_eq_some_iff.1 hw).1 _ hw).1
  omega
 | i + 1, w, hw => by
  have hi := (List.getElem?_eq_some_iff.1 hw).1
  have hp : r.Rows.l[i]? = some (r.Rows.l[i]'(by omega)) := List.getElem?_eq_getElem (by omega)
  have ih := Jtz h i _ hp
  have b := (h (i + 1) hi _ hw).2.2.2.2 _ (by omega) hp
  omega
theorem Jdv {r : Ji} (h : Jcc r) : Lim r := by
 refine ⟨?_, fun w hw => ?_⟩
 ·by_cases h0 : r.Rows.l.length = 0
  ·omega
  ·have e := List.getElem?_eq_getElem (l := r.Rows.l) (i := r.Rows.l.length - 1) (by omega)
   have a := Jtz h _ _ e
   have b := (h _ (by omega) _ e).2.1
   omega
 ·have hv := Jlr h hw
  by_cases h0 : w.Runs.l.length = 0
  ·omega
  ·have e := List.getElem?_eq_getElem (l := w.Runs.l) (i := w.Runs.l.length - 1) (by omega)
   have a := Ju6 hv _ _ e
   have b := hv _ (by omega) _ e
   have b1 := b.2.1
   have b2 := b.2.2.1
   omega
theorem J5o {x : FS Jd} (hL : x.l.length ≤ 1000000) (k1 : J6) (k2 : Ja) (k3 : Jo) {n : Nat} (hn : n < x.l.length) :
  ∃ m : Nat, Ky (Z6 x k1 k2 k3 (n : Int)) bigN (iadd .i64 (n : Int) 1) = some (m : Int) ∧ n < m ∧ m ≤ x.l.length ∧ (∀ (i : Nat) t, n ≤ i → i < m → x.l[i]? = some t → t.Role = (x.l[n]).Role) ∧ (∀ t, x.l[m]? = some t → t.Role ≠ (x.l[n]).Role) := by
 have gn := Qb hn
 obtain ⟨r, e, m, rfl, h⟩ := Xd (body := Z6 x k1 k2 k3 (n : Int)) (fun s => ∃ m : Nat, s = m ∧ n < m ∧ m ≤ x.l.length ∧ (∀ (i : Nat) t, n ≤ i → i < m → x.l[i]? = some t → t.Role = (x.l[n]).Role))
  (fun s => (x.l.length - s).toNat) (fun r => ∃ m : Nat, r = (m : Int) ∧ n < m ∧ m ≤ x.l.length ∧ (∀ (i : Nat) t, n ≤ i → i < m → x.l[i]? = some t → t.Role = (x.l[n]).Role) ∧ (∀ t, x.l[m]? = some t → t.Role ≠ (x.l[n]).Role))
  (by
   rintro s ⟨m, rfl, h1, h2, h3⟩
   by_cases hm : m < x.l.length
   ·have c : ilt (m : Int) (flen x) = true := Ye (by rw [Js]; omega)
    have g := Qb hm
    by_cases hr : (x.l[m]).Role = (x.l[n]).Role
    ·left
     refine ⟨((m + 1 : Nat) : Int), by simp only [Jz, Z6, c, Yp, g, gn, Option.getD_some, Jhh hr, Ja3, if_true, zf (i := m) (by omega)], ⟨m + 1, rfl, by omega, hm, fun i t a b ht => ?_⟩, by omega⟩
     by_cases hi : i = m
     ·subst hi; rw [List.getElem?_eq_getElem hm] at ht; cases ht; exact hr
     ·exact h3 i t a (by omega) ht
    ·right
     refine ⟨(m : Int), by simp only [Jz, Z6, c, Yp, g, gn, Option.getD_some, Jem hr, Jd6, if_false, Bool.false_eq_true], m, rfl, h1, h2, h3, fun t ht => ?_⟩
     rw [List.getElem?_eq_getElem hm] at ht; cases ht; exact hr
   ·right
    have c : ilt (m : Int) (flen x) = false := Yf (by rw [Js]; omega)
    refine ⟨(m : Int), by simp only [Jz, Z6, c, Zi, Jb7, if_false, Bool.false_eq_true], m, rfl, h1, h2, h3, fun t ht => ?_⟩
    exact absurd (List.getElem?_eq_some_iff.1 ht).1 hm)
  bigN (iadd .i64 (n : Int) 1) ⟨n + 1, zf (i := n) (by omega), by omega, hn, fun i t a b ht => by
   have : i = n := by omega
   subst this; rw [List.getElem?_eq_getElem hn] at ht; cases ht; rfl⟩ (Xn (by rw [zf (i := n) (by omega)]; omega))
 exact ⟨m, e, h⟩
theorem Jsn {p : Ja} (hp : InR p) {r : Ji} (hL : Lim r) {s : J6} (hs : SV s) (x : FS Jd) (hv : ∀ t ∈ x.l, VT t) (hxl : x.l.length ≤ 1000) (hd : FS Kj) (hh : hd.l.length ≤ 2) (k2 : Ja) :
  ∃ v ops, Ky (Yz x s k2) bigN (⟨⟨hd⟩, r, s, p⟩, 0) = some v ∧ LayR r s p x.l ops v.nozzle ∧ v.list.ops.l = hd.l ++ ops := by
 obtain ⟨v, e, ops, h⟩ := Xd (body := Yz x s k2) (fun w => ∃ n : Nat, w.2 = n ∧ n ≤ x.l.length ∧ w.1.r = r ∧ w.1.s = s ∧ InR w.1.nozzle ∧ w.1.list.ops.l.length ≤ 2 + 4 * n ∧ ∃ done, w.1.list.ops.l = hd.l ++ done ∧ ∀ ops q, LayR r s w.1.nozzle (x.l.drop n) ops q → LayR r s p x.l (done ++ ops) q)
  (fun w => (x.l.length - w.2).toNat) (fun v => ∃ ops, LayR r s p x.l ops v.nozzle ∧ v.list.ops.l = hd.l ++ ops)
  (by
   rintro ⟨⟨⟨o⟩, rr, ss, nz⟩, i⟩ ⟨n, h1, h2, h3, h4, h5, h6, done, h7, h8⟩
   simp only at h1 h2 h3 h4 h5 h6 h7 h8 ⊢
   subst h1 h3 h4
   by_cases hn : n < x.l.length
   ·left
    have c : ilt (n : Int) (flen x) = true := Ye (by rw [Js]; omega)
    obtain ⟨m, em, m1, m2, m3, m4⟩ := J5o (x := x) (by omega) ss k2 (⟨⟨o⟩, rr, ss, nz⟩ : Jo) hn
    have sl : fsl x (n : Int) (m : Int) = some (.lst ((x.l.drop n).take (m - n))) :=
     (congrArg (fun y => fsl y (n : Int) (m : Int)) (Jl0 (x := x) (by omega))).trans (Jla (by omega) m2)
    have hseg : (x.l.drop n).take (m - n) = x.l[n] :: (x.l.drop (n + 1)).take (m - n - 1) := by
     rw [List.drop_eq_getElem_cons hn, List.take_cons (by omega)]
    have hsplit : x.l.drop n = (x.l.drop n).take (m - n) ++ x.l.drop m := by
     have := List.take_append_drop (m - n) (x.l.drop n)
     rw [List.drop_drop, show n + (m - n) = m by omega] at this
     exact this.symm
    have hvs : ∀ t ∈ (x.l.drop n).take (m - n), VT t := fun t ht => hv t (List.mem_of_mem_drop (List.mem_of_mem_take ht))
    have hsl : ((x.l.drop n).take (m - n)).length = m - n := by rw [List.length_take, List.length_drop]; omega
    obtain ⟨g, ts, y, eg, hg, hi, hy⟩ := group_ok (b := ⟨⟨o⟩, rr, ss, nz⟩) hL hs (.lst ((x.l.drop n).take (m - n))) hvs (by show ((x.l.drop n).take (m - n)).length ≤ 1000; omega) h5 (by simp only; omega)
    simp only at eg hg hi hy
    have hg : Gre nz ((x.l.drop n).take (m - n)) g := hg
    have hgv := hg.valid hvs
    obtain ⟨hiv, hil, -⟩ := hi.props hgv
    have hgl := hg.len
    have hol := Jlv rr ss ts nz
    refine ⟨(⟨⟨y⟩, rr, ss, endC nz ts⟩, (m : Int)), by simp only [Jz, Yz, c, if_true, em, sl, eg], ⟨m, rfl, m2, rfl, rfl, Jmi h5 hiv, ?_, done ++ Jel rr ss nz ts, ?_, fun ops q hq => ?_⟩, by simp only; omega⟩
    ·simp only [Jz, hy, List.length_append]; omega
    ·simp only [Jz, hy, h7, List.append_assoc]
    ·rw [List.append_assoc]
     apply h8
     rw [hsplit, hseg]
     rw [hseg] at hg
     refine LayR.group (fun u hu => ?_) (fun t ht => ?_) hg hi hq
     ·obtain ⟨k, hk⟩ := List.getElem?_of_mem hu
      rw [List.getElem?_take] at hk
      split at hk
      ·rw [List.getElem?_drop] at hk
       exact m3 _ u (by omega) (by omega) hk
      ·cases hk
     ·rw [List.getElem?_drop] at ht
      exact m4 t ht
   ·right
    have hn' : n = x.l.length := by omega
    subst hn'
    have c : ilt ((x.l.length : Nat) : Int) (flen x) = false := Yf (by rw [Js]; omega)
    rw [List.drop_length] at h8
    exact ⟨⟨⟨o⟩, rr, ss, nz⟩, by simp only [Jz, Yz, c, if_false, Bool.false_eq_true], done, by have := h8 [] nz (LayR.done nz); rwa [List.append_nil] at this, h7⟩)
  bigN (⟨⟨hd⟩, r, s, p⟩, 0) ⟨0, rfl, by omega, rfl, rfl, hp, by simp only; omega, [], by simp, fun ops q h => h⟩ (Xn (by simp only; omega))
 exact ⟨v, ops, e, h⟩
theorem J5c (c : Ja) : jy c = true ↔ InR c := by
 simp only [Jz, jy, Jbl, Jbc, jv, InR]; omega
theorem Jsj (x : FS Jd) (hL : x.l.length ≤ 1000000) (hc : ∀ t ∈ x.l, t.Cells.l.length ≤ 1000000) (k1 : Int) (k2 : Ji) (k3 : Ja) (k4 : J6) :
  (Ky (Y1 x k1 k2 k3 k4 x (flen x)) bigN ((⟨0, 0⟩ : Ja), 0) = some (.inl (⟨0, 0⟩, FS.nil, 1)) ∧ ¬ ∀ t ∈ x.l, VT t) ∨ (Ky (Y1 x k1 k2 k3 k4 x (flen x)) bigN ((⟨0, 0⟩ : Ja), 0) = some (.inr ⟨0, 0⟩) ∧ ∀ t ∈ x.l, VT t) := by
 obtain ⟨v, e, h⟩ := Xd (body := Y1 x k1 k2 k3 k4 x (flen x)) (fun w => w.1 = ⟨0, 0⟩ ∧ ∃ n : Nat, w.2 = n ∧ n ≤ x.l.length ∧ ∀ (i : Nat) t, i < n → x.l[i]? = some t → VT t)
  (fun w => (x.l.length - w.2).toNat) (fun v => (v = .inl (⟨0, 0⟩, FS.nil, 1) ∧ ¬ ∀ t ∈ x.l, VT t) ∨ (v = .inr ⟨0, 0⟩ ∧ ∀ t ∈ x.l, VT t))
  (by
   rintro ⟨cc, i⟩ ⟨h0, n, h1, h2, h3⟩
   simp only at h0 h1 h2 h3 ⊢
   subst h0 h1
   by_cases hn : n < x.l.length
   ·have c : ilt (n : Int) (flen x) = true := Ye (by rw [Js]; omega)
    have g := Qb hn
    obtain ⟨b, eb, hb⟩ := Jjp x.l[n] (hc _ (List.getElem_mem hn))
    cases b with
    | true =>
     left
     refine ⟨(⟨0, 0⟩, ((n + 1 : Nat) : Int)), by simp only [Jz, Y1, c, if_true, g, eb, Y4, if_false, Bool.false_eq_true, zf (i := n) (by omega)], ⟨rfl, n + 1, rfl, hn, fun i t hi ht => ?_⟩, by simp only; omega⟩
     by_cases he : i = n
     ·subst he; rw [List.getElem?_eq_getElem hn] at ht; cases ht; exact hb.1 rfl
     ·exact h3 i t (by omega) ht
    | false =>
     right
     refine ⟨.inl (⟨0, 0⟩, FS.nil, 1), by simp only [Jz, Y1, c, if_true, g, eb, Zn], .inl ⟨rfl, fun ha => ?_⟩⟩
     have := hb.2 (ha _ (List.getElem_mem hn))
     cases this
   ·right
    have c : ilt (n : Int) (flen x) = false := Yf (by rw [Js]; omega)
    refine ⟨.inr ⟨0, 0⟩, by simp only [Jz, Y1, c, if_false, Bool.false_eq_true], .inr ⟨rfl, fun t ht => ?_⟩⟩
    obtain ⟨k, hk⟩ := List.getElem?_of_mem ht
    exact h3 k t (by have := (List.getElem?_eq_some_iff.1 hk).1; omega) hk)
  bigN ((⟨0, 0⟩ : Ja), 0) ⟨rfl, 0, rfl, by omega, fun i t hi => by omega⟩ (Xn (by simp only; omega))
 rcases h with ⟨rfl, h⟩ | ⟨rfl, h⟩
 ·exact .inl ⟨e, h⟩
 ·exact .inr ⟨e, h⟩
def hdr (i : Int) (s : J6) : List Kj := [⟨1, 0, i, imul .i64 (iadd .i64 i 1) s.Height, 0, FS.nil⟩, ⟨6, 0, 0, 0, if 0 < i then 255 else 0, FS.nil⟩]
end Go.Proofs.Ytemehoioeoohmaa
namespace Go.Proofs.Ytemehoioeoohmaa
open Go Go.Vv Go.Proofs
set_option linter.unusedSimpArgs false
set_option linter.unusedVariables false
set_option linter.unusedSectionVars false
structure LayIn (x : FS Jd) (r : Ji) (i : Int) (p : Ja) (s : J6) : Prop where
 set : Xo s = true
 reg : Jcc r
 idx : 0 ≤ i ∧ i < 256
 noz : InR p
 trk : ∀ t ∈ x.l, VT t
theorem hdr_good (i : Int) (s : J6) : ∀ o ∈ hdr i s, Nice o.Cells ∧ o.Cells.l.length ≤ 100000000 := by
 intro o ho
 simp only [Jz, hdr, List.mem_cons, List.not_mem_nil, or_false] at ho
 rcases ho with rfl | rfl <;> exact ⟨Or.inl rfl, Nat.zero_le _⟩
theorem Jxm {r : Ji} (hL : Lim r) {s : J6} (hf : Xo s = true) {p : Ja} (hp : InR p) (x : FS Jd) (hv : ∀ t ∈ x.l, VT t) (hx : x.l.length ≤ 1000) (hd : FS Kj) {i : Int} (hh : hd.l = hdr i s) (k2 : Ja) :
  ∃ w y q ops v, Ky (Yz x s k2) bigN (⟨⟨hd⟩, r, s, p⟩, 0) = some w ∧ Jdo w.list.ops s = some y ∧ w.nozzle = q ∧ LayR r s p x.l ops q ∧ 1 ≤ v ∧ y.l = (hdr i s ++ ops).map (lim v) := by
 obtain ⟨w, ops, e, hr, ho⟩ := Jsn hp hL (J24 hf) x hv hx hd (by rw [hh]; exact Nat.le_refl _) k2
 have hlen := hr.len hv
 have hgood := hr.good hL hp hv
 rw [hh] at ho
 have hwl : w.list.ops.l.length = 2 + ops.length := by rw [ho, List.length_append]; rfl
 obtain ⟨y, v, ey, hv1, hy⟩ := Slow_ok (x := w.list.ops) hf (by omega) (by omega) (fun o h => by
  rw [ho] at h
  rcases List.mem_append.1 h with h | h
  ·exact hdr_good i s o h
  ·exact ⟨(hgood o h).nice, (hgood o h).len⟩)
 exact ⟨w, y, _, ops, v, e, ey, rfl, hr, hv1, by rw [hy, ho]⟩
theorem Layer_ok {r : Ji} (hB : Big r) (x : FS Jd) (hx : x.l.length ≤ 1000) (hc : ∀ t ∈ x.l, t.Cells.l.length ≤ 1000000) (i : Int) (p : Ja) (s : J6) :
  (Jbh x r i p s = some (FS.nil, ⟨0, 0⟩, 1) ∧ ¬ LayIn x r i p s) ∨
  ∃ y q ops v, Jbh x r i p s = some (y, q, 0) ∧ LayIn x r i p s ∧ LayR r s p x.l ops q ∧ 1 ≤ v ∧ y.l = (hdr i s ++ ops).map (lim v) := by
 obtain ⟨b, eb, hb⟩ := Jia r hB
 unfold Jbh
 cases hf : Xo s with
 | false =>
  left
  refine ⟨?_, fun h => by have := h.set; rw [hf] at this; cases this⟩
  simp only [Jz, Zn, Y4, Zi, Jg5, if_true]
 | true =>
  simp only [Jz, Zn, Y4, eb, Yp, Option.getD_some, Jdx]
  by_cases hg : bor (bor (bor (bnot b) (ilt i 0)) (ige i 256)) (bnot (jy p)) = true
  ·left
   refine ⟨by rw [if_pos hg], fun h => ?_⟩
   have e1 : b = true := hb.2 h.reg
   have e2 : ilt i 0 = false := Yf (by have := h.idx; omega)
   have e3 : ige i 256 = false := by rw [← Bool.not_eq_true, Jbc]; have := h.idx; omega
   have e4 : jy p = true := (J5c p).2 h.noz
   rw [e1, e2, e3, e4] at hg
   simp [bor, bnot] at hg
  ·rw [if_neg hg]
   rw [Bool.not_eq_true] at hg
   simp only [Jz, bor_ff, J5r] at hg
   obtain ⟨⟨⟨hb1, hi0⟩, hi1⟩, hp⟩ := hg
   have hreg := hb.1 hb1
   have hL := Jdv hreg
   have hp := (J5c p).1 hp
   have i0 : 0 ≤ i := by rw [← Bool.not_eq_true, jv] at hi0; omega
   have i1 : i < 256 := by rw [← Bool.not_eq_true, Jbc] at hi1; omega
   rcases Jsj x (by omega) hc i r p s with ⟨e, hn⟩ | ⟨e, hv⟩
   ·left
    exact ⟨by simp only [Jz, e], fun h => hn h.trk⟩
   ·right
    rw [e]; try rw [Jz]
    simp only [Jz, Jk2 (b := ⟨⟨FS.nil⟩, r, s, p⟩) (o := ⟨1, 0, i, imul .i64 (iadd .i64 i 1) s.Height, 0, FS.nil⟩) (Nat.zero_le _)]
    by_cases hpos : 0 < i
    ·have c : igt i 0 = true := Jea hpos
     obtain ⟨w, y, q, ops, v, el, es, hq, hr, hv1, hy⟩ := Jxm hL hf hp x hv hx (Y0 (Y0 FS.nil ⟨1, 0, i, imul .i64 (iadd .i64 i 1) s.Height, 0, FS.nil⟩) ⟨6, 0, 0, 0, 255, FS.nil⟩) (i := i) (by simp only [Jz, Jap, hdr, if_pos hpos]; rfl) ⟨0, 0⟩
     refine ⟨y, q, ops, v, ?_, ⟨hf, hreg, ⟨i0, i1⟩, hp, hv⟩, hr, hv1, hy⟩
     simp only [Jz, c, if_true, Jk2 (b := ⟨⟨Y0 FS.nil ⟨1, 0, i, imul .i64 (iadd .i64 i 1) s.Height, 0, FS.nil⟩⟩, r, s, p⟩) (o := ⟨6, 0, 0, 0, 255, FS.nil⟩) (by rw [Jap]; exact Nat.le_add_left 1 999999)]
     rw [el]; try rw [Jz]
     simp only [Jz, es, hq]
    ·have c : igt i 0 = false := Jgc hpos
     obtain ⟨w, y, q, ops, v, el, es, hq, hr, hv1, hy⟩ := Jxm hL hf hp x hv hx (Y0 (Y0 FS.nil ⟨1, 0, i, imul .i64 (iadd .i64 i 1) s.Height, 0, FS.nil⟩) ⟨6, 0, 0, 0, 0, FS.nil⟩) (i := i) (by simp only [Jz, Jap, hdr, if_neg hpos]; rfl) ⟨0, 0⟩
     refine ⟨y, q, ops, v, ?_, ⟨hf, hreg, ⟨i0, i1⟩, hp, hv⟩, hr, hv1, hy⟩
     simp only [Jz, c, if_false, Bool.false_eq_true, Jk2 (b := ⟨⟨Y0 FS.nil ⟨1, 0, i, imul .i64 (iadd .i64 i 1) s.Height, 0, FS.nil⟩⟩, r, s, p⟩) (o := ⟨6, 0, 0, 0, 0, FS.nil⟩) (by rw [Jap]; exact Nat.le_add_left 1 999999)]
     rw [el]; try rw [Jz]
     simp only [Jz, es, hq]
end Go.Proofs.Ytemehoioeoohmaa
namespace Go.Proofs.Ytemehoioeoohmaa
open Go Go.Vv Go.Proofs
set_option linter.unusedSimpArgs false
set_option linter.unusedVariables false
set_option linter.unusedSectionVars false
theorem J3n (x : FS Ja) (hL : x.l.length ≤ 1000000) : ∃ b, z2 x = some b := by
 obtain ⟨v, e, -⟩ := Xd (body := je x) (fun s => ∃ n : Nat, s = n ∧ n ≤ x.l.length) (fun s => (x.l.length - s).toNat) (fun _ => True)
  (by
   rintro s ⟨n, rfl, h1⟩
   by_cases hn : n < x.l.length
   ·have c : ilt (n : Int) (flen x) = true := Ye (by rw [Js]; omega)
    have g := Qb hn
    simp only [Jz, je, c, if_true, g, zf (i := n) (by omega)]
    split
    ·right; exact ⟨_, rfl, trivial⟩
    ·left; exact ⟨_, rfl, ⟨n + 1, rfl, hn⟩, by omega⟩
   ·right
    have c : ilt (n : Int) (flen x) = false := Yf (by rw [Js]; omega)
    exact ⟨.inr (), by simp only [Jz, je, c, if_false, Bool.false_eq_true], trivial⟩)
  bigN 0 ⟨0, rfl, by omega⟩ (Xn (by omega))
 unfold z2
 rw [e]; try rw [Jz]; try simp only [Jz]
 cases v <;> exact ⟨_, rfl⟩
theorem J1e {r : Ji} (hB : Big r) : ∃ v, Z7 r = some v := by
 obtain ⟨b, e, hb⟩ := Jc9 r hB
 cases b with
 | false => unfold Z7; rw [e]; exact ⟨_, rfl⟩
 | true => exact count_ok r (Jdv (hb.1 rfl))
def FewIn (p : Qe) : Prop := p.Tracks.l.length ≤ 8 ∧ ∀ t ∈ p.Tracks.l, t.Cells.l.length ≤ 40
theorem few_ok (p : Qe) (hB : Big p.Region) : ∃ b, Jbd p = some b ∧ (b = true → FewIn p) := by
 obtain ⟨v, e, h⟩ := Xd (body := Q7 p) (fun s => ∃ n : Nat, s = n ∧ n ≤ p.Tracks.l.length ∧ n ≤ 9 ∧ ∀ (i : Nat) t, i < n → p.Tracks.l[i]? = some t → t.Cells.l.length ≤ 40)
  (fun s => (9 - s).toNat) (fun v => v = .inl false ∨ (v = .inr () ∧ (p.Tracks.l.length ≤ 8 → ∀ t ∈ p.Tracks.l, t.Cells.l.length ≤ 40)))
  (by
   rintro s ⟨n, rfl, h1, h2, h3⟩
   by_cases hn : n < p.Tracks.l.length
   ·have c : ilt (n : Int) (flen p.Tracks) = true := Ye (by rw [Js]; omega)
    by_cases hn9 : n < 9
    ·have c9 : ilt (n : Int) 9 = true := Ye (by omega)
     have g := Qb hn
     by_cases h40 : (p.Tracks.l[n]).Cells.l.length ≤ 40
     ·have c40 : igt (flen (p.Tracks.l[n]).Cells) 40 = false := Jgc (by rw [Js]; omega)
      obtain ⟨b, eb⟩ := J3n (p.Tracks.l[n]).Cells (by omega)
      cases b with
      | true =>
       left
       refine ⟨((n + 1 : Nat) : Int), by simp only [Jz, Q7, c, c9, Ja3, if_true, g, c40, Zn, Y4, eb, Yp, Option.getD_some, Jdx, if_false, Bool.false_eq_true, zf (i := n) (by omega)], ⟨n + 1, rfl, hn, by omega, fun i t hi ht => ?_⟩, by omega⟩
       by_cases he : i = n
       ·subst he; rw [List.getElem?_eq_getElem hn] at ht; cases ht; exact h40
       ·exact h3 i t (by omega) ht
      | false =>
       right
       exact ⟨.inl false, by simp only [Jz, Q7, c, c9, Ja3, if_true, g, c40, Zn, eb, Yp, Option.getD_some, Jdx], .inl rfl⟩
     ·right
      have c40 : igt (flen (p.Tracks.l[n]).Cells) 40 = true := Jea (by rw [Js]; omega)
      exact ⟨.inl false, by simp only [Jz, Q7, c, c9, Ja3, if_true, g, c40, Y4, Zi, Jg5], .inl rfl⟩
    ·right
     have c9 : ilt (n : Int) 9 = false := Yf (by omega)
     exact ⟨.inr (), by simp only [Jz, Q7, c, c9, Jd6, if_false, Bool.false_eq_true], .inr ⟨rfl, fun h => by omega⟩⟩
   ·right
    have c : ilt (n : Int) (flen p.Tracks) = false := Yf (by rw [Js]; omega)
    refine ⟨.inr (), by simp only [Jz, Q7, c, Jb7, if_false, Bool.false_eq_true], .inr ⟨rfl, fun _ t ht => ?_⟩⟩
    obtain ⟨k, hk⟩ := List.getElem?_of_mem ht
    exact h3 k t (by have := (List.getElem?_eq_some_iff.1 hk).1; omega) hk)
  bigN 0 ⟨0, rfl, by omega, by omega, fun i t hi => by omega⟩ (Xn (by omega))
 unfold Jbd
 rw [e]; try rw [Jz]; try simp only [Jz]
 rcases h with rfl | ⟨rfl, h⟩
 ·exact ⟨false, rfl, fun h => by cases h⟩
 ·obtain ⟨b, eb⟩ := J3n (flit [p.From]) (by rw [Jdf]; exact Nat.le_add_left 1 999999)
  obtain ⟨k, ek⟩ := J1e hB
  cases hc : ile (flen p.Tracks) 8 with
  | false =>
   refine ⟨false, ?_, fun h => by cases h⟩
   simp only [Jz, hc, Zi, Jb7]
  | true =>
   have h8 : p.Tracks.l.length ≤ 8 := by rw [Jdp, Js] at hc; omega
   cases b with
   | false => exact ⟨false, by simp only [Jz, hc, Yp, eb, Option.getD_some, Jd6, Ja3, Jb7, Zi], fun h => by cases h⟩
   | true => exact ⟨_, by simp only [Jz, hc, Yp, eb, ek, Option.getD_some, Ja3]; rfl, fun _ => ⟨h8, h h8⟩⟩
end Go.Proofs.Ytemehoioeoohmaa
