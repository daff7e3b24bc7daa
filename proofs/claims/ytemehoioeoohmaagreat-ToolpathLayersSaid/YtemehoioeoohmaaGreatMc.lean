/- Toolpath: travels, prints and groups of tracks, in plain Lean. Conditions: none. -/
import Derived.Test.YtemehoioeoohmaaGreatMb
open Bool renaming false_eq_true → Aa
open List renaming getElem?_eq_getElem → Ab, getElem?_eq_some_iff → Ac, length_append → Ad, length_nil → Ae, append_assoc → Af, getElem_mem → Ah, drop_eq_getElem_cons → Ai, take_succ_eq_append_getElem → Aj, length_drop → Ak, length_cons → Al, getElem?_of_mem → Am, length_reverse → An, getElem?_drop → Ao, mem_singleton → Ap, drop_length → Ar, append_nil → As, getElem?_reverse → At, mem_append_right → Au, mem_of_getElem? → Av, mem_cons_of_mem → Aw, mem_append_left → Ax, mem_cons → Ay
open Option renaming getD_some → Ag
open Int renaming tdiv_eq_ediv_of_nonneg → Aq
open Nat renaming zero_le → Az
namespace Go.Proofs.YtemehoioeoohmaaGreat
open Go Go.Vv Go.Proofs
set_option linter.unusedSimpArgs false
set_option linter.unusedVariables false
set_option linter.unusedSectionVars false
instance : DecidableEq Ja := fun a b => if h : a.X = b.X ∧ a.Y = b.Y then isTrue (Cell.ext' h.1 h.2) else isFalse fun e => h ⟨by rw [e], by rw [e]⟩
theorem Jj {α β : Type} (v : α) (f : α → Option β) : J6 (some v) f = f v := id rfl
structure SV (s : Jy) : Prop where
 pitch : 32 ≤ s.Pitch ∧ s.Pitch ≤ 1024
 height : 4 ≤ s.Height ∧ s.Height ≤ 1024
 feed : 1 ≤ s.Feed ∧ s.Feed ≤ 1048576
 travel : 1 ≤ s.Travel ∧ s.Travel ≤ 1048576
 minfeed : 1 ≤ s.MinFeed ∧ s.MinFeed ≤ s.Feed
 mintime : 0 ≤ s.MinTime ∧ s.MinTime ≤ 1048576
theorem Juu {a b : Bool} : bor a b = false ↔ a = false ∧ b = false := by cases a <;> cases b <;> simp [bor]
theorem Jqi {a : Bool} : bnot a = false ↔ a = true := by cases a <;> simp [bnot]
theorem Jso {s : Jy} (h : Q0 s = true) : SV s := by
 simp only [Jj, Q0, Yz, Z8, Jd, zd, Jsj, Juu, Jqi, Jbg, Je9] at h
 obtain ⟨⟨⟨h1, -⟩, ⟨h2, -⟩⟩, -, -, -, -, ⟨⟨⟨h3, h4⟩, h5⟩, h6⟩, -⟩ := h
 exact ⟨h1, h2, h3, h4, h6, h5⟩
def spd (s : Jy) (u : Int) : Int := imax (iquo .i64 u s.Pitch) 1
theorem Jxk {s : Jy} (h : SV s) {u : Int} (h0 : 0 ≤ u) (h1 : u ≤ 1048576) : iquo .i64 u s.Pitch = u / s.Pitch ∧ 0 ≤ u / s.Pitch ∧ u / s.Pitch ≤ 1048576 := by
 have hp := h.pitch
 have e : u.tdiv s.Pitch = u / s.Pitch := Aq h0
 have n0 : 0 ≤ u / s.Pitch := Int.ediv_nonneg h0 (by omega)
 have n1 : u / s.Pitch ≤ u := Int.ediv_le_self _ h0
 refine ⟨?_, n0, by omega⟩
 unfold iquo
 rw [e, w64 _ (by omega) (by omega)]
theorem Jw8 {b : Jo} (h : SV b.s) (u : Int) : jw b u = some (spd b.s u) := by
 have hp := h.pitch
 have : ieq b.s.Pitch 0 = false := Jg9 (by omega)
 simp only [Jj, jw, this, if_false, Aa]; rfl
theorem ch_last {r : Jl} {a : Ja} {Q : List Seen} (ok : QOK r a Q) {j : Nat} {l : List Ja} (h : Ch Q j l) : l.getLast? = some a ∧ ∀ c ∈ l, In r c := by
 induction h with
 | @base s hs =>
  have := ok.first; rw [hs] at this; cases this
  exact ⟨rfl, fun c hc => by simp at hc; subst hc; exact ok.inr _ (Av hs)⟩
 | @step j p s l hs h0 hb hc ih =>
  obtain ⟨s', t, -, rfl⟩ := hc.head
  refine ⟨by rw [List.getLast?_cons_cons]; exact ih.1, fun c hc' => ?_⟩
  rcases Ay.1 hc' with rfl | hc'
  ·exact ok.inr _ (Av hs)
  ·exact ih.2 c hc'
theorem J4u {r : Jl} (hL : Lim r) {p q : Ja} : ∃ x o, Jd2 r p q = some (x, o) ∧ (o = true → x.l.length ≤ 67108865 ∧ (p ≠ q → 2 ≤ x.l.length) ∧ x.l[0]? = some p ∧ x.l[x.l.length - 1]? = some q ∧ ∀ c ∈ x.l, In r c) := by
 obtain ⟨x, o, e, h⟩ := J4e hL (a := p) (b := q)
 refine ⟨x, o, e, fun ho => ?_⟩
 rcases h with ⟨ho', _⟩ | ⟨-, hin, m, u, full, hm, hu, hf, hlen, hx⟩
 ·rw [ho] at ho'; cases ho'
 ·obtain ⟨h1, h2⟩ := ch_last (J1j hL hin) hf
  obtain ⟨s, t, hs, hst⟩ := hf.head
  rw [hm] at hs; cases hs
  have hne : full ≠ [] := by rw [hst]; simp
  have hpos : 0 < full.length := List.length_pos_iff.2 hne
  refine ⟨by rw [hx, An]; exact hlen, fun hpq => ?_, ?_, ?_, fun c hc => h2 c (by rw [hx] at hc; simpa using hc)⟩
  ·rw [hx, An]
   cases t with
   | nil =>
    exfalso
    rw [hst] at h1
    simp at h1
    exact hpq (h1.symm.trans hu)
   | cons c t => rw [hst]; simp
  ·rw [hx, At hpos, Nat.sub_zero, ← List.getLast?_eq_getElem?]; exact h1
  ·rw [hx, An, At (by omega), show full.length - 1 - (full.length - 1) = 0 by omega, hst]
   simp [hu]
def way (r : Jl) (p q : Ja) : List Ja × Bool :=
 match Jd2 r p q with
 | some (x, true) => (x.l.drop 1, true)
 | _ => (Jfs q (dist p q) p, false)
def op2 (s : Jy) (c : List Ja) : J1 := ⟨2, 0, 0, 0, spd s s.Travel, .lst c⟩
def op4 : J1 := ⟨4, 0, 0, 0, 0, .nil⟩
def op5 : J1 := ⟨5, 0, 0, 0, 0, .nil⟩
def op3 (s : Jy) (t : Jb) : J1 := ⟨3, t.Role, 0, 0, spd s s.Feed, .lst t.Cells.l⟩
def Jjf (r : Jl) (s : Jy) (p q : Ja) : List J1 :=
 if p = q then [] else
 if (way r p q).2 = true then [op2 s (way r p q).1] else
 if s.Retract = 0 then [op2 s (way r p q).1] else [op4, op2 s (way r p q).1, op5]
theorem Jnk {b : Jo} (h : b.list.ops.l.length ≤ 1000000) (o : J1) : J3 b o = some ⟨⟨Yy b.list.ops o⟩, b.r, b.s, b.nozzle⟩ := by
 simp only [Jj, J3, Xf (bytes := 64) (n := flen b.list.ops + 1) (by rw [Jp]; omega) (by rw [Jp]; omega) (by omega), if_true]
theorem Jrs (a b : Ja) : band (ieq a.X b.X) (band (ieq a.Y b.Y) true) = true ↔ a = b := by
 rw [q_eq]; exact Joy a b
theorem J9s {b : Jo} (hL : Lim b.r) (hs : SV b.s) {q : Ja} (hp : InR b.nozzle) (hq : InR q) (hn : b.list.ops.l.length ≤ 900000) :
  ∃ x, Yk b q = some ⟨⟨x⟩, b.r, b.s, b.nozzle⟩ ∧ x.l = b.list.ops.l ++ Jjf b.r b.s b.nozzle q := by
 obtain ⟨⟨ops⟩, r, s, p⟩ := b
 simp only at hL hs hp hn ⊢
 unfold Yk Jjf
 by_cases hpq : p = q
 ·rw [if_pos ((Jrs p q).2 hpq), if_pos hpq]
  exact ⟨ops, rfl, by rw [As]⟩
 ·rw [if_neg (fun h => hpq ((Jrs p q).1 h)), if_neg hpq]
  simp only [Jj, Jw8 (b := ⟨⟨ops⟩, r, s, p⟩) hs, Jj]
  obtain ⟨x, o, e, hx⟩ := J4u hL (p := p) (q := q)
  rw [e, Jj]
  cases o with
  | true =>
   obtain ⟨h1, h2, -⟩ := hx rfl
   have h2 := h2 hpq
   obtain ⟨y, ey, hy⟩ := Jnx (x := x) (by omega)
   have hyl : 0 < y.l.length := by rw [hy, Ak]; omega
   have hw : way r p q = (x.l.drop 1, true) := by unfold way; rw [e]
   simp only [Jj, Qx, if_false, Aa, ey, Jj, Jd5, Jnk (b := ⟨⟨ops⟩, r, s, p⟩) (by simp only; omega), hw, if_true]
   refine ⟨_, rfl, ?_⟩
   rw [jt, Jhu hyl, hy]; rfl
  | false =>
   have hd : 0 < dist p q := by
    apply Nat.pos_of_ne_zero
    intro h0
    apply hpq
    unfold dist at h0
    exact Cell.ext' (by omega) (by omega)
   have es := Jvz hp hq
   obtain ⟨y, ey, hy⟩ := Jnx (x := .lst (p :: Jfs q (dist p q) p)) (by simp [FS.l])
   have hy' : y.l = Jfs q (dist p q) p := by rw [hy]; rfl
   have hyl : 0 < y.l.length := by rw [hy', Jjs]; exact hd
   have hw : way r p q = (Jfs q (dist p q) p, false) := by unfold way; rw [e]
   simp only [Jj, Zt, if_true, es, Jj, ey, Jdr, hw, if_false, Aa]
   by_cases hr : s.Retract = 0
   ·have c : ine s.Retract 0 = false := by rw [← Bool.not_eq_true, Jgz]; exact fun h => h hr
    simp only [Jj, c, if_false, Aa, Jnk (b := ⟨⟨ops⟩, r, s, p⟩) (by simp only; omega), Jj, hr, if_true]
    refine ⟨_, rfl, ?_⟩
    rw [jt, Jhu hyl, hy']; rfl
   ·have c : ine s.Retract 0 = true := by rw [Jgz]; exact hr
    simp only [Jj, c, if_true, hr, if_false]
    rw [Jnk (b := ⟨⟨ops⟩, r, s, p⟩) (by simp only; omega), Jj, Jnk (by simp only [Jj, jt, Ad, Al, Ae]; omega), Jj, Jnk (by simp only [Jj, jt, Ad, Al, Ae]; omega), Jj]
    refine ⟨_, rfl, ?_⟩
    simp only [Jj, jt]
    rw [Jhu hyl, hy']
    simp [op4, op5, op2, spd]
theorem Jkf (r : Jl) (s : Jy) (p q : Ja) : (Jjf r s p q).length ≤ 3 := by
 unfold Jjf; split
 ·simp
 ·split
  ·simp
  ·split <;> simp
theorem print_ok {b : Jo} (hL : Lim b.r) (hs : SV b.s) {t : Jb} (ht : VT t) (hp : InR b.nozzle) (hn : b.list.ops.l.length ≤ 900000) :
  ∃ x, Zh b t = some ⟨⟨x⟩, b.r, b.s, lstC t⟩ ∧ x.l = b.list.ops.l ++ (Jjf b.r b.s b.nozzle (fstC t) ++ [op3 b.s t]) := by
 have hl := ht.len
 obtain ⟨-, i1, i2⟩ := Jdc ht
 have g1 : fget t.Cells 0 = some (fstC t) := by
  show fget t.Cells ((0 : Nat) : Int) = _
  rw [Ku (x := t.Cells) (i := 0) (by omega)]
  unfold fstC; rw [Ab (by omega)]; rfl
 have g2 : fget t.Cells (isub .i64 (flen t.Cells) 1) = some (lstC t) := by
  rw [Xc (by rw [Jp]; omega) (by rw [Jp]; omega), Jp, show (t.Cells.l.length : Int) - 1 = ((t.Cells.l.length - 1 : Nat) : Int) by omega, Ku (by omega)]
  unfold lstC; rw [Ab (by omega)]; rfl
 obtain ⟨x, ex, hx⟩ := J9s hL hs hp i1 hn
 have hxl : x.l.length ≤ 900003 := by
  rw [hx, Ad]; have := Jkf b.r b.s b.nozzle (fstC t); omega
 have f : fits 16 (flen (flit ([] : List Ja)) + flen t.Cells) = true := Xf (by simp only [Jj, Jp, Je1]; omega) (by simp only [Jj, Jp, Je1, Ae]; omega) (by omega)
 refine ⟨Yy x (op3 b.s t), ?_, by rw [jt, hx, Af]⟩
 unfold Zh
 rw [g1, Jj]; try simp only [Jj]
 simp only [Jj, ex, Jj, Jw8 (b := ⟨⟨x⟩, b.r, b.s, b.nozzle⟩) hs, f, if_true, Jnk (b := ⟨⟨x⟩, b.r, b.s, b.nozzle⟩) (by simp only; omega), g2]
 rfl
def Jff (r : Jl) (s : Jy) : Ja → List Jb → List J1
 | _, [] => []
 | p, t :: ts => Jjf r s p (fstC t) ++ [op3 s t] ++ Jff r s (lstC t) ts
def endC : Ja → List Jb → Ja
 | p, [] => p
 | _, t :: ts => endC (lstC t) ts
theorem Jlx (r : Jl) (s : Jy) : ∀ (ts : List Jb) (p : Ja), (Jff r s p ts).length ≤ 4 * ts.length
 | [], p => by simp [Jff]
 | t :: ts, p => by
  have := Jlx r s ts (lstC t)
  have := Jkf r s p (fstC t)
  simp only [Jj, Jff, Ad, Al, Ae]; omega
theorem Jo5 : ∀ {ts : List Jb} {p : Ja}, InR p → (∀ t ∈ ts, VT t) → InR (endC p ts)
 | [], _, hp, _ => hp
 | t :: ts, p, _, hv => Jo5 (ts := ts) (Jdc (hv t (List.mem_cons_self ..))).2.2 fun u hu => hv u (Aw _ hu)
theorem group_ok {b : Jo} (hL : Lim b.r) (hs : SV b.s) (x : FS Jb) (hv : ∀ t ∈ x.l, VT t) (hxl : x.l.length ≤ 1000) (hp : InR b.nozzle) (hn : b.list.ops.l.length ≤ 800000) :
  ∃ (g ts : List Jb) (y : FS J1), Y8 b x = some ⟨⟨y⟩, b.r, b.s, endC b.nozzle ts⟩ ∧ Gre b.nozzle x.l g ∧ Imp b.nozzle 8 g ts ∧ y.l = b.list.ops.l ++ Jff b.r b.s b.nozzle ts := by
 obtain ⟨g, eg, hg⟩ := J3r hp x hv (by omega)
 have gv := hg.valid hv
 obtain ⟨z, ez, hz⟩ := Jzd hp g gv (by rw [hg.len]; omega) 8 (by omega)
 obtain ⟨zv, zl, -⟩ := hz.props gv
 have zl2 : z.l.length ≤ 1000 := by rw [zl, hg.len]; exact hxl
 obtain ⟨r, e, hr⟩ := Qe (body := Y5 z (flen z)) (fun s => ∃ n : Nat, s.2 = n ∧ n ≤ z.l.length ∧ s.1.r = b.r ∧ s.1.s = b.s ∧ InR s.1.nozzle ∧ s.1.list.ops.l.length ≤ 800000 + 4 * n ∧ s.1.list.ops.l ++ Jff b.r b.s s.1.nozzle (z.l.drop n) = b.list.ops.l ++ Jff b.r b.s b.nozzle z.l ∧ endC s.1.nozzle (z.l.drop n) = endC b.nozzle z.l)
  (fun s => (z.l.length - s.2).toNat) (fun v => v.r = b.r ∧ v.s = b.s ∧ v.nozzle = endC b.nozzle z.l ∧ v.list.ops.l = b.list.ops.l ++ Jff b.r b.s b.nozzle z.l)
  (by
   rintro ⟨v, i⟩ ⟨n, h1, h2, h3, h4, h5, h6, h7, h8⟩
   obtain ⟨⟨ops⟩, r, s, p⟩ := v
   simp only at h1 h2 h3 h4 h5 h6 h7 h8 ⊢
   subst h1 h3 h4
   by_cases hn : n < z.l.length
   ·left
    have c : ilt (n : Int) (flen z) = true := Xg (by rw [Jp]; omega)
    have gz := Ku hn
    obtain ⟨x, ex, hx⟩ := print_ok (b := ⟨⟨ops⟩, b.r, b.s, p⟩) hL hs (zv _ (Ah hn)) h5 (by simp only; omega)
    have hd := Ai hn
    simp only at ex hx
    refine ⟨(⟨⟨x⟩, b.r, b.s, lstC z.l[n]⟩, ((n + 1 : Nat) : Int)), by simp only [Jj, Y5, c, if_true, gz, ex, zx (i := n) (by omega)], ⟨n + 1, rfl, hn, rfl, rfl, (Jdc (zv _ (Ah hn))).2.2, ?_, ?_, ?_⟩, by simp only; omega⟩
    ·simp only [Jj, hx, Ad, Al, Ae]
     have := Jkf b.r b.s p (fstC z.l[n]); omega
    ·simp only
     rw [← h7, hd, hx]
     simp only [Jj, Jff, Af]
    ·simp only
     rw [← h8, hd]; rfl
   ·right
    have hn' : n = z.l.length := by omega
    subst hn'
    have c : ilt ((z.l.length : Nat) : Int) (flen z) = false := Xe (by rw [Jp]; omega)
    rw [Ar] at h7 h8
    exact ⟨⟨⟨ops⟩, b.r, b.s, p⟩, by simp only [Jj, Y5, c, if_false, Aa], rfl, rfl, h8, by simpa [Jff] using h7⟩)
  bigN (b, 0) ⟨0, rfl, by omega, rfl, rfl, hp, by simp only; omega, rfl, rfl⟩ (Qk (by simp only; omega))
 refine ⟨g.l, z.l, r.list.ops, ?_, hg, hz, hr.2.2.2⟩
 obtain ⟨⟨ops⟩, rr, ss, pp⟩ := r
 obtain ⟨rfl, rfl, rfl, h4⟩ := hr
 unfold Y8
 rw [eg]; try rw [Jj]; try simp only [Jj]
 have e8 : Jdw b.nozzle g 8 = some z := ez
 simp only [Jj, e8]
 rw [show (⟨⟨b.list.ops⟩, b.r, b.s, b.nozzle⟩ : Jo) = b from rfl, e, Jj]
end Go.Proofs.YtemehoioeoohmaaGreat
namespace Go.Proofs.YtemehoioeoohmaaGreat
open Go Go.Vv Go.Proofs
set_option linter.unusedSimpArgs false
set_option linter.unusedVariables false
set_option linter.unusedSectionVars false
def Nice {α : Type} (x : FS α) : Prop := x = .nil ∨ ∃ a l, x = .lst (a :: l)
theorem J9a {α : Type} {x : FS α} (h : 0 < x.l.length) : ∃ a l, x = .lst (a :: l) := by
 have := Jhu h
 cases hx : x.l with
 | nil => rw [hx] at h; simp at h
 | cons a l => exact ⟨a, l, by rw [this, hx]⟩
theorem J8g {x : FS Ja} (h : Nice x) (hL : x.l.length ≤ 100000000) : Yx x = some x := by
 unfold Yx
 rcases h with rfl | ⟨a, l, rfl⟩
 ·rfl
 ·simp only [Jj, Jt1, Aa, if_false]
  rw [if_pos (Xf (by simp only [Jj, Jp, Je1]; omega) (by simp only [Jj, Jp, Je1, Ae]; omega) (by omega))]
  rfl
theorem Jt9 {x : FS J1} (h : ∃ a l, x = .lst (a :: l)) (hL : x.l.length ≤ 1000000) : Yo x = some x := by
 unfold Yo
 obtain ⟨a, l, rfl⟩ := h
 simp only [Jj, Jt1, Aa, if_false]
 rw [if_pos (Xf (by simp only [Jj, Jp, Je1]; omega) (by simp only [Jj, Jp, Je1, Ae]; omega) (by omega))]
 rfl
theorem set_self {α : Type} {l : List α} {n : Nat} (h : n < l.length) : l.set n l[n] = l := List.set_getElem_self h
theorem Jno {x : FS J1} (h0 : 0 < x.l.length) (hL : x.l.length ≤ 1000000) (hc : ∀ o ∈ x.l, Nice o.Cells ∧ o.Cells.l.length ≤ 100000000) : ∃ y, Jft x = some y ∧ y.l = x.l := by
 have hx := J9a h0
 obtain ⟨r, e, hr⟩ := Qe (body := Jda (flen x)) (fun s => s.1.l = x.l ∧ ∃ n : Nat, s.2 = n ∧ n ≤ x.l.length) (fun s => (x.l.length - s.2).toNat) (fun r => r.l = x.l)
  (by
   rintro ⟨y, i⟩ ⟨h1, n, h2, h3⟩
   simp only at h1 h2 h3 ⊢
   subst h2
   by_cases hn : n < x.l.length
   ·left
    have c : ilt (n : Int) (flen x) = true := Xg (by rw [Jp]; omega)
    have hy : n < y.l.length := by rw [h1]; exact hn
    have g := Ku hy
    have he : y.l[n] = x.l[n] := by simp only [Jj, h1]
    obtain ⟨k1, k2⟩ := hc _ (Ah hn)
    refine ⟨(fset y (n : Int) y.l[n], ((n + 1 : Nat) : Int)), ?_, ⟨?_, n + 1, rfl, hn⟩, by simp only; omega⟩
    ·simp only [Jj, Jda, c, if_true, g, he, J8g k1 k2, zx (i := n) (by omega)]
    ·simp only [Jj, Jjp, Int.toNat_natCast, set_self, h1]
   ·right
    have c : ilt (n : Int) (flen x) = false := Xe (by rw [Jp]; omega)
    exact ⟨y, by simp only [Jj, Jda, c, if_false, Aa], h1⟩)
  bigN (x, 0) ⟨rfl, 0, rfl, by omega⟩ (Qk (by simp only; omega))
 unfold Jft
 rw [Jt9 hx hL]; try simp only [Jj]
 simp only [Jj, e]
 exact ⟨r, rfl, hr⟩
def lim (v : Int) (o : J1) : J1 := if o.Kind = 3 then ⟨o.Kind, o.Role, o.Layer, o.Z, imin o.Speed v, o.Cells⟩ else o
theorem Jlw {x : FS J1} (h0 : 0 < x.l.length) (hL : x.l.length ≤ 1000000) (v : Int) : ∃ y, Jd9 x v = some y ∧ y.l = x.l.map (lim v) := by
 have hx := J9a h0
 obtain ⟨r, e, hr⟩ := Qe (body := Jb7 v (flen x)) (fun s => ∃ n : Nat, s.2 = n ∧ n ≤ x.l.length ∧ s.1.l = (x.l.take n).map (lim v) ++ x.l.drop n) (fun s => (x.l.length - s.2).toNat) (fun r => r.l = x.l.map (lim v))
  (by
   rintro ⟨y, i⟩ ⟨n, h2, h3, h1⟩
   simp only at h1 h2 h3 ⊢
   subst h2
   by_cases hn : n < x.l.length
   ·left
    have c : ilt (n : Int) (flen x) = true := Xg (by rw [Jp]; omega)
    have l1 : ((x.l.take n).map (lim v)).length = n := by rw [List.length_map, List.length_take]; omega
    have hyl : y.l.length = x.l.length := by rw [h1, Ad, l1, Ak]; omega
    have hy : n < y.l.length := by omega
    have g := Ku hy
    have hd := Ai hn
    have he : y.l[n] = x.l[n] := by
     have : y.l[n]? = x.l[n]? := by rw [h1, List.getElem?_append_right (by omega), l1, Ao]; simp
     rw [Ab hy, Ab hn] at this
     exact Option.some.inj this
    by_cases hk : (x.l[n]).Kind = 3
    ·have c2 : ieq (x.l[n]).Kind 3 = true := Jlb hk
     refine ⟨(fset y (n : Int) (lim v x.l[n]), ((n + 1 : Nat) : Int)), ?_, ⟨n + 1, rfl, hn, ?_⟩, by simp only; omega⟩
     ·simp only [Jj, Jb7, c, if_true, g, he, c2, zx (i := n) (by omega)]
      rw [lim, if_pos hk]
     ·simp only [Jj, Jjp, Int.toNat_natCast, h1]
      rw [List.set_append_right _ _ (by omega), l1, Nat.sub_self, hd, List.set_cons_zero, Aj hn, List.map_append, Af]
      rfl
    ·have c2 : ieq (x.l[n]).Kind 3 = false := Jg9 hk
     refine ⟨(y, ((n + 1 : Nat) : Int)), by simp only [Jj, Jb7, c, if_true, g, he, c2, if_false, Aa, zx (i := n) (by omega)], ⟨n + 1, rfl, hn, ?_⟩, by simp only; omega⟩
     simp only [Jj, h1]
     rw [hd, Aj hn, List.map_append, Af]
     have : lim v x.l[n] = x.l[n] := by rw [lim, if_neg hk]
     simp only [Jj, List.map_cons, List.map_nil, this, List.cons_append, List.nil_append]
   ·right
    have hn' : n = x.l.length := by omega
    subst hn'
    have c : ilt ((x.l.length : Nat) : Int) (flen x) = false := Xe (by rw [Jp]; omega)
    exact ⟨y, by simp only [Jj, Jb7, c, if_false, Aa], by rw [h1, List.take_length, Ar, As]⟩)
  bigN (x, 0) ⟨0, rfl, by omega, by simp⟩ (Qk (by simp only; omega))
 unfold Jd9
 rw [Jt9 hx hL]; try simp only [Jj]
 simp only [Jj, e]
 exact ⟨r, rfl, hr⟩
theorem Jwi (o : J1) : ∃ n, Jcw o = some n := by
 unfold Jcw
 by_cases hc : bor (band (ine o.Kind 2) (ine o.Kind 3)) (ile o.Speed 0) = true
 ·exact ⟨0, by rw [if_pos hc]⟩
 ·rw [if_neg hc]
  have hs : ieq o.Speed 0 = false := Jg9 (fun h => hc (by rw [Yi, Je9]; right; omega))
  rw [hs]; try rw [Jj]
  simp only [Jj, Aa, if_false]
  split
  ·exact ⟨_, rfl⟩
  ·exact ⟨_, rfl⟩
theorem Time_ok (x : FS J1) (hL : x.l.length ≤ 1000000) : ∃ n, Jfl x = some n := by
 obtain ⟨r, e, -⟩ := Qe (body := Jcb x (flen x)) (fun s => ∃ n : Nat, s.2 = n ∧ n ≤ x.l.length) (fun s => (x.l.length - s.2).toNat) (fun _ => True)
  (by
   rintro ⟨t, i⟩ ⟨n, h2, h3⟩
   simp only at h2 h3 ⊢
   subst h2
   by_cases hn : n < x.l.length
   ·left
    have c : ilt (n : Int) (flen x) = true := Xg (by rw [Jp]; omega)
    obtain ⟨d, ed⟩ := Jwi x.l[n]
    exact ⟨(iadd .i64 t d, ((n + 1 : Nat) : Int)), by simp only [Jj, Jcb, c, if_true, Ku hn, ed, zx (i := n) (by omega)], ⟨n + 1, rfl, hn⟩, by simp only; omega⟩
   ·right
    have c : ilt (n : Int) (flen x) = false := Xe (by rw [Jp]; omega)
    exact ⟨t, by simp only [Jj, Jcb, c, if_false, Aa], trivial⟩)
  bigN (0, 0) ⟨0, rfl, by omega⟩ (Qk (by simp only; omega))
 unfold Jfl
 rw [e]; try rw [Jj]; try simp only [Jj]
 exact ⟨r, rfl⟩
theorem Slow1_ok {x : FS J1} (h0 : 0 < x.l.length) (hL : x.l.length ≤ 1000000) (v : Int) (s : Jy) : ∃ b, Jd3 v x s = some b := by
 obtain ⟨y, ey, hy⟩ := Jlw h0 hL v
 obtain ⟨n, en⟩ := Time_ok y (by rw [hy, List.length_map]; exact hL)
 unfold Jd3
 rw [ey]; try rw [Jj]; try simp only [Jj]
 simp only [Jj, en]
 exact ⟨_, rfl⟩
theorem J22 {lo hi : Int} (h0 : 0 ≤ lo) (h1 : lo < hi) (h2 : hi ≤ 2097152) : iquo .i64 (iadd .i64 (iadd .i64 lo hi) 1) 2 = (lo + hi + 1) / 2 ∧ lo < (lo + hi + 1) / 2 ∧ (lo + hi + 1) / 2 ≤ hi := by
 rw [zt (a := lo) (by omega) (by omega), zt (by omega) (by omega)]
 refine ⟨?_, by omega, by omega⟩
 unfold iquo
 rw [Aq (by omega), w64 _ (by omega) (by omega)]
theorem Slow_ok {x : FS J1} {s : Jy} (hv : Q0 s = true) (h0 : 0 < x.l.length) (hL : x.l.length ≤ 1000000) (hc : ∀ o ∈ x.l, Nice o.Cells ∧ o.Cells.l.length ≤ 100000000) :
  ∃ (y : FS J1) (v : Int), Jcl x s = some y ∧ 1 ≤ v ∧ y.l = x.l.map (lim v) := by
 have sv := Jso hv
 obtain ⟨z, ez, hz⟩ := Jno h0 hL hc
 have hz0 : 0 < z.l.length := by rw [hz]; exact h0
 have hzL : z.l.length ≤ 1000000 := by rw [hz]; exact hL
 have q1 := Jxk sv (u := s.MinFeed) (by have := sv.minfeed; omega) (by have := sv.minfeed; have := sv.feed; omega)
 have q2 := Jxk sv (u := s.Feed) (by have := sv.feed; omega) (by have := sv.feed; omega)
 obtain ⟨v, e, hv1⟩ := Qe (body := Jce z s) (fun w => 1 ≤ w.1 ∧ w.2 ≤ 2097152) (fun w => (w.2 - w.1).toNat) (fun r => 1 ≤ r)
  (by
   rintro ⟨lo, hi⟩ ⟨h1, h2⟩
   simp only at h1 h2 ⊢
   by_cases hlt : lo < hi
   ·left
    have c : ilt lo hi = true := Xg hlt
    obtain ⟨m1, m2, m3⟩ := J22 (by omega) hlt h2
    obtain ⟨b, eb⟩ := Slow1_ok hz0 hzL ((lo + hi + 1) / 2) s
    cases b with
    | true => exact ⟨((lo + hi + 1) / 2, hi), by simp only [Jj, Jce, c, if_true, m1, eb], ⟨by simp only; omega, h2⟩, by simp only; omega⟩
    | false =>
     refine ⟨(lo, (lo + hi + 1) / 2 - 1), ?_, ⟨h1, by simp only; omega⟩, by simp only; omega⟩
     simp only [Jj, Jce, c, if_true, m1, eb, if_false, Aa]
     rw [Xc (by omega) (by omega)]
   ·right
    have c : ilt lo hi = false := Xe hlt
    exact ⟨lo, by simp only [Jj, Jce, c, if_false, Aa], h1⟩)
  bigN (imax (iquo .i64 s.MinFeed s.Pitch) 1, imax (iquo .i64 s.Feed s.Pitch) 1) ⟨by simp only [Jj, Jhr]; omega, by simp only [Jj, Jhr, q2.1]; omega⟩ (Qk (by simp only [Jj, Jhr, q1.1, q2.1]; omega))
 obtain ⟨y, ey, hy⟩ := Jlw hz0 hzL v
 refine ⟨y, v, ?_, hv1, by rw [hy, hz]⟩
 have p0 : ieq s.Pitch 0 = false := Jg9 (by have := sv.pitch; omega)
 unfold Jcl
 rw [ez]; try rw [Jj]; try simp only [Jj]
 simp only [Jj, hv, Qx, p0, if_false, Aa, e, ey]
end Go.Proofs.YtemehoioeoohmaaGreat
namespace Go.Proofs.YtemehoioeoohmaaGreat
open Go Go.Vv Go.Proofs
set_option linter.unusedSimpArgs false
set_option linter.unusedVariables false
set_option linter.unusedSectionVars false
structure Jp6 (s : Jy) (o : J1) : Prop where
 kind : (o.Kind = 2 ∧ o.Speed = spd s s.Travel) ∨ (o.Kind = 3 ∧ o.Speed = spd s s.Feed) ∨ o.Kind = 4 ∨ o.Kind = 5
 nice : Nice o.Cells
 len : o.Cells.l.length ≤ 100000000
theorem Jw1 {α : Type} {l : List α} (h : 0 < l.length) : Nice (FS.lst l) := by
 cases l with
 | nil => simp at h
 | cons a l => exact Or.inr ⟨a, l, rfl⟩
theorem Jwp {p q : Ja} (h : p ≠ q) : 0 < dist p q := by
 apply Nat.pos_of_ne_zero
 intro h0
 apply h
 unfold dist at h0
 exact Cell.ext' (by omega) (by omega)
theorem way_good {r : Jl} (hL : Lim r) {p q : Ja} (hp : InR p) (hq : InR q) (h : p ≠ q) : 0 < (way r p q).1.length ∧ (way r p q).1.length ≤ 100000000 := by
 obtain ⟨x, o, e, hx⟩ := J4u hL (p := p) (q := q)
 unfold way; rw [e]
 cases o with
 | true =>
  obtain ⟨h1, h2, -⟩ := hx rfl
  have := h2 h
  simp only [Jj, Ak]; omega
 | false =>
  have hd := Jwp h
  have := Jfj hp hq
  simp only [Jj, Jjs]; omega
theorem op2_good {s : Jy} {l : List Ja} (h : 0 < l.length ∧ l.length ≤ 100000000) : Jp6 s (op2 s l) := ⟨Or.inl ⟨rfl, rfl⟩, Jw1 h.1, h.2⟩
theorem op4_good (s : Jy) : Jp6 s op4 := ⟨Or.inr (Or.inr (Or.inl rfl)), Or.inl rfl, Az _⟩
theorem op5_good (s : Jy) : Jp6 s op5 := ⟨Or.inr (Or.inr (Or.inr rfl)), Or.inl rfl, Az _⟩
theorem op3_good (s : Jy) {t : Jb} (h : VT t) : Jp6 s (op3 s t) := ⟨Or.inr (Or.inl ⟨rfl, rfl⟩), Jw1 h.len.1, by have := h.len.2; show t.Cells.l.length ≤ _; omega⟩
theorem Jtd {r : Jl} (hL : Lim r) (s : Jy) {p q : Ja} (hp : InR p) (hq : InR q) : ∀ o ∈ Jjf r s p q, Jp6 s o := by
 intro o ho
 unfold Jjf at ho
 split at ho
 ·cases ho
 ·rename_i h
  have hw := op2_good (s := s) (way_good hL hp hq h)
  split at ho
  ·rw [Ap.1 ho]; exact hw
  ·split at ho
   ·rw [Ap.1 ho]; exact hw
   ·simp only [Jj, Ay, List.not_mem_nil, or_false] at ho
    rcases ho with rfl | rfl | rfl
    ·exact op4_good s
    ·exact hw
    ·exact op5_good s
theorem Jpd {r : Jl} (hL : Lim r) (s : Jy) : ∀ (ts : List Jb) (p : Ja), InR p → (∀ t ∈ ts, VT t) → ∀ o ∈ Jff r s p ts, Jp6 s o
 | [], _, _, _, o, ho => by cases ho
 | t :: ts, p, hp, hv, o, ho => by
  have ht := hv t (List.mem_cons_self ..)
  have he := Jdc ht
  simp only [Jj, Jff, List.mem_append, Ap] at ho
  rcases ho with (ho | rfl) | ho
  ·exact Jtd hL s hp he.2.1 o ho
  ·exact op3_good s ht
  ·exact Jpd hL s ts _ he.2.2 (fun u hu => hv u (Aw _ hu)) o ho
def HeadNe (k : Int) (l : List Jb) : Prop := ∀ t, l[0]? = some t → t.Role ≠ k
inductive LayR (r : Jl) (s : Jy) : Ja → List Jb → List J1 → Ja → Prop
 | done (p : Ja) : LayR r s p [] [] p
 | group {p : Ja} {t : Jb} {g' rest g ts : List Jb} {ops : List J1} {q : Ja} (same : ∀ u ∈ g', u.Role = t.Role) (diff : HeadNe t.Role rest) (gre : Gre p (t :: g') g) (imp : Imp p 8 g ts) (next : LayR r s (endC p ts) rest ops q) :
   LayR r s p ((t :: g') ++ rest) (Jff r s p ts ++ ops) q
theorem LayR.good {r : Jl} (hL : Lim r) {s : Jy} {p q : Ja} {l : List Jb} {ops : List J1} (h : LayR r s p l ops q) : InR p → (∀ t ∈ l, VT t) → ∀ o ∈ ops, Jp6 s o := by
 induction h with
 | done p => intro _ _ o ho; cases ho
 | @group p t g' rest g ts ops q same diff gre imp next ih =>
  intro hp hv o ho
  have hg : ∀ u ∈ t :: g', VT u := fun u hu => hv u (Ax _ hu)
  have hts := (imp.props (gre.valid hg)).1
  rcases List.mem_append.1 ho with ho | ho
  ·exact Jpd hL s ts p hp hts o ho
  ·exact ih (Jo5 hp hts) (fun u hu => hv u (Au _ hu)) o ho
theorem LayR.len {r : Jl} {s : Jy} {p q : Ja} {l : List Jb} {ops : List J1} (h : LayR r s p l ops q) : (∀ t ∈ l, VT t) → ops.length ≤ 4 * l.length := by
 induction h with
 | done p => intro _; simp
 | @group p t g' rest g ts ops q same diff gre imp next ih =>
  intro hv
  have hg : ∀ u ∈ t :: g', VT u := fun u hu => hv u (Ax _ hu)
  have h1 := Jlx r s ts p
  have h2 := (imp.props (gre.valid hg)).2.1
  have h3 := gre.len
  have h4 := ih (fun u hu => hv u (Au _ hu))
  simp only [Jj, Ad] at *
  omega
end Go.Proofs.YtemehoioeoohmaaGreat
namespace Go.Proofs.YtemehoioeoohmaaGreat
open Go Go.Vv Go.Proofs
set_option linter.unusedSimpArgs false
set_option linter.unusedVariables false
set_option linter.unusedSectionVars false
theorem Jxi {lo hi : Int} {l : List Kk} (h : Jod lo hi l) : ∀ (i : Nat) (r : Kk), l[i]? = some r → lo + i ≤ r.From
 | 0, r, hr => by
  have := (h 0 (Ac.1 hr).1 _ hr).1
  omega
 | i + 1, r, hr => by
  have hi := (Ac.1 hr).1
  have hp : l[i]? = some (l[i]'(by omega)) := Ab (by omega)
  have ih := Jxi h i _ hp
  have a := (h i (by omega) _ hp).2.1
  have b := (h (i + 1) hi _ hr).2.2.2 _ (by omega) hp
  omega
theorem Jwq {r : Jl} (h : Jg8 r) : ∀ (i : Nat) (w : Jaf), r.Rows.l[i]? = some w → -4096 + (i : Int) ≤ w.Y
 | 0, w, hw => by
  have := (h 0 (Ac.1 hw).1 _ hw).1
  omega
 | i + 1, w, hw => by
  have hi := (Ac.1 hw).1
  have hp : r.Rows.l[i]? = some (r.Rows.l[i]'(by omega)) := Ab (by omega)
  have ih := Jwq h i _ hp
  have b := (h (i + 1) hi _ hw).2.2.2.2 _ (by omega) hp
  omega
theorem Jn0 {r : Jl} (h : Jg8 r) : Lim r := by
 refine ⟨?_, fun w hw => ?_⟩
 ·by_cases h0 : r.Rows.l.length = 0
  ·omega
  ·have e := Ab (l := r.Rows.l) (i := r.Rows.l.length - 1) (by omega)
   have a := Jwq h _ _ e
   have b := (h _ (by omega) _ e).2.1
   omega
 ·have hv := Jrj h hw
  by_cases h0 : w.Runs.l.length = 0
  ·omega
  ·have e := Ab (l := w.Runs.l) (i := w.Runs.l.length - 1) (by omega)
   have a := Jxi hv _ _ e
   have b := hv _ (by omega) _ e
   have b1 := b.2.1
   have b2 := b.2.2.1
   omega
theorem J67 {x : FS Jb} (hL : x.l.length ≤ 1000000) (k1 : Jy) (k2 : Ja) (k3 : Jo) {n : Nat} (hn : n < x.l.length) :
  ∃ m : Nat, Kn (zi x k1 k2 k3 (n : Int)) bigN (iadd .i64 (n : Int) 1) = some (m : Int) ∧ n < m ∧ m ≤ x.l.length ∧ (∀ (i : Nat) t, n ≤ i → i < m → x.l[i]? = some t → t.Role = (x.l[n]).Role) ∧ (∀ t, x.l[m]? = some t → t.Role ≠ (x.l[n]).Role) := by
 have gn := Ku hn
 obtain ⟨r, e, m, rfl, h⟩ := Qe (body := zi x k1 k2 k3 (n : Int)) (fun s => ∃ m : Nat, s = m ∧ n < m ∧ m ≤ x.l.length ∧ (∀ (i : Nat) t, n ≤ i → i < m → x.l[i]? = some t → t.Role = (x.l[n]).Role))
  (fun s => (x.l.length - s).toNat) (fun r => ∃ m : Nat, r = (m : Int) ∧ n < m ∧ m ≤ x.l.length ∧ (∀ (i : Nat) t, n ≤ i → i < m → x.l[i]? = some t → t.Role = (x.l[n]).Role) ∧ (∀ t, x.l[m]? = some t → t.Role ≠ (x.l[n]).Role))
  (by
   rintro s ⟨m, rfl, h1, h2, h3⟩
   by_cases hm : m < x.l.length
   ·have c : ilt (m : Int) (flen x) = true := Xg (by rw [Jp]; omega)
    have g := Ku hm
    by_cases hr : (x.l[m]).Role = (x.l[n]).Role
    ·left
     refine ⟨((m + 1 : Nat) : Int), by simp only [Jj, zi, c, Y4, g, gn, Ag, Jlb hr, Jdr, if_true, zx (i := m) (by omega)], ⟨m + 1, rfl, by omega, hm, fun i t a b ht => ?_⟩, by omega⟩
     by_cases hi : i = m
     ·subst hi; rw [Ab hm] at ht; cases ht; exact hr
     ·exact h3 i t a (by omega) ht
    ·right
     refine ⟨(m : Int), by simp only [Jj, zi, c, Y4, g, gn, Ag, Jg9 hr, Jfy, if_false, Aa], m, rfl, h1, h2, h3, fun t ht => ?_⟩
     rw [Ab hm] at ht; cases ht; exact hr
   ·right
    have c : ilt (m : Int) (flen x) = false := Xe (by rw [Jp]; omega)
    refine ⟨(m : Int), by simp only [Jj, zi, c, jp, Jd5, if_false, Aa], m, rfl, h1, h2, h3, fun t ht => ?_⟩
    exact absurd (Ac.1 ht).1 hm)
  bigN (iadd .i64 (n : Int) 1) ⟨n + 1, zx (i := n) (by omega), by omega, hn, fun i t a b ht => by
   have : i = n := by omega
   subst this; rw [Ab hn] at ht; cases ht; rfl⟩ (Qk (by rw [zx (i := n) (by omega)]; omega))
 exact ⟨m, e, h⟩
theorem Jvb {p : Ja} (hp : InR p) {r : Jl} (hL : Lim r) {s : Jy} (hs : SV s) (x : FS Jb) (hv : ∀ t ∈ x.l, VT t) (hxl : x.l.length ≤ 1000) (hd : FS J1) (hh : hd.l.length ≤ 2) (k2 : Ja) :
  ∃ v ops, Kn (jc x s k2) bigN (⟨⟨hd⟩, r, s, p⟩, 0) = some v ∧ LayR r s p x.l ops v.nozzle ∧ v.list.ops.l = hd.l ++ ops := by
 obtain ⟨v, e, ops, h⟩ := Qe (body := jc x s k2) (fun w => ∃ n : Nat, w.2 = n ∧ n ≤ x.l.length ∧ w.1.r = r ∧ w.1.s = s ∧ InR w.1.nozzle ∧ w.1.list.ops.l.length ≤ 2 + 4 * n ∧ ∃ done, w.1.list.ops.l = hd.l ++ done ∧ ∀ ops q, LayR r s w.1.nozzle (x.l.drop n) ops q → LayR r s p x.l (done ++ ops) q)
  (fun w => (x.l.length - w.2).toNat) (fun v => ∃ ops, LayR r s p x.l ops v.nozzle ∧ v.list.ops.l = hd.l ++ ops)
  (by
   rintro ⟨⟨⟨o⟩, rr, ss, nz⟩, i⟩ ⟨n, h1, h2, h3, h4, h5, h6, done, h7, h8⟩
   simp only at h1 h2 h3 h4 h5 h6 h7 h8 ⊢
   subst h1 h3 h4
   by_cases hn : n < x.l.length
   ·left
    have c : ilt (n : Int) (flen x) = true := Xg (by rw [Jp]; omega)
    obtain ⟨m, em, m1, m2, m3, m4⟩ := J67 (x := x) (by omega) ss k2 (⟨⟨o⟩, rr, ss, nz⟩ : Jo) hn
    have sl : fsl x (n : Int) (m : Int) = some (.lst ((x.l.drop n).take (m - n))) :=
     (congrArg (fun y => fsl y (n : Int) (m : Int)) (Jhu (x := x) (by omega))).trans (Jle (by omega) m2)
    have hseg : (x.l.drop n).take (m - n) = x.l[n] :: (x.l.drop (n + 1)).take (m - n - 1) := by
     rw [Ai hn, List.take_cons (by omega)]
    have hsplit : x.l.drop n = (x.l.drop n).take (m - n) ++ x.l.drop m := by
     have := List.take_append_drop (m - n) (x.l.drop n)
     rw [List.drop_drop, show n + (m - n) = m by omega] at this
     exact this.symm
    have hvs : ∀ t ∈ (x.l.drop n).take (m - n), VT t := fun t ht => hv t (List.mem_of_mem_drop (List.mem_of_mem_take ht))
    have hsl : ((x.l.drop n).take (m - n)).length = m - n := by rw [List.length_take, Ak]; omega
    obtain ⟨g, ts, y, eg, hg, hi, hy⟩ := group_ok (b := ⟨⟨o⟩, rr, ss, nz⟩) hL hs (.lst ((x.l.drop n).take (m - n))) hvs (by show ((x.l.drop n).take (m - n)).length ≤ 1000; omega) h5 (by simp only; omega)
    simp only at eg hg hi hy
    have hg : Gre nz ((x.l.drop n).take (m - n)) g := hg
    have hgv := hg.valid hvs
    obtain ⟨hiv, hil, -⟩ := hi.props hgv
    have hgl := hg.len
    have hol := Jlx rr ss ts nz
    refine ⟨(⟨⟨y⟩, rr, ss, endC nz ts⟩, (m : Int)), by simp only [Jj, jc, c, if_true, em, sl, eg], ⟨m, rfl, m2, rfl, rfl, Jo5 h5 hiv, ?_, done ++ Jff rr ss nz ts, ?_, fun ops q hq => ?_⟩, by simp only; omega⟩
    ·simp only [Jj, hy, Ad]; omega
    ·simp only [Jj, hy, h7, Af]
    ·rw [Af]
     apply h8
     rw [hsplit, hseg]
     rw [hseg] at hg
     refine LayR.group (fun u hu => ?_) (fun t ht => ?_) hg hi hq
     ·obtain ⟨k, hk⟩ := Am hu
      rw [List.getElem?_take] at hk
      split at hk
      ·rw [Ao] at hk
       exact m3 _ u (by omega) (by omega) hk
      ·cases hk
     ·rw [Ao] at ht
      exact m4 t ht
   ·right
    have hn' : n = x.l.length := by omega
    subst hn'
    have c : ilt ((x.l.length : Nat) : Int) (flen x) = false := Xe (by rw [Jp]; omega)
    rw [Ar] at h8
    exact ⟨⟨⟨o⟩, rr, ss, nz⟩, by simp only [Jj, jc, c, if_false, Aa], done, by have := h8 [] nz (LayR.done nz); rwa [As] at this, h7⟩)
  bigN (⟨⟨hd⟩, r, s, p⟩, 0) ⟨0, rfl, by omega, rfl, rfl, hp, by simp only; omega, [], by simp, fun ops q h => h⟩ (Qk (by simp only; omega))
 exact ⟨v, ops, e, h⟩
theorem J71 (c : Ja) : Jaw c = true ↔ InR c := by
 simp only [Jj, Jaw, zd, Jbg, Yj, InR]; omega
theorem Jvq (x : FS Jb) (hL : x.l.length ≤ 1000000) (hc : ∀ t ∈ x.l, t.Cells.l.length ≤ 1000000) (k1 : Int) (k2 : Jl) (k3 : Ja) (k4 : Jy) :
  (Kn (Z3 x k1 k2 k3 k4 x (flen x)) bigN ((⟨0, 0⟩ : Ja), 0) = some (.inl (⟨0, 0⟩, FS.nil, 1)) ∧ ¬ ∀ t ∈ x.l, VT t) ∨ (Kn (Z3 x k1 k2 k3 k4 x (flen x)) bigN ((⟨0, 0⟩ : Ja), 0) = some (.inr ⟨0, 0⟩) ∧ ∀ t ∈ x.l, VT t) := by
 obtain ⟨v, e, h⟩ := Qe (body := Z3 x k1 k2 k3 k4 x (flen x)) (fun w => w.1 = ⟨0, 0⟩ ∧ ∃ n : Nat, w.2 = n ∧ n ≤ x.l.length ∧ ∀ (i : Nat) t, i < n → x.l[i]? = some t → VT t)
  (fun w => (x.l.length - w.2).toNat) (fun v => (v = .inl (⟨0, 0⟩, FS.nil, 1) ∧ ¬ ∀ t ∈ x.l, VT t) ∨ (v = .inr ⟨0, 0⟩ ∧ ∀ t ∈ x.l, VT t))
  (by
   rintro ⟨cc, i⟩ ⟨h0, n, h1, h2, h3⟩
   simp only at h0 h1 h2 h3 ⊢
   subst h0 h1
   by_cases hn : n < x.l.length
   ·have c : ilt (n : Int) (flen x) = true := Xg (by rw [Jp]; omega)
    have g := Ku hn
    obtain ⟨b, eb, hb⟩ := Jl7 x.l[n] (hc _ (Ah hn))
    cases b with
    | true =>
     left
     refine ⟨(⟨0, 0⟩, ((n + 1 : Nat) : Int)), by simp only [Jj, Z3, c, if_true, g, eb, Qx, if_false, Aa, zx (i := n) (by omega)], ⟨rfl, n + 1, rfl, hn, fun i t hi ht => ?_⟩, by simp only; omega⟩
     by_cases he : i = n
     ·subst he; rw [Ab hn] at ht; cases ht; exact hb.1 rfl
     ·exact h3 i t (by omega) ht
    | false =>
     right
     refine ⟨.inl (⟨0, 0⟩, FS.nil, 1), by simp only [Jj, Z3, c, if_true, g, eb, Zt], .inl ⟨rfl, fun ha => ?_⟩⟩
     have := hb.2 (ha _ (Ah hn))
     cases this
   ·right
    have c : ilt (n : Int) (flen x) = false := Xe (by rw [Jp]; omega)
    refine ⟨.inr ⟨0, 0⟩, by simp only [Jj, Z3, c, if_false, Aa], .inr ⟨rfl, fun t ht => ?_⟩⟩
    obtain ⟨k, hk⟩ := Am ht
    exact h3 k t (by have := (Ac.1 hk).1; omega) hk)
  bigN ((⟨0, 0⟩ : Ja), 0) ⟨rfl, 0, rfl, by omega, fun i t hi => by omega⟩ (Qk (by simp only; omega))
 rcases h with ⟨rfl, h⟩ | ⟨rfl, h⟩
 ·exact .inl ⟨e, h⟩
 ·exact .inr ⟨e, h⟩
def hdr (i : Int) (s : Jy) : List J1 := [⟨1, 0, i, imul .i64 (iadd .i64 i 1) s.Height, 0, FS.nil⟩, ⟨6, 0, 0, 0, if 0 < i then 255 else 0, FS.nil⟩]
end Go.Proofs.YtemehoioeoohmaaGreat
namespace Go.Proofs.YtemehoioeoohmaaGreat
open Go Go.Vv Go.Proofs
set_option linter.unusedSimpArgs false
set_option linter.unusedVariables false
set_option linter.unusedSectionVars false
structure LayIn (x : FS Jb) (r : Jl) (i : Int) (p : Ja) (s : Jy) : Prop where
 set : Q0 s = true
 reg : Jg8 r
 idx : 0 ≤ i ∧ i < 256
 noz : InR p
 trk : ∀ t ∈ x.l, VT t
theorem Jxu (i : Int) (s : Jy) : ∀ o ∈ hdr i s, Nice o.Cells ∧ o.Cells.l.length ≤ 100000000 := by
 intro o ho
 simp only [Jj, hdr, Ay, List.not_mem_nil, or_false] at ho
 rcases ho with rfl | rfl <;> exact ⟨Or.inl rfl, Az _⟩
end Go.Proofs.YtemehoioeoohmaaGreat
namespace Go.Proofs.YtemehoioeoohmaaGreat
open Go Go.Vv Go.Proofs
set_option linter.unusedSimpArgs false
set_option linter.unusedVariables false
set_option linter.unusedSectionVars false
theorem J1k (x : FS Ja) (hL : x.l.length ≤ 1000000) : ∃ b, Jbp x = some b := by
 obtain ⟨v, e, -⟩ := Qe (body := zw x) (fun s => ∃ n : Nat, s = n ∧ n ≤ x.l.length) (fun s => (x.l.length - s).toNat) (fun _ => True)
  (by
   rintro s ⟨n, rfl, h1⟩
   by_cases hn : n < x.l.length
   ·have c : ilt (n : Int) (flen x) = true := Xg (by rw [Jp]; omega)
    have g := Ku hn
    simp only [Jj, zw, c, if_true, g, zx (i := n) (by omega)]
    split
    ·right; exact ⟨_, rfl, trivial⟩
    ·left; exact ⟨_, rfl, ⟨n + 1, rfl, hn⟩, by omega⟩
   ·right
    have c : ilt (n : Int) (flen x) = false := Xe (by rw [Jp]; omega)
    exact ⟨.inr (), by simp only [Jj, zw, c, if_false, Aa], trivial⟩)
  bigN 0 ⟨0, rfl, by omega⟩ (Qk (by omega))
 unfold Jbp
 rw [e]; try rw [Jj]; try simp only [Jj]
 cases v <;> exact ⟨_, rfl⟩
theorem J2m {r : Jl} (hB : Big r) : ∃ v, zf r = some v := by
 obtain ⟨b, e, hb⟩ := Jhg r hB
 cases b with
 | false => unfold zf; rw [e]; exact ⟨_, rfl⟩
 | true => exact count_ok r (Jn0 (hb.1 rfl))
def FewIn (p : Zk) : Prop := p.Tracks.l.length ≤ 8 ∧ ∀ t ∈ p.Tracks.l, t.Cells.l.length ≤ 40
theorem few_ok (p : Zk) (hB : Big p.Region) : ∃ b, Jcy p = some b ∧ (b = true → FewIn p) := by
 obtain ⟨v, e, h⟩ := Qe (body := Xy p) (fun s => ∃ n : Nat, s = n ∧ n ≤ p.Tracks.l.length ∧ n ≤ 9 ∧ ∀ (i : Nat) t, i < n → p.Tracks.l[i]? = some t → t.Cells.l.length ≤ 40)
  (fun s => (9 - s).toNat) (fun v => v = .inl false ∨ (v = .inr () ∧ (p.Tracks.l.length ≤ 8 → ∀ t ∈ p.Tracks.l, t.Cells.l.length ≤ 40)))
  (by
   rintro s ⟨n, rfl, h1, h2, h3⟩
   by_cases hn : n < p.Tracks.l.length
   ·have c : ilt (n : Int) (flen p.Tracks) = true := Xg (by rw [Jp]; omega)
    by_cases hn9 : n < 9
    ·have c9 : ilt (n : Int) 9 = true := Xg (by omega)
     have g := Ku hn
     by_cases h40 : (p.Tracks.l[n]).Cells.l.length ≤ 40
     ·have c40 : igt (flen (p.Tracks.l[n]).Cells) 40 = false := Jhc (by rw [Jp]; omega)
      obtain ⟨b, eb⟩ := J1k (p.Tracks.l[n]).Cells (by omega)
      cases b with
      | true =>
       left
       refine ⟨((n + 1 : Nat) : Int), by simp only [Jj, Xy, c, c9, Jdr, if_true, g, c40, Zt, Qx, eb, Y4, Ag, Jgt, if_false, Aa, zx (i := n) (by omega)], ⟨n + 1, rfl, hn, by omega, fun i t hi ht => ?_⟩, by omega⟩
       by_cases he : i = n
       ·subst he; rw [Ab hn] at ht; cases ht; exact h40
       ·exact h3 i t (by omega) ht
      | false =>
       right
       exact ⟨.inl false, by simp only [Jj, Xy, c, c9, Jdr, if_true, g, c40, Zt, eb, Y4, Ag, Jgt], .inl rfl⟩
     ·right
      have c40 : igt (flen (p.Tracks.l[n]).Cells) 40 = true := Jf6 (by rw [Jp]; omega)
      exact ⟨.inl false, by simp only [Jj, Xy, c, c9, Jdr, if_true, g, c40, Qx, jp, Jjm], .inl rfl⟩
    ·right
     have c9 : ilt (n : Int) 9 = false := Xe (by omega)
     exact ⟨.inr (), by simp only [Jj, Xy, c, c9, Jfy, if_false, Aa], .inr ⟨rfl, fun h => by omega⟩⟩
   ·right
    have c : ilt (n : Int) (flen p.Tracks) = false := Xe (by rw [Jp]; omega)
    refine ⟨.inr (), by simp only [Jj, Xy, c, Jd5, if_false, Aa], .inr ⟨rfl, fun _ t ht => ?_⟩⟩
    obtain ⟨k, hk⟩ := Am ht
    exact h3 k t (by have := (Ac.1 hk).1; omega) hk)
  bigN 0 ⟨0, rfl, by omega, by omega, fun i t hi => by omega⟩ (Qk (by omega))
 unfold Jcy
 rw [e]; try rw [Jj]; try simp only [Jj]
 rcases h with rfl | ⟨rfl, h⟩
 ·exact ⟨false, rfl, fun h => by cases h⟩
 ·obtain ⟨b, eb⟩ := J1k (flit [p.From]) (by rw [Je1]; exact Nat.le_add_left 1 999999)
  obtain ⟨k, ek⟩ := J2m hB
  cases hc : ile (flen p.Tracks) 8 with
  | false =>
   refine ⟨false, ?_, fun h => by cases h⟩
   simp only [Jj, hc, jp, Jd5]
  | true =>
   have h8 : p.Tracks.l.length ≤ 8 := by rw [Je9, Jp] at hc; omega
   cases b with
   | false => exact ⟨false, by simp only [Jj, hc, Y4, eb, Ag, Jfy, Jdr, Jd5, jp], fun h => by cases h⟩
   | true => exact ⟨_, by simp only [Jj, hc, Y4, eb, ek, Ag, Jdr]; rfl, fun _ => ⟨h8, h h8⟩⟩
end Go.Proofs.YtemehoioeoohmaaGreat
