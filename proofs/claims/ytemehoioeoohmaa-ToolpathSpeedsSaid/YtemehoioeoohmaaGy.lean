/- Toolpath: travels, prints and groups of tracks, in plain Lean. Conditions: none. -/
import Derived.Test.YtemehoioeoohmaaGx
namespace Go.Proofs.Ytemehoioeoohmaa
open Go Go.Vv Go.Proofs
set_option linter.unusedSimpArgs false
set_option linter.unusedVariables false
set_option linter.unusedSectionVars false
instance : DecidableEq Ja := fun a b => if h : a.X = b.X ∧ a.Y = b.Y then isTrue (Cell.ext' h.1 h.2) else isFalse fun e => h ⟨by rw [e], by rw [e]⟩
theorem Jdx {α β : Type} (v : α) (f : α → Option β) : Jdo (some v) f = f v := id rfl
/-- What is used of valid settings. -/
structure SV (s : Jy) : Prop where
  pitch : 32 ≤ s.Pitch ∧ s.Pitch ≤ 1024
  height : 4 ≤ s.Height ∧ s.Height ≤ 1024
  feed : 1 ≤ s.Feed ∧ s.Feed ≤ 1048576
  travel : 1 ≤ s.Travel ∧ s.Travel ≤ 1048576
  minfeed : 1 ≤ s.MinFeed ∧ s.MinFeed ≤ s.Feed
  mintime : 0 ≤ s.MinTime ∧ s.MinTime ≤ 1048576
theorem bor_ff {a b : Bool} : bor a b = false ↔ a = false ∧ b = false := by cases a <;> cases b <;> simp [bor]
theorem Jul {a : Bool} : bnot a = false ↔ a = true := by cases a <;> simp [bnot]
theorem Jqg {s : Jy} (h : Xb s = true) : SV s := by
  simp only [Xb, Yj, Yy, Jb, Jbc, Jq0, bor_ff, Jul, z9, Jcr] at h
  obtain ⟨⟨⟨h1, -⟩, ⟨h2, -⟩⟩, -, -, -, -, ⟨⟨⟨h3, h4⟩, h5⟩, h6⟩, -⟩ := h
  exact ⟨h1, h2, h3, h4, h6, h5⟩
def spd (s : Jy) (u : Int) : Int := imax (iquo .i64 u s.Pitch) 1
theorem quo_eq {s : Jy} (h : SV s) {u : Int} (h0 : 0 ≤ u) (h1 : u ≤ 1048576) : iquo .i64 u s.Pitch = u / s.Pitch ∧ 0 ≤ u / s.Pitch ∧ u / s.Pitch ≤ 1048576 := by
  have hp := h.pitch
  have e : u.tdiv s.Pitch = u / s.Pitch := Int.tdiv_eq_ediv_of_nonneg h0
  have n0 : 0 ≤ u / s.Pitch := Int.ediv_nonneg h0 (by omega)
  have n1 : u / s.Pitch ≤ u := Int.ediv_le_self _ h0
  refine ⟨?_, n0, by omega⟩
  unfold iquo
  rw [e, w64 _ (by omega) (by omega)]
theorem Jrm {b : Jd} (h : SV b.s) (u : Int) : Qf b u = some (spd b.s u) := by
  have hp := h.pitch
  have : ieq b.s.Pitch 0 = false := Jff (by omega)
  simp only [Qf, this, if_false, Bool.false_eq_true]; rfl
/-! Ways inside of a region. -/
theorem ch_last {r : Jk} {a : Ja} {Q : List Seen} (ok : QOK r a Q) {j : Nat} {l : List Ja} (h : Ch Q j l) : l.getLast? = some a ∧ ∀ c ∈ l, In r c := by
  induction h with
  | @base s hs =>
    have := ok.first; rw [hs] at this; cases this
    exact ⟨rfl, fun c hc => by simp at hc; subst hc; exact ok.inr _ (List.mem_of_getElem? hs)⟩
  | @step j p s l hs h0 hb hc ih =>
    obtain ⟨s', t, -, rfl⟩ := hc.head
    refine ⟨by rw [List.getLast?_cons_cons]; exact ih.1, fun c hc' => ?_⟩
    rcases List.mem_cons.1 hc' with rfl | hc'
    · exact ok.inr _ (List.mem_of_getElem? hs)
    · exact ih.2 c hc'
theorem way_in {r : Jk} (hL : Lim r) {p q : Ja} : ∃ x o, Jak r p q = some (x, o) ∧ (o = true → x.l.length ≤ 67108865 ∧ (p ≠ q → 2 ≤ x.l.length) ∧ x.l[0]? = some p ∧ x.l[x.l.length - 1]? = some q ∧ ∀ c ∈ x.l, In r c) := by
  obtain ⟨x, o, e, h⟩ := Ju0 hL (a := p) (b := q)
  refine ⟨x, o, e, fun ho => ?_⟩
  rcases h with ⟨ho', _⟩ | ⟨-, hin, m, u, full, hm, hu, hf, hlen, hx⟩
  · rw [ho] at ho'; cases ho'
  · obtain ⟨h1, h2⟩ := ch_last (Jyo hL hin) hf
    obtain ⟨s, t, hs, hst⟩ := hf.head
    rw [hm] at hs; cases hs
    have hne : full ≠ [] := by rw [hst]; simp
    have hpos : 0 < full.length := List.length_pos_iff.2 hne
    refine ⟨by rw [hx, List.length_reverse]; exact hlen, fun hpq => ?_, ?_, ?_, fun c hc => h2 c (by rw [hx] at hc; simpa using hc)⟩
    · rw [hx, List.length_reverse]
      cases t with
      | nil =>
        exfalso
        rw [hst] at h1
        simp at h1
        exact hpq (h1.symm.trans hu)
      | cons c t => rw [hst]; simp
    · rw [hx, List.getElem?_reverse hpos, Nat.sub_zero, ← List.getLast?_eq_getElem?]; exact h1
    · rw [hx, List.length_reverse, List.getElem?_reverse (by omega), show full.length - 1 - (full.length - 1) = 0 by omega, hst]
      simp [hu]
/-- The cells of a travel, without the first, and whether they are inside. -/
def way (r : Jk) (p q : Ja) : List Ja × Bool :=
  match Jak r p q with
  | some (x, true) => (x.l.drop 1, true)
  | _ => (Jha q (dist p q) p, false)
def op2 (s : Jy) (c : List Ja) : Jr := ⟨2, 0, 0, 0, spd s s.Travel, .lst c⟩
def op4 : Jr := ⟨4, 0, 0, 0, 0, .nil⟩
def op5 : Jr := ⟨5, 0, 0, 0, 0, .nil⟩
def op3 (s : Jy) (t : Jc) : Jr := ⟨3, t.Role, 0, 0, spd s s.Feed, .lst t.Cells.l⟩
def Je8 (r : Jk) (s : Jy) (p q : Ja) : List Jr :=
  if p = q then [] else
  if (way r p q).2 = true then [op2 s (way r p q).1] else
  if s.Retract = 0 then [op2 s (way r p q).1] else [op4, op2 s (way r p q).1, op5]
theorem Jhi {b : Jd} (h : b.list.ops.l.length ≤ 1000000) (o : Jr) : Je b o = some ⟨⟨Zy b.list.ops o⟩, b.r, b.s, b.nozzle⟩ := by
  simp only [Je, j5 (bytes := 64) (n := flen b.list.ops + 1) (by rw [Ka]; omega) (by rw [Ka]; omega) (by omega), if_true]
theorem q_cell (a b : Ja) : band (ieq a.X b.X) (band (ieq a.Y b.Y) true) = true ↔ a = b := by
  rw [q_eq]; exact Jnk a b
theorem Jyu {b : Jd} (hL : Lim b.r) (hs : SV b.s) {q : Ja} (hp : InR b.nozzle) (hq : InR q) (hn : b.list.ops.l.length ≤ 900000) :
    ∃ x, Qw b q = some ⟨⟨x⟩, b.r, b.s, b.nozzle⟩ ∧ x.l = b.list.ops.l ++ Je8 b.r b.s b.nozzle q := by
  obtain ⟨⟨ops⟩, r, s, p⟩ := b
  simp only at hL hs hp hn ⊢
  unfold Qw Je8
  by_cases hpq : p = q
  · rw [if_pos ((q_cell p q).2 hpq), if_pos hpq]
    exact ⟨ops, rfl, by rw [List.append_nil]⟩
  · rw [if_neg (fun h => hpq ((q_cell p q).1 h)), if_neg hpq]
    simp only [Jrm (b := ⟨⟨ops⟩, r, s, p⟩) hs, Jdx]
    obtain ⟨x, o, e, hx⟩ := way_in hL (p := p) (q := q)
    rw [e, Jdx]
    cases o with
    | true =>
      obtain ⟨h1, h2, -⟩ := hx rfl
      have h2 := h2 hpq
      obtain ⟨y, ey, hy⟩ := Jnb (x := x) (by omega)
      have hyl : 0 < y.l.length := by rw [hy, List.length_drop]; omega
      have hw : way r p q = (x.l.drop 1, true) := by unfold way; rw [e]
      simp only [Zi, if_false, Bool.false_eq_true, ey, Jdx, Jbb, Jhi (b := ⟨⟨ops⟩, r, s, p⟩) (by simp only; omega), hw, if_true]
      refine ⟨_, rfl, ?_⟩
      rw [Jag, Jiv hyl, hy]; rfl
    | false =>
      have hd : 0 < dist p q := by
        apply Nat.pos_of_ne_zero
        intro h0
        apply hpq
        unfold dist at h0
        exact Cell.ext' (by omega) (by omega)
      have es := Jqe hp hq
      obtain ⟨y, ey, hy⟩ := Jnb (x := .lst (p :: Jha q (dist p q) p)) (by simp [FS.l])
      have hy' : y.l = Jha q (dist p q) p := by rw [hy]; rfl
      have hyl : 0 < y.l.length := by rw [hy', Jh1]; exact hd
      have hw : way r p q = (Jha q (dist p q) p, false) := by unfold way; rw [e]
      simp only [je, if_true, es, Jdx, ey, Jbf, hw, if_false, Bool.false_eq_true]
      by_cases hr : s.Retract = 0
      · have c : ine s.Retract 0 = false := by rw [← Bool.not_eq_true, Jm4]; exact fun h => h hr
        simp only [c, if_false, Bool.false_eq_true, Jhi (b := ⟨⟨ops⟩, r, s, p⟩) (by simp only; omega), Jdx, hr, if_true]
        refine ⟨_, rfl, ?_⟩
        rw [Jag, Jiv hyl, hy']; rfl
      · have c : ine s.Retract 0 = true := by rw [Jm4]; exact hr
        simp only [c, if_true, hr, if_false]
        rw [Jhi (b := ⟨⟨ops⟩, r, s, p⟩) (by simp only; omega), Jdx, Jhi (by simp only [Jag, List.length_append, List.length_cons, List.length_nil]; omega), Jdx, Jhi (by simp only [Jag, List.length_append, List.length_cons, List.length_nil]; omega), Jdx]
        refine ⟨_, rfl, ?_⟩
        simp only [Jag]
        rw [Jiv hyl, hy']
        simp [op4, op5, op2, spd]
theorem Jgr (r : Jk) (s : Jy) (p q : Ja) : (Je8 r s p q).length ≤ 3 := by
  unfold Je8; split
  · simp
  · split
    · simp
    · split <;> simp
theorem print_ok {b : Jd} (hL : Lim b.r) (hs : SV b.s) {t : Jc} (ht : VT t) (hp : InR b.nozzle) (hn : b.list.ops.l.length ≤ 900000) :
    ∃ x, Q7 b t = some ⟨⟨x⟩, b.r, b.s, lstC t⟩ ∧ x.l = b.list.ops.l ++ (Je8 b.r b.s b.nozzle (fstC t) ++ [op3 b.s t]) := by
  have hl := ht.len
  obtain ⟨-, i1, i2⟩ := Jam ht
  have g1 : fget t.Cells 0 = some (fstC t) := by
    show fget t.Cells ((0 : Nat) : Int) = _
    rw [Xz (x := t.Cells) (i := 0) (by omega)]
    unfold fstC; rw [List.getElem?_eq_getElem (by omega)]; rfl
  have g2 : fget t.Cells (isub .i64 (flen t.Cells) 1) = some (lstC t) := by
    rw [jr (by rw [Ka]; omega) (by rw [Ka]; omega), Ka, show (t.Cells.l.length : Int) - 1 = ((t.Cells.l.length - 1 : Nat) : Int) by omega, Xz (by omega)]
    unfold lstC; rw [List.getElem?_eq_getElem (by omega)]; rfl
  obtain ⟨x, ex, hx⟩ := Jyu hL hs hp i1 hn
  have hxl : x.l.length ≤ 900003 := by
    rw [hx, List.length_append]; have := Jgr b.r b.s b.nozzle (fstC t); omega
  have f : fits 16 (flen (flit ([] : List Ja)) + flen t.Cells) = true := j5 (by simp only [Ka, Je0]; omega) (by simp only [Ka, Je0, List.length_nil]; omega) (by omega)
  refine ⟨Zy x (op3 b.s t), ?_, by rw [Jag, hx, List.append_assoc]⟩
  unfold Q7
  rw [g1, Jdx]
  simp only [ex, Jdx, Jrm (b := ⟨⟨x⟩, b.r, b.s, b.nozzle⟩) hs, f, if_true, Jhi (b := ⟨⟨x⟩, b.r, b.s, b.nozzle⟩) (by simp only; omega), g2]
  rfl
def Jde (r : Jk) (s : Jy) : Ja → List Jc → List Jr
  | _, [] => []
  | p, t :: ts => Je8 r s p (fstC t) ++ [op3 s t] ++ Jde r s (lstC t) ts
def endC : Ja → List Jc → Ja
  | p, [] => p
  | _, t :: ts => endC (lstC t) ts
theorem Jin (r : Jk) (s : Jy) : ∀ (ts : List Jc) (p : Ja), (Jde r s p ts).length ≤ 4 * ts.length
  | [], p => by simp [Jde]
  | t :: ts, p => by
    have := Jin r s ts (lstC t)
    have := Jgr r s p (fstC t)
    simp only [Jde, List.length_append, List.length_cons, List.length_nil]; omega
theorem Jnc : ∀ {ts : List Jc} {p : Ja}, InR p → (∀ t ∈ ts, VT t) → InR (endC p ts)
  | [], _, hp, _ => hp
  | t :: ts, p, _, hv => Jnc (ts := ts) (Jam (hv t (List.mem_cons_self ..))).2.2 fun u hu => hv u (List.mem_cons_of_mem _ hu)
theorem group_ok {b : Jd} (hL : Lim b.r) (hs : SV b.s) (x : FS Jc) (hv : ∀ t ∈ x.l, VT t) (hxl : x.l.length ≤ 1000) (hp : InR b.nozzle) (hn : b.list.ops.l.length ≤ 800000) :
    ∃ (g ts : List Jc) (y : FS Jr), Q8 b x = some ⟨⟨y⟩, b.r, b.s, endC b.nozzle ts⟩ ∧ Gre b.nozzle x.l g ∧ Imp b.nozzle 8 g ts ∧ y.l = b.list.ops.l ++ Jde b.r b.s b.nozzle ts := by
  obtain ⟨g, eg, hg⟩ := Jz3 hp x hv (by omega)
  have gv := hg.valid hv
  obtain ⟨z, ez, hz⟩ := Jtt hp g gv (by rw [hg.len]; omega) 8 (by omega)
  obtain ⟨zv, zl, -⟩ := hz.props gv
  have zl2 : z.l.length ≤ 1000 := by rw [zl, hg.len]; exact hxl
  obtain ⟨r, e, hr⟩ := Zp (body := Qy z (flen z)) (fun s => ∃ n : Nat, s.2 = n ∧ n ≤ z.l.length ∧ s.1.r = b.r ∧ s.1.s = b.s ∧ InR s.1.nozzle ∧ s.1.list.ops.l.length ≤ 800000 + 4 * n ∧ s.1.list.ops.l ++ Jde b.r b.s s.1.nozzle (z.l.drop n) = b.list.ops.l ++ Jde b.r b.s b.nozzle z.l ∧ endC s.1.nozzle (z.l.drop n) = endC b.nozzle z.l)
    (fun s => (z.l.length - s.2).toNat) (fun v => v.r = b.r ∧ v.s = b.s ∧ v.nozzle = endC b.nozzle z.l ∧ v.list.ops.l = b.list.ops.l ++ Jde b.r b.s b.nozzle z.l)
    (by
      rintro ⟨v, i⟩ ⟨n, h1, h2, h3, h4, h5, h6, h7, h8⟩
      obtain ⟨⟨ops⟩, r, s, p⟩ := v
      simp only at h1 h2 h3 h4 h5 h6 h7 h8 ⊢
      subst h1 h3 h4
      by_cases hn : n < z.l.length
      · left
        have c : ilt (n : Int) (flen z) = true := jf (by rw [Ka]; omega)
        have gz := Xz hn
        obtain ⟨x, ex, hx⟩ := print_ok (b := ⟨⟨ops⟩, b.r, b.s, p⟩) hL hs (zv _ (List.getElem_mem hn)) h5 (by simp only; omega)
        have hd := List.drop_eq_getElem_cons hn
        simp only at ex hx
        refine ⟨(⟨⟨x⟩, b.r, b.s, lstC z.l[n]⟩, ((n + 1 : Nat) : Int)), by simp only [Qy, c, if_true, gz, ex, z8 (i := n) (by omega)], ⟨n + 1, rfl, hn, rfl, rfl, (Jam (zv _ (List.getElem_mem hn))).2.2, ?_, ?_, ?_⟩, by simp only; omega⟩
        · simp only [hx, List.length_append, List.length_cons, List.length_nil]
          have := Jgr b.r b.s p (fstC z.l[n]); omega
        · simp only
          rw [← h7, hd, hx]
          simp only [Jde, List.append_assoc]
        · simp only
          rw [← h8, hd]; rfl
      · right
        have hn' : n = z.l.length := by omega
        subst hn'
        have c : ilt ((z.l.length : Nat) : Int) (flen z) = false := Zs (by rw [Ka]; omega)
        rw [List.drop_length] at h7 h8
        exact ⟨⟨⟨ops⟩, b.r, b.s, p⟩, by simp only [Qy, c, if_false, Bool.false_eq_true], rfl, rfl, h8, by simpa [Jde] using h7⟩)
    bigN (b, 0) ⟨0, rfl, by omega, rfl, rfl, hp, by simp only; omega, rfl, rfl⟩ (Zz (by simp only; omega))
  refine ⟨g.l, z.l, r.list.ops, ?_, hg, hz, hr.2.2.2⟩
  obtain ⟨⟨ops⟩, rr, ss, pp⟩ := r
  obtain ⟨rfl, rfl, rfl, h4⟩ := hr
  unfold Q8
  rw [eg]
  have e8 : ju b.nozzle g 8 = some z := ez
  simp only [e8]
  rw [show (⟨⟨b.list.ops⟩, b.r, b.s, b.nozzle⟩ : Jd) = b from rfl, e]
end Go.Proofs.Ytemehoioeoohmaa
