/- Toolpath: Greedy, in plain Lean. Conditions: none. -/
import Derived.Test.YtemehoioeoohmaaGu
namespace Go.Proofs.Ytemehoioeoohmaa
open Go Go.Vv Go.Proofs
set_option linter.unusedSimpArgs false
set_option linter.unusedVariables false
set_option linter.unusedSectionVars false
theorem Jhl {a b : Ja} (ha : InR a) (hb : InR b) : Ki a b = ((dist a b : Nat) : Int) := by
  unfold InR at ha hb
  unfold Ki dist
  rw [jr (a := a.X) (b := b.X) (by omega) (by omega), jr (a := b.X) (b := a.X) (by omega) (by omega), jr (a := a.Y) (b := b.Y) (by omega) (by omega), jr (a := b.Y) (b := a.Y) (by omega) (by omega), Jfr, Jfr,
    Jan (by omega) (by omega)]
  omega
theorem far_nn {a b : Ja} (ha : InR a) (hb : InR b) : 0 ≤ Ki a b := by rw [Jhl ha hb]; omega
theorem Jtd {t : Jc} (h : VT t) : ∀ c ∈ Jb1 t, InR c := by
  intro c hc
  unfold Jb1 at hc
  split at hc
  · exact h.inr c hc
  · split at hc
    · rename_i a b ha hb
      simp only [List.mem_cons, List.not_mem_nil, or_false] at hc
      rcases hc with rfl | rfl
      · exact h.inr _ (List.mem_of_getElem? ha)
      · exact h.inr _ (List.mem_of_getElem? hb)
    · cases hc
/-- The choice among the first n tracks: the first of the nearest. -/
structure PickN (p : Ja) (l : List Jc) (n at_ k : Nat) (d : Int) : Prop where
  lt : at_ < n
  here : ∃ t, l[at_]? = some t ∧ Best p (Jb1 t) k d ∧ k < (Jb1 t).length
  le : ∀ (i : Nat) (t : Jc), i < n → l[i]? = some t → ∀ c ∈ Jb1 t, d ≤ Ki p c
  sm : ∀ (i : Nat) (t : Jc), i < at_ → l[i]? = some t → ∀ c ∈ Jb1 t, d < Ki p c
theorem Jy8 {p : Ja} (hp : InR p) (x out : FS Jc) (hv : ∀ t ∈ x.l, VT t) (hL : x.l.length ≤ 1000000) (h0 : 0 < x.l.length) :
    ∃ (a k : Nat) (d : Int), Ku (Ys p (flen x)) bigN (x, out, 0, 0, (-1), 0) = some (x, out, (a : Int), (k : Int)) ∧ PickN p x.l x.l.length a k d := by
  obtain ⟨r, e, a, k, d, rfl, hr⟩ := Zp (body := Ys p (flen x))
    (fun s => s.1 = x ∧ s.2.1 = out ∧ ∃ n : Nat, s.2.2.2.2.2 = n ∧ n ≤ x.l.length ∧ ((n = 0 ∧ s.2.2.2.2.1 = -1) ∨ ∃ (a k : Nat), s.2.2.1 = a ∧ s.2.2.2.1 = k ∧ 0 ≤ s.2.2.2.2.1 ∧ PickN p x.l n a k s.2.2.2.2.1))
    (fun s => (x.l.length - s.2.2.2.2.2).toNat) (fun r => ∃ (a k : Nat) (d : Int), r = (x, out, (a : Int), (k : Int)) ∧ PickN p x.l x.l.length a k d)
    (by
      rintro ⟨xx, oo, a0, k0, d, i⟩ ⟨h1, h2, n, h3, h4, h5⟩
      simp only at h1 h2 h3 h4 h5 ⊢
      subst h1 h2 h3
      by_cases hn : n < xx.l.length
      · left
        have c : ilt (n : Int) (flen xx) = true := jf (by rw [Ka]; omega)
        have g := Xz hn
        have hvt := hv _ (List.getElem_mem hn)
        obtain ⟨j, m, eb, hb, hj⟩ := best_ok hvt p
        have hbin := Jtd hvt
        have hm0 : 0 ≤ m := by
          obtain ⟨c, hc, rfl⟩ := hb.here
          exact far_nn hp (hbin c (List.mem_of_getElem? hc))
        have hle : ∀ c ∈ Jb1 xx.l[n], m ≤ Ki p c := fun c hc => by
          obtain ⟨q, hq⟩ := List.getElem?_of_mem hc
          exact hb.le q c hq
        by_cases hnew : bor (ilt d 0) (ilt m d) = true
        · refine ⟨(xx, oo, (n : Int), (j : Int), m, ((n + 1 : Nat) : Int)), by simp only [Ys, c, if_true, g, eb, hnew, z8 (i := n) (by omega)], ⟨rfl, rfl, n + 1, rfl, hn, .inr ⟨n, j, rfl, rfl, hm0, by omega, ⟨_, List.getElem?_eq_getElem hn, hb, hj⟩, fun i t hi ht c hc => ?_, fun i t hi ht c hc => ?_⟩⟩, by simp only; omega⟩
          · rw [z3, zb, zb] at hnew
            by_cases hin : i = n
            · subst hin; rw [List.getElem?_eq_getElem hn] at ht; cases ht; exact hle _ hc
            · rcases h5 with ⟨rfl, _⟩ | ⟨a, k, _, _, hd, hpk⟩
              · omega
              · have := hpk.le i t (by omega) ht c hc
                simp only at *; omega
          · rw [z3, zb, zb] at hnew
            rcases h5 with ⟨rfl, _⟩ | ⟨a, k, _, _, hd, hpk⟩
            · omega
            · have := hpk.le i t hi ht c hc
              simp only at *; omega
        · rw [Bool.not_eq_true] at hnew
          have hnew' : ¬ (d < 0 ∨ m < d) := by rw [← Bool.not_eq_true, z3, zb, zb] at hnew; exact hnew
          rcases h5 with ⟨rfl, hd⟩ | ⟨a, k, rfl, rfl, hd, hpk⟩
          · omega
          · refine ⟨(xx, oo, (a : Int), (k : Int), d, ((n + 1 : Nat) : Int)), by simp only [Ys, c, if_true, g, eb, hnew, if_false, Bool.false_eq_true, z8 (i := n) (by omega)], ⟨rfl, rfl, n + 1, rfl, hn, .inr ⟨a, k, rfl, rfl, hd, by have := hpk.lt; omega, hpk.here, fun i t hi ht c hc => ?_, hpk.sm⟩⟩, by simp only; omega⟩
            by_cases hin : i = n
            · subst hin; rw [List.getElem?_eq_getElem hn] at ht; cases ht
              have := hle _ hc; simp only at *; omega
            · exact hpk.le i t (by omega) ht c hc
      · right
        have hn' : n = xx.l.length := by omega
        subst hn'
        have c : ilt ((xx.l.length : Nat) : Int) (flen xx) = false := Zs (by rw [Ka]; omega)
        rcases h5 with ⟨h, _⟩ | ⟨a, k, rfl, rfl, hd, hpk⟩
        · omega
        · exact ⟨(xx, oo, (a : Int), (k : Int)), by simp only [Ys, c, if_false, Bool.false_eq_true], a, k, d, rfl, hpk⟩)
    bigN (x, out, 0, 0, (-1), 0) ⟨rfl, rfl, 0, rfl, by omega, .inl ⟨rfl, rfl⟩⟩ (Zz (by simp only; omega))
  exact ⟨a, k, d, e, hr⟩
/-- What Greedy makes of tracks, from a cell on. -/
inductive Gre : Ja → List Jc → List Jc → Prop where
  | nil (p : Ja) : Gre p [] []
  | cons (p q : Ja) (l r : List Jc) (a k : Nat) (d : Int) (t : Jc) (hp : PickN p l l.length a k d) (ht : l[a]? = some t) (hq : (vr t k).Cells.l[(vr t k).Cells.l.length - 1]? = some q) (hr : Gre q (l.eraseIdx a) r) : Gre p l (vr t k :: r)
theorem Jka {α : Type} (l : List α) (a : Nat) : l.eraseIdx a = l.take a ++ l.drop (a + 1) := by
  rw [List.eraseIdx_eq_take_drop_succ]
theorem Jqq {p : Ja} (hp : InR p) (x : FS Jc) (hv : ∀ t ∈ x.l, VT t) (hL : x.l.length ≤ 1000000) : ∃ out, Ku Zg bigN (p, x, FS.nil) = some out ∧ Gre p x.l out.l := by
  refine Zp (body := Zg) (fun s => InR s.1 ∧ (∀ t ∈ s.2.1.l, VT t) ∧ s.2.2.l.length + s.2.1.l.length ≤ 1000000 ∧ ∀ r, Gre s.1 s.2.1.l r → Gre p x.l (s.2.2.l ++ r)) (fun s => s.2.1.l.length) (fun out => Gre p x.l out.l) ?_ bigN (p, x, FS.nil) ⟨hp, hv, by simp [FS.l]; exact hL, fun r hr => hr⟩ (Zz (by simp only; omega))
  rintro ⟨q, y, out⟩ ⟨h1, h2, h3, h4⟩
  simp only at h1 h2 h3 h4 ⊢
  by_cases h0 : 0 < y.l.length
  · left
    have c : igt (flen y) 0 = true := Jdh (by rw [Ka]; omega)
    obtain ⟨a, k, d, el, hpk⟩ := Jy8 h1 y out h2 (by omega) h0
    obtain ⟨t, ht, hb, hk⟩ := hpk.here
    have ha : a < y.l.length := hpk.lt
    have hvt : VT t := h2 t (List.mem_of_getElem? ht)
    have g := Xz ha
    have hte : y.l[a] = t := by rw [List.getElem?_eq_getElem ha] at ht; exact Option.some.inj ht
    obtain ⟨vt, -, -, -⟩ := vr_ok hvt hk
    obtain ⟨e0, e1, ee, -, hq, -, hqr⟩ := Jp7 vt
    obtain ⟨l, rfl⟩ : ∃ l, y = .lst l := ⟨_, Jiv h0⟩
    have ha2 : a < l.length := ha
    simp only [FS.l_lst] at *
    have s1 : fsl (.lst l) 0 (a : Int) = some (.lst (l.take a)) := by
      show fsl (.lst l) ((0 : Nat) : Int) (a : Int) = _
      rw [Jks (by omega) (by omega)]; rfl
    have s2 : fsl (.lst l) (iadd .i64 (a : Int) 1) (flen (.lst l)) = some (.lst (l.drop (a + 1))) := by
      rw [z8 (i := a) (by omega)]
      show fsl (.lst l) ((a + 1 : Nat) : Int) ((l.length : Nat) : Int) = _
      rw [Jks (by omega) (Nat.le_refl _), List.take_of_length_le (by rw [List.length_drop]; omega)]
    have l1 : (l.take a).length = a := by rw [List.length_take]; omega
    have l2 : (l.drop (a + 1)).length = l.length - (a + 1) := by rw [List.length_drop]
    have f1 : fits 40 (flen (FS.lst (l.take a)) + flen (FS.lst (l.drop (a + 1)))) = true := j5 (by simp only [Ka, FS.l_lst]; omega) (by simp only [Ka, FS.l_lst]; omega) (by omega)
    have f2 : fits 40 (flen out + 1) = true := j5 (by rw [Ka]; omega) (by rw [Ka]; omega) (by omega)
    refine ⟨(e1, fapp (.lst (l.take a)) (.lst (l.drop (a + 1))), Zy out (vr t k)), ?_, ⟨hqr, fun u hu => ?_, ?_, fun r hr => ?_⟩, ?_⟩
    · simp only [Zg, c, if_true, el, g, hte, Jr7 hvt hk, s1, s2, f1, f2, ee]
    · simp only [Jmk, FS.l_lst, List.mem_append] at hu
      rcases hu with hu | hu
      · exact h2 u (List.mem_of_mem_take hu)
      · exact h2 u (List.mem_of_mem_drop hu)
    · simp only [Jmk, Jag, FS.l_lst, List.length_append, List.length_cons, List.length_nil]; omega
    · simp only [Jmk, Jag, FS.l_lst] at hr ⊢
      rw [List.append_assoc]
      refine h4 _ (.cons q e1 l r a k d t hpk ht hq ?_)
      rw [Jka]; exact hr
    · simp only [Jmk, FS.l_lst, List.length_append]; omega
  · right
    have c : igt (flen y) 0 = false := Jd2 (by rw [Ka]; omega)
    have hy : y.l = [] := List.length_eq_zero_iff.1 (by omega)
    refine ⟨out, by simp only [Zg, c, if_false, Bool.false_eq_true], ?_⟩
    have := h4 [] (by rw [hy]; exact .nil _)
    rwa [List.append_nil] at this
theorem Jo6 (c : Ja) : Qv c = true ↔ InR c := by
  unfold InR; simp only [Qv, Jbc, z9, zb]; exact ⟨fun h => ⟨h.1.1.1, h.1.1.2, h.1.2, h.2⟩, fun h => ⟨⟨⟨h.1, h.2.1⟩, h.2.2.1⟩, h.2.2.2⟩⟩
theorem Jz3 {p : Ja} (hp : InR p) (x : FS Jc) (hv : ∀ t ∈ x.l, VT t) (hL : x.l.length ≤ 1000000) : ∃ out, z2 p x = some out ∧ Gre p x.l out.l := by
  obtain ⟨y, ey, hy⟩ := Jqx x hv hL
  obtain ⟨out, eo, ho⟩ := Jqq hp y (by rw [hy]; exact hv) (by rw [hy]; exact hL)
  refine ⟨out, ?_, by rw [hy] at ho; exact ho⟩
  unfold z2
  rw [if_neg (by rw [Jao, Jo6]; exact fun h => h hp), ey]
  simp only [eo]
theorem Gre.len {p : Ja} {l r : List Jc} (h : Gre p l r) : r.length = l.length := by
  induction h with
  | nil => rfl
  | cons p q l r a k d t hp ht hq hr ih =>
    have := (List.getElem?_eq_some_iff.1 ht).1
    rw [List.length_cons, ih, List.length_eraseIdx]; split <;> omega
theorem Gre.valid {p : Ja} {l r : List Jc} (h : Gre p l r) : (∀ t ∈ l, VT t) → ∀ t ∈ r, VT t := by
  induction h with
  | nil => exact fun _ t ht => by cases ht
  | cons p q l r a k d t hp ht hq hr ih =>
    intro hv u hu
    obtain ⟨t', ht', hb, hk⟩ := hp.here
    rw [ht] at ht'
    cases ht'
    rcases List.mem_cons.1 hu with rfl | hu
    · exact (vr_ok (hv t (List.mem_of_getElem? ht)) hk).1
    · exact ih (fun v hv' => hv v (List.mem_of_mem_eraseIdx hv')) u hu
/-- The cells of tracks. -/
def Jc3 (l : List Jc) : List Ja := l.flatMap fun t => t.Cells.l
theorem Jot {l : List Jc} {a : Nat} {t : Jc} (ht : l[a]? = some t) : (Jc3 l).Perm (t.Cells.l ++ Jc3 (l.eraseIdx a)) := by
  have ha := (List.getElem?_eq_some_iff.1 ht).1
  have h1 : l = l.take a ++ t :: l.drop (a + 1) := by
    have : l[a] = t := (List.getElem?_eq_some_iff.1 ht).2
    rw [← this, ← List.drop_eq_getElem_cons ha, List.take_append_drop]
  rw [Jka]
  conv => lhs; rw [h1]
  simp only [Jc3, List.flatMap_append, List.flatMap_cons]
  rw [← List.append_assoc, ← List.append_assoc]
  exact (List.perm_append_comm).append_right _
theorem Gre.cells {p : Ja} {l r : List Jc} (h : Gre p l r) : (∀ t ∈ l, VT t) → (Jc3 r).Perm (Jc3 l) := by
  induction h with
  | nil => exact fun _ => .refl _
  | cons p q l r a k d t hp ht hq hr ih =>
    intro hv
    obtain ⟨t', ht', hb, hk⟩ := hp.here
    rw [ht] at ht'
    cases ht'
    have h1 := (vr_ok (hv t (List.mem_of_getElem? ht)) hk).2.2.2
    have h2 := ih fun v hv' => hv v (List.mem_of_mem_eraseIdx hv')
    refine List.Perm.trans ?_ (Jot ht).symm
    exact h1.append h2
end Go.Proofs.Ytemehoioeoohmaa
