/- Toolpath: limited speeds (cool.Slow), in plain Lean. Conditions: none. -/
import Derived.Test.YtemehoioeoohmaaGy
namespace Go.Proofs.Ytemehoioeoohmaa
open Go Go.Vv Go.Proofs
set_option linter.unusedSimpArgs false
set_option linter.unusedVariables false
set_option linter.unusedSectionVars false
/-- No slice, or one with elements. -/
def Nice {α : Type} (x : FS α) : Prop := x = .nil ∨ ∃ a l, x = .lst (a :: l)
theorem Jzl {α : Type} {x : FS α} (h : 0 < x.l.length) : ∃ a l, x = .lst (a :: l) := by
  have := Jiv h
  cases hx : x.l with
  | nil => rw [hx] at h; simp at h
  | cons a l => exact ⟨a, l, by rw [this, hx]⟩
theorem J0d {x : FS Ja} (h : Nice x) (hL : x.l.length ≤ 100000000) : Xe x = some x := by
  unfold Xe
  rcases h with rfl | ⟨a, l, rfl⟩
  · rfl
  · simp only [Jkr, Bool.false_eq_true, if_false]
    rw [if_pos (j5 (by simp only [Ka, Je0]; omega) (by simp only [Ka, Je0, List.length_nil]; omega) (by omega))]
    rfl
theorem Joi {x : FS Jr} (h : ∃ a l, x = .lst (a :: l)) (hL : x.l.length ≤ 1000000) : Qt x = some x := by
  unfold Qt
  obtain ⟨a, l, rfl⟩ := h
  simp only [Jkr, Bool.false_eq_true, if_false]
  rw [if_pos (j5 (by simp only [Ka, Je0]; omega) (by simp only [Ka, Je0, List.length_nil]; omega) (by omega))]
  rfl
theorem set_self {α : Type} {l : List α} {n : Nat} (h : n < l.length) : l.set n l[n] = l := List.set_getElem_self h
theorem Jna {x : FS Jr} (h0 : 0 < x.l.length) (hL : x.l.length ≤ 1000000) (hc : ∀ o ∈ x.l, Nice o.Cells ∧ o.Cells.l.length ≤ 100000000) : ∃ y, Ja5 x = some y ∧ y.l = x.l := by
  have hx := Jzl h0
  obtain ⟨r, e, hr⟩ := Zp (body := jg (flen x)) (fun s => s.1.l = x.l ∧ ∃ n : Nat, s.2 = n ∧ n ≤ x.l.length) (fun s => (x.l.length - s.2).toNat) (fun r => r.l = x.l)
    (by
      rintro ⟨y, i⟩ ⟨h1, n, h2, h3⟩
      simp only at h1 h2 h3 ⊢
      subst h2
      by_cases hn : n < x.l.length
      · left
        have c : ilt (n : Int) (flen x) = true := jf (by rw [Ka]; omega)
        have hy : n < y.l.length := by rw [h1]; exact hn
        have g := Xz hy
        have he : y.l[n] = x.l[n] := by simp only [h1]
        obtain ⟨k1, k2⟩ := hc _ (List.getElem_mem hn)
        refine ⟨(fset y (n : Int) y.l[n], ((n + 1 : Nat) : Int)), ?_, ⟨?_, n + 1, rfl, hn⟩, by simp only; omega⟩
        · simp only [jg, c, if_true, g, he, J0d k1 k2, z8 (i := n) (by omega)]
        · simp only [Jfq, Int.toNat_natCast, set_self, h1]
      · right
        have c : ilt (n : Int) (flen x) = false := Zs (by rw [Ka]; omega)
        exact ⟨y, by simp only [jg, c, if_false, Bool.false_eq_true], h1⟩)
    bigN (x, 0) ⟨rfl, 0, rfl, by omega⟩ (Zz (by simp only; omega))
  unfold Ja5
  rw [Joi hx hL]
  simp only [e]
  exact ⟨r, rfl, hr⟩
def lim (v : Int) (o : Jr) : Jr := if o.Kind = 3 then ⟨o.Kind, o.Role, o.Layer, o.Z, imin o.Speed v, o.Cells⟩ else o
theorem Jlp {x : FS Jr} (h0 : 0 < x.l.length) (hL : x.l.length ≤ 1000000) (v : Int) : ∃ y, zg x v = some y ∧ y.l = x.l.map (lim v) := by
  have hx := Jzl h0
  obtain ⟨r, e, hr⟩ := Zp (body := Ze v (flen x)) (fun s => ∃ n : Nat, s.2 = n ∧ n ≤ x.l.length ∧ s.1.l = (x.l.take n).map (lim v) ++ x.l.drop n) (fun s => (x.l.length - s.2).toNat) (fun r => r.l = x.l.map (lim v))
    (by
      rintro ⟨y, i⟩ ⟨n, h2, h3, h1⟩
      simp only at h1 h2 h3 ⊢
      subst h2
      by_cases hn : n < x.l.length
      · left
        have c : ilt (n : Int) (flen x) = true := jf (by rw [Ka]; omega)
        have l1 : ((x.l.take n).map (lim v)).length = n := by rw [List.length_map, List.length_take]; omega
        have hyl : y.l.length = x.l.length := by rw [h1, List.length_append, l1, List.length_drop]; omega
        have hy : n < y.l.length := by omega
        have g := Xz hy
        have hd := List.drop_eq_getElem_cons hn
        have he : y.l[n] = x.l[n] := by
          have : y.l[n]? = x.l[n]? := by rw [h1, List.getElem?_append_right (by omega), l1, List.getElem?_drop]; simp
          rw [List.getElem?_eq_getElem hy, List.getElem?_eq_getElem hn] at this
          exact Option.some.inj this
        by_cases hk : (x.l[n]).Kind = 3
        · have c2 : ieq (x.l[n]).Kind 3 = true := Jlx hk
          refine ⟨(fset y (n : Int) (lim v x.l[n]), ((n + 1 : Nat) : Int)), ?_, ⟨n + 1, rfl, hn, ?_⟩, by simp only; omega⟩
          · simp only [Ze, c, if_true, g, he, c2, z8 (i := n) (by omega)]
            rw [lim, if_pos hk]
          · simp only [Jfq, Int.toNat_natCast, h1]
            rw [List.set_append_right _ _ (by omega), l1, Nat.sub_self, hd, List.set_cons_zero, List.take_succ_eq_append_getElem hn, List.map_append, List.append_assoc]
            rfl
        · have c2 : ieq (x.l[n]).Kind 3 = false := Jff hk
          refine ⟨(y, ((n + 1 : Nat) : Int)), by simp only [Ze, c, if_true, g, he, c2, if_false, Bool.false_eq_true, z8 (i := n) (by omega)], ⟨n + 1, rfl, hn, ?_⟩, by simp only; omega⟩
          simp only [h1]
          rw [hd, List.take_succ_eq_append_getElem hn, List.map_append, List.append_assoc]
          have : lim v x.l[n] = x.l[n] := by rw [lim, if_neg hk]
          simp only [List.map_cons, List.map_nil, this, List.cons_append, List.nil_append]
      · right
        have hn' : n = x.l.length := by omega
        subst hn'
        have c : ilt ((x.l.length : Nat) : Int) (flen x) = false := Zs (by rw [Ka]; omega)
        exact ⟨y, by simp only [Ze, c, if_false, Bool.false_eq_true], by rw [h1, List.take_length, List.drop_length, List.append_nil]⟩)
    bigN (x, 0) ⟨0, rfl, by omega, by simp⟩ (Zz (by simp only; omega))
  unfold zg
  rw [Joi hx hL]
  simp only [e]
  exact ⟨r, rfl, hr⟩
theorem Jqt (o : Jr) : ∃ n, Jae o = some n := by
  unfold Jae
  by_cases hc : bor (band (ine o.Kind 2) (ine o.Kind 3)) (ile o.Speed 0) = true
  · exact ⟨0, by rw [if_pos hc]⟩
  · rw [if_neg hc]
    have hs : ieq o.Speed 0 = false := Jff (fun h => hc (by rw [z3, Jcr]; right; omega))
    rw [hs]
    simp only [Bool.false_eq_true, if_false]
    split
    · exact ⟨_, rfl⟩
    · exact ⟨_, rfl⟩
theorem Time_ok (x : FS Jr) (hL : x.l.length ≤ 1000000) : ∃ n, Jbu x = some n := by
  obtain ⟨r, e, -⟩ := Zp (body := z5 x (flen x)) (fun s => ∃ n : Nat, s.2 = n ∧ n ≤ x.l.length) (fun s => (x.l.length - s.2).toNat) (fun _ => True)
    (by
      rintro ⟨t, i⟩ ⟨n, h2, h3⟩
      simp only at h2 h3 ⊢
      subst h2
      by_cases hn : n < x.l.length
      · left
        have c : ilt (n : Int) (flen x) = true := jf (by rw [Ka]; omega)
        obtain ⟨d, ed⟩ := Jqt x.l[n]
        exact ⟨(iadd .i64 t d, ((n + 1 : Nat) : Int)), by simp only [z5, c, if_true, Xz hn, ed, z8 (i := n) (by omega)], ⟨n + 1, rfl, hn⟩, by simp only; omega⟩
      · right
        have c : ilt (n : Int) (flen x) = false := Zs (by rw [Ka]; omega)
        exact ⟨t, by simp only [z5, c, if_false, Bool.false_eq_true], trivial⟩)
    bigN (0, 0) ⟨0, rfl, by omega⟩ (Zz (by simp only; omega))
  unfold Jbu
  rw [e]
  exact ⟨r, rfl⟩
theorem Slow1_ok {x : FS Jr} (h0 : 0 < x.l.length) (hL : x.l.length ≤ 1000000) (v : Int) (s : Jy) : ∃ b, Ja2 v x s = some b := by
  obtain ⟨y, ey, hy⟩ := Jlp h0 hL v
  obtain ⟨n, en⟩ := Time_ok y (by rw [hy, List.length_map]; exact hL)
  unfold Ja2
  rw [ey]
  simp only [en]
  exact ⟨_, rfl⟩
theorem half_ok {lo hi : Int} (h0 : 0 ≤ lo) (h1 : lo < hi) (h2 : hi ≤ 2097152) : iquo .i64 (iadd .i64 (iadd .i64 lo hi) 1) 2 = (lo + hi + 1) / 2 ∧ lo < (lo + hi + 1) / 2 ∧ (lo + hi + 1) / 2 ≤ hi := by
  rw [Jan (a := lo) (by omega) (by omega), Jan (by omega) (by omega)]
  refine ⟨?_, by omega, by omega⟩
  unfold iquo
  rw [Int.tdiv_eq_ediv_of_nonneg (by omega), w64 _ (by omega) (by omega)]
theorem Slow_ok {x : FS Jr} {s : Jy} (hv : Xb s = true) (h0 : 0 < x.l.length) (hL : x.l.length ≤ 1000000) (hc : ∀ o ∈ x.l, Nice o.Cells ∧ o.Cells.l.length ≤ 100000000) :
    ∃ (y : FS Jr) (v : Int), Jal x s = some y ∧ 1 ≤ v ∧ y.l = x.l.map (lim v) := by
  have sv := Jqg hv
  obtain ⟨z, ez, hz⟩ := Jna h0 hL hc
  have hz0 : 0 < z.l.length := by rw [hz]; exact h0
  have hzL : z.l.length ≤ 1000000 := by rw [hz]; exact hL
  have q1 := quo_eq sv (u := s.MinFeed) (by have := sv.minfeed; omega) (by have := sv.minfeed; have := sv.feed; omega)
  have q2 := quo_eq sv (u := s.Feed) (by have := sv.feed; omega) (by have := sv.feed; omega)
  obtain ⟨v, e, hv1⟩ := Zp (body := ze z s) (fun w => 1 ≤ w.1 ∧ w.2 ≤ 2097152) (fun w => (w.2 - w.1).toNat) (fun r => 1 ≤ r)
    (by
      rintro ⟨lo, hi⟩ ⟨h1, h2⟩
      simp only at h1 h2 ⊢
      by_cases hlt : lo < hi
      · left
        have c : ilt lo hi = true := jf hlt
        obtain ⟨m1, m2, m3⟩ := half_ok (by omega) hlt h2
        obtain ⟨b, eb⟩ := Slow1_ok hz0 hzL ((lo + hi + 1) / 2) s
        cases b with
        | true => exact ⟨((lo + hi + 1) / 2, hi), by simp only [ze, c, if_true, m1, eb], ⟨by simp only; omega, h2⟩, by simp only; omega⟩
        | false =>
          refine ⟨(lo, (lo + hi + 1) / 2 - 1), ?_, ⟨h1, by simp only; omega⟩, by simp only; omega⟩
          simp only [ze, c, if_true, m1, eb, if_false, Bool.false_eq_true]
          rw [jr (by omega) (by omega)]
      · right
        have c : ilt lo hi = false := Zs hlt
        exact ⟨lo, by simp only [ze, c, if_false, Bool.false_eq_true], h1⟩)
    bigN (imax (iquo .i64 s.MinFeed s.Pitch) 1, imax (iquo .i64 s.Feed s.Pitch) 1) ⟨by simp only [Jfr]; omega, by simp only [Jfr, q2.1]; omega⟩ (Zz (by simp only [Jfr, q1.1, q2.1]; omega))
  obtain ⟨y, ey, hy⟩ := Jlp hz0 hzL v
  refine ⟨y, v, ?_, hv1, by rw [hy, hz]⟩
  have p0 : ieq s.Pitch 0 = false := Jff (by have := sv.pitch; omega)
  unfold Jal
  rw [ez]
  simp only [hv, Zi, p0, if_false, Bool.false_eq_true, e, ey]
end Go.Proofs.Ytemehoioeoohmaa
