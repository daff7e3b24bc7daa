/- Toolpath: valid tracks, their reversal and rotation, in plain Lean. Conditions: none. -/
import Derived.Test.YtemehoioeoohmaaGh
namespace Go.Proofs.Ytemehoioeoohmaa
open Go Go.Vv Go.Proofs
set_option linter.unusedSimpArgs false
set_option linter.unusedVariables false
set_option linter.unusedSectionVars false
theorem Jqw {x : Int} (h0 : -8191 ≤ x) (h1 : x ≤ 8191) : 0 ≤ x * x ∧ x * x ≤ 67092481 := by
  have h2 : x.natAbs ≤ 8191 := by omega
  have h3 : x * x = ((x.natAbs * x.natAbs : Nat) : Int) := by rw [Int.natCast_mul]; exact Int.natAbs_mul_self.symm
  have h4 : x.natAbs * x.natAbs ≤ 8191 * 8191 := Nat.mul_le_mul h2 h2
  rw [h3]; omega
def nb (a b : Ja) : Prop := Xu a b = true
theorem nb_iff {a b : Ja} (ha : InR a) (hb : InR b) : nb a b ↔ (a.X - b.X) * (a.X - b.X) + (a.Y - b.Y) * (a.Y - b.Y) = 1 := by
  obtain ⟨a1, a2, a3, a4⟩ := ha
  obtain ⟨b1, b2, b3, b4⟩ := hb
  have s1 := Jqw (x := a.X - b.X) (by omega) (by omega)
  have s2 := Jqw (x := a.Y - b.Y) (by omega) (by omega)
  unfold nb Xu
  rw [jr (a := a.X) (b := b.X) (by omega) (by omega), jr (a := a.Y) (b := b.Y) (by omega) (by omega), Jx3 (a := a.X - b.X) (b := a.X - b.X) (by omega) (by omega), Jx3 (a := a.Y - b.Y) (b := a.Y - b.Y) (by omega) (by omega),
    Jan (by omega) (by omega), Jh3]
theorem Jvs {a b : Ja} (ha : InR a) (hb : InR b) (h : nb a b) : nb b a := by
  rw [nb_iff ha hb] at h
  rw [nb_iff hb ha, show b.X - a.X = -(a.X - b.X) by omega, show b.Y - a.Y = -(a.Y - b.Y) by omega, Int.neg_mul_neg, Int.neg_mul_neg]
  exact h
theorem Jm8 (c : Ja) : Ye c = true ↔ InR c := by
  unfold InR; simp only [Ye, Jbc, z9, zb]; exact ⟨fun h => ⟨h.1.1.1, h.1.1.2, h.1.2, h.2⟩, fun h => ⟨⟨⟨h.1, h.2.1⟩, h.2.2.1⟩, h.2.2.2⟩⟩
def Chn (l : List Ja) : Prop := ∀ (i : Nat) (a b : Ja), l[i]? = some a → l[i + 1]? = some b → nb a b
structure VT (t : Jc) : Prop where
  role : 1 ≤ t.Role ∧ t.Role ≤ 7
  len : 1 ≤ t.Cells.l.length ∧ t.Cells.l.length ≤ 65536
  inr : ∀ c ∈ t.Cells.l, InR c
  chn : Chn t.Cells.l
  cls : t.Closed = true → t.Cells.l.length ≠ 1 → ∀ a b, t.Cells.l[t.Cells.l.length - 1]? = some a → t.Cells.l[0]? = some b → nb a b
/-- What the loop of Valid asks at an index. -/
def GoodC (l : List Ja) (i : Nat) : Prop := ∀ c, l[i]? = some c → InR c ∧ ∀ p, 0 < i → l[i - 1]? = some p → nb p c
theorem Jn3 {l : List Ja} : (∀ i, i < l.length → GoodC l i) ↔ (∀ c ∈ l, InR c) ∧ Chn l := by
  refine ⟨fun h => ⟨fun c hc => ?_, fun i a b ha hb => ?_⟩, fun ⟨h1, h2⟩ i hi c hc => ⟨h1 c (List.mem_of_getElem? hc), fun p h0 hp => ?_⟩⟩
  · obtain ⟨i, hi, e⟩ := List.getElem_of_mem hc
    exact (h i hi c (by rw [List.getElem?_eq_getElem hi, e])).1
  · exact (h (i + 1) (List.getElem?_eq_some_iff.1 hb).1 b hb).2 a (by omega) (by simpa using ha)
  · exact h2 (i - 1) p c hp (by rw [show i - 1 + 1 = i by omega]; exact hc)
theorem Jgj (t : Jc) (hL : t.Cells.l.length ≤ 1000000) : ∃ b, Y4 t = some b ∧ (b = true ↔ VT t) := by
  unfold Y4
  by_cases hc : bor (bor (bor (ilt t.Role 1) (igt t.Role 7)) (ilt (flen t.Cells) 1)) (igt (flen t.Cells) 65536) = true
  · refine ⟨false, by rw [if_pos hc], by simp, fun h => ?_⟩
    exfalso
    rw [z3, z3, z3, zb, Jek, zb, Jek, Ka] at hc
    have h1 := h.role; have h2 := h.len
    omega
  · rw [if_neg hc]
    rw [z3, z3, z3, zb, Jek, zb, Jek, Ka] at hc
    obtain ⟨x, e, hr⟩ := Jf9 (Zq t (flen t.Cells) t.Cells (flen t.Cells)) t.Cells.l.length (by omega) (fun i => GoodC t.Cells.l i) (fun _ => .inl false) (.inr ())
      (fun i hi hg => by
        have g1 := Xz hi
        have c1 : ilt (i : Int) (flen t.Cells) = true := jf (by rw [Ka]; omega)
        by_cases h0 : 0 < i
        · have g2 := Jfg h0 hi (by omega)
          have c2 : igt (i : Int) 0 = true := Jdh (by omega)
          by_cases hgr : Ye t.Cells.l[i] = true
          · refine jm (bnot (Xu (t.Cells.l[i - 1]'(by omega)) t.Cells.l[i])) ?_ ?_
            · rw [Jao]
              refine ⟨fun h1 h2 => h1 ((h2 _ (List.getElem?_eq_getElem hi)).2 _ h0 (List.getElem?_eq_getElem (by omega))), fun h1 h2 => h1 fun c hc => ?_⟩
              rw [List.getElem?_eq_getElem hi] at hc
              cases hc
              refine ⟨(Jm8 _).1 hgr, fun p _ hp => ?_⟩
              rw [List.getElem?_eq_getElem (by omega)] at hp
              cases hp
              exact h2
            · simp only [Zq, c1, if_true, g1, hgr, Zi, je, Jbf, c2, g2, Z3, Option.getD_some, Jdt, z8 (i := i) (by omega)]
          · rw [Bool.not_eq_true] at hgr
            refine jm true ⟨fun _ h2 => ?_, fun _ => rfl⟩ ?_
            · have := (Jm8 _).2 (h2 _ (List.getElem?_eq_getElem hi)).1
              rw [hgr] at this; cases this
            · simp only [Zq, c1, if_true, g1, hgr, je, Zi, Jbb, jh, Jgo, c2]
        · have c2 : igt (i : Int) 0 = false := Jd2 (by omega)
          refine jm (bnot (Ye t.Cells.l[i])) ?_ ?_
          · rw [Jao, Jm8]
            refine ⟨fun h1 h2 => h1 (h2 _ (List.getElem?_eq_getElem hi)).1, fun h1 h2 => h1 fun c hc => ?_⟩
            rw [List.getElem?_eq_getElem hi] at hc
            cases hc
            exact ⟨h2, fun p h3 => (h0 h3).elim⟩
          · have hb : ∀ x y, bor x (band false y) = x := fun x y => by cases x <;> rfl
            simp only [Zq, c1, if_true, g1, c2, Jbq, jh, hb, z8 (i := i) (by omega)])
      (fun _ => by
        have c1 : ilt ((t.Cells.l.length : Nat) : Int) (flen t.Cells) = false := Zs (by rw [Ka]; omega)
        simp only [Zq, c1, if_false, Bool.false_eq_true])
    rw [e]
    rcases hr with ⟨rfl, hall⟩ | ⟨i, hi, rfl, hn, -⟩
    · obtain ⟨k1, k2⟩ := Jn3.1 hall
      have hpos : 0 < t.Cells.l.length := by omega
      have gl : fget t.Cells (isub .i64 (flen t.Cells) 1) = some (t.Cells.l[t.Cells.l.length - 1]'(by omega)) := by
        rw [jr (by rw [Ka]; omega) (by rw [Ka]; omega), Ka, show (t.Cells.l.length : Int) - 1 = ((t.Cells.l.length - 1 : Nat) : Int) by omega]
        exact Xz (by omega)
      have gf : fget t.Cells 0 = some (t.Cells.l[0]) := Xz (i := 0) hpos
      simp only [gl, gf]
      have base : ∀ b, (b = true ↔ (t.Closed = true → t.Cells.l.length ≠ 1 → nb (t.Cells.l[t.Cells.l.length - 1]'(by omega)) t.Cells.l[0])) → (b = true ↔ VT t) := fun b hb => by
        rw [hb]
        refine ⟨fun h => ⟨by omega, by omega, k1, k2, fun c1 c2 a b ha hb => ?_⟩, fun h c1 c2 => h.cls c1 c2 _ _ (List.getElem?_eq_getElem (by omega)) (List.getElem?_eq_getElem hpos)⟩
        rw [List.getElem?_eq_getElem (by omega)] at ha hb
        cases ha; cases hb
        exact h c1 c2
      by_cases hcl : t.Closed = true
      · by_cases h1 : t.Cells.l.length = 1
        · have e1 : ieq (flen t.Cells) 1 = true := Jlx (by rw [Ka]; omega)
          refine ⟨true, by simp only [hcl, e1, Zi, Jdt, Zi, jh, Jgo], base true ⟨fun _ _ h => (h h1).elim, fun _ => rfl⟩⟩
        · have e1 : ieq (flen t.Cells) 1 = false := Jff (by rw [Ka]; omega)
          refine ⟨Xu (t.Cells.l[t.Cells.l.length - 1]'(by omega)) t.Cells.l[0], by simp only [hcl, e1, Zi, Jdt, je, Z3, Option.getD_some], base _ ⟨fun h _ _ => h, fun h => h hcl h1⟩⟩
      · rw [Bool.not_eq_true] at hcl
        refine ⟨true, by simp only [hcl, je, Jgo, Zi, jh], base true ⟨fun _ h => (by rw [hcl] at h; cases h), fun _ => rfl⟩⟩
    · refine ⟨false, rfl, by simp, fun h => ?_⟩
      exact (hn (Jn3.2 ⟨h.inr, h.chn⟩ i hi)).elim
theorem VT.valid {t : Jc} (h : VT t) : Y4 t = some true := by
  obtain ⟨b, e, hb⟩ := Jgj t (by have := h.len; omega)
  rw [e, hb.2 h]
/-! Reversed, rotated, copied. -/
theorem Chn.reverse {l : List Ja} (hi : ∀ c ∈ l, InR c) (h : Chn l) : Chn l.reverse := by
  intro i a b ha hb
  have h1 := (List.getElem?_eq_some_iff.1 hb).1
  rw [List.length_reverse] at h1
  rw [List.getElem?_reverse (by omega)] at ha hb
  have hb' : l[l.length - 1 - (i + 1)]? = some b := hb
  exact Jvs (hi b (List.mem_of_getElem? hb)) (hi a (List.mem_of_getElem? ha)) (h _ b a hb' (by rw [show l.length - 1 - (i + 1) + 1 = l.length - 1 - i by omega]; exact ha))
theorem VT.rev {t : Jc} (h : VT t) {x : FS Ja} (hx : x.l = t.Cells.l.reverse) : VT ⟨t.Role, t.Closed, x⟩ := by
  refine ⟨h.role, by simp only [hx, List.length_reverse]; exact h.len, fun c hc => h.inr c (by simpa [hx] using hc), by simp only [hx]; exact h.chn.reverse h.inr, fun c1 c2 a b ha hb => ?_⟩
  simp only [hx, List.length_reverse] at c2 ha hb
  have hl := h.len
  rw [List.getElem?_reverse (by omega)] at ha hb
  have ha' : t.Cells.l[0]? = some a := by rw [← ha]; congr 1; omega
  exact Jvs (h.inr b (List.mem_of_getElem? hb)) (h.inr a (List.mem_of_getElem? ha)) (h.cls c1 c2 b a (by rw [← hb]; congr 1) ha')
theorem VT.copy {t : Jc} (h : VT t) {x : FS Ja} (hx : x.l = t.Cells.l) : VT ⟨t.Role, t.Closed, x⟩ :=
  ⟨h.role, by simp only [hx]; exact h.len, by simp only [hx]; exact h.inr, by simp only [hx]; exact h.chn, by simp only [hx]; exact h.cls⟩
theorem VT.rot {t : Jc} (h : VT t) (hc : t.Closed = true) {k : Nat} (hk : k < t.Cells.l.length) {x : FS Ja} (hx : x.l = t.Cells.l.drop k ++ t.Cells.l.take k) : VT ⟨t.Role, t.Closed, x⟩ := by
  have hl := h.len
  have hlen : x.l.length = t.Cells.l.length := by rw [hx, List.length_append, List.length_drop, List.length_take]; omega
  have get : ∀ i, i < t.Cells.l.length → x.l[i]? = t.Cells.l[(i + k) % t.Cells.l.length]? := by
    intro i hi
    rw [hx]
    by_cases h1 : i + k < t.Cells.l.length
    · rw [List.getElem?_append_left (by rw [List.length_drop]; omega), List.getElem?_drop, Nat.mod_eq_of_lt h1, Nat.add_comm k i]
    · rw [List.getElem?_append_right (by rw [List.length_drop]; omega), List.length_drop, List.getElem?_take, if_pos (by omega)]
      congr 1
      rw [Nat.mod_eq_sub_mod (by omega), Nat.mod_eq_of_lt (by omega)]
      omega
  -- neighbors around
  have step : t.Cells.l.length ≠ 1 → ∀ (j : Nat) (a b : Ja), j < t.Cells.l.length → t.Cells.l[j]? = some a → t.Cells.l[(j + 1) % t.Cells.l.length]? = some b → nb a b := by
    intro h1 j a b hj ha hb
    by_cases h2 : j + 1 < t.Cells.l.length
    · rw [Nat.mod_eq_of_lt h2] at hb; exact h.chn j a b ha hb
    · have : j + 1 = t.Cells.l.length := by omega
      rw [this, Nat.mod_self] at hb
      exact h.cls hc h1 a b (by rw [← ha]; congr 1; omega) hb
  refine ⟨h.role, by simp only [hlen]; exact h.len, fun c hcm => h.inr c ?_, fun i a b ha hb => ?_, fun c1 c2 a b ha hb => ?_⟩
  · simp only [hx, List.mem_append] at hcm
    rcases hcm with hcm | hcm
    · exact List.mem_of_mem_drop hcm
    · exact List.mem_of_mem_take hcm
  · have hi := (List.getElem?_eq_some_iff.1 hb).1
    simp only [hlen] at hi
    simp only at ha hb
    rw [get i (by omega)] at ha
    rw [get (i + 1) hi] at hb
    refine step (by omega) _ a b (Nat.mod_lt _ (by omega)) ha ?_
    rw [Nat.mod_add_mod, show i + k + 1 = i + 1 + k by omega]
    exact hb
  · simp only [hlen] at c2 ha hb
    rw [get _ (by omega)] at ha
    rw [get 0 (by omega)] at hb
    refine step c2 _ a b (Nat.mod_lt _ (by omega)) ha ?_
    rw [Nat.mod_add_mod, show t.Cells.l.length - 1 + k + 1 = k + t.Cells.l.length by omega, Nat.add_mod_right]
    rw [Nat.zero_add] at hb
    exact hb
end Go.Proofs.Ytemehoioeoohmaa
