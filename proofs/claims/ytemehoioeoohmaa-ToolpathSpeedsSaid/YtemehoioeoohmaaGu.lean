/- Toolpath: reversed, turned and copied tracks; the nearest variant. Plain Lean. Conditions: none. -/
import Derived.Test.YtemehoioeoohmaaGt
namespace Go.Proofs.Ytemehoioeoohmaa
open Go Go.Vv Go.Proofs
set_option linter.unusedSimpArgs false
set_option linter.unusedVariables false
set_option linter.unusedSectionVars false
theorem Jiv {α : Type} {x : FS α} (h : 0 < x.l.length) : x = .lst x.l := by
  cases x with
  | nil => simp [FS.l] at h
  | lst l => rfl
theorem Jmc {bytes : Nat} {n : Int} (h0 : 0 ≤ n) (h1 : n ≤ 1000000) (hb : bytes ≤ 64) : mkOK bytes 0 n = true := by
  unfold mkOK
  have h2 : n * (bytes : Int) ≤ 1000000 * 64 := Int.mul_le_mul h1 (by omega) (by omega) (by omega)
  simp only [room]
  simp
  omega
theorem Jn1 {α : Type} (z : α) : frep z 0 = .lst [] := rfl
theorem Jp6 (x : FS Ja) (hL : x.l.length ≤ 1000000) : Yt x = some (.lst x.l.reverse) := by
  obtain ⟨r, e, hr⟩ := Zp (body := Xf x) (fun s => ∃ n : Nat, s.2 = (n : Int) - 1 ∧ n ≤ x.l.length ∧ s.1.l = (x.l.drop n).reverse) (fun s => (s.2 + 1).toNat) (fun r => r.l = x.l.reverse)
    (by
      rintro ⟨acc, i⟩ ⟨n, h1, h2, h3⟩
      simp only at h1 h2 h3 ⊢
      subst h1
      cases n with
      | zero =>
        right
        refine ⟨acc, ?_, by rw [h3]; rfl⟩
        have c : ige ((0 : Nat) - 1 : Int) 0 = false := by rw [← Bool.not_eq_true, z9]; omega
        simp only [Xf, c, if_false, Bool.false_eq_true]
      | succ n =>
        left
        have c : ige (((n + 1 : Nat) : Int) - 1) 0 = true := by rw [z9]; omega
        have e0 : ((n + 1 : Nat) : Int) - 1 = (n : Int) := by omega
        have g := Xz (x := x) (i := n) (by omega)
        have hlen : acc.l.length ≤ 1000000 := by rw [h3, List.length_reverse, List.length_drop]; omega
        have f : fits 16 (flen acc + 1) = true := j5 (by rw [Ka]; omega) (by rw [Ka]; omega) (by omega)
        refine ⟨(Zy acc x.l[n], (n : Int) - 1), ?_, ⟨n, rfl, by omega, ?_⟩, by simp only; omega⟩
        · rw [e0] at c ⊢
          simp only [Xf, c, if_true, g, f]
          rw [jr (by omega) (by omega)]
        · simp only [Jag, h3]
          rw [List.drop_eq_getElem_cons (by omega : n < x.l.length), List.reverse_cons])
    bigN (.lst [], (x.l.length : Int) - 1) ⟨x.l.length, rfl, Nat.le_refl _, by simp [FS.l]⟩ (Zz (by simp only; omega))
  unfold Yt
  rw [if_pos (Jmc (by rw [Ka]; omega) (by rw [Ka]; omega) (by omega)), Jn1, jr (by rw [Ka]; omega) (by rw [Ka]; omega), Ka, e]
  simp [flst, hr]
theorem Jks {α : Type} {l : List α} {a b : Nat} (h1 : a ≤ b) (h2 : b ≤ l.length) : fsl (.lst l) (a : Int) (b : Int) = some (.lst ((l.drop a).take (b - a))) := by
  show (if 0 ≤ (a : Int) ∧ (a : Int) ≤ b ∧ (b : Int) ≤ l.length then some (FS.lst ((l.drop (a : Int).toNat).take ((b : Int) - a).toNat)) else none) = _
  rw [if_pos ⟨by omega, by omega, by omega⟩]
  have : ((b : Int) - a).toNat = b - a := by omega
  rw [this]; rfl
theorem Jr5 (x : FS Ja) (hp : 0 < x.l.length) (hL : x.l.length ≤ 1000000) (k : Nat) (hk : k ≤ x.l.length) : Xq x k = some (.lst (x.l.drop k ++ x.l.take k)) := by
  obtain ⟨l, rfl⟩ : ∃ l, x = .lst l := ⟨_, Jiv hp⟩
  simp only [FS.l_lst] at *
  have s1 : fsl (.lst l) (k : Int) (flen (.lst l)) = some (.lst (l.drop k)) := by
    show fsl (.lst l) (k : Int) ((l.length : Nat) : Int) = _
    rw [Jks hk (Nat.le_refl _), List.take_of_length_le (by rw [List.length_drop]; omega)]
  have s2 : fsl (.lst l) 0 (k : Int) = some (.lst (l.take k)) := by
    show fsl (.lst l) ((0 : Nat) : Int) (k : Int) = _
    rw [Jks (by omega) hk]; rfl
  have d : (l.drop k).length ≤ 1000000 := by rw [List.length_drop]; omega
  have tk : (l.take k).length ≤ 1000000 := by rw [List.length_take]; omega
  unfold Xq
  rw [s1, s2]
  dsimp only
  rw [Jn1, if_pos (Jmc (by rw [Ka]; omega) (by rw [Ka, FS.l_lst]; omega) (by omega)),
    if_pos (j5 (by simp only [Ka, FS.l_lst]; omega) (by simp only [Ka, FS.l_lst, List.length_nil]; omega) (by omega)),
    if_pos (j5 (by simp only [Ka]; omega) (by simp only [Ka, Jmk, FS.l_lst, List.nil_append]; omega) (by omega))]
  rfl
theorem Jmi {t : Jc} (h : VT t) : jv t = some ⟨t.Role, t.Closed, .lst t.Cells.l.reverse⟩ := by
  have hl := h.len
  unfold jv
  rw [h.valid]
  simp only [Zi, if_false, Bool.false_eq_true, Jp6 t.Cells (by omega)]
theorem Jw9 {t : Jc} (h : VT t) (hc : t.Closed = true) (k : Nat) (hk : k < t.Cells.l.length) : Jaq t k = some ⟨t.Role, true, .lst (t.Cells.l.drop k ++ t.Cells.l.take k)⟩ := by
  have hl := h.len
  have e0 : ieq (flen t.Cells) 0 = false := Jff (by rw [Ka]; omega)
  have m1 : irem (k : Int) (flen t.Cells) = k := by unfold irem; rw [Ka]; exact Int.tmod_eq_of_lt (by omega) (by omega)
  have m2 : irem (iadd .i64 (k : Int) (flen t.Cells)) (flen t.Cells) = k := by
    rw [Jan (by rw [Ka]; omega) (by rw [Ka]; omega)]
    unfold irem
    rw [Ka, Int.tmod_eq_emod_of_nonneg (by omega), Int.add_emod_right]
    exact Int.emod_eq_of_lt (by omega) (by omega)
  unfold Jaq
  rw [h.valid]
  simp only [Zi, if_false, Bool.false_eq_true, hc, if_true, e0, m1, m2, Jr5 t.Cells (by omega) (by omega) k (by omega)]
theorem Jy3 {t : Jc} (h : VT t) : z6 t = some ⟨t.Role, t.Closed, .lst t.Cells.l⟩ := by
  have hl := h.len
  unfold z6
  rw [if_pos (j5 (by simp only [Ka, Je0]; omega) (by simp only [Ka, Je0, List.length_nil]; omega) (by omega))]
  rfl
/-- A track in new memory. -/
def cp (t : Jc) : Jc := ⟨t.Role, t.Closed, .lst t.Cells.l⟩
theorem VT.cp {t : Jc} (h : VT t) : VT (cp t) := h.copy rfl
theorem cp_of {t : Jc} (h : VT t) : cp t = t := by
  have := Jiv (x := t.Cells) (by have := h.len; omega)
  cases t; simp only [cp] at *; rw [← this]
/-- All are valid: they come back. -/
theorem Jqx (x : FS Jc) (hv : ∀ t ∈ x.l, VT t) (hL : x.l.length ≤ 1000000) : ∃ y, zx x = some y ∧ y.l = x.l := by
  obtain ⟨r, e, hr⟩ := Zp (body := j6 x (flen x)) (fun s => ∃ n : Nat, s.2 = n ∧ n ≤ x.l.length ∧ s.1.l = x.l.take n) (fun s => (x.l.length - s.2).toNat) (fun r => r.l = x.l)
    (by
      rintro ⟨acc, i⟩ ⟨n, h1, h2, h3⟩
      simp only at h1 h2 h3 ⊢
      subst h1
      by_cases hn : n < x.l.length
      · left
        have c : ilt (n : Int) (flen x) = true := jf (by rw [Ka]; omega)
        have g := Xz hn
        have hvt := hv _ (List.getElem_mem hn)
        have f : fits 40 (flen acc + 1) = true := j5 (by rw [Ka]; omega) (by rw [Ka, h3, List.length_take]; omega) (by omega)
        refine ⟨(Zy acc (cp x.l[n]), ((n + 1 : Nat) : Int)), ?_, ⟨n + 1, rfl, hn, ?_⟩, by simp only; omega⟩
        · simp only [j6, c, if_true, g, hvt.valid, Jy3 hvt, f, z8 (i := n) (by omega)]; rfl
        · simp only [Jag, h3, cp_of hvt]; rw [List.take_succ_eq_append_getElem hn]
      · right
        have hn' : n = x.l.length := by omega
        subst hn'
        have c : ilt ((x.l.length : Nat) : Int) (flen x) = false := Zs (by rw [Ka]; omega)
        exact ⟨acc, by simp only [j6, c, if_false, Bool.false_eq_true], by rw [h3, List.take_length]⟩)
    bigN (.nil, 0) ⟨0, rfl, by omega, rfl⟩ (Zz (by simp only; omega))
  unfold zx
  exact ⟨r, by rw [e], hr⟩
theorem Jp7 {t : Jc} (h : VT t) : ∃ a b, Xh t = some ⟨a, b⟩ ∧ t.Cells.l[0]? = some a ∧ t.Cells.l[t.Cells.l.length - 1]? = some b ∧ InR a ∧ InR b := by
  have hl := h.len
  have g1 : fget t.Cells 0 = some (t.Cells.l[0]'(by omega)) := Xz (i := 0) (by omega)
  have g2 : fget t.Cells (isub .i64 (flen t.Cells) 1) = some (t.Cells.l[t.Cells.l.length - 1]'(by omega)) := by
    rw [jr (by rw [Ka]; omega) (by rw [Ka]; omega), Ka, show (t.Cells.l.length : Int) - 1 = ((t.Cells.l.length - 1 : Nat) : Int) by omega]
    exact Xz (by omega)
  refine ⟨_, _, ?_, List.getElem?_eq_getElem (by omega), List.getElem?_eq_getElem (by omega), h.inr _ (List.getElem_mem _), h.inr _ (List.getElem_mem _)⟩
  unfold Xh
  rw [g1, g2]
/-- The first of the nearest. -/
structure Best (p : Ja) (l : List Ja) (k : Nat) (d : Int) : Prop where
  here : ∃ c, l[k]? = some c ∧ d = Ki p c
  le : ∀ (i : Nat) (c : Ja), l[i]? = some c → d ≤ Ki p c
  lt : ∀ (i : Nat) (c : Ja), i < k → l[i]? = some c → d < Ki p c
theorem Jol (p : Ja) (x : FS Ja) (h0 : 0 < x.l.length) (hL : x.l.length ≤ 1000000) : ∃ (k : Nat) (d : Int), Ku (Y9 p x (flen x)) bigN (0, Ki p x.l[0], 0) = some (((k : Nat) : Int), d) ∧ Best p x.l k d := by
  obtain ⟨r, e, k, d, rfl, hr⟩ := Zp (body := Y9 p x (flen x)) (fun s => ∃ n k : Nat, s.2.2 = n ∧ n ≤ x.l.length ∧ s.1 = k ∧ (∃ c, x.l[k]? = some c ∧ s.2.1 = Ki p c) ∧ (∀ (i : Nat) c, i < n → x.l[i]? = some c → s.2.1 ≤ Ki p c) ∧ (∀ (i : Nat) c, i < k → x.l[i]? = some c → s.2.1 < Ki p c) ∧ (k < n ∨ k = 0))
    (fun s => (x.l.length - s.2.2).toNat) (fun r => ∃ (k : Nat) (d : Int), r = ((k : Int), d) ∧ Best p x.l k d)
    (by
      rintro ⟨kk, d, i⟩ ⟨n, k, h1, h2, h3, h4, h5, h6, h7⟩
      simp only at h1 h2 h3 h4 h5 h6 ⊢
      subst h1 h3
      by_cases hn : n < x.l.length
      · left
        have c : ilt (n : Int) (flen x) = true := jf (by rw [Ka]; omega)
        have g := Xz hn
        by_cases hlt : Ki p x.l[n] < d
        · refine ⟨((n : Int), Ki p x.l[n], ((n + 1 : Nat) : Int)), by simp only [Y9, c, if_true, g, jf hlt, z8 (i := n) (by omega)], ⟨n + 1, n, rfl, hn, rfl, ⟨_, List.getElem?_eq_getElem hn, rfl⟩, fun j c hj hc => ?_, fun j c hj hc => ?_, .inl (by omega)⟩, by simp only; omega⟩
          · by_cases hjn : j = n
            · subst hjn; rw [List.getElem?_eq_getElem hn] at hc; cases hc; exact Int.le_refl _
            · have := h5 j c (by omega) hc; simp only; omega
          · have := h5 j c hj hc; simp only; omega
        · refine ⟨((k : Int), d, ((n + 1 : Nat) : Int)), by simp only [Y9, c, if_true, g, Zs hlt, if_false, Bool.false_eq_true, z8 (i := n) (by omega)], ⟨n + 1, k, rfl, hn, rfl, h4, fun j c hj hc => ?_, h6, by omega⟩, by simp only; omega⟩
          by_cases hjn : j = n
          · subst hjn; rw [List.getElem?_eq_getElem hn] at hc; cases hc; simp only; omega
          · exact h5 j c (by omega) hc
      · right
        have c : ilt (n : Int) (flen x) = false := Zs (by rw [Ka]; omega)
        exact ⟨((k : Int), d), by simp only [Y9, c, if_false, Bool.false_eq_true], k, d, rfl, h4, fun j c hc => h5 j c (by have := (List.getElem?_eq_some_iff.1 hc).1; omega) hc, h6⟩)
    bigN (0, Ki p x.l[0], 0) ⟨0, 0, rfl, by omega, rfl, ⟨_, List.getElem?_eq_getElem h0, rfl⟩, fun i c hi => by omega, fun i c hi => by omega, .inr rfl⟩ (Zz (by simp only; omega))
  exact ⟨k, d, e, hr⟩
/-- The first cells of the variants. -/
def Jb1 (t : Jc) : List Ja := if t.Closed = true then t.Cells.l else match t.Cells.l[0]?, t.Cells.l[t.Cells.l.length - 1]? with
  | some a, some b => [a, b]
  | _, _ => []
theorem best_ok {t : Jc} (h : VT t) (p : Ja) : ∃ (k : Nat) (d : Int), Jaj p t = some ((k : Int), d) ∧ Best p (Jb1 t) k d ∧ k < (Jb1 t).length := by
  have hl := h.len
  have fin : ∀ {l : List Ja} {k : Nat} {d : Int}, Best p l k d → k < l.length := fun hb => by
    obtain ⟨c, hc, _⟩ := hb.here; exact (List.getElem?_eq_some_iff.1 hc).1
  by_cases hc : t.Closed = true
  · obtain ⟨k, d, e, hb⟩ := Jol p t.Cells (by omega) (by omega)
    have g1 : fget t.Cells 0 = some (t.Cells.l[0]'(by omega)) := Xz (i := 0) (by omega)
    have hf : Jb1 t = t.Cells.l := by unfold Jb1; rw [if_pos hc]
    refine ⟨k, d, ?_, by rw [hf]; exact hb, by rw [hf]; exact fin hb⟩
    unfold Jaj
    rw [if_pos hc, g1]
    simp only [e]
  · obtain ⟨a, b, e1, ha, hb, -, -⟩ := Jp7 h
    have hf : Jb1 t = [a, b] := by unfold Jb1; rw [if_neg hc, ha, hb]
    obtain ⟨k, d, e, hbb⟩ := Jol p (flit [a, b]) (by simp [Je0]) (by simp [Je0])
    refine ⟨k, d, ?_, by rw [hf]; exact hbb, by rw [hf]; exact fin hbb⟩
    have g1 : fget (flit [a, b]) 0 = some a := rfl
    unfold Jaj
    rw [if_neg hc, e1]
    simp only [g1]
    simp only [Je0, List.getElem_cons_zero] at e
    simp only [e]
/-- A variant of a track. -/
def vr (t : Jc) (k : Nat) : Jc :=
  if t.Closed = true then ⟨t.Role, true, .lst (t.Cells.l.drop k ++ t.Cells.l.take k)⟩ else if k = 1 then ⟨t.Role, t.Closed, .lst t.Cells.l.reverse⟩ else t
theorem Jr7 {t : Jc} (h : VT t) {k : Nat} (hk : k < (Jb1 t).length) : jc t k = some (vr t k) := by
  unfold jc vr
  by_cases hc : t.Closed = true
  · have hk' : k < t.Cells.l.length := by unfold Jb1 at hk; rwa [if_pos hc] at hk
    simp only [hc, if_true, Jw9 h hc k hk']
  · simp only [hc, if_false, Bool.false_eq_true]
    by_cases h1 : k = 1
    · subst h1
      have c : ieq ((1 : Nat) : Int) 1 = true := rfl
      have hf : t.Closed = false := by simpa using hc
      simp only [c, if_true, Jmi h, hf]
    · have c : ieq (k : Int) 1 = false := Jff (by omega)
      simp only [c, if_false, Bool.false_eq_true, h1]
theorem vr_ok {t : Jc} (h : VT t) {k : Nat} (hk : k < (Jb1 t).length) : VT (vr t k) ∧ (vr t k).Role = t.Role ∧ (vr t k).Closed = t.Closed ∧ (vr t k).Cells.l.Perm t.Cells.l := by
  unfold vr
  by_cases hc : t.Closed = true
  · have hk' : k < t.Cells.l.length := by unfold Jb1 at hk; rwa [if_pos hc] at hk
    rw [if_pos hc]
    refine ⟨?_, rfl, hc.symm, ?_⟩
    · have := h.rot hc hk' (x := .lst (t.Cells.l.drop k ++ t.Cells.l.take k)) rfl
      rwa [hc] at this
    · exact List.perm_append_comm.trans (by rw [List.take_append_drop])
  · rw [if_neg hc]
    by_cases h1 : k = 1
    · rw [if_pos h1]
      exact ⟨h.rev rfl, rfl, rfl, List.reverse_perm _⟩
    · rw [if_neg h1]
      exact ⟨h, rfl, rfl, .refl _⟩
end Go.Proofs.Ytemehoioeoohmaa
