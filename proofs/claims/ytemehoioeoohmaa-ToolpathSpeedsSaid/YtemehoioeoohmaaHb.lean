/- Toolpath: the layer, in plain Lean. Conditions: none. -/
import Derived.Test.YtemehoioeoohmaaHa
namespace Go.Proofs.Ytemehoioeoohmaa
open Go Go.Vv Go.Proofs
set_option linter.unusedSimpArgs false
set_option linter.unusedVariables false
set_option linter.unusedSectionVars false
theorem Jqy {lo hi : Int} {l : List Kg} (h : Jh4 lo hi l) : ∀ (i : Nat) (r : Kg), l[i]? = some r → lo + i ≤ r.From
  | 0, r, hr => by
    have := (h 0 (List.getElem?_eq_some_iff.1 hr).1 _ hr).1
    omega
  | i + 1, r, hr => by
    have hi := (List.getElem?_eq_some_iff.1 hr).1
    have hp : l[i]? = some (l[i]'(by omega)) := List.getElem?_eq_getElem (by omega)
    have ih := Jqy h i _ hp
    have a := (h i (by omega) _ hp).2.1
    have b := (h (i + 1) hi _ hr).2.2.2 _ (by omega) hp
    omega
theorem Jra {r : Jk} (h : Jcx r) : ∀ (i : Nat) (w : X9), r.Rows.l[i]? = some w → -4096 + (i : Int) ≤ w.Y
  | 0, w, hw => by
    have := (h 0 (List.getElem?_eq_some_iff.1 hw).1 _ hw).1
    omega
  | i + 1, w, hw => by
    have hi := (List.getElem?_eq_some_iff.1 hw).1
    have hp : r.Rows.l[i]? = some (r.Rows.l[i]'(by omega)) := List.getElem?_eq_getElem (by omega)
    have ih := Jra h i _ hp
    have b := (h (i + 1) hi _ hw).2.2.2.2 _ (by omega) hp
    omega
theorem Jh7 {r : Jk} (h : Jcx r) : Lim r := by
  refine ⟨?_, fun w hw => ?_⟩
  · by_cases h0 : r.Rows.l.length = 0
    · omega
    · have e := List.getElem?_eq_getElem (l := r.Rows.l) (i := r.Rows.l.length - 1) (by omega)
      have a := Jra h _ _ e
      have b := (h _ (by omega) _ e).2.1
      omega
  · have hv := Jlu h hw
    by_cases h0 : w.Runs.l.length = 0
    · omega
    · have e := List.getElem?_eq_getElem (l := w.Runs.l) (i := w.Runs.l.length - 1) (by omega)
      have a := Jqy hv _ _ e
      have b := hv _ (by omega) _ e
      have b1 := b.2.1
      have b2 := b.2.2.1
      omega
theorem Jyh {x : FS Jc} (hL : x.l.length ≤ 1000000) (k1 : Jy) (k2 : Ja) (k3 : Jd) {n : Nat} (hn : n < x.l.length) :
    ∃ m : Nat, Ku (X1 x k1 k2 k3 (n : Int)) bigN (iadd .i64 (n : Int) 1) = some (m : Int) ∧ n < m ∧ m ≤ x.l.length ∧ (∀ (i : Nat) t, n ≤ i → i < m → x.l[i]? = some t → t.Role = (x.l[n]).Role) ∧ (∀ t, x.l[m]? = some t → t.Role ≠ (x.l[n]).Role) := by
  have gn := Xz hn
  obtain ⟨r, e, m, rfl, h⟩ := Zp (body := X1 x k1 k2 k3 (n : Int)) (fun s => ∃ m : Nat, s = m ∧ n < m ∧ m ≤ x.l.length ∧ (∀ (i : Nat) t, n ≤ i → i < m → x.l[i]? = some t → t.Role = (x.l[n]).Role))
    (fun s => (x.l.length - s).toNat) (fun r => ∃ m : Nat, r = (m : Int) ∧ n < m ∧ m ≤ x.l.length ∧ (∀ (i : Nat) t, n ≤ i → i < m → x.l[i]? = some t → t.Role = (x.l[n]).Role) ∧ (∀ t, x.l[m]? = some t → t.Role ≠ (x.l[n]).Role))
    (by
      rintro s ⟨m, rfl, h1, h2, h3⟩
      by_cases hm : m < x.l.length
      · have c : ilt (m : Int) (flen x) = true := jf (by rw [Ka]; omega)
        have g := Xz hm
        by_cases hr : (x.l[m]).Role = (x.l[n]).Role
        · left
          refine ⟨((m + 1 : Nat) : Int), by simp only [X1, c, Z3, g, gn, Option.getD_some, Jlx hr, Jbf, if_true, z8 (i := m) (by omega)], ⟨m + 1, rfl, by omega, hm, fun i t a b ht => ?_⟩, by omega⟩
          by_cases hi : i = m
          · subst hi; rw [List.getElem?_eq_getElem hm] at ht; cases ht; exact hr
          · exact h3 i t a (by omega) ht
        · right
          refine ⟨(m : Int), by simp only [X1, c, Z3, g, gn, Option.getD_some, Jff hr, Jbq, if_false, Bool.false_eq_true], m, rfl, h1, h2, h3, fun t ht => ?_⟩
          rw [List.getElem?_eq_getElem hm] at ht; cases ht; exact hr
      · right
        have c : ilt (m : Int) (flen x) = false := Zs (by rw [Ka]; omega)
        refine ⟨(m : Int), by simp only [X1, c, jh, Jbb, if_false, Bool.false_eq_true], m, rfl, h1, h2, h3, fun t ht => ?_⟩
        exact absurd (List.getElem?_eq_some_iff.1 ht).1 hm)
    bigN (iadd .i64 (n : Int) 1) ⟨n + 1, z8 (i := n) (by omega), by omega, hn, fun i t a b ht => by
      have : i = n := by omega
      subst this; rw [List.getElem?_eq_getElem hn] at ht; cases ht; rfl⟩ (Zz (by rw [z8 (i := n) (by omega)]; omega))
  exact ⟨m, e, h⟩
theorem Jpb {p : Ja} (hp : InR p) {r : Jk} (hL : Lim r) {s : Jy} (hs : SV s) (x : FS Jc) (hv : ∀ t ∈ x.l, VT t) (hxl : x.l.length ≤ 1000) (hd : FS Jr) (hh : hd.l.length ≤ 2) (k2 : Ja) :
    ∃ v ops, Ku (Xn x s k2) bigN (⟨⟨hd⟩, r, s, p⟩, 0) = some v ∧ LayR r s p x.l ops v.nozzle ∧ v.list.ops.l = hd.l ++ ops := by
  obtain ⟨v, e, ops, h⟩ := Zp (body := Xn x s k2) (fun w => ∃ n : Nat, w.2 = n ∧ n ≤ x.l.length ∧ w.1.r = r ∧ w.1.s = s ∧ InR w.1.nozzle ∧ w.1.list.ops.l.length ≤ 2 + 4 * n ∧ ∃ done, w.1.list.ops.l = hd.l ++ done ∧ ∀ ops q, LayR r s w.1.nozzle (x.l.drop n) ops q → LayR r s p x.l (done ++ ops) q)
    (fun w => (x.l.length - w.2).toNat) (fun v => ∃ ops, LayR r s p x.l ops v.nozzle ∧ v.list.ops.l = hd.l ++ ops)
    (by
      rintro ⟨⟨⟨o⟩, rr, ss, nz⟩, i⟩ ⟨n, h1, h2, h3, h4, h5, h6, done, h7, h8⟩
      simp only at h1 h2 h3 h4 h5 h6 h7 h8 ⊢
      subst h1 h3 h4
      by_cases hn : n < x.l.length
      · left
        have c : ilt (n : Int) (flen x) = true := jf (by rw [Ka]; omega)
        obtain ⟨m, em, m1, m2, m3, m4⟩ := Jyh (x := x) (by omega) ss k2 (⟨⟨o⟩, rr, ss, nz⟩ : Jd) hn
        have sl : fsl x (n : Int) (m : Int) = some (.lst ((x.l.drop n).take (m - n))) :=
          (congrArg (fun y => fsl y (n : Int) (m : Int)) (Jiv (x := x) (by omega))).trans (Jks (by omega) m2)
        have hseg : (x.l.drop n).take (m - n) = x.l[n] :: (x.l.drop (n + 1)).take (m - n - 1) := by
          rw [List.drop_eq_getElem_cons hn, List.take_cons (by omega)]
        have hsplit : x.l.drop n = (x.l.drop n).take (m - n) ++ x.l.drop m := by
          have := List.take_append_drop (m - n) (x.l.drop n)
          rw [List.drop_drop, show n + (m - n) = m by omega] at this
          exact this.symm
        have hvs : ∀ t ∈ (x.l.drop n).take (m - n), VT t := fun t ht => hv t (List.mem_of_mem_drop (List.mem_of_mem_take ht))
        have hsl : ((x.l.drop n).take (m - n)).length = m - n := by rw [List.length_take, List.length_drop]; omega
        obtain ⟨g, ts, y, eg, hg, hi, hy⟩ := group_ok (b := ⟨⟨o⟩, rr, ss, nz⟩) hL hs (.lst ((x.l.drop n).take (m - n))) hvs (by show ((x.l.drop n).take (m - n)).length ≤ 1000; omega) h5 (by simp only; omega)
        simp only at eg hg hi hy
        have hg : Gre nz ((x.l.drop n).take (m - n)) g := hg
        have hgv := hg.valid hvs
        obtain ⟨hiv, hil, -⟩ := hi.props hgv
        have hgl := hg.len
        have hol := Jin rr ss ts nz
        refine ⟨(⟨⟨y⟩, rr, ss, endC nz ts⟩, (m : Int)), by simp only [Xn, c, if_true, em, sl, eg], ⟨m, rfl, m2, rfl, rfl, Jnc h5 hiv, ?_, done ++ Jde rr ss nz ts, ?_, fun ops q hq => ?_⟩, by simp only; omega⟩
        · simp only [hy, List.length_append]; omega
        · simp only [hy, h7, List.append_assoc]
        · rw [List.append_assoc]
          apply h8
          rw [hsplit, hseg]
          rw [hseg] at hg
          refine LayR.group (fun u hu => ?_) (fun t ht => ?_) hg hi hq
          · obtain ⟨k, hk⟩ := List.getElem?_of_mem hu
            rw [List.getElem?_take] at hk
            split at hk
            · rw [List.getElem?_drop] at hk
              exact m3 _ u (by omega) (by omega) hk
            · cases hk
          · rw [List.getElem?_drop] at ht
            exact m4 t ht
      · right
        have hn' : n = x.l.length := by omega
        subst hn'
        have c : ilt ((x.l.length : Nat) : Int) (flen x) = false := Zs (by rw [Ka]; omega)
        rw [List.drop_length] at h8
        exact ⟨⟨⟨o⟩, rr, ss, nz⟩, by simp only [Xn, c, if_false, Bool.false_eq_true], done, by have := h8 [] nz (LayR.done nz); rwa [List.append_nil] at this, h7⟩)
    bigN (⟨⟨hd⟩, r, s, p⟩, 0) ⟨0, rfl, by omega, rfl, rfl, hp, by simp only; omega, [], by simp, fun ops q h => h⟩ (Zz (by simp only; omega))
  exact ⟨v, ops, e, h⟩
theorem Jz8 (c : Ja) : Zd c = true ↔ InR c := by
  simp only [Zd, Jbc, z9, zb, InR]; omega
theorem Jqn (x : FS Jc) (hL : x.l.length ≤ 1000000) (hc : ∀ t ∈ x.l, t.Cells.l.length ≤ 1000000) (k1 : Int) (k2 : Jk) (k3 : Ja) (k4 : Jy) :
    (Ku (X2 x k1 k2 k3 k4 x (flen x)) bigN ((⟨0, 0⟩ : Ja), 0) = some (.inl (⟨0, 0⟩, FS.nil, 1)) ∧ ¬ ∀ t ∈ x.l, VT t) ∨ (Ku (X2 x k1 k2 k3 k4 x (flen x)) bigN ((⟨0, 0⟩ : Ja), 0) = some (.inr ⟨0, 0⟩) ∧ ∀ t ∈ x.l, VT t) := by
  obtain ⟨v, e, h⟩ := Zp (body := X2 x k1 k2 k3 k4 x (flen x)) (fun w => w.1 = ⟨0, 0⟩ ∧ ∃ n : Nat, w.2 = n ∧ n ≤ x.l.length ∧ ∀ (i : Nat) t, i < n → x.l[i]? = some t → VT t)
    (fun w => (x.l.length - w.2).toNat) (fun v => (v = .inl (⟨0, 0⟩, FS.nil, 1) ∧ ¬ ∀ t ∈ x.l, VT t) ∨ (v = .inr ⟨0, 0⟩ ∧ ∀ t ∈ x.l, VT t))
    (by
      rintro ⟨cc, i⟩ ⟨h0, n, h1, h2, h3⟩
      simp only at h0 h1 h2 h3 ⊢
      subst h0 h1
      by_cases hn : n < x.l.length
      · have c : ilt (n : Int) (flen x) = true := jf (by rw [Ka]; omega)
        have g := Xz hn
        obtain ⟨b, eb, hb⟩ := Jgj x.l[n] (hc _ (List.getElem_mem hn))
        cases b with
        | true =>
          left
          refine ⟨(⟨0, 0⟩, ((n + 1 : Nat) : Int)), by simp only [X2, c, if_true, g, eb, Zi, if_false, Bool.false_eq_true, z8 (i := n) (by omega)], ⟨rfl, n + 1, rfl, hn, fun i t hi ht => ?_⟩, by simp only; omega⟩
          by_cases he : i = n
          · subst he; rw [List.getElem?_eq_getElem hn] at ht; cases ht; exact hb.1 rfl
          · exact h3 i t (by omega) ht
        | false =>
          right
          refine ⟨.inl (⟨0, 0⟩, FS.nil, 1), by simp only [X2, c, if_true, g, eb, je], .inl ⟨rfl, fun ha => ?_⟩⟩
          have := hb.2 (ha _ (List.getElem_mem hn))
          cases this
      · right
        have c : ilt (n : Int) (flen x) = false := Zs (by rw [Ka]; omega)
        refine ⟨.inr ⟨0, 0⟩, by simp only [X2, c, if_false, Bool.false_eq_true], .inr ⟨rfl, fun t ht => ?_⟩⟩
        obtain ⟨k, hk⟩ := List.getElem?_of_mem ht
        exact h3 k t (by have := (List.getElem?_eq_some_iff.1 hk).1; omega) hk)
    bigN ((⟨0, 0⟩ : Ja), 0) ⟨rfl, 0, rfl, by omega, fun i t hi => by omega⟩ (Zz (by simp only; omega))
  rcases h with ⟨rfl, h⟩ | ⟨rfl, h⟩
  · exact .inl ⟨e, h⟩
  · exact .inr ⟨e, h⟩
def hdr (i : Int) (s : Jy) : List Jr := [⟨1, 0, i, imul .i64 (iadd .i64 i 1) s.Height, 0, FS.nil⟩, ⟨6, 0, 0, 0, if 0 < i then 255 else 0, FS.nil⟩]
end Go.Proofs.Ytemehoioeoohmaa
