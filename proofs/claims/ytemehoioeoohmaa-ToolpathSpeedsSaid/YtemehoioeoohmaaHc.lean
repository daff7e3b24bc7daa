/- Toolpath: what Layer answers, in plain Lean. Conditions: none. -/
import Derived.Test.YtemehoioeoohmaaHb
namespace Go.Proofs.Ytemehoioeoohmaa
open Go Go.Vv Go.Proofs
set_option linter.unusedSimpArgs false
set_option linter.unusedVariables false
set_option linter.unusedSectionVars false
/-- What Layer takes. -/
structure LayIn (x : FS Jc) (r : Jk) (i : Int) (p : Ja) (s : Jy) : Prop where
  set : Xb s = true
  reg : Jcx r
  idx : 0 ≤ i ∧ i < 256
  noz : InR p
  trk : ∀ t ∈ x.l, VT t
theorem hdr_good (i : Int) (s : Jy) : ∀ o ∈ hdr i s, Nice o.Cells ∧ o.Cells.l.length ≤ 100000000 := by
  intro o ho
  simp only [hdr, List.mem_cons, List.not_mem_nil, or_false] at ho
  rcases ho with rfl | rfl <;> exact ⟨Or.inl rfl, Nat.zero_le _⟩
theorem Jum {r : Jk} (hL : Lim r) {s : Jy} (hf : Xb s = true) {p : Ja} (hp : InR p) (x : FS Jc) (hv : ∀ t ∈ x.l, VT t) (hx : x.l.length ≤ 1000) (hd : FS Jr) {i : Int} (hh : hd.l = hdr i s) (k2 : Ja) :
    ∃ w y q ops v, Ku (Xn x s k2) bigN (⟨⟨hd⟩, r, s, p⟩, 0) = some w ∧ Jal w.list.ops s = some y ∧ w.nozzle = q ∧ LayR r s p x.l ops q ∧ 1 ≤ v ∧ y.l = (hdr i s ++ ops).map (lim v) := by
  obtain ⟨w, ops, e, hr, ho⟩ := Jpb hp hL (Jqg hf) x hv hx hd (by rw [hh]; exact Nat.le_refl _) k2
  have hlen := hr.len hv
  have hgood := hr.good hL hp hv
  rw [hh] at ho
  have hwl : w.list.ops.l.length = 2 + ops.length := by rw [ho, List.length_append]; rfl
  obtain ⟨y, v, ey, hv1, hy⟩ := Slow_ok (x := w.list.ops) hf (by omega) (by omega) (fun o h => by
    rw [ho] at h
    rcases List.mem_append.1 h with h | h
    · exact hdr_good i s o h
    · exact ⟨(hgood o h).nice, (hgood o h).len⟩)
  exact ⟨w, y, _, ops, v, e, ey, rfl, hr, hv1, by rw [hy, ho]⟩
theorem Layer_ok {r : Jk} (hB : Big r) (x : FS Jc) (hx : x.l.length ≤ 1000) (hc : ∀ t ∈ x.l, t.Cells.l.length ≤ 1000000) (i : Int) (p : Ja) (s : Jy) :
    (j7 x r i p s = some (FS.nil, ⟨0, 0⟩, 1) ∧ ¬ LayIn x r i p s) ∨
    ∃ y q ops v, j7 x r i p s = some (y, q, 0) ∧ LayIn x r i p s ∧ LayR r s p x.l ops q ∧ 1 ≤ v ∧ y.l = (hdr i s ++ ops).map (lim v) := by
  obtain ⟨b, eb, hb⟩ := Je2 r hB
  unfold j7
  cases hf : Xb s with
  | false =>
    left
    refine ⟨?_, fun h => by have := h.set; rw [hf] at this; cases this⟩
    simp only [je, Zi, jh, Jgo, if_true]
  | true =>
    simp only [je, Zi, eb, Z3, Option.getD_some, Jdt]
    by_cases hg : bor (bor (bor (bnot b) (ilt i 0)) (ige i 256)) (bnot (Zd p)) = true
    · left
      refine ⟨by rw [if_pos hg], fun h => ?_⟩
      have e1 : b = true := hb.2 h.reg
      have e2 : ilt i 0 = false := Zs (by have := h.idx; omega)
      have e3 : ige i 256 = false := by rw [← Bool.not_eq_true, z9]; have := h.idx; omega
      have e4 : Zd p = true := (Jz8 p).2 h.noz
      rw [e1, e2, e3, e4] at hg
      simp [bor, bnot] at hg
    · rw [if_neg hg]
      rw [Bool.not_eq_true] at hg
      simp only [bor_ff, Jul] at hg
      obtain ⟨⟨⟨hb1, hi0⟩, hi1⟩, hp⟩ := hg
      have hreg := hb.1 hb1
      have hL := Jh7 hreg
      have hp := (Jz8 p).1 hp
      have i0 : 0 ≤ i := by rw [← Bool.not_eq_true, zb] at hi0; omega
      have i1 : i < 256 := by rw [← Bool.not_eq_true, z9] at hi1; omega
      rcases Jqn x (by omega) hc i r p s with ⟨e, hn⟩ | ⟨e, hv⟩
      · left
        exact ⟨by simp only [e], fun h => hn h.trk⟩
      · right
        rw [e]
        simp only [Jhi (b := ⟨⟨FS.nil⟩, r, s, p⟩) (o := ⟨1, 0, i, imul .i64 (iadd .i64 i 1) s.Height, 0, FS.nil⟩) (Nat.zero_le _)]
        by_cases hpos : 0 < i
        · have c : igt i 0 = true := Jdh hpos
          obtain ⟨w, y, q, ops, v, el, es, hq, hr, hv1, hy⟩ := Jum hL hf hp x hv hx (Zy (Zy FS.nil ⟨1, 0, i, imul .i64 (iadd .i64 i 1) s.Height, 0, FS.nil⟩) ⟨6, 0, 0, 0, 255, FS.nil⟩) (i := i) (by simp only [Jag, hdr, if_pos hpos]; rfl) ⟨0, 0⟩
          refine ⟨y, q, ops, v, ?_, ⟨hf, hreg, ⟨i0, i1⟩, hp, hv⟩, hr, hv1, hy⟩
          simp only [c, if_true, Jhi (b := ⟨⟨Zy FS.nil ⟨1, 0, i, imul .i64 (iadd .i64 i 1) s.Height, 0, FS.nil⟩⟩, r, s, p⟩) (o := ⟨6, 0, 0, 0, 255, FS.nil⟩) (by rw [Jag]; exact Nat.le_add_left 1 999999)]
          rw [el]
          simp only [es, hq]
        · have c : igt i 0 = false := Jd2 hpos
          obtain ⟨w, y, q, ops, v, el, es, hq, hr, hv1, hy⟩ := Jum hL hf hp x hv hx (Zy (Zy FS.nil ⟨1, 0, i, imul .i64 (iadd .i64 i 1) s.Height, 0, FS.nil⟩) ⟨6, 0, 0, 0, 0, FS.nil⟩) (i := i) (by simp only [Jag, hdr, if_neg hpos]; rfl) ⟨0, 0⟩
          refine ⟨y, q, ops, v, ?_, ⟨hf, hreg, ⟨i0, i1⟩, hp, hv⟩, hr, hv1, hy⟩
          simp only [c, if_false, Bool.false_eq_true, Jhi (b := ⟨⟨Zy FS.nil ⟨1, 0, i, imul .i64 (iadd .i64 i 1) s.Height, 0, FS.nil⟩⟩, r, s, p⟩) (o := ⟨6, 0, 0, 0, 0, FS.nil⟩) (by rw [Jag]; exact Nat.le_add_left 1 999999)]
          rw [el]
          simp only [es, hq]
end Go.Proofs.Ytemehoioeoohmaa
