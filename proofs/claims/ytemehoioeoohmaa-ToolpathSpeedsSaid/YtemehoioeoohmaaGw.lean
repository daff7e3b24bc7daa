/- Toolpath: the plan of Improve, and the first pair that lowers the cost, in plain Lean. Conditions: none. -/
import Derived.Test.YtemehoioeoohmaaGv
namespace Go.Proofs.Ytemehoioeoohmaa
open Go Go.Vv Go.Proofs
set_option linter.unusedSimpArgs false
set_option linter.unusedVariables false
set_option linter.unusedSectionVars false
def c00 : Ja := ⟨0, 0⟩
def fstC (t : Jc) : Ja := (t.Cells.l[0]?).getD c00
def lstC (t : Jc) : Ja := (t.Cells.l[t.Cells.l.length - 1]?).getD c00
def fstB (t : Jc) : Ja := if t.Closed = true then fstC t else lstC t
def lstB (t : Jc) : Ja := if t.Closed = true then lstC t else fstC t
theorem Jam {t : Jc} (h : VT t) : Xh t = some ⟨fstC t, lstC t⟩ ∧ InR (fstC t) ∧ InR (lstC t) := by
  obtain ⟨a, b, e, ha, hb, ia, ib⟩ := Jp7 h
  have h1 : fstC t = a := by unfold fstC; rw [ha]; rfl
  have h2 : lstC t = b := by unfold lstC; rw [hb]; rfl
  rw [h1, h2]; exact ⟨e, ia, ib⟩
theorem Jcs {t : Jc} (h : VT t) : Z4 t = some ⟨fstB t, lstB t⟩ ∧ InR (fstB t) ∧ InR (lstB t) := by
  obtain ⟨e, ia, ib⟩ := Jam h
  unfold Z4 fstB lstB
  rw [e]
  by_cases hc : t.Closed = true
  · simp only [hc, Zi, if_true, if_false, Bool.false_eq_true]; exact ⟨trivial, ia, ib⟩
  · have hf : t.Closed = false := by simpa using hc
    simp only [hf, je, if_true, if_false, Bool.false_eq_true]; exact ⟨trivial, ib, ia⟩
def t00 : Jc := ⟨0, false, .nil⟩
def at_ (l : List Jc) (m : Nat) : Jc := (l[m]?).getD t00
theorem Jm7 {l : List Jc} {m : Nat} (h : m < l.length) : at_ l m = l[m] := by unfold at_; rw [List.getElem?_eq_getElem h]; rfl
def sumA (l : List Jc) : Nat → Nat
  | 0 => 0
  | i + 1 => sumA l i + dist (lstC (at_ l i)) (fstC (at_ l (i + 1)))
def sumB (l : List Jc) : Nat → Nat
  | 0 => 0
  | i + 1 => sumB l i + dist (lstB (at_ l (i + 1))) (fstB (at_ l i))
theorem Jne {l : List Jc} (hv : ∀ t ∈ l, VT t) : ∀ i, i < l.length → sumA l i ≤ i * 16384
  | 0, _ => by simp [sumA]
  | i + 1, h => by
    have h1 := Jne hv i (by omega)
    have a1 := (Jam (hv _ (List.getElem_mem (by omega : i < l.length)))).2.2
    have a2 := (Jam (hv _ (List.getElem_mem h))).2.1
    rw [← Jm7] at a1 a2
    have := Jbs a1 a2
    simp only [sumA]; omega
theorem Jnn {l : List Jc} (hv : ∀ t ∈ l, VT t) : ∀ i, i < l.length → sumB l i ≤ i * 16384
  | 0, _ => by simp [sumB]
  | i + 1, h => by
    have h1 := Jnn hv i (by omega)
    have a1 := (Jcs (hv _ (List.getElem_mem (by omega : i < l.length)))).2.1
    have a2 := (Jcs (hv _ (List.getElem_mem h))).2.2
    rw [← Jm7] at a1 a2
    have := Jbs a2 a1
    simp only [sumB]; omega
/-- A row that is nil at first. -/
def mkF {α : Type} : List α → FS α
  | [] => .nil
  | a :: l => .lst (a :: l)
theorem Jib {α : Type} (l : List α) : (mkF l).l = l := by cases l <;> rfl
theorem mkF_snoc {α : Type} (l : List α) (a : α) : Zy (mkF l) a = mkF (l ++ [a]) := by cases l <;> rfl
theorem fnl_mkF {α : Type} (l : List α) : fnl (mkF l) = decide (l.length = 0) := by cases l <;> simp [mkF, fnl]
def eA (t : Jc) : A2 Ja := ⟨fstC t, lstC t⟩
def eB (t : Jc) : A2 Ja := ⟨fstB t, lstB t⟩
/-- The plan of the first n tracks. -/
def jj (p : Ja) (l : List Jc) (n : Nat) : K9 :=
  ⟨p, mkF ((l.take n).map eA), mkF ((l.take n).map eB), mkF ((List.range n).map fun i => ((sumA l i : Nat) : Int)), mkF ((List.range n).map fun i => ((sumB l i : Nat) : Int))⟩
theorem Jnj {α β : Type} (f : α → β) {l : List α} {n : Nat} (h : n < l.length) : (l.take (n + 1)).map f = (l.take n).map f ++ [f l[n]] := by
  rw [List.take_succ_eq_append_getElem h, List.map_append]; rfl
theorem Jli {β : Type} (f : Nat → β) (n : Nat) : (List.range (n + 1)).map f = (List.range n).map f ++ [f n] := by
  rw [List.range_succ, List.map_append]; rfl
theorem Jr8 {p : Ja} {l : List Jc} {n : Nat} (h : n < l.length) : jj p l (n + 1) = ⟨p, Zy (jj p l n).a (eA l[n]), Zy (jj p l n).b (eB l[n]), Zy (jj p l n).ahead (sumA l n : Nat), Zy (jj p l n).aback (sumB l n : Nat)⟩ := by
  simp only [jj, mkF_snoc, Jnj _ h, Jli]
theorem Jru (p : Ja) (l : List Jc) (n : Nat) (hn : n ≤ l.length) : band (beqB (fnl (jj p l n).a) (fnl (jj p l n).b)) (band (beqB (fnl (jj p l n).a) (fnl (jj p l n).ahead)) (beqB (fnl (jj p l n).a) (fnl (jj p l n).aback))) = true := by
  simp only [Jbc, Jq0, jj, fnl_mkF, List.length_map, List.length_take, List.length_range, Nat.min_eq_left hn, and_self]
theorem Jrf {α : Type} {x : FS α} {a : α} {n : Nat} (hn : n = x.l.length) : fget (Zy x a) (n : Int) = some a := Ja3 (by rw [Jag, List.getElem?_append_right (by omega)]; simp [hn])
theorem Jk7 {α : Type} {x : FS α} {a b : α} {n : Nat} (h : x.l[n]? = some b) : fget (Zy x a) (n : Int) = some b := Ja3 (by rw [Jag, List.getElem?_append_left (List.getElem?_eq_some_iff.1 h).1]; exact h)
theorem Jhc {α : Type} {bytes : Nat} {x : FS α} (h : x.l.length ≤ 1000000) (hb : bytes ≤ 64) : fits bytes (flen x + 1) = true := j5 (by rw [Ka]; omega) (by rw [Ka]; omega) (by omega)
theorem Jth (p : Ja) (x : FS Jc) (hv : ∀ t ∈ x.l, VT t) (hL : x.l.length ≤ 100000) : Z8 p x = some (jj p x.l x.l.length, x) := by
  obtain ⟨r, e, rfl⟩ := Zp (body := Zn x ⟨⟨0, 0⟩, .nil, .nil, .nil, .nil⟩ (flen x)) (fun s => ∃ n : Nat, s.2 = n ∧ n ≤ x.l.length ∧ s.1 = jj p x.l n) (fun s => (x.l.length - s.2).toNat) (fun r => r = jj p x.l x.l.length)
    (by
      rintro ⟨v, i⟩ ⟨n, h1, h2, h3⟩
      simp only at h1 h2 h3 ⊢
      subst h1 h3
      have ag := Jru p x.l n h2
      by_cases hn : n < x.l.length
      · left
        have c : ilt (n : Int) (flen x) = true := jf (by rw [Ka]; omega)
        have g := Xz hn
        have hvt := hv _ (List.getElem_mem hn)
        have e1 := (Jam hvt).1
        have e2 := (Jcs hvt).1
        have l1 : (jj p x.l n).a.l.length = n := by simp only [jj, Jib, List.length_map, List.length_take]; omega
        have l2 : (jj p x.l n).b.l.length = n := by simp only [jj, Jib, List.length_map, List.length_take]; omega
        have l3 : (jj p x.l n).ahead.l.length = n := by simp only [jj, Jib, List.length_map, List.length_range]
        have l4 : (jj p x.l n).aback.l.length = n := by simp only [jj, Jib, List.length_map, List.length_range]
        have f1 : fits 32 (flen (jj p x.l n).a + 1) = true := Jhc (by omega) (by omega)
        have f2 : fits 32 (flen (jj p x.l n).b + 1) = true := Jhc (by omega) (by omega)
        have f3 : fits 8 (flen (jj p x.l n).ahead + 1) = true := Jhc (by omega) (by omega)
        have f4 : fits 8 (flen (jj p x.l n).aback + 1) = true := Jhc (by omega) (by omega)
        refine ⟨(jj p x.l (n + 1), ((n + 1 : Nat) : Int)), ?_, ⟨n + 1, rfl, hn, rfl⟩, by simp only; omega⟩
        rw [Jr8 hn]
        cases n with
        | zero =>
          have c0 : igt ((0 : Nat) : Int) 0 = false := rfl
          have s0 : iadd .i64 ((0 : Nat) : Int) 1 = ((0 + 1 : Nat) : Int) := rfl
          simp only [Zn, ag, if_true, c, g, e1, f1, e2, f2, c0, if_false, Bool.false_eq_true, f3, f4, s0]
          rfl
        | succ m =>
          have c0 : igt ((m + 1 : Nat) : Int) 0 = true := Jdh (by omega)
          have sm : isub .i64 ((m + 1 : Nat) : Int) 1 = ((m : Nat) : Int) := by rw [jr (by omega) (by omega)]; omega
          have hm : m < x.l.length := by omega
          have hvm := hv _ (List.getElem_mem hm)
          have a1 : fget (jj p x.l (m + 1)).ahead ((m : Nat) : Int) = some ((sumA x.l m : Nat) : Int) := Ja3 (by simp only [jj, Jib]; simp)
          have a2 : fget (jj p x.l (m + 1)).aback ((m : Nat) : Int) = some ((sumB x.l m : Nat) : Int) := Ja3 (by simp only [jj, Jib]; simp)
          have b1 : fget (Zy (jj p x.l (m + 1)).a ⟨fstC x.l[m + 1], lstC x.l[m + 1]⟩) ((m : Nat) : Int) = some (eA x.l[m]) := Jk7 (by simp only [jj, Jib]; simp [List.getElem?_take, hm])
          have b2 : fget (Zy (jj p x.l (m + 1)).a ⟨fstC x.l[m + 1], lstC x.l[m + 1]⟩) ((m + 1 : Nat) : Int) = some ⟨fstC x.l[m + 1], lstC x.l[m + 1]⟩ := Jrf l1.symm
          have b3 : fget (Zy (jj p x.l (m + 1)).b ⟨fstB x.l[m + 1], lstB x.l[m + 1]⟩) ((m : Nat) : Int) = some (eB x.l[m]) := Jk7 (by simp only [jj, Jib]; simp [List.getElem?_take, hm])
          have b4 : fget (Zy (jj p x.l (m + 1)).b ⟨fstB x.l[m + 1], lstB x.l[m + 1]⟩) ((m + 1 : Nat) : Int) = some ⟨fstB x.l[m + 1], lstB x.l[m + 1]⟩ := Jrf l2.symm
          have r1 := (Jam hvm).2
          have r2 := (Jam hvt).2
          have r3 := (Jcs hvm).2
          have r4 := (Jcs hvt).2
          have d1 := Jhl r1.2 r2.1
          have d2 := Jhl r4.2 r3.1
          have q1 := Jne hv m hm
          have q2 := Jnn hv m hm
          have q3 := Jbs r1.2 r2.1
          have q4 := Jbs r4.2 r3.1
          have u1 : iadd .i64 ((sumA x.l m : Nat) : Int) (Ki (lstC x.l[m]) (fstC x.l[m + 1])) = ((sumA x.l (m + 1) : Nat) : Int) := by
            rw [d1, Jan (by omega) (by omega)]
            simp only [sumA, Jm7 hm, Jm7 hn]; omega
          have u2 : iadd .i64 ((sumB x.l m : Nat) : Int) (Ki (lstB x.l[m + 1]) (fstB x.l[m])) = ((sumB x.l (m + 1) : Nat) : Int) := by
            rw [d2, Jan (by omega) (by omega)]
            simp only [sumB, Jm7 hm, Jm7 hn]; omega
          simp only [Zn, ag, if_true, c, g, e1, f1, e2, f2, c0, sm, a1, a2, b1, b2, b3, b4, f3, f4, eA, eB, u1, u2, z8 (i := m + 1) (by omega)]
          rfl
      · right
        have hn' : n = x.l.length := by omega
        subst hn'
        have c : ilt ((x.l.length : Nat) : Int) (flen x) = false := Zs (by rw [Ka]; omega)
        exact ⟨jj p x.l x.l.length, by simp only [Zn, ag, if_true, c, if_false, Bool.false_eq_true], rfl⟩)
    bigN (⟨p, .nil, .nil, .nil, .nil⟩, 0) ⟨0, rfl, by omega, rfl⟩ (Zz (by simp only; omega))
  unfold Z8
  rw [e]
  simp only [Jru p x.l x.l.length (Nat.le_refl _), if_true]
end Go.Proofs.Ytemehoioeoohmaa
