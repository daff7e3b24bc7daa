/- Toolpath: the law of the speeds, in plain Lean. Conditions: none. -/
import Derived.Test.YtemehoioeoohmaaHc
namespace Go.Proofs.Ytemehoioeoohmaa
open Go Go.Vv Go.Proofs
set_option linter.unusedSimpArgs false
set_option linter.unusedVariables false
set_option linter.unusedSectionVars false
theorem J0b (x : FS Ja) (hL : x.l.length ≤ 1000000) : ∃ b, Yw x = some b := by
  obtain ⟨v, e, -⟩ := Zp (body := Yl x) (fun s => ∃ n : Nat, s = n ∧ n ≤ x.l.length) (fun s => (x.l.length - s).toNat) (fun _ => True)
    (by
      rintro s ⟨n, rfl, h1⟩
      by_cases hn : n < x.l.length
      · have c : ilt (n : Int) (flen x) = true := jf (by rw [Ka]; omega)
        have g := Xz hn
        simp only [Yl, c, if_true, g, z8 (i := n) (by omega)]
        split
        · right; exact ⟨_, rfl, trivial⟩
        · left; exact ⟨_, rfl, ⟨n + 1, rfl, hn⟩, by omega⟩
      · right
        have c : ilt (n : Int) (flen x) = false := Zs (by rw [Ka]; omega)
        exact ⟨.inr (), by simp only [Yl, c, if_false, Bool.false_eq_true], trivial⟩)
    bigN 0 ⟨0, rfl, by omega⟩ (Zz (by omega))
  unfold Yw
  rw [e]
  cases v <;> exact ⟨_, rfl⟩
theorem Jva {r : Jk} (hB : Big r) : ∃ v, Yh r = some v := by
  obtain ⟨b, e, hb⟩ := Jhd r hB
  cases b with
  | false => unfold Yh; rw [e]; exact ⟨_, rfl⟩
  | true => exact count_ok r (Jh7 (hb.1 rfl))
/-- The plans that the laws look at. -/
def FewIn (p : Q6) : Prop := p.Tracks.l.length ≤ 8 ∧ ∀ t ∈ p.Tracks.l, t.Cells.l.length ≤ 40
theorem few_ok (p : Q6) (hB : Big p.Region) : ∃ b, jq p = some b ∧ (b = true → FewIn p) := by
  obtain ⟨v, e, h⟩ := Zp (body := Q9 p) (fun s => ∃ n : Nat, s = n ∧ n ≤ p.Tracks.l.length ∧ n ≤ 9 ∧ ∀ (i : Nat) t, i < n → p.Tracks.l[i]? = some t → t.Cells.l.length ≤ 40)
    (fun s => (9 - s).toNat) (fun v => v = .inl false ∨ (v = .inr () ∧ (p.Tracks.l.length ≤ 8 → ∀ t ∈ p.Tracks.l, t.Cells.l.length ≤ 40)))
    (by
      rintro s ⟨n, rfl, h1, h2, h3⟩
      by_cases hn : n < p.Tracks.l.length
      · have c : ilt (n : Int) (flen p.Tracks) = true := jf (by rw [Ka]; omega)
        by_cases hn9 : n < 9
        · have c9 : ilt (n : Int) 9 = true := jf (by omega)
          have g := Xz hn
          by_cases h40 : (p.Tracks.l[n]).Cells.l.length ≤ 40
          · have c40 : igt (flen (p.Tracks.l[n]).Cells) 40 = false := Jd2 (by rw [Ka]; omega)
            obtain ⟨b, eb⟩ := J0b (p.Tracks.l[n]).Cells (by omega)
            cases b with
            | true =>
              left
              refine ⟨((n + 1 : Nat) : Int), by simp only [Q9, c, c9, Jbf, if_true, g, c40, je, Zi, eb, Z3, Option.getD_some, Jdt, if_false, Bool.false_eq_true, z8 (i := n) (by omega)], ⟨n + 1, rfl, hn, by omega, fun i t hi ht => ?_⟩, by omega⟩
              by_cases he : i = n
              · subst he; rw [List.getElem?_eq_getElem hn] at ht; cases ht; exact h40
              · exact h3 i t (by omega) ht
            | false =>
              right
              exact ⟨.inl false, by simp only [Q9, c, c9, Jbf, if_true, g, c40, je, eb, Z3, Option.getD_some, Jdt], .inl rfl⟩
          · right
            have c40 : igt (flen (p.Tracks.l[n]).Cells) 40 = true := Jdh (by rw [Ka]; omega)
            exact ⟨.inl false, by simp only [Q9, c, c9, Jbf, if_true, g, c40, Zi, jh, Jgo], .inl rfl⟩
        · right
          have c9 : ilt (n : Int) 9 = false := Zs (by omega)
          exact ⟨.inr (), by simp only [Q9, c, c9, Jbq, if_false, Bool.false_eq_true], .inr ⟨rfl, fun h => by omega⟩⟩
      · right
        have c : ilt (n : Int) (flen p.Tracks) = false := Zs (by rw [Ka]; omega)
        refine ⟨.inr (), by simp only [Q9, c, Jbb, if_false, Bool.false_eq_true], .inr ⟨rfl, fun _ t ht => ?_⟩⟩
        obtain ⟨k, hk⟩ := List.getElem?_of_mem ht
        exact h3 k t (by have := (List.getElem?_eq_some_iff.1 hk).1; omega) hk)
    bigN 0 ⟨0, rfl, by omega, by omega, fun i t hi => by omega⟩ (Zz (by omega))
  unfold jq
  rw [e]
  rcases h with rfl | ⟨rfl, h⟩
  · exact ⟨false, rfl, fun h => by cases h⟩
  · obtain ⟨b, eb⟩ := J0b (flit [p.From]) (by rw [Je0]; exact Nat.le_add_left 1 999999)
    obtain ⟨k, ek⟩ := Jva hB
    cases hc : ile (flen p.Tracks) 8 with
    | false =>
      refine ⟨false, ?_, fun h => by cases h⟩
      simp only [hc, jh, Jbb]
    | true =>
      have h8 : p.Tracks.l.length ≤ 8 := by rw [Jcr, Ka] at hc; omega
      cases b with
      | false => exact ⟨false, by simp only [hc, Z3, eb, Option.getD_some, Jbq, Jbf, Jbb, jh], fun h => by cases h⟩
      | true => exact ⟨_, by simp only [hc, Z3, eb, ek, Option.getD_some, Jbf]; rfl, fun _ => ⟨h8, h h8⟩⟩
theorem ref35_ok (s : Jy) : ∃ b, Zu s = some b := by
  unfold Zu
  repeat (first | exact ⟨_, rfl⟩ | split)
/-- The operations of a layer after its head. -/
def SpdOp (s : Jy) (o : Jr) : Prop := (o.Kind = 2 ∧ o.Speed = spd s s.Travel) ∨ (o.Kind = 3 ∧ 1 ≤ o.Speed ∧ o.Speed ≤ spd s s.Feed) ∨ o.Kind = 4 ∨ o.Kind = 5
theorem spd_pos (s : Jy) (u : Int) : 1 ≤ spd s u := by unfold spd; rw [Jfr]; omega
theorem lim_spd {s : Jy} {o : Jr} (h : Jis s o) {v : Int} (hv : 1 ≤ v) : SpdOp s (lim v o) := by
  unfold lim
  rcases h.kind with ⟨h, h2⟩ | ⟨h, h2⟩ | h | h
  · rw [if_neg (by rw [h]; decide)]; exact .inl ⟨h, h2⟩
  · rw [if_pos h]
    refine .inr (.inl ⟨h, ?_, ?_⟩)
    · show 1 ≤ imin o.Speed v
      have := spd_pos s s.Feed
      rw [Jqi, h2]; omega
    · show imin o.Speed v ≤ _
      rw [Jqi, h2]; omega
  · rw [if_neg (by rw [h]; decide)]; exact .inr (.inr (.inl h))
  · rw [if_neg (by rw [h]; decide)]; exact .inr (.inr (.inr h))
theorem Jl7 (a : Int) : imax 1 a = imax a 1 := by rw [Jfr, Jfr]; omega
theorem spd_step {s : Jy} (hs : SV s) {y : FS Jr} {n : Nat} (hn : n < y.l.length) (hN : y.l.length ≤ 1000000) (h : SpdOp s y.l[n]) :
    Kk s y (n : Int) = some (.nx ((n + 1 : Nat) : Int)) := by
  have c : ilt (n : Int) (flen y) = true := jf (by rw [Ka]; omega)
  have g := Xz hn
  have p0 : ieq s.Pitch 0 = false := Jff (by have := hs.pitch; omega)
  have q1 : quoO .i64 s.Travel s.Pitch = some (iquo .i64 s.Travel s.Pitch) := by unfold quoO; rw [p0]; rfl
  have q2 : quoO .i64 s.Feed s.Pitch = some (iquo .i64 s.Feed s.Pitch) := by unfold quoO; rw [p0]; rfl
  have E1 : ∀ o : Jr, o.Kind = 2 → ieq o.Kind 1 = false ∧ ieq o.Kind 6 = false ∧ ieq o.Kind 2 = true ∧ ieq o.Kind 3 = false := fun o h => by rw [h]; exact ⟨rfl, rfl, rfl, rfl⟩
  have E2 : ∀ o : Jr, o.Kind = 3 → ieq o.Kind 1 = false ∧ ieq o.Kind 6 = false ∧ ieq o.Kind 2 = false ∧ ieq o.Kind 3 = true := fun o h => by rw [h]; exact ⟨rfl, rfl, rfl, rfl⟩
  have E3 : ∀ o : Jr, (o.Kind = 4 ∨ o.Kind = 5) → ieq o.Kind 1 = false ∧ ieq o.Kind 6 = false ∧ ieq o.Kind 2 = false ∧ ieq o.Kind 3 = false := fun o h => by rcases h with h | h <;> (rw [h]; exact ⟨rfl, rfl, rfl, rfl⟩)
  rcases h with ⟨hk, hsp⟩ | ⟨hk, h1, h2⟩ | hk
  · obtain ⟨k1, k6, k2, k3⟩ := E1 _ hk
    have hne : ine (y.l[n]).Speed (imax 1 (iquo .i64 s.Travel s.Pitch)) = false := by
      rw [← Bool.not_eq_true, Jm4, hsp, Jl7]; exact fun h => h rfl
    simp only [Kk, c, if_true, g, k1, k6, k2, k3, Jdt, je, Jbf, q1, Z3, jh, Option.getD_some, hne, Jbb, Jbq, Jk3, Zi, if_false, Bool.false_eq_true, z8 (i := n) (by omega)]
  · obtain ⟨k1, k6, k2, k3⟩ := E2 _ hk
    have hl : ilt (y.l[n]).Speed 1 = false := Zs (by omega)
    have hg : igt (y.l[n]).Speed (imax 1 (iquo .i64 s.Feed s.Pitch)) = false := Jd2 (by rw [Jl7]; unfold spd at h2; omega)
    simp only [Kk, c, if_true, g, k1, k6, k2, k3, Jdt, je, Jbf, q2, Z3, jh, Option.getD_some, hl, hg, Jbb, Jbq, Jk3, Zi, if_false, Bool.false_eq_true, z8 (i := n) (by omega)]
  · obtain ⟨k1, k6, k2, k3⟩ := E3 _ hk
    simp only [Kk, c, if_true, g, k1, k6, k2, k3, Jdt, je, Jbf, Z3, jh, Option.getD_some, Jbb, Jbq, Jk3, Zi, if_false, Bool.false_eq_true, z8 (i := n) (by omega)]
theorem spd_loop {s : Jy} (hs : SV s) {y : FS Jr} (hN : y.l.length ≤ 1000000) (h2 : 2 ≤ y.l.length) (h : ∀ (n : Nat) o, 2 ≤ n → y.l[n]? = some o → SpdOp s o) :
    Ku (Kk s y) bigN 2 = some (.inr ()) := by
  obtain ⟨v, e, rfl⟩ := Zp (body := Kk s y) (fun i => ∃ n : Nat, i = n ∧ 2 ≤ n ∧ n ≤ y.l.length) (fun i => (y.l.length - i).toNat) (fun v => v = .inr ())
    (by
      rintro i ⟨n, rfl, n2, n1⟩
      by_cases hn : n < y.l.length
      · left
        exact ⟨_, spd_step hs hn hN (h n _ n2 (List.getElem?_eq_getElem hn)), ⟨n + 1, rfl, by omega, hn⟩, by omega⟩
      · right
        have c : ilt (n : Int) (flen y) = false := Zs (by rw [Ka]; omega)
        exact ⟨.inr (), by simp only [Kk, c, if_false, Bool.false_eq_true], rfl⟩)
    bigN 2 ⟨2, rfl, by omega, h2⟩ (Zz (by omega))
  exact e
theorem Jpl (p : Q6) (s : Jy) (hB : Big p.Region) : Zo p s = some true := by
  obtain ⟨b, eb, hb⟩ := few_ok p hB
  obtain ⟨b2, eb2⟩ := ref35_ok s
  unfold Zo
  rw [eb]
  cases b with
  | false => simp only [je, Zi, jh, Jgo, if_true]; rfl
  | true =>
    cases b2 with
    | false => simp only [je, Zi, eb2, Z3, Option.getD_some, Jdt, if_true]; rfl
    | true =>
      obtain ⟨f1, f2⟩ := hb rfl
      simp only [je, Zi, eb2, Z3, Option.getD_some, Jdt, if_false, Bool.false_eq_true]
      rcases Layer_ok hB p.Tracks (by omega) (fun t ht => by have := f2 t ht; omega) p.Index p.From s with ⟨e, -⟩ | ⟨y, q, ops, v, e, hin, hlay, hv, hy⟩
      · rw [e]
        have c : ine 1 0 = true := rfl
        simp only [c, if_true]; rfl
      · rw [e]
        have c0 : ine 0 0 = false := rfl
        have hol := hlay.len hin.trk
        have hgood := hlay.good (Jh7 hin.reg) hin.noz hin.trk
        have hyl : y.l.length = 2 + ops.length := by rw [hy, List.length_map, List.length_append]; rfl
        have g0 : fget y 0 = some ⟨1, 0, p.Index, imul .i64 (iadd .i64 p.Index 1) s.Height, 0, FS.nil⟩ := by
          show fget y ((0 : Nat) : Int) = _
          exact Ja3 (by rw [hy]; rfl)
        have g1 : fget y 1 = some ⟨6, 0, 0, 0, if 0 < p.Index then 255 else 0, FS.nil⟩ := by
          show fget y ((1 : Nat) : Int) = _
          exact Ja3 (by rw [hy]; rfl)
        have c2 : ilt (flen y) 2 = false := Zs (by rw [Ka]; omega)
        have n1 : ine 1 1 = false := rfl
        have n6 : ine 6 6 = false := rfl
        have ns : ∀ a : Int, ine a a = false := fun a => by rw [← Bool.not_eq_true, Jm4]; exact fun h => h rfl
        have fan : beqB (ieq (if 0 < p.Index then 255 else 0) 0) (ieq p.Index 0) = true := by
          have := hin.idx
          by_cases h : 0 < p.Index
          · rw [if_pos h, Jff (by omega : ¬ p.Index = 0)]; rfl
          · rw [if_neg h, Jlx (by omega : p.Index = 0)]; rfl
        have hloop := spd_loop (Jqg hin.set) (y := y) (by omega) (by omega) (fun n o hn ho => by
          rw [hy, List.getElem?_map, Option.map_eq_some_iff] at ho
          obtain ⟨u, hu, rfl⟩ := ho
          rw [List.getElem?_append_right (by show 2 ≤ n; exact hn)] at hu
          exact lim_spd (hgood u (List.mem_of_getElem? hu)) hv)
        simp only [c0, if_false, Bool.false_eq_true, c2, je, Z3, g0, g1, Option.getD_some, Jdt, ns, fan, Jbf, Jk3, Zi, hloop]
        rfl
end Go.Proofs.Ytemehoioeoohmaa
