/- emit: corners, cells on the grid, volumes, amounts, few operations: what the program computes, in plain Lean. Conditions: none. -/
import Derived.Test.YtchiiiahgmfofaaTe
import Derived.Test.YtchiiiahgmfofaaTf
import Derived.Test.YtchiiiahgmfofaaPy
namespace Go.Proofs.Ytchiiiahgmfofaa
open Go Go.Vv Go.Proofs
set_option linter.unusedSimpArgs false
set_option linter.unusedVariables false
set_option linter.unusedSectionVars false
theorem isucc {i : Nat} (h : i ≤ 1000000000) : iadd .i64 (i : Int) 1 = ((i + 1 : Nat) : Int) := by rw [iadd_eq (by omega) (by omega)]; omega
theorem fget_at {α : Type} {x : FS α} {i : Nat} (h : i < x.l.length) : fget x (i : Int) = some x.l[i] := fget_nat (List.getElem?_eq_getElem h)
theorem iquo_eq {a b : Int} (h0 : 0 ≤ a) (h1 : a ≤ 9223372036854775807) (hb : 0 < b) : iquo .i64 a b = a / b := by
  have h2 : 0 ≤ a / b := Int.ediv_nonneg h0 (by omega)
  have h3 : a / b ≤ a := Int.ediv_le_self b h0
  unfold iquo
  rw [Int.tdiv_eq_ediv_of_nonneg h0]
  exact w64 _ (by omega) (by omega)
/-- Does the way turn at b? -/
def turnB (a b c : api_Cell) : Bool := bnot (band (ieq (u_emit_direction a b).X (u_emit_direction b c).X) (band (ieq (u_emit_direction a b).Y (u_emit_direction b c).Y) true))
/-- The indices of the corners. -/
def corn : List api_Cell → api_Cell → Nat → List Nat
  | [], _, _ => []
  | [_], _, i => [i]
  | c :: d :: r, a, i => if turnB a c d = true then i :: corn (d :: r) c (i + 1) else corn (d :: r) c (i + 1)
theorem corn_lt : ∀ (l : List api_Cell) (a : api_Cell) (i k : Nat), k ∈ corn l a i → i ≤ k ∧ k < i + l.length
  | [], a, i, k, h => by cases h
  | [c], a, i, k, h => by
    simp only [corn, List.mem_singleton] at h
    simp only [List.length_singleton]; omega
  | c :: d :: r, a, i, k, h => by
    have ih := corn_lt (d :: r) c (i + 1) k
    simp only [corn] at h
    simp only [List.length_cons] at ih ⊢
    split at h
    · rcases List.mem_cons.1 h with h | h
      · omega
      · have := ih h; omega
    · have := ih h; omega
theorem corn_len : ∀ (l : List api_Cell) (a : api_Cell) (i : Nat), (corn l a i).length ≤ l.length
  | [], a, i => Nat.le_refl _
  | [c], a, i => Nat.le_refl _
  | c :: d :: r, a, i => by
    have ih := corn_len (d :: r) c (i + 1)
    simp only [corn]
    simp only [List.length_cons] at ih ⊢
    split
    · simp only [List.length_cons]; omega
    · omega
theorem turns_loop (x : FS api_Cell) (hL : x.l.length ≤ 1000000) : ∀ (rest : List api_Cell) (i : Nat) (a : api_Cell) (out : FS Int) (n : Nat), x.l.drop i = rest → out.l.length ≤ i → i ≤ x.l.length → rest.length < n →
    ∃ y, loopT (t_emit_turns_L0 x x (flen x)) n (a, out, (i : Int)) = some y ∧ y.l = out.l ++ (corn rest a i).map fun k : Nat => (k : Int)
  | [], i, a, out, n, hr, ho, hi, hn => by
    obtain ⟨m, rfl⟩ : ∃ m, n = m + 1 := ⟨n - 1, by omega⟩
    have hlen : x.l.length ≤ i := by
      have := congrArg List.length hr
      rw [List.length_drop] at this
      simp at this
      omega
    have c1 : ilt (i : Int) (flen x) = false := ilt_ff (by rw [flen_eq]; omega)
    exact ⟨out, loop_dn (by simp only [t_emit_turns_L0, c1, Bool.false_eq_true, if_false]), by simp [corn]⟩
  | c :: rest, i, a, out, n, hr, ho, hi, hn => by
    obtain ⟨m, rfl⟩ : ∃ m, n = m + 1 := ⟨n - 1, by omega⟩
    obtain ⟨g1, g2, g3, g4⟩ := get_drop hr
    have c1 : ilt (i : Int) (flen x) = true := ilt_tt (by rw [flen_eq]; omega)
    have f1 := fget_nat g1
    have a1 : iadd .i64 (i : Int) 1 = ((i + 1 : Nat) : Int) := isucc (by omega)
    have s1 : isub .i64 (flen x) 1 = (x.l.length : Int) - 1 := by rw [flen_eq, isub_eq (by omega) (by omega)]
    have t2 : fits 8 (flen out + 1) = true := fits_len (l := out.l) (by omega) (by omega)
    cases rest with
    | nil =>
      have e1 : ieq (i : Int) (isub .i64 (flen x) 1) = true := ieq_tt (by rw [s1]; simp at g4; omega)
      obtain ⟨y, e, hy⟩ := turns_loop x hL [] (i + 1) c (fsnoc out (i : Int)) m g2 (by simp [fsnoc_l]; omega) (by omega) (by simp at hn ⊢; omega)
      refine ⟨y, ?_, by rw [hy]; simp [corn, fsnoc_l]⟩
      rw [loop_nx (s' := (c, fsnoc out (i : Int), ((i + 1 : Nat) : Int))), e]
      simp only [t_emit_turns_L0, c1, if_true, f1, e1, bnot_t, gOpt_ff, bor_t, t2, a1]
    | cons d rest =>
      obtain ⟨q1, q2, q3, q4⟩ := get_drop g2
      have e1 : ieq (i : Int) (isub .i64 (flen x) 1) = false := ieq_ff (by rw [s1]; omega)
      have f2 : fget x ((i + 1 : Nat) : Int) = some d := fget_nat q1
      have dt : bnot (band (ieq (u_emit_direction a c).X (u_emit_direction c d).X) (band (ieq (u_emit_direction a c).Y (u_emit_direction c d).Y) true)) = turnB a c d := rfl
      by_cases ht : turnB a c d = true
      · obtain ⟨y, e, hy⟩ := turns_loop x hL (d :: rest) (i + 1) c (fsnoc out (i : Int)) m g2 (by simp [fsnoc_l]; omega) (by omega) (by simp at hn ⊢; omega)
        refine ⟨y, ?_, by rw [hy]; simp [corn, ht, fsnoc_l]⟩
        rw [loop_nx (s' := (c, fsnoc out (i : Int), ((i + 1 : Nat) : Int))), e]
        simp only [t_emit_turns_L0, c1, if_true, f1, e1, bnot_f, a1, f2, gOpt_tt, Option.getD_some, dt, ht, bor_f, t2]
      · obtain ⟨y, e, hy⟩ := turns_loop x hL (d :: rest) (i + 1) c out m g2 (by omega) (by omega) (by simp at hn ⊢; omega)
        rw [Bool.not_eq_true] at ht
        refine ⟨y, ?_, by rw [hy]; simp [corn, ht]⟩
        rw [loop_nx (s' := (c, out, ((i + 1 : Nat) : Int))), e]
        simp only [t_emit_turns_L0, c1, if_true, f1, e1, bnot_f, a1, f2, gOpt_tt, Option.getD_some, dt, ht, bor_f, Bool.false_eq_true, if_false]
theorem turns_ok (x : FS api_Cell) (a : api_Cell) (hL : x.l.length ≤ 1000000) : ∃ y, t_emit_turns x a = some y ∧ y.l = (corn x.l a 0).map fun k : Nat => (k : Int) := by
  obtain ⟨y, e, hy⟩ := turns_loop x hL x.l 0 a .nil bigN rfl (by simp [FS.l]) (Nat.zero_le _) (bigN_gt (by omega))
  change loopT (t_emit_turns_L0 x x (flen x)) bigN (a, .nil, 0) = _ at e
  refine ⟨y, ?_, by rw [hy]; simp [FS.l]⟩
  unfold t_emit_turns
  rw [e]
/-- A cell on the grid. -/
def OnG (c : api_Cell) : Prop := -4096 ≤ c.X ∧ c.X < 4096 ∧ -4096 ≤ c.Y ∧ c.Y < 4096
theorem onG_iff (c : api_Cell) : u_emit_onGrid c = true ↔ OnG c := by
  simp only [u_emit_onGrid, band_iff, ige_iff, ilt_iff, OnG]; omega
theorem inside_ok (x : FS api_Cell) (hL : x.l.length ≤ 1000000) : ∃ v, t_emit_inside x = some v ∧ (v = true ↔ ∀ c ∈ x.l, OnG c) := by
  obtain ⟨v, e, hv⟩ := loop_ok (body := t_emit_inside_L0 x (flen x)) (fun s => ∃ i : Nat, s = i ∧ i ≤ x.l.length ∧ ∀ j, j < i → ∀ d, x.l[j]? = some d → OnG d) (fun s => ((x.l.length : Int) - s).toNat)
    (fun v => (v = .inr () ∧ ∀ c ∈ x.l, OnG c) ∨ (v = .inl false ∧ ¬ ∀ c ∈ x.l, OnG c))
    (by
      rintro _ ⟨i, rfl, hi, hj⟩
      by_cases h : i < x.l.length
      · have c1 : ilt (i : Int) (flen x) = true := ilt_tt (by rw [flen_eq]; omega)
        have g := fget_at h
        by_cases hg : OnG x.l[i]
        · left
          have ho : bnot (u_emit_onGrid x.l[i]) = false := by rw [(onG_iff _).2 hg]; rfl
          refine ⟨((i + 1 : Nat) : Int), ?_, ⟨i + 1, rfl, by omega, fun j hj' d hd => ?_⟩, by omega⟩
          · simp only [t_emit_inside_L0, c1, if_true, g, ho, Bool.false_eq_true, if_false, isucc (i := i) (by omega)]
          · by_cases hji : j < i
            · exact hj j hji d hd
            · have : j = i := by omega
              subst this
              rw [List.getElem?_eq_getElem h] at hd
              cases hd
              exact hg
        · right
          have ho : bnot (u_emit_onGrid x.l[i]) = true := by rw [bnot_iff, onG_iff]; exact hg
          exact ⟨.inl false, by simp only [t_emit_inside_L0, c1, if_true, g, ho], .inr ⟨rfl, fun hh => hg (hh _ (List.getElem_mem h))⟩⟩
      · right
        have c1 : ilt (i : Int) (flen x) = false := ilt_ff (by rw [flen_eq]; omega)
        refine ⟨.inr (), by simp only [t_emit_inside_L0, c1, Bool.false_eq_true, if_false], .inl ⟨rfl, fun c hc => ?_⟩⟩
        obtain ⟨j, hj', rfl⟩ := List.getElem_of_mem hc
        exact hj j (by omega) _ (List.getElem?_eq_getElem hj'))
    bigN 0 ⟨0, rfl, by omega, fun j hj => by omega⟩ (bigN_gt (by omega))
  unfold t_emit_inside
  rw [e]
  rcases hv with ⟨rfl, h⟩ | ⟨rfl, h⟩
  · exact ⟨true, rfl, by simpa using h⟩
  · exact ⟨false, rfl, by simpa using h⟩
/-- What valid settings say. -/
structure OkS (s : api_Settings) : Prop where
  p0 : 32 ≤ s.Pitch
  p1 : s.Pitch ≤ 1024
  pe : s.Pitch % 2 = 0
  h0 : 4 ≤ s.Height
  h1 : s.Height ≤ 1024
  d0 : 1 ≤ s.Drop
  d1 : s.Drop ≤ 1073741824
  r0 : 0 ≤ s.Retract
  r1 : s.Retract ≤ 65536
  t0 : 1 ≤ s.Travel
  t1 : s.Travel ≤ 1048576
theorem bor_ff {a b : Bool} (h : bor a b = false) : a = false ∧ b = false := by cases a <;> cases b <;> simp_all [bor]
theorem bnot_ff {a : Bool} (h : bnot a = false) : a = true := by cases a <;> simp_all [bnot]
theorem okS_of {s : api_Settings} (h : u_flow_Valid s = true) : OkS s := by
  simp only [u_flow_Valid, band_iff, beqB_iff, u_flow_check] at h
  obtain ⟨h1, h2, h3, h4, h5, h6, -⟩ := h
  obtain ⟨a1, a2⟩ := bor_ff h1
  obtain ⟨b1, b2⟩ := bor_ff h5
  obtain ⟨q1, q4⟩ := bor_ff h6
  obtain ⟨q1, q3⟩ := bor_ff q1
  obtain ⟨q1, q2⟩ := bor_ff q1
  have a1 := bnot_ff a1
  have a2 := bnot_ff a2
  have b1 := bnot_ff b1
  have b2 := bnot_ff b2
  have q2 := bnot_ff q2
  simp only [u_flow_even, u_flow_within, band_iff, ige_iff, ile_iff, ieq_iff] at a1 a2 b1 b2 q2
  have hpe : s.Pitch % 2 = 0 := by
    have := a1.2
    unfold irem at this
    rw [Int.tmod_eq_emod_of_nonneg (by omega)] at this
    exact this
  exact ⟨a1.1.1, a1.1.2, hpe, a2.1.1, a2.1.2, b1.1, b1.2, b2.1, b2.2, q2.1, q2.2⟩
/-- The volume of cells, and the filament for it. -/
def vol (s : api_Settings) (n : Nat) : Int := (n : Int) * s.Pitch * s.Pitch * s.Height
def fil (s : api_Settings) (n : Nat) : Int := vol s n / s.Drop
theorem vol_bound {s : api_Settings} (hs : OkS s) {n : Nat} (hn : n ≤ 1048576) : 0 ≤ (n : Int) * s.Pitch ∧ (n : Int) * s.Pitch ≤ 1073741824 ∧ 0 ≤ (n : Int) * s.Pitch * s.Pitch ∧ (n : Int) * s.Pitch * s.Pitch ≤ 1099511627776 ∧ 0 ≤ vol s n ∧ vol s n ≤ 1125899906842624 := by
  have hp0 := hs.p0
  have hp1 := hs.p1
  have hh0 := hs.h0
  have hh1 := hs.h1
  have a0 : 0 ≤ (n : Int) * s.Pitch := Int.mul_nonneg (by omega) (by omega)
  have a1 : (n : Int) * s.Pitch ≤ 1048576 * 1024 := Int.mul_le_mul (by omega) hp1 (by omega) (by omega)
  have b0 : 0 ≤ (n : Int) * s.Pitch * s.Pitch := Int.mul_nonneg a0 (by omega)
  have b1 : (n : Int) * s.Pitch * s.Pitch ≤ 1048576 * 1024 * 1024 := Int.mul_le_mul a1 hp1 (by omega) (by omega)
  have v0 : 0 ≤ vol s n := Int.mul_nonneg b0 (by omega)
  have v1 : vol s n ≤ 1048576 * 1024 * 1024 * 1024 := Int.mul_le_mul b1 hh1 (by omega) (by omega)
  omega
theorem fil_bound {s : api_Settings} (hs : OkS s) {n : Nat} (hn : n ≤ 1048576) : 0 ≤ fil s n ∧ fil s n ≤ 1125899906842624 := by
  obtain ⟨_, _, _, _, h0, h1⟩ := vol_bound hs hn
  have hd := hs.d0
  have h2 : 0 ≤ fil s n := Int.ediv_nonneg h0 (by omega)
  have h3 : fil s n ≤ vol s n := Int.ediv_le_self _ h0
  omega
theorem Volume_ok {s : api_Settings} (hv : u_flow_Valid s = true) {n : Nat} (hn : n ≤ 1048576) : t_flow_Volume (n : Int) s = some (vol s n) := by
  have hs := okS_of hv
  obtain ⟨h1, h2, h3, h4, h5, h6⟩ := vol_bound hs hn
  have c1 : u_flow_within (n : Int) 0 1048576 = true := by simp only [u_flow_within, band_iff, ige_iff, ile_iff]; omega
  unfold t_flow_Volume
  rw [c1, hv]
  unfold vol at h5 h6 ⊢
  rw [imul_eq (a := (n : Int)) (by omega) (by omega), imul_eq (a := (n : Int) * s.Pitch) (by omega) (by omega), imul_eq (by omega) (by omega)]
  rfl
theorem filament_ok (p : emit_emitter) (hv : u_flow_Valid p.settings = true) {n k : Nat} (hc : p.cells = (n : Int)) (hn : n + k ≤ 1048576) : t_emit_emitter_filament p (k : Int) = some (fil p.settings (n + k)) := by
  have hs := okS_of hv
  have e : iadd .i64 p.cells (k : Int) = ((n + k : Nat) : Int) := by rw [hc, iadd_eq (by omega) (by omega)]; omega
  obtain ⟨_, _, _, _, h5, h6⟩ := vol_bound hs hn
  have hd := hs.d0
  have c1 : ieq p.settings.Drop 0 = false := ieq_ff (by omega)
  unfold t_emit_emitter_filament
  rw [e, Volume_ok hv hn]
  simp only [c1, Bool.false_eq_true, if_false]
  rw [iquo_eq h5 (by omega) (by omega)]
  rfl
theorem Floor_ok {v d : Int} (h0 : 0 ≤ v) (h1 : v ≤ 1125899906842624) (hd : 1 ≤ d) : t_num_Floor v d = some (v / d, 0) := by
  have c1 : ieq d 0 = false := ieq_ff (by omega)
  have c2 : ieq v (-9223372036854775808) = false := ieq_ff (by omega)
  have c3 : ilt v 0 = false := ilt_ff (by omega)
  have c4 : ilt d 0 = false := ilt_ff (by omega)
  unfold t_num_Floor
  simp only [c1, c2, c3, c4, band_f, Bool.false_eq_true, if_false, show band (beqB false false) true = true from rfl, bnot_t, band_f', iquo_eq h0 (show v ≤ 9223372036854775807 by omega) (show 0 < d by omega)]
/-- Few operations. -/
def Few (l : List api_Op) : Prop := l.length ≤ 30 ∧ ∀ o ∈ l, o.Cells.l.length ≤ 40
theorem few_ok (x : FS api_Op) : ∃ y, t_additivelaw40_few x = some y ∧ Few y.l := by
  obtain ⟨y, e, hy⟩ := loop_ok (body := t_additivelaw40_few_L0 x) (fun s => ∃ i : Nat, s.2 = i ∧ i ≤ 30 ∧ s.1.l.length = i ∧ ∀ o ∈ s.1.l, o.Cells.l.length ≤ 40) (fun s => (30 - s.2).toNat) (fun y => Few y.l)
    (by
      rintro ⟨y, i'⟩ ⟨i, hi', hi, hl, hc⟩
      simp only at hi' hl hc
      subst hi'
      by_cases h : band (ilt (i : Int) (flen x)) (ilt (i : Int) 30) = true
      · left
        have h' := h
        rw [band_iff, ilt_iff, ilt_iff, flen_eq] at h'
        have g := fget_at (x := x) (i := i) (by omega)
        have hf : fits 64 (flen y + 1) = true := fits_len (l := y.l) (by omega) (by omega)
        by_cases h40 : igt (flen x.l[i].Cells) 40 = true
        · have h4 := igt_iff.1 h40
          rw [flen_eq] at h4
          obtain ⟨z, ez, hz⟩ : ∃ z, fsl x.l[i].Cells 0 40 = some z ∧ z.l.length ≤ 40 := by
            cases hc' : x.l[i].Cells with
            | nil => rw [hc'] at h4; simp [FS.l] at h4
            | lst l =>
              rw [hc'] at h4
              simp only [FS.l] at h4
              refine ⟨.lst ((l.drop 0).take 40), ?_, by simp [FS.l]; omega⟩
              have hcc : (0:Int) ≤ 0 ∧ (0:Int) ≤ 40 ∧ (40:Int) ≤ flen (.lst l : FS api_Cell) := by simp only [flen, FS.l]; omega
              simp only [fsl]
              exact if_pos hcc
          refine ⟨(fsnoc y ⟨x.l[i].Kind, x.l[i].Role, x.l[i].Layer, x.l[i].Z, x.l[i].Speed, z⟩, ((i + 1 : Nat) : Int)), ?_, ⟨i + 1, rfl, by omega, by simp [fsnoc_l, hl], fun o ho => ?_⟩, by simp only; omega⟩
          · simp only [t_additivelaw40_few_L0, h, if_true, g, h40, ez, hf, isucc (i := i) (by omega)]
          · simp only [fsnoc_l, List.mem_append, List.mem_singleton] at ho
            rcases ho with ho | rfl
            · exact hc o ho
            · exact hz
        · have h4 : ¬ (40 : Int) < (x.l[i].Cells.l.length : Int) := fun hh => h40 (igt_tt (by rw [flen_eq]; exact hh))
          rw [Bool.not_eq_true] at h40
          refine ⟨(fsnoc y x.l[i], ((i + 1 : Nat) : Int)), ?_, ⟨i + 1, rfl, by omega, by simp [fsnoc_l, hl], fun o ho => ?_⟩, by simp only; omega⟩
          · simp only [t_additivelaw40_few_L0, h, if_true, g, h40, Bool.false_eq_true, if_false, hf, isucc (i := i) (by omega)]
          · simp only [fsnoc_l, List.mem_append, List.mem_singleton] at ho
            rcases ho with ho | rfl
            · exact hc o ho
            · omega
      · right
        rw [Bool.not_eq_true] at h
        exact ⟨y, by simp only [t_additivelaw40_few_L0, h, Bool.false_eq_true, if_false], by omega, hc⟩)
    bigN (FS.nil, 0) ⟨0, rfl, by omega, rfl, fun o ho => by simp [FS.l] at ho⟩ (bigN_gt (by simp only; omega))
  unfold t_additivelaw40_few
  rw [e]
  exact ⟨y, rfl, hy⟩
/-- The amounts: those so far, or an error. -/
def amtR (s : api_Settings) : List api_Op → Nat → Bool → List Int → Int × List Int
  | [], _, _, out => (0, out)
  | o :: r, n, back, out =>
    if (back = true ∧ (o.Kind = 3 ∨ o.Kind = 4)) ∨ (back = false ∧ o.Kind = 5) then (11, [])
    else
      let n' := if o.Kind = 3 then n + o.Cells.l.length else n
      let b' := if o.Kind = 4 then true else if o.Kind = 5 then false else back
      amtR s r n' b' (out ++ [if b' = true then fil s n' - s.Retract else fil s n'])
theorem amt_loop {s : api_Settings} (hv : u_flow_Valid s = true) (x : FS api_Op) (hF : Few x.l) : ∀ (rest : List api_Op) (i n : Nat) (back : Bool) (out : FS Int) (m : Nat), x.l.drop i = rest → out.l.length = i → n ≤ 40 * i → rest.length < m →
    ∃ y, loopT (t_flow_Amounts_L0 s x (flen x)) m (out, (n : Int), back, (i : Int)) = some y ∧ (((amtR s rest n back out.l).1 = 0 ∧ ∃ z, y = .inr z ∧ z.l = (amtR s rest n back out.l).2) ∨ ((amtR s rest n back out.l).1 = 11 ∧ y = .inl (.nil, 11)))
  | [], i, n, back, out, m, hr, ho, hn, hm => by
    obtain ⟨m, rfl⟩ : ∃ k, m = k + 1 := ⟨m - 1, by omega⟩
    have hlen : x.l.length ≤ i := by
      have := congrArg List.length hr
      rw [List.length_drop] at this
      simp at this
      omega
    have c1 : ilt (i : Int) (flen x) = false := ilt_ff (by rw [flen_eq]; omega)
    exact ⟨.inr out, loop_dn (by simp only [t_flow_Amounts_L0, c1, Bool.false_eq_true, if_false]), .inl ⟨rfl, out, rfl, rfl⟩⟩
  | o :: rest, i, n, back, out, m, hr, ho, hn, hm => by
    obtain ⟨m, rfl⟩ : ∃ k, m = k + 1 := ⟨m - 1, by omega⟩
    obtain ⟨g1, g2, g3, g4⟩ := get_drop hr
    have hx := hF.1
    have hoc := hF.2 o (List.mem_of_getElem? g1)
    have hs := okS_of hv
    have c1 : ilt (i : Int) (flen x) = true := ilt_tt (by rw [flen_eq]; omega)
    have f1 := fget_nat g1
    have a1 : iadd .i64 (i : Int) 1 = ((i + 1 : Nat) : Int) := isucc (by omega)
    have t2 : fits 8 (flen out + 1) = true := fits_len (l := out.l) (by omega) (by omega)
    have e2 : iadd .i64 (n : Int) (flen o.Cells) = ((n + o.Cells.l.length : Nat) : Int) := by rw [flen_eq, iadd_eq (by omega) (by omega)]; omega
    have step : ∀ (n' : Nat) (b' : Bool) (v : Int), n' ≤ 40 * (i + 1) → amtR s (o :: rest) n back out.l = amtR s rest n' b' (out.l ++ [v]) →
        t_flow_Amounts_L0 s x (flen x) (out, (n : Int), back, (i : Int)) = some (.nx (fsnoc out v, (n' : Int), b', ((i + 1 : Nat) : Int))) →
        ∃ y, loopT (t_flow_Amounts_L0 s x (flen x)) (m + 1) (out, (n : Int), back, (i : Int)) = some y ∧ (((amtR s (o :: rest) n back out.l).1 = 0 ∧ ∃ z, y = .inr z ∧ z.l = (amtR s (o :: rest) n back out.l).2) ∨ ((amtR s (o :: rest) n back out.l).1 = 11 ∧ y = .inl (.nil, 11))) := fun n' b' v h1 h2 h3 => by
      obtain ⟨y, e, hy⟩ := amt_loop hv x hF rest (i + 1) n' b' (fsnoc out v) m g2 (by simp [fsnoc_l]; omega) h1 (by simp at hm ⊢; omega)
      refine ⟨y, by rw [loop_nx h3, e], ?_⟩
      rw [h2]
      exact hy
    have bad : amtR s (o :: rest) n back out.l = (11, []) → t_flow_Amounts_L0 s x (flen x) (out, (n : Int), back, (i : Int)) = some (.dn (.inl (.nil, 11))) →
        ∃ y, loopT (t_flow_Amounts_L0 s x (flen x)) (m + 1) (out, (n : Int), back, (i : Int)) = some y ∧ (((amtR s (o :: rest) n back out.l).1 = 0 ∧ ∃ z, y = .inr z ∧ z.l = (amtR s (o :: rest) n back out.l).2) ∨ ((amtR s (o :: rest) n back out.l).1 = 11 ∧ y = .inl (.nil, 11))) := fun h2 h3 =>
      ⟨_, loop_dn h3, .inr ⟨by rw [h2], rfl⟩⟩
    have hV : ∀ k : Nat, k ≤ 1048576 → t_flow_Volume (k : Int) s = some (vol s k) ∧ t_num_Floor (vol s k) s.Drop = some (fil s k, 0) ∧ igt (k : Int) 1048576 = false ∧ isub .i64 (fil s k) s.Retract = fil s k - s.Retract := fun k hk => by
      obtain ⟨_, _, _, _, h5, h6⟩ := vol_bound hs hk
      have hf := fil_bound hs hk
      have hr0 := hs.r0
      have hr1 := hs.r1
      exact ⟨Volume_ok hv hk, Floor_ok h5 h6 hs.d0, igt_ff (by omega), isub_eq (by omega) (by omega)⟩
    by_cases k3 : o.Kind = 3
    · have q3 : ieq o.Kind 3 = true := ieq_tt k3
      have q4 : ieq o.Kind 4 = false := ieq_ff (by omega)
      cases back with
      | true => exact bad (by unfold amtR; rw [if_pos (.inl ⟨rfl, .inl k3⟩)]) (by simp only [t_flow_Amounts_L0, c1, if_true, f1, q3])
      | false =>
        obtain ⟨v1, v2, v3, v4⟩ := hV (n + o.Cells.l.length) (by omega)
        refine step (n + o.Cells.l.length) false (fil s (n + o.Cells.l.length)) (by omega) ?_ ?_
        · rw [amtR]; rw [if_neg (by simp [k3])]; simp [k3]
        · simp only [t_flow_Amounts_L0, c1, if_true, f1, q3, q4, Bool.false_eq_true, if_false, e2, v1, v2, v3, t2, a1]
    · have q3 : ieq o.Kind 3 = false := ieq_ff k3
      obtain ⟨v1, v2, v3, v4⟩ := hV n (by omega)
      by_cases k4 : o.Kind = 4
      · have q4 : ieq o.Kind 4 = true := ieq_tt k4
        cases back with
        | true => exact bad (by unfold amtR; rw [if_pos (.inl ⟨rfl, .inr k4⟩)]) (by simp only [t_flow_Amounts_L0, c1, if_true, f1, q3, q4, Bool.false_eq_true, if_false])
        | false =>
          refine step n true (fil s n - s.Retract) (by omega) ?_ ?_
          · rw [amtR]; rw [if_neg (by simp [k4])]; simp [k4]
          · simp only [t_flow_Amounts_L0, c1, if_true, f1, q3, q4, Bool.false_eq_true, if_false, v1, v2, v3, v4, t2, a1]
      · have q4 : ieq o.Kind 4 = false := ieq_ff k4
        by_cases k5 : o.Kind = 5
        · have q5 : ieq o.Kind 5 = true := ieq_tt k5
          cases back with
          | false => exact bad (by unfold amtR; rw [if_pos (.inr ⟨rfl, k5⟩)]) (by simp only [t_flow_Amounts_L0, c1, if_true, f1, q3, q4, q5, Bool.false_eq_true, if_false, bnot_f])
          | true =>
            refine step n false (fil s n) (by omega) ?_ ?_
            · rw [amtR]; rw [if_neg (by simp [k3, k4])]; simp [k5]
            · simp only [t_flow_Amounts_L0, c1, if_true, f1, q3, q4, q5, Bool.false_eq_true, if_false, bnot_t, v1, v2, v3, v4, t2, a1]
        · have q5 : ieq o.Kind 5 = false := ieq_ff k5
          cases back with
          | true =>
            refine step n true (fil s n - s.Retract) (by omega) ?_ ?_
            · rw [amtR]; rw [if_neg (by simp [k3, k4, k5])]; simp [k3, k4, k5]
            · simp only [t_flow_Amounts_L0, c1, if_true, f1, q3, q4, q5, Bool.false_eq_true, if_false, v1, v2, v3, v4, t2, a1]
          | false =>
            refine step n false (fil s n) (by omega) ?_ ?_
            · rw [amtR]; rw [if_neg (by simp [k3, k4, k5])]; simp [k3, k4, k5]
            · simp only [t_flow_Amounts_L0, c1, if_true, f1, q3, q4, q5, Bool.false_eq_true, if_false, v1, v2, v3, v4, t2, a1]
theorem amtR_ok (s : api_Settings) : ∀ (l : List api_Op) (n : Nat) (b : Bool) (out : List Int), (amtR s l n b out).1 = 0 ∨ (amtR s l n b out).1 = 11
  | [], n, b, out => .inl rfl
  | o :: r, n, b, out => by
    rw [amtR]
    split
    · exact .inr rfl
    · exact amtR_ok s r _ _ _
/-- What Amounts answers. -/
theorem Amounts_ok {s : api_Settings} (x : FS api_Op) (hF : Few x.l) : ∃ y, t_flow_Amounts x s = some y ∧ ((u_flow_Valid s = false ∧ y = (.nil, 1)) ∨ (u_flow_Valid s = true ∧ ((amtR s x.l 0 false []).1 = 0 ∧ y.2 = 0 ∧ y.1.l = (amtR s x.l 0 false []).2 ∨ (amtR s x.l 0 false []).1 = 11 ∧ y = (.nil, 11)))) := by
  unfold t_flow_Amounts
  cases hv : u_flow_Valid s with
  | false => exact ⟨_, rfl, .inl ⟨rfl, rfl⟩⟩
  | true =>
    have hx := hF.1
    have hmk : mkOK 8 0 (flen x) = true := by
      have h2 : flen x * ((8 : Nat) : Int) ≤ ((140737488355328 : Nat) : Int) := by rw [flen_eq]; omega
      unfold mkOK
      refine decide_eq_true ⟨by omega, by rw [flen_eq]; omega, h2, by rw [flen_eq]; omega⟩
    obtain ⟨y, e, hy⟩ := amt_loop hv x hF x.l 0 0 false (frep 0 0) bigN rfl rfl (by omega) (bigN_gt (by omega))
    change loopT (t_flow_Amounts_L0 s x (flen x)) bigN (frep 0 0, 0, false, 0) = _ at e
    have h0 : (frep (0 : Int) 0).l = [] := rfl
    rw [h0] at hy
    simp only [bnot_t, Bool.false_eq_true, if_false, hmk, if_true, e]
    rcases hy with ⟨h1, z, rfl, hz⟩ | ⟨h1, rfl⟩
    · exact ⟨_, rfl, .inr ⟨trivial, .inl ⟨h1, rfl, by simp only [flst_l]; exact hz⟩⟩⟩
    · exact ⟨_, rfl, .inr ⟨trivial, .inr ⟨h1, rfl⟩⟩⟩
end Go.Proofs.Ytchiiiahgmfofaa
