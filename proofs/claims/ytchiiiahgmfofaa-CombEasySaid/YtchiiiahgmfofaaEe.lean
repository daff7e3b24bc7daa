/- comb: the reference's table and rings, in plain Lean. Conditions: none. -/
import Derived.Test.YtchiiiahgmfofaaEd
import Derived.Test.YtchiiiahgmfofaaBi
namespace Go.Proofs.Ytchiiiahgmfofaa
open Go Go.Vv Go.Proofs
set_option linter.unusedSimpArgs false
set_option linter.unusedVariables false
set_option linter.unusedSectionVars false
/-- The index of a cell in a list. -/
def sp : List api_Cell → api_Cell → Nat
  | [], _ => 0
  | d :: l, c => if q_api_Cell d c = true then 0 else sp l c + 1
theorem sp_in {c : api_Cell} : ∀ {l : List api_Cell}, c ∈ l → sp l c < l.length ∧ l[sp l c]? = some c
  | d :: l, h => by
    unfold sp
    by_cases e : q_api_Cell d c = true
    · rw [if_pos e]
      have := (q_iff _ _).1 e
      subst this
      simp
    · rw [if_neg e]
      have hm : c ∈ l := by
        rcases List.mem_cons.1 h with rfl | h
        · exact absurd ((q_iff _ _).2 rfl) e
        · exact h
      have := sp_in hm
      exact ⟨by simp only [List.length_cons]; omega, by simpa using this.2⟩
theorem sp_out {c : api_Cell} : ∀ {l : List api_Cell}, c ∉ l → sp l c = l.length
  | [], _ => rfl
  | d :: l, h => by
    unfold sp
    have h1 : ¬ q_api_Cell d c = true := fun e => h (by rw [(q_iff _ _).1 e]; simp)
    rw [if_neg h1, sp_out fun hm => h (by simp [hm])]
    rfl
theorem sp_eq {c : api_Cell} : ∀ {l : List api_Cell} {i : Nat}, l[i]? = some c → (∀ j, j < i → ∀ d, l[j]? = some d → d ≠ c) → sp l c = i
  | [], i, h, _ => by simp at h
  | d :: l, 0, h, _ => by
    simp only [List.getElem?_cons_zero] at h
    cases h
    unfold sp
    rw [if_pos ((q_iff _ _).2 rfl)]
  | d :: l, i + 1, h, hj => by
    have h1 : ¬ q_api_Cell d c = true := fun e => hj 0 (by omega) d rfl ((q_iff _ _).1 e)
    unfold sp
    rw [if_neg h1, sp_eq (by simpa using h) fun j hji e he => hj (j + 1) (by omega) e (by simpa using he)]
theorem sp_inj {l : List api_Cell} {c d : api_Cell} (hc : c ∈ l) (hd : d ∈ l) (h : sp l c = sp l d) : c = d := by
  have h1 := (sp_in hc).2
  have h2 := (sp_in hd).2
  rw [h, h2] at h1
  exact (Option.some.inj h1).symm
open Classical in
/-- The index, or -1. -/
noncomputable def spz (l : List api_Cell) (c : api_Cell) : Int := if c ∈ l then (sp l c : Int) else -1
theorem spot_ok (x : FS api_Cell) (c : api_Cell) (hlen : x.l.length ≤ 13107200) : t_additiveref34_spot x c = some (spz x.l c) := by
  obtain ⟨v, e, hv⟩ := loop_ok (body := t_additiveref34_spot_L0 x c) (fun s => ∃ i : Nat, s = i ∧ i ≤ x.l.length ∧ ∀ j, j < i → ∀ d, x.l[j]? = some d → d ≠ c) (fun s => ((x.l.length : Int) - s).toNat)
    (fun v => (c ∈ x.l ∧ v = .inl (sp x.l c : Int)) ∨ (c ∉ x.l ∧ v = .inr ()))
    (by
      rintro _ ⟨i, rfl, hi, hj⟩
      by_cases h : i < x.l.length
      · have c1 : ilt (i : Int) (flen x) = true := ilt_tt (by rw [flen_eq]; omega)
        have g := fget_at h
        by_cases hq : q_api_Cell x.l[i] c = true
        · right
          have hc := (q_iff _ _).1 hq
          have hi? : x.l[i]? = some c := by rw [List.getElem?_eq_getElem h, hc]
          refine ⟨.inl (i : Int), ?_, .inl ⟨List.mem_of_getElem? hi?, by rw [sp_eq hi? hj]⟩⟩
          simp only [t_additiveref34_spot_L0, c1, if_true, g, q_eq, hq]
        · left
          rw [Bool.not_eq_true] at hq
          refine ⟨((i + 1 : Nat) : Int), ?_, ⟨i + 1, rfl, by omega, fun j hj' d hd => ?_⟩, by omega⟩
          · simp only [t_additiveref34_spot_L0, c1, if_true, g, q_eq, hq, Bool.false_eq_true, if_false, isucc (i := i) (by omega)]
          · by_cases hji : j < i
            · exact hj j hji d hd
            · have : j = i := by omega
              subst this
              rw [List.getElem?_eq_getElem h] at hd
              cases hd
              intro e
              rw [(q_iff _ _).2 e] at hq
              cases hq
      · right
        have c1 : ilt (i : Int) (flen x) = false := ilt_ff (by rw [flen_eq]; omega)
        refine ⟨.inr (), by simp only [t_additiveref34_spot_L0, c1, Bool.false_eq_true, if_false], .inr ⟨fun hm => ?_, rfl⟩⟩
        obtain ⟨j, hj', he⟩ := List.getElem_of_mem hm
        exact hj j (by omega) _ (List.getElem?_eq_getElem hj') he)
    bigN 0 ⟨0, rfl, by omega, fun j hj => by omega⟩ (bigN_gt (by omega))
  unfold t_additiveref34_spot spz
  rw [e]
  rcases hv with ⟨h, rfl⟩ | ⟨h, rfl⟩
  · rw [if_pos h]
  · rw [if_neg h]
theorem ahead_ok {c : api_Cell} (hc : InR c) {k : Nat} (hk : k < 4) : t_additiveref34_ahead c (k : Int) = some (nbr c k) := by
  unfold InR at hc
  have : k = 0 ∨ k = 1 ∨ k = 2 ∨ k = 3 := by omega
  unfold t_additiveref34_ahead
  rw [iadd_eq (a := c.X) (by omega) (by omega), isub_eq (a := c.X) (by omega) (by omega), iadd_eq (a := c.Y) (by omega) (by omega), isub_eq (a := c.Y) (by omega) (by omega)]
  rcases this with rfl | rfl | rfl | rfl <;> rfl
theorem get_set4 {α : Type} (v : A4 α) (u : α) {w k : Nat} (hw : w < 4) (hk : k < 4) : A4.get (A4.set v (w : Int) u) (k : Int) = if k = w then u else A4.get v (k : Int) := by
  have h1 : w = 0 ∨ w = 1 ∨ w = 2 ∨ w = 3 := by omega
  have h2 : k = 0 ∨ k = 1 ∨ k = 2 ∨ k = 3 := by omega
  rcases h1 with rfl | rfl | rfl | rfl <;> rcases h2 with rfl | rfl | rfl | rfl <;> simp [A4.get, A4.set]
theorem mkOK_32 {n : Int} (h0 : 0 ≤ n) (h1 : n ≤ 100000000) : mkOK 32 n n = true := by
  have h2 : n * ((32 : Nat) : Int) ≤ ((140737488355328 : Nat) : Int) := by omega
  unfold mkOK
  exact decide_eq_true ⟨h0, by omega, h2, by omega⟩
theorem mkOK_40 {n : Int} (h0 : 0 ≤ n) (h1 : n ≤ 100000000) : mkOK 40 n n = true := by
  have h2 : n * ((40 : Nat) : Int) ≤ ((140737488355328 : Nat) : Int) := by omega
  unfold mkOK
  exact decide_eq_true ⟨h0, by omega, h2, by omega⟩
theorem mkOK_8 {n : Int} (h0 : 0 ≤ n) (h1 : n ≤ 100000000) : mkOK 8 n n = true := by
  have h2 : n * ((8 : Nat) : Int) ≤ ((140737488355328 : Nat) : Int) := by omega
  unfold mkOK
  exact decide_eq_true ⟨h0, by omega, h2, by omega⟩
theorem mkOK_1 {n : Int} (h0 : 0 ≤ n) (h1 : n ≤ 100000000) : mkOK 1 n n = true := by
  have h2 : n * ((1 : Nat) : Int) ≤ ((140737488355328 : Nat) : Int) := by omega
  unfold mkOK
  exact decide_eq_true ⟨h0, by omega, h2, by omega⟩
def RowT (l : List api_Cell) (t : FS (A4 Int)) (i : Nat) (k : Nat) : Prop := ∀ c, l[i]? = some c → ∃ v, t.l[i]? = some v ∧ ∀ w, w < k → A4.get v (w : Int) = spz l (nbr c w)
theorem table_row (x : FS api_Cell) (hx : ∀ c ∈ x.l, InR c) (hlen : x.l.length ≤ 13107200) (i : Nat) (hi : i < x.l.length) (t0 : FS (A4 Int)) (h0 : t0.l.length = x.l.length) :
    ∃ t, loopT (t_additiveref34_table_L0 x (i : Int)) bigN (t0, 0) = some t ∧ t.l.length = x.l.length ∧ RowT x.l t i 4 ∧ ∀ j, j ≠ i → t.l[j]? = t0.l[j]? := by
  obtain ⟨y, e, h1, h2, h3⟩ := loop_ok (body := t_additiveref34_table_L0 x (i : Int)) (fun s => ∃ k : Nat, s.2 = k ∧ k ≤ 4 ∧ s.1.l.length = x.l.length ∧ RowT x.l s.1 i k ∧ ∀ j, j ≠ i → s.1.l[j]? = t0.l[j]?) (fun s => (4 - s.2).toNat)
    (fun t => t.l.length = x.l.length ∧ RowT x.l t i 4 ∧ ∀ j, j ≠ i → t.l[j]? = t0.l[j]?)
    (by
      rintro ⟨t, k'⟩ ⟨k, hk', hk, hl, hr, hj⟩
      simp only at hk' hl hr hj
      subst hk'
      by_cases h4 : k < 4
      · left
        have c1 : ilt (k : Int) 4 = true := ilt_tt (by omega)
        have c2 : inB (k : Int) 4 = true := by rw [inB_iff]; omega
        have g := fget_at hi
        have ha := ahead_ok (hx _ (List.getElem_mem hi)) h4
        have hs := spot_ok x (nbr x.l[i] k) hlen
        obtain ⟨v, hv, hg⟩ := hr _ (List.getElem?_eq_getElem hi)
        have hit : i < t.l.length := by omega
        refine ⟨(fset t i (A4.set v k (spz x.l (nbr x.l[i] k))), ((k + 1 : Nat) : Int)), ?_, ⟨k + 1, rfl, by omega, by simp only [fset_len]; exact hl, ?_, ?_⟩, by simp only; omega⟩
        · simp only [t_additiveref34_table_L0, c1, if_true, g, ha, hs, fget_nat hv, c2, isucc (i := k) (by omega)]
        · intro c hc
          rw [List.getElem?_eq_getElem hi] at hc
          cases hc
          refine ⟨_, by simp only [fset_l, Int.toNat_natCast]; rw [List.getElem?_set]; rw [if_pos rfl, if_pos hit], fun w hw => ?_⟩
          rw [get_set4 _ _ h4 (by omega)]
          by_cases hwk : w = k
          · rw [if_pos hwk, hwk]
          · rw [if_neg hwk]; exact hg w (by omega)
        · intro j hji
          simp only [fset_l, Int.toNat_natCast]
          rw [List.getElem?_set, if_neg (by omega)]
          exact hj j hji
      · right
        have : k = 4 := by omega
        subst this
        have c1 : ilt ((4 : Nat) : Int) 4 = false := ilt_ff (by omega)
        exact ⟨t, by simp only [t_additiveref34_table_L0, c1, Bool.false_eq_true, if_false], hl, hr, hj⟩)
    bigN (t0, 0) ⟨0, rfl, by omega, h0, fun c hc => ⟨_, List.getElem?_eq_getElem (show i < t0.l.length by omega), fun w hw => by omega⟩, fun j _ => rfl⟩ (bigN_gt (by simp only; omega))
  exact ⟨y, e, h1, h2, h3⟩
theorem table_ok (x : FS api_Cell) (hx : ∀ c ∈ x.l, InR c) (hlen : x.l.length ≤ 13107200) : ∃ t, t_additiveref34_table x = some t ∧ t.l.length = x.l.length ∧ ∀ i, RowT x.l t i 4 := by
  obtain ⟨y, e, h1, h2⟩ := loop_ok (body := t_additiveref34_table_L1 x) (fun s => ∃ i : Nat, s.2 = i ∧ i ≤ x.l.length ∧ s.1.l.length = x.l.length ∧ ∀ j, j < i → RowT x.l s.1 j 4) (fun s => ((x.l.length : Int) - s.2).toNat)
    (fun t => t.l.length = x.l.length ∧ ∀ i, RowT x.l t i 4)
    (by
      rintro ⟨t, i'⟩ ⟨i, hi', hi, hl, hr⟩
      simp only at hi' hl hr
      subst hi'
      by_cases h : i < x.l.length
      · left
        have c1 : ilt (i : Int) (flen x) = true := ilt_tt (by rw [flen_eq]; omega)
        obtain ⟨z, ez, hz1, hz2, hz3⟩ := table_row x hx hlen i h t hl
        refine ⟨(z, ((i + 1 : Nat) : Int)), ?_, ⟨i + 1, rfl, by omega, hz1, fun j hj => ?_⟩, by simp only; omega⟩
        · simp only [t_additiveref34_table_L1, c1, if_true, ez, isucc (i := i) (by omega)]
        · by_cases hji : j = i
          · subst hji; exact hz2
          · intro c hc
            obtain ⟨v, hv, hg⟩ := hr j (by omega) c hc
            exact ⟨v, by simp only; rw [hz3 j hji]; exact hv, hg⟩
      · right
        have c1 : ilt (i : Int) (flen x) = false := ilt_ff (by rw [flen_eq]; omega)
        refine ⟨t, by simp only [t_additiveref34_table_L1, c1, Bool.false_eq_true, if_false], hl, fun j c hc => ?_⟩
        have := (List.getElem?_eq_some_iff.1 hc).1
        exact hr j (by omega) c hc)
    bigN (frep ⟨0, 0, 0, 0⟩ (flen x), 0) ⟨0, rfl, by omega, by simp only [frep_l, List.length_replicate, flen_eq]; omega, fun j hj => by omega⟩ (bigN_gt (by simp only; omega))
  unfold t_additiveref34_table
  rw [mkOK_32 (by rw [flen_eq]; omega) (by rw [flen_eq]; omega), if_pos rfl, e]
  exact ⟨flst y, rfl, by rw [flst_l]; exact h1, fun i c hc => by rw [flst_l]; exact h2 i c hc⟩
theorem nodup_int {n : Nat} {l : List Int} (hd : l.Nodup) (h : ∀ z ∈ l, 0 ≤ z ∧ z < n) : l.length ≤ n := by
  have h1 : (l.map Int.toNat).Nodup := List.pairwise_map.2 (List.Pairwise.imp_of_mem (fun {x y} hx hy hne e => by
    have := h x hx
    have := h y hy
    omega) hd)
  have := nodup_lt n _ h1 (fun x hx => by
    obtain ⟨z, hz, rfl⟩ := List.mem_map.1 hx
    have := h z hz
    omega)
  simpa using this
section
variable {r : api_Region} (hL : Lim r) {b : api_Cell} (hb : In r b) {x : FS api_Cell} (hm : ∀ c, c ∈ x.l ↔ In r c) (hlen : x.l.length ≤ 13107200) {t : FS (A4 Int)} (ht : t.l.length = x.l.length) (hrow : ∀ i, RowT x.l t i 4)
include hm
theorem spz_in {c : api_Cell} (h : In r c) : spz x.l c = (sp x.l c : Int) ∧ sp x.l c < x.l.length ∧ x.l[sp x.l c]? = some c := by
  have := (hm c).2 h
  unfold spz
  rw [if_pos this]
  exact ⟨rfl, sp_in this⟩
theorem spz_out {c : api_Cell} (h : ¬ In r c) : spz x.l c = -1 := by
  unfold spz
  rw [if_neg fun hc => h ((hm c).1 hc)]
include hrow
theorem next_ok {c : api_Cell} (h : In r c) : ∃ v, t.l[sp x.l c]? = some v ∧ ∀ w : Nat, w < 4 → A4.get v (w : Int) = spz x.l (nbr c w) := hrow _ c (spz_in hm h).2.2
include hL hb hlen ht
/-- A ring: the cells so far from b. -/
def Ring (r : api_Region) (b : api_Cell) (x : FS api_Cell) (D : Nat) (q : FS Int) : Prop := q.l.length ≤ x.l.length ∧ ∀ z, z ∈ q.l ↔ ∃ c, Dst r b D c ∧ z = (sp x.l c : Int)
/-- While a ring is made. -/
structure More (r : api_Region) (b : api_Cell) (x : FS api_Cell) (D : Nat) (d : FS Bool) (q : FS Int) : Prop where
  len : d.l.length = x.l.length
  nd : q.l.Nodup
  far : ∀ z ∈ q.l, ∃ c, Dst r b (D + 1) c ∧ z = (sp x.l c : Int)
  done : ∀ c, In r c → (d.l[sp x.l c]? = some true ↔ (∃ m, m ≤ D ∧ Dst r b m c) ∨ (sp x.l c : Int) ∈ q.l)
theorem More.qlen {D : Nat} {d : FS Bool} {q : FS Int} (h : More r b x D d q) : q.l.length ≤ x.l.length := nodup_int h.nd fun z hz => by
  obtain ⟨c, hc, rfl⟩ := h.far z hz
  have := (spz_in hm hc.1.inr).2.1
  omega
/-- Which neighbors have been looked at. -/
def Seen4 (r : api_Region) (x : FS api_Cell) (last : FS Int) (d : FS Bool) (i w : Nat) : Prop := ∀ c j k, last.l[j]? = some (sp x.l c : Int) → (j < i ∨ j = i ∧ k < w) → k < 4 → In r c → In r (nbr c k) → d.l[sp x.l (nbr c k)]? = some true
theorem layers_in {D : Nat} {last : FS Int} (hlast : Ring r b x D last) (out : FS (FS Int)) (i : Nat) (hi : i < last.l.length) (d0 : FS Bool) (q0 : FS Int) (h0 : More r b x D d0 q0) (hs0 : Seen4 r x last d0 i 0) :
    ∃ y : FS Bool × FS (FS Int) × FS Int, loopT (t_additiveref34_layers_L0 t last (i : Int)) bigN (d0, out, q0, 0) = some y ∧ y.2.1 = out ∧ More r b x D y.1 y.2.2 ∧ Seen4 r x last y.1 (i + 1) 0 := by
  have hz := List.getElem?_eq_getElem hi
  obtain ⟨c, hc, hzc⟩ := (hlast.2 _).1 (List.getElem_mem hi)
  rw [hzc] at hz
  obtain ⟨v, hv, hg⟩ := next_ok hm hrow hc.1.inr
  have hsc := spz_in hm hc.1.inr
  refine loop_ok (body := t_additiveref34_layers_L0 t last (i : Int)) (fun s => ∃ k : Nat, s.2.2.2 = k ∧ k ≤ 4 ∧ s.2.1 = out ∧ More r b x D s.1 s.2.2.1 ∧ Seen4 r x last s.1 i k) (fun s => (4 - s.2.2.2).toNat) _ ?_
    bigN _ ⟨0, rfl, by omega, rfl, h0, hs0⟩ (bigN_gt (by simp only; omega))
  rintro ⟨d, o, q, k'⟩ ⟨k, hk', hk, ho, hM, hS⟩
  simp only at hk' ho hM hS
  subst hk' ho
  by_cases h4 : k < 4
  case neg =>
    right
    have : k = 4 := by omega
    subst this
    have c1 : ilt ((4 : Nat) : Int) 4 = false := ilt_ff (by omega)
    refine ⟨(d, o, q), by simp only [t_additiveref34_layers_L0, c1, Bool.false_eq_true, if_false], rfl, hM, fun c' j k' hj hlt hk4 hc' hn => ?_⟩
    exact hS c' j k' hj (by omega) hk4 hc' hn
  left
  have c1 : ilt (k : Int) 4 = true := ilt_tt (by omega)
  have c2 : inB (k : Int) 4 = true := by rw [inB_iff]; omega
  have hcu : ∀ c' : api_Cell, In r c' → last.l[i]? = some (sp x.l c' : Int) → c' = c := fun c' hc' hj => by
    rw [hz] at hj
    have := Int.ofNat_inj.1 (Option.some.inj hj)
    exact (sp_inj ((hm _).2 hc.1.inr) ((hm _).2 hc') this).symm
  by_cases hin : In r (nbr c k)
  · obtain ⟨e1, e2, e3⟩ := spz_in hm hin
    have hgk := hg k h4
    rw [e1] at hgk
    have c3 : ige (sp x.l (nbr c k) : Int) 0 = true := by rw [ige_iff]; omega
    have hdl : sp x.l (nbr c k) < d.l.length := by rw [hM.len]; exact e2
    have hdg := List.getElem?_eq_getElem hdl
    cases hbv : d.l[sp x.l (nbr c k)] with
    | true =>
      rw [hbv] at hdg
      refine ⟨(d, o, q, ((k + 1 : Nat) : Int)), ?_, ⟨k + 1, rfl, by omega, rfl, hM, fun c' j k' hj hlt hk4 hc' hn => ?_⟩, by simp only; omega⟩
      · simp only [t_additiveref34_layers_L0, c1, if_true, fget_nat hz, fget_nat hv, c2, hgk, c3, gOpt_tt, fget_nat hdg, Option.getD_some, bnot_t, band_f', Bool.false_eq_true, if_false, isucc (i := k) (by omega)]
      · by_cases hh : j < i ∨ j = i ∧ k' < k
        · exact hS c' j k' hj hh hk4 hc' hn
        · have : j = i ∧ k' = k := by omega
          obtain ⟨rfl, rfl⟩ := this
          rw [hcu c' hc' hj]
          exact hdg
    | false =>
      rw [hbv] at hdg
      have hql := More.qlen hL hb hm hlen ht hrow hM
      have hfit : fits 8 (flen q + 1) = true := fits_len (l := q.l) (by omega) (by omega)
      have hnot : ¬ ((∃ m, m ≤ D ∧ Dst r b m (nbr c k)) ∨ (sp x.l (nbr c k) : Int) ∈ q.l) := fun h => by
        have := (hM.done _ hin).2 h
        rw [hdg] at this
        cases this
      have hfar : Dst r b (D + 1) (nbr c k) := by
        have hw : Wk r b (D + 1) (nbr c k) := .step hc.1 hin ⟨k, h4, rfl⟩
        obtain ⟨m, hmd⟩ := Dst.ex hw
        have := hmd.2 _ hw
        by_cases hmD : m ≤ D
        · exact absurd (.inl ⟨m, hmD, hmd⟩) hnot
        · have : m = D + 1 := by omega
          subst this
          exact hmd
      refine ⟨(fset d (sp x.l (nbr c k)) true, o, fsnoc q (sp x.l (nbr c k)), ((k + 1 : Nat) : Int)), ?_, ⟨k + 1, rfl, by omega, rfl, ⟨?_, ?_, ?_, ?_⟩, fun c' j k' hj hlt hk4 hc' hn => ?_⟩, by simp only; omega⟩
      · simp only [t_additiveref34_layers_L0, c1, if_true, fget_nat hz, fget_nat hv, c2, hgk, c3, gOpt_tt, fget_nat hdg, Option.getD_some, bnot_f, band_t, hfit, isucc (i := k) (by omega)]
      · simp only [fset_len]; exact hM.len
      · simp only [fsnoc_l, List.nodup_append]
        exact ⟨hM.nd, by simp, fun u hu y hy => by
          rw [List.mem_singleton] at hy
          subst hy
          rintro rfl
          exact hnot (.inr hu)⟩
      · intro z hz'
        simp only [fsnoc_l, List.mem_append, List.mem_singleton] at hz'
        rcases hz' with hz' | rfl
        · exact hM.far z hz'
        · exact ⟨_, hfar, rfl⟩
      · intro c' hc'
        simp only [fsnoc_l, List.mem_append, List.mem_singleton, fset_l, Int.toNat_natCast]
        rw [List.getElem?_set]
        by_cases hsp : sp x.l (nbr c k) = sp x.l c'
        · rw [if_pos hsp, if_pos hdl]
          exact ⟨fun _ => .inr (.inr (by rw [hsp])), fun _ => rfl⟩
        · rw [if_neg hsp, hM.done c' hc']
          constructor
          · rintro (h | h)
            · exact .inl h
            · exact .inr (.inl h)
          · rintro (h | h | h)
            · exact .inl h
            · exact .inr h
            · exact absurd (Int.ofNat_inj.1 h).symm hsp
      · simp only [fset_l, Int.toNat_natCast]
        rw [List.getElem?_set]
        by_cases hsp : sp x.l (nbr c k) = sp x.l (nbr c' k')
        · rw [if_pos hsp, if_pos hdl]
        · rw [if_neg hsp]
          by_cases hh : j < i ∨ j = i ∧ k' < k
          · exact hS c' j k' hj hh hk4 hc' hn
          · have : j = i ∧ k' = k := by omega
            obtain ⟨rfl, rfl⟩ := this
            rw [hcu c' hc' hj] at hsp
            exact absurd rfl hsp
  · have hgk := hg k h4
    rw [spz_out hm hin] at hgk
    have c3 : ige (-1) 0 = false := rfl
    refine ⟨(d, o, q, ((k + 1 : Nat) : Int)), ?_, ⟨k + 1, rfl, by omega, rfl, hM, fun c' j k' hj hlt hk4 hc' hn => ?_⟩, by simp only; omega⟩
    · simp only [t_additiveref34_layers_L0, c1, if_true, fget_nat hz, fget_nat hv, c2, hgk, c3, gOpt_ff, band_f, Bool.false_eq_true, if_false, isucc (i := k) (by omega)]
    · by_cases hh : j < i ∨ j = i ∧ k' < k
      · exact hS c' j k' hj hh hk4 hc' hn
      · have : j = i ∧ k' = k := by omega
        obtain ⟨rfl, rfl⟩ := this
        rw [hcu c' hc' hj] at hn
        exact absurd hn hin
/-- All cells of a ring are at a distance; those at a distance are there. -/
def Rings (r : api_Region) (b : api_Cell) (x : FS api_Cell) (D : Nat) (o : FS (FS Int)) : Prop := o.l.length = D + 1 ∧ ∀ j, j ≤ D → ∃ q, o.l[j]? = some q ∧ Ring r b x j q
theorem layers_ring {D : Nat} {last : FS Int} (hlast : Ring r b x D last) (out : FS (FS Int)) (d0 : FS Bool) (h0 : More r b x D d0 .nil) :
    ∃ y : FS Bool × FS (FS Int) × FS Int, loopT (t_additiveref34_layers_L1 t last) bigN (d0, out, .nil, 0) = some y ∧ y.2.1 = out ∧ More r b x (D + 1) y.1 .nil ∧ Ring r b x (D + 1) y.2.2 := by
  have hll := hlast.1
  obtain ⟨⟨d, o, q⟩, e, ho, hM, hS⟩ := loop_ok (body := t_additiveref34_layers_L1 t last) (fun s => ∃ i : Nat, s.2.2.2 = i ∧ i ≤ last.l.length ∧ s.2.1 = out ∧ More r b x D s.1 s.2.2.1 ∧ Seen4 r x last s.1 i 0) (fun s => ((last.l.length : Int) - s.2.2.2).toNat)
    (fun y => y.2.1 = out ∧ More r b x D y.1 y.2.2 ∧ Seen4 r x last y.1 last.l.length 0)
    (by
      rintro ⟨d, o, q, i'⟩ ⟨i, hi', hi, ho, hM, hS⟩
      simp only at hi' ho hM hS
      subst hi' ho
      by_cases h : i < last.l.length
      · left
        have c1 : ilt (i : Int) (flen last) = true := ilt_tt (by rw [flen_eq]; omega)
        obtain ⟨⟨d', o', q'⟩, ey, ho', hM', hS'⟩ := layers_in hL hb hm hlen ht hrow hlast o i h d q hM hS
        simp only at ho' hM' hS'
        subst ho'
        refine ⟨(d', o', q', ((i + 1 : Nat) : Int)), ?_, ⟨i + 1, rfl, by omega, rfl, hM', hS'⟩, by simp only; omega⟩
        simp only [t_additiveref34_layers_L1, c1, if_true, ey, isucc (i := i) (by omega)]
      · right
        have : i = last.l.length := by omega
        subst this
        have c1 : ilt (last.l.length : Int) (flen last) = false := ilt_ff (by rw [flen_eq]; omega)
        exact ⟨(d, o, q), by simp only [t_additiveref34_layers_L1, c1, Bool.false_eq_true, if_false], rfl, hM, hS⟩)
    bigN (d0, out, .nil, 0) ⟨0, rfl, by omega, rfl, h0, fun c j k hj hlt => by omega⟩ (bigN_gt (by simp only; omega))
  simp only at ho hM hS
  have hall : ∀ c, Dst r b (D + 1) c → (sp x.l c : Int) ∈ q.l := fun c hc => by
    obtain ⟨ks, hw, hl, hn⟩ := wk_way hc.1
    match ks, hn with
    | k :: ks, hn =>
      have hkn : ks.length = D := by simpa using hn
      have h1 := Dst.tail hw hl (by rw [hkn]; exact hc)
      rw [hkn] at h1
      have hk := hw.1 k (by simp)
      have hback := nbr_opp c hk
      obtain ⟨j, hj, hje⟩ := List.getElem_of_mem ((hlast.2 _).2 ⟨_, h1, rfl⟩)
      have hlj := List.getElem?_eq_getElem hj
      rw [hje] at hlj
      have := hS (nbr c k) j (opp k) hlj (.inl hj) (opp_lt k) h1.1.inr (by rw [hback]; exact hc.1.inr)
      rw [hback, hM.done c hc.1.inr] at this
      rcases this with ⟨m, hmD, hmd⟩ | h
      · have := hmd.uniq hc
        omega
      · exact h
  refine ⟨(d, o, q), e, ho, ⟨hM.len, by simp [FS.l], fun z hz => by simp [FS.l] at hz, fun c hc => ?_⟩, More.qlen hL hb hm hlen ht hrow hM, fun z => ⟨fun hz => hM.far z hz, ?_⟩⟩
  · rw [hM.done c hc]
    constructor
    · rintro (⟨m, h1, h2⟩ | h)
      · exact .inl ⟨m, by omega, h2⟩
      · obtain ⟨c', hc', e'⟩ := hM.far _ h
        have := sp_inj ((hm _).2 hc) ((hm _).2 hc'.1.inr) (Int.ofNat_inj.1 e')
        subst this
        exact .inl ⟨D + 1, Nat.le_refl _, hc'⟩
    · rintro (⟨m, h1, h2⟩ | h)
      · by_cases hmD : m ≤ D
        · exact .inl ⟨m, hmD, h2⟩
        · have : m = D + 1 := by omega
          subst this
          exact .inr (hall c h2)
      · simp [FS.l] at h
  · rintro ⟨c, hc, rfl⟩
    exact hall c hc
theorem layers_ok : ∃ (D : Nat) (o : FS (FS Int)), t_additiveref34_layers t (sp x.l b : Int) = some o ∧ Rings r b x D o ∧ D ≤ 67108865 ∧ ∀ c n, Dst r b n c → n < D := by
  obtain ⟨eb1, eb2, eb3⟩ := spz_in hm hb
  have h1 : mkOK 1 (flen t) (flen t) = true := mkOK_1 (by rw [flen_eq]; omega) (by rw [flen_eq]; omega)
  have hrl : (frep false (flen t)).l.length = x.l.length := by rw [frep_l, List.length_replicate, flen_eq]; omega
  have hg0 : (frep false (flen t)).l[sp x.l b]? = some false := by rw [frep_l, List.getElem?_replicate, if_pos (by rw [flen_eq]; omega)]
  have H0 : More r b x 0 (fset (frep false (flen t)) (sp x.l b) true) .nil := ⟨by rw [fset_len]; exact hrl, by simp [FS.l], fun z hz => by simp [FS.l] at hz, fun c hc => by
    simp only [fset_l, Int.toNat_natCast, FS.l_nil, List.not_mem_nil, or_false]
    rw [List.getElem?_set]
    by_cases hsp : sp x.l b = sp x.l c
    · rw [if_pos hsp, if_pos (by rw [hrl]; exact eb2)]
      have := sp_inj ((hm _).2 hb) ((hm _).2 hc) hsp
      subst this
      exact ⟨fun _ => ⟨0, Nat.le_refl _, Dst.here hb⟩, fun _ => rfl⟩
    · rw [if_neg hsp, frep_l, List.getElem?_replicate]
      constructor
      · intro h; split at h <;> cases h
      · rintro ⟨m, hm0, hmd⟩
        have : m = 0 := by omega
        subst this
        rw [hmd.zero] at hsp
        exact absurd rfl hsp⟩
  have R0 : Rings r b x 0 (flit [flit [(sp x.l b : Int)]]) := ⟨rfl, fun j hj => by
    have : j = 0 := by omega
    subst this
    refine ⟨_, rfl, by simp only [flit_l, List.length_cons, List.length_nil]; omega, fun z => ?_⟩
    simp only [flit_l, List.mem_singleton]
    constructor
    · rintro rfl; exact ⟨b, Dst.here hb, rfl⟩
    · rintro ⟨c, hc, rfl⟩; rw [hc.zero]⟩
  obtain ⟨o, e, D, hR, hDl, hD⟩ := loop_ok (body := t_additiveref34_layers_L2 t) (fun s => ∃ D : Nat, Rings r b x D s.2 ∧ D ≤ 67108865 ∧ More r b x D s.1 .nil) (fun s => 67108868 - s.2.l.length)
    (fun o => ∃ D : Nat, Rings r b x D o ∧ D ≤ 67108865 ∧ ∀ c n, Dst r b n c → n < D)
    (by
      rintro ⟨d, o⟩ ⟨D, hR, hDl, hM⟩
      simp only at hR hM
      obtain ⟨last, hlast, hring⟩ := hR.2 D (Nat.le_refl _)
      have hol := hR.1
      have e1 : isub .i64 (flen o) 1 = (D : Int) := by rw [flen_eq, isub_eq (by omega) (by omega)]; omega
      by_cases hne : 0 < last.l.length
      · left
        have c1 : igt (flen last) 0 = true := igt_tt (by rw [flen_eq]; omega)
        obtain ⟨c, hc, -⟩ := (hring.2 _).1 (List.getElem_mem hne)
        have hDb : D ≤ 67108864 := by
          obtain ⟨m, u, hu, hcu⟩ := Qc_has hL hb hc
          obtain ⟨-, -, -, -, h⟩ := Qc_dd hL hb hu
          rw [hcu, dd_eq hc] at h; exact h
        obtain ⟨⟨d', o', q⟩, ey, ho', hM', hQ⟩ := layers_ring hL hb hm hlen ht hrow hring o d hM
        simp only at ho' hM' hQ
        subst ho'
        have hfit : fits 24 (flen o' + 1) = true := fits_len (l := o'.l) (by omega) (by omega)
        refine ⟨(d', fsnoc o' q), ?_, ⟨D + 1, ⟨by simp only [fsnoc_l, List.length_append, List.length_cons, List.length_nil]; omega, fun j hj => ?_⟩, by omega, hM'⟩, by simp only [fsnoc_l, List.length_append, List.length_cons, List.length_nil]; omega⟩
        · simp only [t_additiveref34_layers_L2, e1, fget_nat hlast, c1, if_true, ey, hfit]
        · simp only [fsnoc_l]
          by_cases hjD : j ≤ D
          · obtain ⟨q', hq', hr'⟩ := hR.2 j hjD
            exact ⟨q', by rw [List.getElem?_append_left (by omega)]; exact hq', hr'⟩
          · have : j = o'.l.length := by omega
            subst this
            refine ⟨q, by simp, ?_⟩
            rw [hol]; exact hQ
      · right
        have c1 : igt (flen last) 0 = false := igt_ff (by rw [flen_eq]; omega)
        refine ⟨o, by simp only [t_additiveref34_layers_L2, e1, fget_nat hlast, c1, Bool.false_eq_true, if_false], D, hR, hDl, fun c n hn => ?_⟩
        by_cases hlt : n < D
        · exact hlt
        · exfalso
          have hex : ∀ (k : Nat) (c : api_Cell), Dst r b (D + k) c → ∃ c', Dst r b D c' := by
            intro k
            induction k with
            | zero => intro c hc; exact ⟨c, hc⟩
            | succ k ih =>
              intro c hc
              obtain ⟨ks, hw, hl, hkn⟩ := wk_way hc.1
              match ks, hkn with
              | i :: ks, hkn =>
                have hkn : ks.length = D + k := by simp only [List.length_cons] at hkn; omega
                have h1 := Dst.tail hw hl (by rw [hkn]; exact hc)
                rw [hkn] at h1
                exact ih _ h1
          obtain ⟨c', hc'⟩ := hex (n - D) c (by rw [show D + (n - D) = n by omega]; exact hn)
          have := List.length_pos_of_mem ((hring.2 _).2 ⟨c', hc', rfl⟩)
          exact hne this)
    bigN (fset (frep false (flen t)) (sp x.l b) true, flit [flit [(sp x.l b : Int)]]) ⟨0, R0, by omega, H0⟩ (bigN_gt (by simp only; omega))
  refine ⟨D, flst o, ?_, ?_, hDl, hD⟩
  · unfold t_additiveref34_layers
    rw [h1, if_pos rfl, fget_nat hg0]
    simp only [e]
  · unfold Rings at hR ⊢; rw [flst_l]; exact hR
end
end Go.Proofs.Ytchiiiahgmfofaa
