/- emit: the moves lead through the cells, in plain Lean. Conditions: none. -/
import Derived.Test.YtchiiiahgmfofaaQv
namespace Go.Proofs.Ytchiiiahgmfofaa
open Go Go.Vv Go.Proofs
set_option linter.unusedSimpArgs false
set_option linter.unusedVariables false
set_option linter.unusedSectionVars false
set_option maxRecDepth 10000
def hasX (c : api_Cmd) : Bool := ine (iand .i64 c.Has 1) 0
def hasY (c : api_Cmd) : Bool := ine (iand .i64 c.Has 2) 0
theorem tX : ine (iand .i64 3 1) 0 = true ∧ ine (iand .i64 3 2) 0 = true ∧ ine (iand .i64 11 1) 0 = true ∧ ine (iand .i64 11 2) 0 = true ∧ ine (iand .i64 8 1) 0 = false ∧ ine (iand .i64 4 1) 0 = false ∧ ine (iand .i64 0 1) 0 = false ∧ ine (iand .i64 32 1) 0 = false := by decide
def tw (a b : Int) : Int := if a < b then a + 1 else if b < a then a - 1 else a
def stp (a b : api_Cell) : api_Cell := ⟨tw a.X b.X, tw a.Y b.Y⟩
/-- Exactly one coordinate differs. -/
def Axis (a b : api_Cell) : Prop := (a.X = b.X ∧ a.Y ≠ b.Y) ∨ (a.X ≠ b.X ∧ a.Y = b.Y)
/-- The cells on the way from a to b. -/
inductive Ln : api_Cell → api_Cell → List api_Cell → Prop
  | nil (a : api_Cell) : Ln a a []
  | cons (a b : api_Cell) (w : List api_Cell) (h : a ≠ b) (r : Ln (stp a b) b w) : Ln a b (stp a b :: w)
/-- Moves from a to the cells of a list, through other cells. -/
inductive Mv : api_Cell → List api_Cell → List api_Cell → api_Cell → Prop
  | nil (a : api_Cell) : Mv a [] [] a
  | cons {a b c : api_Cell} {bs w1 w2 : List api_Cell} (ha : OnG a) (hb : OnG b) (hx : Axis a b) (h : Ln a b w1) (r : Mv b bs w2 c) : Mv a (b :: bs) (w1 ++ w2) c
/-- Commands that lead from a through cells. -/
inductive Fo (s : api_Settings) : api_Cell → List api_Cmd → List api_Cell → api_Cell → Prop
  | nil (a : api_Cell) : Fo s a [] [] a
  | skip {a b : api_Cell} {c : api_Cmd} {r : List api_Cmd} {w : List api_Cell} (h : hasX c = false) (t : Fo s a r w b) : Fo s a (c :: r) w b
  | move {a b d : api_Cell} {c : api_Cmd} {r : List api_Cmd} {w1 w2 : List api_Cell} (h : hasX c = true) (hy : hasY c = true) (ex : c.X = ctr s b.X) (ey : c.Y = ctr s b.Y) (ha : OnG a) (hb : OnG b) (hx : Axis a b) (l : Ln a b w1) (t : Fo s b r w2 d) : Fo s a (c :: r) (w1 ++ w2) d
theorem Fo.trans {s : api_Settings} {a b d : api_Cell} {l m : List api_Cmd} {w v : List api_Cell} (h : Fo s a l w b) (h2 : Fo s b m v d) : Fo s a (l ++ m) (w ++ v) d := by
  induction h with
  | nil a => exact h2
  | skip h t ih => exact .skip h (ih h2)
  | move h hy ex ey ha hb hx l t ih =>
    rw [List.append_assoc]
    exact .move h hy ex ey ha hb hx l (ih h2)
def Nr (a b : api_Cell) : Prop := (a.X = b.X ∧ (b.Y = a.Y + 1 ∨ b.Y = a.Y - 1)) ∨ (a.Y = b.Y ∧ (b.X = a.X + 1 ∨ b.X = a.X - 1))
theorem cell_ext {a b : api_Cell} (h1 : a.X = b.X) (h2 : a.Y = b.Y) : a = b := by
  obtain ⟨x, y⟩ := a
  obtain ⟨x', y'⟩ := b
  simp only at h1 h2
  rw [h1, h2]
theorem Nr.ax {a b : api_Cell} (h : Nr a b) : Axis a b := by unfold Nr at h; unfold Axis; omega
theorem Axis.ne {a b : api_Cell} (h : Axis a b) : a ≠ b := by rintro rfl; unfold Axis at h; omega
theorem tw_self (a : Int) : tw a a = a := by unfold tw; rw [if_neg (by omega), if_neg (by omega)]
theorem Nr.stp {a b : api_Cell} (h : Nr a b) : stp a b = b := by
  apply cell_ext
  · show tw a.X b.X = b.X
    unfold tw; unfold Nr at h
    split
    · omega
    · split <;> omega
  · show tw a.Y b.Y = b.Y
    unfold tw; unfold Nr at h
    split
    · omega
    · split <;> omega
theorem Nr.ln {a b : api_Cell} (h : Nr a b) : Ln a b [b] := by
  have e := Ln.cons a b [] h.ax.ne (by rw [h.stp]; exact .nil b)
  rw [h.stp] at e
  exact e
def Chn : api_Cell → List api_Cell → Prop
  | _, [] => True
  | a, c :: r => Nr a c ∧ Chn c r
/-- The cells of the corners. -/
def cornC : List api_Cell → api_Cell → List api_Cell
  | [], _ => []
  | [c], _ => [c]
  | c :: d :: r, a => if turnB a c d = true then c :: cornC (d :: r) c else cornC (d :: r) c
theorem corn_map (L : List api_Cell) : ∀ (l : List api_Cell) (a : api_Cell) (i : Nat), L.drop i = l → (corn l a i).map (cellAt L) = cornC l a
  | [], a, i, h => rfl
  | [c], a, i, h => by
    obtain ⟨g1, -, -, -⟩ := get_drop h
    simp only [corn, cornC, List.map_singleton]
    unfold cellAt
    rw [g1]; rfl
  | c :: d :: r, a, i, h => by
    obtain ⟨g1, g2, -, -⟩ := get_drop h
    have ih := corn_map L (d :: r) c (i + 1) g2
    have e : cellAt L i = c := by unfold cellAt; rw [g1]; rfl
    rw [corn, cornC]
    split
    · rw [List.map_cons, ih, e]
    · exact ih
theorem cornC_ne : ∀ (l : List api_Cell) (a : api_Cell), l ≠ [] → cornC l a ≠ []
  | [], a, h => absurd rfl h
  | [c], a, h => by simp [cornC]
  | c :: d :: r, a, h => by
    rw [cornC]
    split
    · simp
    · exact cornC_ne (d :: r) c (by simp)
theorem turn_no {a c d : api_Cell} (ha : OnG a) (hc : OnG c) (hd : OnG d) (h : ¬ turnB a c d = true) : d.X - c.X = c.X - a.X ∧ d.Y - c.Y = c.Y - a.Y := by
  obtain ⟨a0, a1, a2, a3⟩ := ha
  obtain ⟨c0, c1, c2, c3⟩ := hc
  obtain ⟨d0, d1, d2, d3⟩ := hd
  unfold turnB u_emit_direction at h
  simp only at h
  rw [isub_eq (by omega) (by omega), isub_eq (by omega) (by omega), isub_eq (by omega) (by omega), isub_eq (by omega) (by omega)] at h
  have h' : band (ieq (c.X - a.X) (d.X - c.X)) (band (ieq (c.Y - a.Y) (d.Y - c.Y)) true) = true := by
    cases hb : band (ieq (c.X - a.X) (d.X - c.X)) (band (ieq (c.Y - a.Y) (d.Y - c.Y)) true) with
    | true => rfl
    | false => rw [hb] at h; exact absurd rfl h
  simp only [band_iff, ieq_iff] at h'
  omega
/-- One step back along a straight way. -/
theorem ln_back {a c d b : api_Cell} {w : List api_Cell} (h1 : Nr a c) (hx : d.X - c.X = c.X - a.X) (hy : d.Y - c.Y = c.Y - a.Y) (hA : Axis c b) (hl : Ln c b w) (hw : ∃ t, w = d :: t) : Axis a b ∧ Ln a b (c :: w) := by
  obtain ⟨t, rfl⟩ := hw
  have hd : d = stp c b := by cases hl; rfl
  have ex : d.X = tw c.X b.X := by rw [hd]; rfl
  have ey : d.Y = tw c.Y b.Y := by rw [hd]; rfl
  unfold tw at ex ey
  unfold Nr at h1
  have hA' := hA
  unfold Axis at hA'
  have k : Axis a b ∧ stp a b = c := by
    constructor
    · unfold Axis
      split at ex <;> split at ey <;> first | omega | (split at ex <;> first | omega | (split at ey <;> omega)) | (split at ey <;> omega)
    · apply cell_ext
      · show tw a.X b.X = c.X
        unfold tw
        split at ex <;> split at ey <;> first | (split <;> first | omega | (split <;> omega)) | (split at ex <;> first | (split <;> first | omega | (split <;> omega)) | (split at ey <;> split <;> first | omega | (split <;> omega))) | (split at ey <;> split <;> first | omega | (split <;> omega))
      · show tw a.Y b.Y = c.Y
        unfold tw
        split at ex <;> split at ey <;> first | (split <;> first | omega | (split <;> omega)) | (split at ex <;> first | (split <;> first | omega | (split <;> omega)) | (split at ey <;> split <;> first | omega | (split <;> omega))) | (split at ey <;> split <;> first | omega | (split <;> omega))
  refine ⟨k.1, ?_⟩
  have := Ln.cons a b (d :: t) k.1.ne (by rw [k.2]; exact hl)
  rw [k.2] at this
  exact this
theorem corn_mv : ∀ (l : List api_Cell) (a : api_Cell), OnG a → (∀ c ∈ l, OnG c) → Chn a l → Mv a (cornC l a) l (l.getLastD a)
  | [], a, ha, hl, hc => .nil a
  | [c], a, ha, hl, hc => Mv.cons (w1 := [c]) (w2 := []) ha (hl c (by simp)) hc.1.ax hc.1.ln (.nil c)
  | c :: d :: r, a, ha, hl, hc => by
    have hgc := hl c (by simp)
    have hgd := hl d (by simp)
    have ih := corn_mv (d :: r) c hgc (fun x hx => hl x (by simp at hx ⊢; rcases hx with hx | hx <;> simp [hx])) hc.2
    rw [List.getLastD_cons]
    rw [cornC]
    split
    · exact Mv.cons (w1 := [c]) ha hgc hc.1.ax hc.1.ln ih
    · rename_i ht
      obtain ⟨t1, t2⟩ := turn_no ha hgc hgd ht
      cases hcc : cornC (d :: r) c with
      | nil => exact absurd hcc (cornC_ne _ _ (by simp))
      | cons b bs =>
        rw [hcc] at ih
        generalize hw : d :: r = W at ih
        cases ih with
        | cons h1 h2 h3 h4 h5 =>
          rename_i w1 w2
          have hd1 : ∃ t, w1 = d :: t := by
            cases h4 with
            | nil => exact absurd rfl h3.ne
            | cons _ _ w _ _ =>
              rw [List.cons_append] at hw
              exact ⟨w, by rw [(List.cons.inj hw).1]⟩
          obtain ⟨k1, k2⟩ := ln_back hc.1 t1 t2 h3 h4 hd1
          have := Mv.cons ha h2 k1 k2 h5
          rw [List.cons_append] at this
          exact this
theorem xy_tbl : ∀ h ∈ [(4 : Int), 3, 8, 11], ine (iand .i64 (h + 16) 1) 0 = ine (iand .i64 h 1) 0 ∧ ine (iand .i64 (h + 16) 2) 0 = ine (iand .i64 h 2) 0 := by decide
theorem spd_xy {q : RawC} (hq : RawOK q) (fd : Int) : hasX (spd fd q.1 q.2) = hasX q.1 ∧ hasY (spd fd q.1 q.2) = hasY q.1 ∧ (spd fd q.1 q.2).X = q.1.X ∧ (spd fd q.1 q.2).Y = q.1.Y := by
  unfold spd
  split
  · rename_i hs
    obtain ⟨-, ⟨h0, h1⟩ | ⟨h0, h1⟩⟩ := hq
    · exact absurd h0 hs.1
    · have hm : q.1.Has ∈ [(4 : Int), 3, 8, 11] := by
        simp only [List.mem_cons, List.not_mem_nil, or_false, Prod.mk.injEq] at h1 ⊢
        omega
      obtain ⟨t1, t2⟩ := xy_tbl _ hm
      exact ⟨t1, t2, rfl, rfl⟩
  · exact ⟨rfl, rfl, rfl, rfl⟩
theorem fo_emit {s : api_Settings} {b : api_Cell} : ∀ (l : List RawC) (fd : Int) (a : api_Cell) (w : List api_Cell), (∀ q ∈ l, RawOK q) → Fo s a (l.map Prod.fst) w b → Fo s a (emitL fd l) w b
  | [], fd, a, w, _, h => h
  | q :: l, fd, a, w, hq, h => by
    obtain ⟨e1, e2, e3, e4⟩ := spd_xy (hq q (by simp)) fd
    rw [List.map_cons] at h
    have hq' : ∀ x ∈ l, RawOK x := fun x hx => hq x (by simp [hx])
    cases h with
    | skip h t => exact .skip (by rw [e1]; exact h) (fo_emit l _ a w hq' t)
    | move h hy ex ey ha hb hx l1 t => exact .move (by rw [e1]; exact h) (by rw [e2]; exact hy) (by rw [e3]; exact ex) (by rw [e4]; exact ey) ha hb hx l1 (fo_emit l _ _ _ hq' t)
theorem fo_map {s : api_Settings} {b : api_Cell} (g : Nat → RawC) (cell : Nat → api_Cell) (hg : ∀ k, hasX (g k).1 = true ∧ hasY (g k).1 = true ∧ (g k).1.X = ctr s (cell k).X ∧ (g k).1.Y = ctr s (cell k).Y) : ∀ (ks : List Nat) (a : api_Cell) (w : List api_Cell), Mv a (ks.map cell) w b → Fo s a ((ks.map g).map Prod.fst) w b
  | [], a, w, h => by cases h; exact .nil _
  | k :: ks, a, w, h => by
    obtain ⟨g1, g2, g3, g4⟩ := hg k
    rw [List.map_cons] at h
    cases h with
    | cons ha hb hx l r => exact .move g1 g2 g3 g4 ha hb hx l (fo_map g cell hg ks _ _ r)
def nearB (a b : api_Cell) : Bool := band (band (band (band (ige (isub .i64 a.X b.X) (-1)) (ile (isub .i64 a.X b.X) 1)) (ige (isub .i64 a.Y b.Y) (-1))) (ile (isub .i64 a.Y b.Y) 1)) (ieq (iadd .i64 (imul .i64 (isub .i64 a.X b.X) (isub .i64 a.X b.X)) (imul .i64 (isub .i64 a.Y b.Y) (isub .i64 a.Y b.Y))) 1)
theorem near_nr {a b : api_Cell} (ha : OnG a) (hb : OnG b) (h : nearB a b = true) : Nr a b := by
  obtain ⟨a0, a1, a2, a3⟩ := ha
  obtain ⟨b0, b1, b2, b3⟩ := hb
  unfold nearB at h
  rw [isub_eq (by omega) (by omega), isub_eq (by omega) (by omega)] at h
  simp only [band_iff, ige_iff, ile_iff, ieq_iff] at h
  obtain ⟨⟨⟨⟨h1, h2⟩, h3⟩, h4⟩, h5⟩ := h
  unfold Nr
  generalize hx : a.X - b.X = x at h1 h2 h5
  generalize hy : a.Y - b.Y = y at h3 h4 h5
  have cx : x = -1 ∨ x = 0 ∨ x = 1 := by omega
  have cy : y = -1 ∨ y = 0 ∨ y = 1 := by omega
  rcases cx with rfl | rfl | rfl <;> rcases cy with rfl | rfl | rfl <;> first | omega | (exact absurd h5 (by decide))
open Classical in
/-- The cells of an operation that are visited, and where it ends. -/
noncomputable def visC : Bool → List api_Cell → api_Cell → List api_Cell → Option (List api_Cell × api_Cell)
  | _, [], a, out => some (out, a)
  | k, c :: r, a, out => if k = true ∧ c = a then visC false r a out else if nearB a c = true then visC false r c (out ++ [c]) else none
noncomputable def visOps : List api_Op → api_Cell → List api_Cell → Option (List api_Cell)
  | [], _, out => some out
  | o :: r, a, out =>
    if o.Kind = 2 ∨ o.Kind = 3 then
      match visC (decide (o.Kind = 3)) o.Cells.l a out with
      | none => none
      | some q => visOps r q.2 q.1
    else visOps r a out
theorem visC_ne {k : Bool} {c a : api_Cell} {r out : List api_Cell} (h : ¬ (k = true ∧ c = a)) : visC k (c :: r) a out = visC false (c :: r) a out := by
  unfold visC
  rw [if_neg h, if_neg (show ¬ (false = true ∧ c = a) by simp)]
theorem vis_chn : ∀ (l : List api_Cell) (a : api_Cell) (out v : List api_Cell) (b : api_Cell), OnG a → (∀ c ∈ l, OnG c) → visC false l a out = some (v, b) → v = out ++ l ∧ Chn a l ∧ b = l.getLastD a
  | [], a, out, v, b, ha, hl, h => by
    rw [visC] at h
    cases h
    exact ⟨by simp, trivial, rfl⟩
  | c :: r, a, out, v, b, ha, hl, h => by
    rw [visC, if_neg (by simp)] at h
    split at h
    · rename_i hn
      have hc := hl c (by simp)
      obtain ⟨e1, e2, e3⟩ := vis_chn r c _ v b hc (fun x hx => hl x (by simp [hx])) h
      refine ⟨by rw [e1, List.append_assoc, List.singleton_append], ⟨near_nr ha hc hn, e2⟩, ?_⟩
      rw [List.getLastD_cons, e3]
    · cases h
theorem last_at (a : api_Cell) : ∀ (l : List api_Cell), l ≠ [] → cellAt l (l.length - 1) = l.getLastD a := by
  intro l h
  unfold cellAt
  rw [List.getLastD_eq_getLast?, List.getLast?_eq_getElem?]
  have : l.length - 1 < l.length := by have := List.length_pos_iff.2 h; omega
  rw [List.getElem?_eq_getElem this]
  rfl
theorem corn_fo {s : api_Settings} {a : api_Cell} {l : List api_Cell} (g : Nat → RawC) (cell : Nat → api_Cell) (hc : ∀ k, cell k = cellAt l k) (hg : ∀ k, hasX (g k).1 = true ∧ hasY (g k).1 = true ∧ (g k).1.X = ctr s (cell k).X ∧ (g k).1.Y = ctr s (cell k).Y) (ha : OnG a) (hl : ∀ c ∈ l, OnG c) (hn : Chn a l) : Fo s a (((corn l a 0).map g).map Prod.fst) l (l.getLastD a) := by
  apply fo_map g cell hg
  have e : cell = cellAt l := funext hc
  rw [e, corn_map l l a 0 rfl]
  exact corn_mv l a ha hl hn
theorem op_fo {s : api_Settings} {o : api_Op} {e : Int} {a : api_Cell} {n : Nat} {q : List RawC} (hr : rawOp s o e a n = some q) (hk : o.Kind = 2 ∨ o.Kind = 3) (ha : OnG a) (hg : ∀ c ∈ o.Cells.l, OnG c) {out v : List api_Cell} {b : api_Cell} (hv : visC (decide (o.Kind = 3)) o.Cells.l a out = some (v, b)) :
    ∃ w, v = out ++ w ∧ b = atAfter o a ∧ Fo s a (q.map Prod.fst) w b := by
  unfold rawOp at hr
  rw [if_neg (by omega), if_pos hk] at hr
  unfold atAfter
  by_cases hc : o.Cells.l = []
  · rw [if_pos hc] at hr
    cases hr
    rw [hc, visC] at hv
    cases hv
    rw [if_neg (by simp [hc])]
    exact ⟨[], by simp, rfl, .nil _⟩
  · rw [if_neg hc] at hr
    rw [if_pos ⟨hk, hc⟩, last_at a _ hc]
    split at hr
    · cases hr
      by_cases k2 : o.Kind = 2
      · rw [if_pos k2]
        have : decide (o.Kind = 3) = false := by rw [decide_eq_false_iff_not]; omega
        rw [this] at hv
        obtain ⟨e1, e2, e3⟩ := vis_chn _ _ _ _ _ ha hg hv
        refine ⟨_, e1, e3, ?_⟩
        rw [e3]
        exact corn_fo _ (cellAt o.Cells.l) (fun k => rfl) (fun k => ⟨tX.1, tX.2.1, rfl, rfl⟩) ha hg e2
      · rw [if_neg k2]
        have : decide (o.Kind = 3) = true := by rw [decide_eq_true_eq]; omega
        rw [this] at hv
        cases hcl : o.Cells.l with
        | nil => exact absurd hcl hc
        | cons c r =>
          rw [hcl] at hv hg
          have e0 : cellAt o.Cells.l 0 = c := by rw [hcl]; rfl
          unfold rawP
          rw [e0]
          by_cases hca : c = a
          · rw [if_pos hca]
            rw [visC, if_pos ⟨rfl, hca⟩] at hv
            obtain ⟨e1, e2, e3⟩ := vis_chn _ _ _ _ _ ha (fun x hx => hg x (by simp [hx])) hv
            refine ⟨_, e1, by rw [e3, List.getLastD_cons, hca], ?_⟩
            rw [e3, List.map_cons]
            refine .skip tX.2.2.2.2.1 ?_
            unfold rawQ
            have ed : o.Cells.l.drop 1 = r := by rw [hcl]; rfl
            rw [ed]
            exact corn_fo _ (fun k => cellAt o.Cells.l (1 + k)) (fun k => by simp only [cellAt, hcl, Nat.add_comm 1 k, List.getElem?_cons_succ]) (fun k => ⟨tX.2.2.1, tX.2.2.2.1, rfl, rfl⟩) ha (fun x hx => hg x (by simp [hx])) e2
          · rw [if_neg hca]
            rw [visC_ne (by simp [hca])] at hv
            obtain ⟨e1, e2, e3⟩ := vis_chn _ _ _ _ _ ha hg hv
            refine ⟨_, e1, e3, ?_⟩
            rw [e3]
            unfold rawQ
            rw [List.drop_zero, hcl]
            exact corn_fo _ (fun k => cellAt (c :: r) (0 + k)) (fun k => by rw [Nat.zero_add]) (fun k => ⟨tX.2.2.1, tX.2.2.2.1, rfl, rfl⟩) ha hg e2
    · cases hr
theorem op_fo0 {s : api_Settings} {o : api_Op} {e : Int} {a : api_Cell} {n : Nat} {q : List RawC} (hr : rawOp s o e a n = some q) (hk : ¬ (o.Kind = 2 ∨ o.Kind = 3)) : Fo s a (q.map Prod.fst) [] a ∧ atAfter o a = a := by
  refine ⟨?_, by unfold atAfter; rw [if_neg (fun h => hk h.1)]⟩
  unfold rawOp at hr
  by_cases k1 : o.Kind = 1
  · rw [if_pos k1] at hr; cases hr; exact .skip tX.2.2.2.2.2.1 (.nil _)
  · rw [if_neg k1, if_neg hk] at hr
    by_cases k4 : o.Kind = 4 ∨ o.Kind = 5
    · rw [if_pos k4] at hr; cases hr; exact .skip tX.2.2.2.2.1 (.nil _)
    · rw [if_neg k4] at hr
      by_cases k6 : o.Kind = 6
      · rw [if_pos k6] at hr
        cases hr
        by_cases k0 : o.Speed = 0
        · rw [if_pos k0]; exact .skip tX.2.2.2.2.2.2.1 (.nil _)
        · rw [if_neg k0]; exact .skip tX.2.2.2.2.2.2.2 (.nil _)
      · rw [if_neg k6] at hr
        cases hr; exact .nil _
theorem run_fo {s : api_Settings} (hs : OkS s) : ∀ (l : List api_Op) (es : List Int) (a : api_Cell) (n : Nat) (fd : Int) (out o' : List api_Cmd) (vout v : List api_Cell), OnG a → cmdsR s l es a n fd out = some o' → visOps l a vout = some v →
    ∃ t w b, o' = out ++ t ∧ v = vout ++ w ∧ Fo s a t w b
  | [], es, a, n, fd, out, o', vout, v, ha, hC, hv => by
    unfold cmdsR at hC
    cases hC
    rw [visOps] at hv
    cases hv
    exact ⟨[], [], a, by simp, by simp, .nil a⟩
  | o :: r, es, a, n, fd, out, o', vout, v, ha, hC, hv => by
    unfold cmdsR at hC
    split at hC
    · rename_i hg
      split at hC
      · cases hC
      · rename_i q hq
        split at hC
        · have hok := rawOp_ok hs hq
          rw [visOps] at hv
          split at hv
          · rename_i hk
            split at hv
            · cases hv
            · rename_i p hp
              obtain ⟨w, e1, e2, e3⟩ := op_fo (v := p.1) (b := p.2) hq hk ha hg hp
              have hga : OnG p.2 := by
                rw [e2]
                unfold atAfter
                split
                · rename_i hh
                  have : o.Cells.l.length - 1 < o.Cells.l.length := by have := List.length_pos_iff.2 hh.2; omega
                  exact hg _ (List.mem_of_getElem? (cellAt_get this))
                · exact ha
              rw [← e2] at hC
              obtain ⟨t, w', b, f1, f2, f3⟩ := run_fo hs r _ _ _ _ _ _ _ _ hga hC hv
              exact ⟨emitL fd q ++ t, w ++ w', b, by rw [f1, List.append_assoc], by rw [f2, e1, List.append_assoc], (fo_emit q fd a w hok e3).trans f3⟩
          · rename_i hk
            obtain ⟨e1, e2⟩ := op_fo0 hq hk
            rw [e2] at hC
            obtain ⟨t, w', b, f1, f2, f3⟩ := run_fo hs r _ _ _ _ _ _ _ _ ha hC hv
            exact ⟨emitL fd q ++ t, w', b, by rw [f1, List.append_assoc], f2, (fo_emit q fd a [] hok e1).trans f3⟩
        · cases hC
    · cases hC
end Go.Proofs.Ytchiiiahgmfofaa
