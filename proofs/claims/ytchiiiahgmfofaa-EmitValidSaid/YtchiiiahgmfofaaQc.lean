/- emit: the commands of one operation, in plain Lean. Conditions: none. -/
import Derived.Test.YtchiiiahgmfofaaQb
namespace Go.Proofs.Ytchiiiahgmfofaa
open Go Go.Vv Go.Proofs
set_option linter.unusedSimpArgs false
set_option linter.unusedVariables false
set_option linter.unusedSectionVars false
set_option maxRecDepth 10000
/-- A command without its speed word, and the speed (0: none). -/
abbrev RawC := api_Cmd × Int
def spd (feed : Int) (c : api_Cmd) (f : Int) : api_Cmd := if f ≠ 0 ∧ f ≠ feed then ⟨c.Code, c.Has + 16, c.X, c.Y, c.Z, c.E, f, c.S⟩ else c
def spf (feed f : Int) : Int := if f ≠ 0 then f else feed
def emitL : Int → List RawC → List api_Cmd
  | _, [] => []
  | fd, q :: r => spd fd q.1 q.2 :: emitL (spf fd q.2) r
def feedL : Int → List RawC → Int
  | fd, [] => fd
  | fd, q :: r => feedL (spf fd q.2) r
theorem emitL_snoc (q : RawC) : ∀ (l : List RawC) (fd : Int), emitL fd (l ++ [q]) = emitL fd l ++ [spd (feedL fd l) q.1 q.2]
  | [], fd => rfl
  | x :: l, fd => by simp only [List.cons_append, emitL, feedL, emitL_snoc q l]
theorem feedL_snoc (q : RawC) : ∀ (l : List RawC) (fd : Int), feedL fd (l ++ [q]) = spf (feedL fd l) q.2
  | [], fd => rfl
  | x :: l, fd => by simp only [List.cons_append, feedL, feedL_snoc q l]
theorem emitL_len : ∀ (l : List RawC) (fd : Int), (emitL fd l).length = l.length
  | [], fd => rfl
  | x :: l, fd => by simp only [emitL, List.length_cons, emitL_len l]
theorem emitL_append : ∀ (l m : List RawC) (fd : Int), emitL fd (l ++ m) = emitL fd l ++ emitL (feedL fd l) m
  | [], m, fd => rfl
  | x :: l, m, fd => by simp only [List.cons_append, emitL, feedL, emitL_append l m]
/-- The raw commands that are made. -/
def RawOK (q : RawC) : Prop := q.1.F = 0 ∧ ((q.2 = 0 ∧ (q.1.Code, q.1.Has) ∈ [((1 : Int), (8 : Int)), (1107, 0), (1106, 32)]) ∨ (0 < q.2 ∧ (q.1.Code, q.1.Has) ∈ [((0 : Int), (4 : Int)), (0, 3), (1, 8), (1, 11)]))
theorem spd_pair {q : RawC} (h : RawOK q) (fd : Int) : Pair (spd fd q.1 q.2) := by
  obtain ⟨-, ⟨h0, h1⟩ | ⟨h0, h1⟩⟩ := h
  · have : spd fd q.1 q.2 = q.1 := by unfold spd; rw [if_neg (by omega)]
    rw [this]
    unfold Pair kinds
    simp only [List.mem_cons, List.not_mem_nil, or_false] at h1 ⊢
    rcases h1 with h1 | h1 | h1 <;> simp [h1]
  · simp only [List.mem_cons, List.not_mem_nil, or_false, Prod.mk.injEq] at h1
    unfold Pair kinds spd
    split
    · rcases h1 with ⟨a, b⟩ | ⟨a, b⟩ | ⟨a, b⟩ | ⟨a, b⟩ <;> simp [a, b]
    · rcases h1 with ⟨a, b⟩ | ⟨a, b⟩ | ⟨a, b⟩ | ⟨a, b⟩ <;> simp [a, b]
theorem ior_tbl : ∀ h ∈ [(4 : Int), 3, 8, 11], ior .i64 h 16 = h + 16 := by decide
def FeedR (p : emit_emitter) (fd : Int) : Prop := (p.has = false ∧ fd = 0) ∨ (p.has = true ∧ p.speed = fd ∧ 0 < fd)
/-- The emitter's state. -/
structure EmS (s : api_Settings) (n : Nat) (a : api_Cell) (fd : Int) (out : List api_Cmd) (ok : Prop) (p : emit_emitter) : Prop where
  set : p.settings = s
  cel : p.cells = (n : Int)
  noz : p.nozzle = a
  fee : FeedR p fd
  yes : ok → p.code = 0 ∧ p.out.l = out
  no : ¬ ok → p.code = 8
theorem eta_em (p : emit_emitter) : (⟨p.settings, p.amount, p.cells, p.nozzle, p.speed, p.has, p.out, p.code⟩ : emit_emitter) = p := rfl
theorem add_ok {s : api_Settings} {n : Nat} {a : api_Cell} {fd : Int} {out : List api_Cmd} {ok : Prop} {p : emit_emitter} (h : EmS s n a fd out ok p) (hout : out.length ≤ 1000000) {c : api_Cmd} (hP : Pair c) :
    ∃ p2, t_emit_emitter_add p c = some p2 ∧ EmS s n a fd (out ++ [c]) (ok ∧ Vld c) p2 ∧ p2.amount = p.amount := by
  by_cases hok : ok
  · obtain ⟨h0, h1⟩ := h.yes hok
    obtain ⟨v, ev, hv⟩ := Valid_ok hP
    have c1 : ine p.code 0 = false := by rw [h0]; rfl
    unfold t_emit_emitter_add
    rw [c1, ev]
    cases v with
    | false =>
      have hn : ¬ Vld c := fun hh => by have := hv.2 hh; cases this
      exact ⟨_, rfl, ⟨h.set, h.cel, h.noz, h.fee, fun hh => absurd hh.2 hn, fun _ => rfl⟩, rfl⟩
    | true =>
      have hf : fits 64 (flen p.out + 1) = true := fits_len (l := p.out.l) (by rw [h1]; omega) (by omega)
      have hvv := hv.1 rfl
      simp only [Bool.false_eq_true, if_false, bnot_t, hf, if_true]
      exact ⟨_, rfl, ⟨h.set, h.cel, h.noz, h.fee, fun _ => ⟨h0, by simp only [fsnoc_l, h1]⟩, fun hh => absurd ⟨hok, hvv⟩ hh⟩, rfl⟩
  · have h0 := h.no hok
    have c1 : ine p.code 0 = true := by rw [h0]; rfl
    unfold t_emit_emitter_add
    rw [c1]
    exact ⟨_, rfl, ⟨h.set, h.cel, h.noz, h.fee, fun hh => absurd hh.1 hok, fun _ => h0⟩, rfl⟩
theorem fast_ok {s : api_Settings} {n : Nat} {a : api_Cell} {fd : Int} {out : List api_Cmd} {ok : Prop} {p : emit_emitter} (h : EmS s n a fd out ok p) {c : api_Cmd} {f : Int} (hf : 0 < f) (hF : c.F = 0) (hH : c.Has ∈ [(4 : Int), 3, 8, 11]) :
    ∃ p1, t_emit_emitter_fast p c f = some (spd fd c f, p1) ∧ EmS s n a f out ok p1 ∧ p1.amount = p.amount := by
  have hi := ior_tbl _ hH
  have g : ∀ p1 : emit_emitter, p1.settings = p.settings → p1.cells = p.cells → p1.nozzle = p.nozzle → p1.out = p.out → p1.code = p.code → p1.has = true → p1.speed = f → EmS s n a f out ok p1 := fun p1 a1 a2 a3 a4 a5 a6 a7 =>
    ⟨by rw [a1]; exact h.set, by rw [a2]; exact h.cel, by rw [a3]; exact h.noz, .inr ⟨a6, a7, hf⟩, by rw [a4, a5]; exact h.yes, by rw [a5]; exact h.no⟩
  have big : bor (bnot p.has) (ine f p.speed) = true → spd fd c f = ⟨c.Code, c.Has + 16, c.X, c.Y, c.Z, c.E, f, c.S⟩ → ∃ p1, t_emit_emitter_fast p c f = some (spd fd c f, p1) ∧ EmS s n a f out ok p1 ∧ p1.amount = p.amount := fun h1 h2 => by
    refine ⟨⟨p.settings, p.amount, p.cells, p.nozzle, f, true, p.out, p.code⟩, ?_, g _ rfl rfl rfl rfl rfl rfl rfl, rfl⟩
    unfold t_emit_emitter_fast
    rw [h1, h2, hi, if_pos rfl]
  rcases h.fee with ⟨h1, h2⟩ | ⟨h1, h2, h3⟩
  · exact big (by rw [h1]; simp [bor, bnot]) (by unfold spd; rw [if_pos ⟨by omega, by omega⟩])
  · by_cases e : f = fd
    · refine ⟨p, ?_, g p rfl rfl rfl rfl rfl h1 (by rw [h2, e]), rfl⟩
      have c1 : bor (bnot p.has) (ine f p.speed) = false := by rw [h1, h2, e]; simp [ine, bnot, bor]
      unfold t_emit_emitter_fast spd
      rw [c1, if_neg (by simp), if_neg (by omega)]
    · exact big (by rw [h1, h2, bor_iff, ine_iff]; exact .inr e) (by unfold spd; rw [if_pos ⟨by omega, e⟩])
/-- The center of a cell, in one coordinate. -/
def ctr (s : api_Settings) (v : Int) : Int := v * s.Pitch + s.Pitch / 2
theorem Center_ok {s : api_Settings} (hs : OkS s) {c : api_Cell} (hc : OnG c) : t_raster_Center c s.Pitch = some ⟨ctr s c.X, ctr s c.Y⟩ := by
  have hp0 := hs.p0
  have hp1 := hs.p1
  obtain ⟨x0, x1, y0, y1⟩ := hc
  have g : ∀ v : Int, -4096 ≤ v → v < 4096 → u_raster_onGrid v = true ∧ u_raster_center v s.Pitch = ctr s v := fun v h0 h1 => by
    have m0 : -4096 * 1024 ≤ v * s.Pitch := by
      have a1 : -4096 * s.Pitch ≤ v * s.Pitch := Int.mul_le_mul_of_nonneg_right h0 (by omega)
      omega
    have m1 : v * s.Pitch ≤ 4096 * 1024 := by
      have a1 : v * s.Pitch ≤ 4096 * s.Pitch := Int.mul_le_mul_of_nonneg_right (by omega) (by omega)
      omega
    refine ⟨by simp only [u_raster_onGrid, band_iff, ige_iff, ilt_iff]; omega, ?_⟩
    unfold u_raster_center ctr
    rw [iquo_eq (by omega) (by omega) (by omega), imul_eq (by omega) (by omega), iadd_eq (by omega) (by omega)]
  obtain ⟨a1, a2⟩ := g c.X x0 x1
  obtain ⟨b1, b2⟩ := g c.Y y0 y1
  have c1 : ilt s.Pitch 32 = false := ilt_ff (by omega)
  have c2 : igt s.Pitch 1024 = false := igt_ff (by omega)
  unfold t_raster_Center
  rw [a1, b1, c1, c2, a2, b2]
  rfl
def cellAt (l : List api_Cell) (k : Nat) : api_Cell := l[k]?.getD ⟨0, 0⟩
theorem cellAt_get {l : List api_Cell} {k : Nat} (h : k < l.length) : l[k]? = some (cellAt l k) := by
  unfold cellAt; rw [List.getElem?_eq_getElem h]; rfl
def mv (s : api_Settings) (code has : Int) (c : api_Cell) (e : Int) : api_Cmd := ⟨code, has, ctr s c.X, ctr s c.Y, 0, e, 0, 0⟩
def rawT (s : api_Settings) (o : api_Op) (a : api_Cell) : List RawC := (corn o.Cells.l a 0).map fun k => (mv s 0 3 (cellAt o.Cells.l k) 0, o.Speed * s.Pitch)
def rawQ (s : api_Settings) (o : api_Op) (a : api_Cell) (n first : Nat) : List RawC := (corn (o.Cells.l.drop first) a 0).map fun k => (mv s 1 11 (cellAt o.Cells.l (first + k)) (fil s (n + (first + k + 1))), o.Speed * s.Pitch)
open Classical in
noncomputable def rawP (s : api_Settings) (o : api_Op) (a : api_Cell) (n : Nat) : List RawC := if cellAt o.Cells.l 0 = a then (⟨1, 8, 0, 0, 0, fil s (n + 1), 0, 0⟩, o.Speed * s.Pitch) :: rawQ s o a n 1 else rawQ s o a n 0
/-- The raw commands of an operation; none: an error. -/
noncomputable def rawOp (s : api_Settings) (o : api_Op) (e : Int) (a : api_Cell) (n : Nat) : Option (List RawC) :=
  if o.Kind = 1 then some [(⟨0, 4, 0, 0, o.Z, 0, 0, 0⟩, s.Travel)]
  else if o.Kind = 2 ∨ o.Kind = 3 then
    if o.Cells.l = [] then some []
    else if 1 ≤ o.Speed ∧ o.Speed ≤ 1048576 then some (if o.Kind = 2 then rawT s o a else rawP s o a n) else none
  else if o.Kind = 4 ∨ o.Kind = 5 then some [(⟨1, 8, 0, 0, 0, e, 0, 0⟩, 0)]
  else if o.Kind = 6 then some [(if o.Speed = 0 then ⟨1107, 0, 0, 0, 0, 0, 0, 0⟩ else ⟨1106, 32, 0, 0, 0, 0, 0, o.Speed⟩, 0)]
  else some []
def atAfter (o : api_Op) (a : api_Cell) : api_Cell := if (o.Kind = 2 ∨ o.Kind = 3) ∧ o.Cells.l ≠ [] then cellAt o.Cells.l (o.Cells.l.length - 1) else a
def celAfter (o : api_Op) (n : Nat) : Nat := if o.Kind = 3 then n + o.Cells.l.length else n
/-- All commands so far are valid. -/
def AllV (l : List api_Cmd) : Prop := ∀ c ∈ l, Vld c
theorem allV_snoc (l : List api_Cmd) (c : api_Cmd) : AllV (l ++ [c]) ↔ AllV l ∧ Vld c := by
  unfold AllV
  constructor
  · intro h; exact ⟨fun d hd => h d (by simp [hd]), h c (by simp)⟩
  · rintro ⟨h1, h2⟩ d hd
    rw [List.mem_append, List.mem_singleton] at hd
    rcases hd with hd | rfl
    · exact h1 d hd
    · exact h2
theorem EmS.congr {s : api_Settings} {n : Nat} {a : api_Cell} {fd fd' : Int} {out out' : List api_Cmd} {ok ok' : Prop} {p : emit_emitter} (h : EmS s n a fd out ok p) (h1 : fd = fd') (h2 : out = out') (h3 : ok ↔ ok') : EmS s n a fd' out' ok' p := by
  subst h1 h2
  exact ⟨h.set, h.cel, h.noz, h.fee, fun hh => h.yes (h3.2 hh), fun hh => h.no (fun h' => hh (h3.1 h'))⟩
theorem spf_pos {fd f : Int} (h : 0 < f) : spf fd f = f := by unfold spf; rw [if_pos (by omega)]
section
variable {s : api_Settings} (hv : u_flow_Valid s = true) {o : api_Op} (hg : ∀ c ∈ o.Cells.l, OnG c) (h40 : o.Cells.l.length ≤ 40) (hsp : 1 ≤ o.Speed ∧ o.Speed ≤ 1048576)
include hv hg h40 hsp
theorem speed_ok : imul .i64 o.Speed s.Pitch = o.Speed * s.Pitch ∧ 0 < o.Speed * s.Pitch := by
  have hs := okS_of hv
  have hp0 := hs.p0
  have hp1 := hs.p1
  have h0 : 1 * 32 ≤ o.Speed * s.Pitch := Int.mul_le_mul hsp.1 hp0 (by omega) (by omega)
  have h1 : o.Speed * s.Pitch ≤ 1048576 * 1024 := Int.mul_le_mul hsp.2 hp1 (by omega) (by omega)
  exact ⟨imul_eq (by omega) (by omega), by omega⟩
theorem travel_loop {n : Nat} {a : api_Cell} {fd : Int} {out : List api_Cmd} {ok : Prop} {p : emit_emitter} (hp : EmS s n a fd out ok p) (hout : out.length ≤ 10000) {y : FS Int} (hy : y.l = (corn o.Cells.l a 0).map fun k : Nat => (k : Int)) :
    ∃ q, loopT (t_emit_emitter_travel_L0 o y (flen y)) bigN (p, 0) = some q ∧ EmS s n a (feedL fd (rawT s o a)) (out ++ emitL fd (rawT s o a)) (ok ∧ AllV (emitL fd (rawT s o a))) q := by
  have hs := okS_of hv
  obtain ⟨e1, e2⟩ := speed_ok hv hg h40 hsp
  have hyl : y.l.length = (rawT s o a).length := by rw [hy]; simp [rawT]
  have hcl := corn_len o.Cells.l a 0
  have hrl : (rawT s o a).length ≤ 40 := by unfold rawT; rw [List.length_map]; omega
  refine loop_ok (body := t_emit_emitter_travel_L0 o y (flen y)) (fun t => ∃ j : Nat, t.2 = j ∧ j ≤ (rawT s o a).length ∧ EmS s n a (feedL fd ((rawT s o a).take j)) (out ++ emitL fd ((rawT s o a).take j)) (ok ∧ AllV (emitL fd ((rawT s o a).take j))) t.1)
    (fun t => (((rawT s o a).length : Int) - t.2).toNat) _ ?_ bigN (p, 0) ⟨0, rfl, by omega, hp.congr rfl (by simp [emitL]) ⟨fun h => ⟨h, fun c hc => by simp [emitL] at hc⟩, fun h => h.1⟩⟩ (bigN_gt (by simp only; omega))
  rintro ⟨q, j'⟩ ⟨j, hj', hj, hq⟩
  simp only at hj' hq
  subst hj'
  by_cases h : j < (rawT s o a).length
  · left
    have c1 : ilt (j : Int) (flen y) = true := ilt_tt (by rw [flen_eq]; omega)
    have hjc : j < (corn o.Cells.l a 0).length := by unfold rawT at h; rw [List.length_map] at h; exact h
    have hyj : y.l[j]? = some (((corn o.Cells.l a 0)[j] : Nat) : Int) := by rw [hy, List.getElem?_map, List.getElem?_eq_getElem hjc]; rfl
    have hk := corn_lt o.Cells.l a 0 _ (List.getElem_mem hjc)
    generalize hkk : (corn o.Cells.l a 0)[j] = k at hyj hk
    have hck := cellAt_get (l := o.Cells.l) (k := k) (by omega)
    have hgk := hg _ (List.mem_of_getElem? hck)
    have hraw : (rawT s o a)[j] = (mv s 0 3 (cellAt o.Cells.l k) 0, o.Speed * s.Pitch) := by simp only [rawT, List.getElem_map, hkk]
    have hto : t_emit_emitter_to q 0 (cellAt o.Cells.l k) = some (mv s 0 3 (cellAt o.Cells.l k) 0) := by
      unfold t_emit_emitter_to
      rw [hq.set, Center_ok hs hgk]
      rfl
    have htk : (rawT s o a).take (j + 1) = (rawT s o a).take j ++ [(mv s 0 3 (cellAt o.Cells.l k) 0, o.Speed * s.Pitch)] := by rw [List.take_succ_eq_append_getElem h, hraw]
    have hol : (out ++ emitL fd ((rawT s o a).take j)).length ≤ 1000000 := by rw [List.length_append, emitL_len, List.length_take]; omega
    obtain ⟨p1, f1, f2, -⟩ := fast_ok hq (c := mv s 0 3 (cellAt o.Cells.l k) 0) e2 rfl (by simp [mv])
    obtain ⟨p2, g1, g2, -⟩ := add_ok f2 hol (c := spd (feedL fd ((rawT s o a).take j)) (mv s 0 3 (cellAt o.Cells.l k) 0) (o.Speed * s.Pitch)) (spd_pair (q := (mv s 0 3 (cellAt o.Cells.l k) 0, o.Speed * s.Pitch)) ⟨rfl, .inr ⟨e2, by simp [mv]⟩⟩ _)
    have e1q : imul .i64 o.Speed q.settings.Pitch = o.Speed * s.Pitch := by rw [hq.set]; exact e1
    refine ⟨(p2, ((j + 1 : Nat) : Int)), ?_, ⟨j + 1, rfl, by omega, ?_⟩, by simp only; omega⟩
    · simp only [t_emit_emitter_travel_L0, c1, if_true, fget_nat hyj, fget_nat hck, eta_em, hto, e1q, f1, g1, isucc (i := j) (by omega)]
    · rw [htk, emitL_snoc, feedL_snoc]
      refine g2.congr (spf_pos e2).symm (by simp) ?_
      rw [allV_snoc]
      exact ⟨fun hh => ⟨hh.1.1, hh.1.2, hh.2⟩, fun hh => ⟨⟨hh.1, hh.2.1⟩, hh.2.2⟩⟩
  · right
    have c1 : ilt (j : Int) (flen y) = false := ilt_ff (by rw [flen_eq]; omega)
    have ht : (rawT s o a).take j = rawT s o a := List.take_of_length_le (by omega)
    rw [ht] at hq
    exact ⟨q, by simp only [t_emit_emitter_travel_L0, c1, Bool.false_eq_true, if_false, eta_em], hq⟩
theorem print_loop {n first : Nat} (hn : n ≤ 2000) (hfi : first ≤ 1) {a : api_Cell} {fd : Int} {out : List api_Cmd} {ok : Prop} {p : emit_emitter} (hp : EmS s n a fd out ok p) (hout : out.length ≤ 10000) {y : FS Int} (hy : y.l = (corn (o.Cells.l.drop first) a 0).map fun k : Nat => (k : Int)) :
    ∃ q, loopT (t_emit_emitter_print_L0 o (o.Speed * s.Pitch) (first : Int) y (flen y)) bigN (p, 0) = some q ∧ EmS s n a (feedL fd (rawQ s o a n first)) (out ++ emitL fd (rawQ s o a n first)) (ok ∧ AllV (emitL fd (rawQ s o a n first))) q := by
  have hs := okS_of hv
  obtain ⟨e1, e2⟩ := speed_ok hv hg h40 hsp
  have hyl : y.l.length = (rawQ s o a n first).length := by rw [hy]; simp [rawQ]
  have hcl := corn_len (o.Cells.l.drop first) a 0
  rw [List.length_drop] at hcl
  have hrl : (rawQ s o a n first).length ≤ 40 := by unfold rawQ; rw [List.length_map]; omega
  refine loop_ok (body := t_emit_emitter_print_L0 o (o.Speed * s.Pitch) (first : Int) y (flen y)) (fun t => ∃ j : Nat, t.2 = j ∧ j ≤ (rawQ s o a n first).length ∧ EmS s n a (feedL fd ((rawQ s o a n first).take j)) (out ++ emitL fd ((rawQ s o a n first).take j)) (ok ∧ AllV (emitL fd ((rawQ s o a n first).take j))) t.1)
    (fun t => (((rawQ s o a n first).length : Int) - t.2).toNat) _ ?_ bigN (p, 0) ⟨0, rfl, by omega, hp.congr rfl (by simp [emitL]) ⟨fun h => ⟨h, fun c hc => by simp [emitL] at hc⟩, fun h => h.1⟩⟩ (bigN_gt (by simp only; omega))
  rintro ⟨q, j'⟩ ⟨j, hj', hj, hq⟩
  simp only at hj' hq
  subst hj'
  by_cases h : j < (rawQ s o a n first).length
  · left
    have c1 : ilt (j : Int) (flen y) = true := ilt_tt (by rw [flen_eq]; omega)
    have hjc : j < (corn (o.Cells.l.drop first) a 0).length := by unfold rawQ at h; rw [List.length_map] at h; exact h
    have hyj : y.l[j]? = some (((corn (o.Cells.l.drop first) a 0)[j] : Nat) : Int) := by rw [hy, List.getElem?_map, List.getElem?_eq_getElem hjc]; rfl
    have hk := corn_lt (o.Cells.l.drop first) a 0 _ (List.getElem_mem hjc)
    rw [List.length_drop] at hk
    generalize hkk : (corn (o.Cells.l.drop first) a 0)[j] = k at hyj hk
    have hck := cellAt_get (l := o.Cells.l) (k := first + k) (by omega)
    have hgk := hg _ (List.mem_of_getElem? hck)
    have i1 : iadd .i64 (first : Int) (k : Int) = ((first + k : Nat) : Int) := by rw [iadd_eq (by omega) (by omega)]; omega
    have i2 : iadd .i64 ((first + k : Nat) : Int) 1 = ((first + k + 1 : Nat) : Int) := isucc (by omega)
    have hraw : (rawQ s o a n first)[j] = (mv s 1 11 (cellAt o.Cells.l (first + k)) (fil s (n + (first + k + 1))), o.Speed * s.Pitch) := by simp only [rawQ, List.getElem_map, hkk]
    have hto : t_emit_emitter_to q 1 (cellAt o.Cells.l (first + k)) = some (mv s 1 3 (cellAt o.Cells.l (first + k)) 0) := by
      unfold t_emit_emitter_to
      rw [hq.set, Center_ok hs hgk]
      rfl
    have hfil : t_emit_emitter_filament q ((first + k + 1 : Nat) : Int) = some (fil s (n + (first + k + 1))) := by
      have := filament_ok q (by rw [hq.set]; exact hv) hq.cel (k := first + k + 1) (by omega)
      rwa [hq.set] at this
    have hcmd : (⟨(mv s 1 3 (cellAt o.Cells.l (first + k)) 0).Code, ior .i64 (mv s 1 3 (cellAt o.Cells.l (first + k)) 0).Has 8, (mv s 1 3 (cellAt o.Cells.l (first + k)) 0).X, (mv s 1 3 (cellAt o.Cells.l (first + k)) 0).Y, (mv s 1 3 (cellAt o.Cells.l (first + k)) 0).Z, fil s (n + (first + k + 1)), (mv s 1 3 (cellAt o.Cells.l (first + k)) 0).F, (mv s 1 3 (cellAt o.Cells.l (first + k)) 0).S⟩ : api_Cmd) = mv s 1 11 (cellAt o.Cells.l (first + k)) (fil s (n + (first + k + 1))) := by
      have : ior .i64 3 8 = 11 := by decide
      simp only [mv, this]
    generalize hcc : mv s 1 11 (cellAt o.Cells.l (first + k)) (fil s (n + (first + k + 1))) = cc at hraw hcmd
    have htk : (rawQ s o a n first).take (j + 1) = (rawQ s o a n first).take j ++ [(cc, o.Speed * s.Pitch)] := by rw [List.take_succ_eq_append_getElem h, hraw]
    have hol : (out ++ emitL fd ((rawQ s o a n first).take j)).length ≤ 1000000 := by rw [List.length_append, emitL_len, List.length_take]; omega
    have hccF : cc.F = 0 := by rw [← hcc]; rfl
    have hccH : cc.Has = 11 := by rw [← hcc]; rfl
    have hccC : cc.Code = 1 := by rw [← hcc]; rfl
    obtain ⟨p1, f1, f2, -⟩ := fast_ok hq (c := cc) e2 hccF (by rw [hccH]; simp)
    obtain ⟨p2, g1, g2, -⟩ := add_ok f2 hol (c := spd (feedL fd ((rawQ s o a n first).take j)) cc (o.Speed * s.Pitch)) (spd_pair (q := (cc, o.Speed * s.Pitch)) ⟨hccF, .inr ⟨e2, by simp [hccC, hccH]⟩⟩ _)
    refine ⟨(p2, ((j + 1 : Nat) : Int)), ?_, ⟨j + 1, rfl, by omega, ?_⟩, by simp only; omega⟩
    · simp only [t_emit_emitter_print_L0, c1, if_true, fget_nat hyj, i1, fget_nat hck, eta_em, hto, i2, hfil, hcmd, f1, g1, isucc (i := j) (by omega)]
    · rw [htk, emitL_snoc, feedL_snoc]
      refine g2.congr (spf_pos e2).symm (by simp) ?_
      rw [allV_snoc]
      exact ⟨fun hh => ⟨hh.1.1, hh.1.2, hh.2⟩, fun hh => ⟨⟨hh.1, hh.2.1⟩, hh.2.2⟩⟩
  · right
    have c1 : ilt (j : Int) (flen y) = false := ilt_ff (by rw [flen_eq]; omega)
    have ht : (rawQ s o a n first).take j = rawQ s o a n first := List.take_of_length_le (by omega)
    rw [ht] at hq
    exact ⟨q, by simp only [t_emit_emitter_print_L0, c1, Bool.false_eq_true, if_false, eta_em], hq⟩
end
theorem fsl_drop {α : Type} {x : FS α} {i : Nat} (h : i ≤ x.l.length) (hx : x.l ≠ []) : ∃ y, fsl x (i : Int) (flen x) = some y ∧ y.l = x.l.drop i := by
  cases x with
  | nil => simp [FS.l] at hx
  | lst l =>
    simp only [FS.l] at h
    refine ⟨.lst ((l.drop (i : Int).toNat).take (flen (.lst l : FS α) - (i : Int)).toNat), ?_, ?_⟩
    · have hc : (0:Int) ≤ (i : Int) ∧ (i : Int) ≤ flen (.lst l : FS α) ∧ flen (.lst l : FS α) ≤ flen (.lst l : FS α) := by simp only [flen, FS.l]; omega
      simp only [fsl]
      exact if_pos hc
    · simp only [FS.l, flen, Int.toNat_natCast]
      rw [List.take_of_length_le]
      rw [List.length_drop]; omega
theorem moves_ok (p : emit_emitter) (o : api_Op) (hl : o.Cells.l.length ≤ 40) : t_emit_emitter_moves p o = some (if o.Cells.l = [] then (false, p) else if 1 ≤ o.Speed ∧ o.Speed ≤ 1048576 then (true, p) else (false, { p with code := 8 })) := by
  unfold t_emit_emitter_moves
  by_cases h0 : o.Cells.l = []
  · have c1 : ieq (flen o.Cells) 0 = true := by rw [ieq_iff, flen_eq, h0]; rfl
    rw [c1, if_pos rfl, if_pos h0]
  · have c1 : ieq (flen o.Cells) 0 = false := ieq_ff (by rw [flen_eq]; have := List.length_pos_iff.2 h0; omega)
    rw [c1, if_neg (by simp), if_neg h0]
    by_cases h1 : 1 ≤ o.Speed ∧ o.Speed ≤ 1048576
    · have c2 : bor (ilt o.Speed 1) (igt o.Speed 1048576) = false := by rw [← Bool.not_eq_true, bor_iff, ilt_iff, igt_iff]; omega
      rw [c2, if_neg (by simp), if_pos h1]
    · have c2 : bor (ilt o.Speed 1) (igt o.Speed 1048576) = true := by rw [bor_iff, ilt_iff, igt_iff]; omega
      rw [c2, if_pos rfl, if_neg h1]
/-- What an operation leaves. -/
def OpRes (s : api_Settings) (n : Nat) (a : api_Cell) (fd : Int) (out : List api_Cmd) (o : api_Op) : Option (List RawC) → emit_emitter → Prop
  | none, p => p.code = 8
  | some q, p => EmS s (celAfter o n) (atAfter o a) (feedL fd q) (out ++ emitL fd q) (AllV (emitL fd q)) p
theorem q_cell {a b : api_Cell} : band (ieq a.X b.X) (band (ieq a.Y b.Y) true) = true ↔ a = b := by
  simp only [band_iff, ieq_iff]
  constructor
  · intro h; cases a; cases b; simp_all
  · rintro rfl; simp
section
variable {s : api_Settings} (hv : u_flow_Valid s = true) {n : Nat} (hn : n ≤ 2000) {a : api_Cell} {fd : Int} {out : List api_Cmd} (hout : out.length ≤ 5000) {p : emit_emitter} (hp : EmS s n a fd out True p) {o : api_Op} (hg : ∀ c ∈ o.Cells.l, OnG c) (h40 : o.Cells.l.length ≤ 40)
include hv hn hout hp hg h40
theorem last_ok (h0 : o.Cells.l ≠ []) : fget o.Cells (isub .i64 (flen o.Cells) 1) = some (cellAt o.Cells.l (o.Cells.l.length - 1)) := by
  have := List.length_pos_iff.2 h0
  have e : isub .i64 (flen o.Cells) 1 = ((o.Cells.l.length - 1 : Nat) : Int) := by rw [flen_eq, isub_eq (by omega) (by omega)]; omega
  rw [e]
  exact fget_nat (cellAt_get (by omega))
theorem EmS.t {ok : Prop} {fd' : Int} {out' : List api_Cmd} {q : emit_emitter} (h : EmS s n a fd' out' (True ∧ ok) q) : EmS s n a fd' out' ok q := h.congr rfl rfl ⟨fun x => x.2, fun x => ⟨trivial, x⟩⟩
theorem travel_op (hk : o.Kind = 2) (e : Int) : ∃ q, t_emit_emitter_travel p o = some q ∧ OpRes s n a fd out o (rawOp s o e a n) q := by
  have hr : rawOp s o e a n = if o.Cells.l = [] then some [] else if 1 ≤ o.Speed ∧ o.Speed ≤ 1048576 then some (rawT s o a) else none := by
    unfold rawOp; rw [if_neg (by omega), if_pos (.inl hk), if_pos hk]
  have hc : celAfter o n = n := by unfold celAfter; rw [if_neg (by omega)]
  unfold t_emit_emitter_travel
  rw [eta_em, moves_ok p o h40, hr]
  by_cases h0 : o.Cells.l = []
  · rw [if_pos h0, if_pos h0]
    have ha : atAfter o a = a := by unfold atAfter; rw [if_neg (fun h => h.2 h0)]
    refine ⟨p, rfl, ?_⟩
    show EmS s (celAfter o n) (atAfter o a) _ _ _ p
    rw [hc, ha]
    exact hp.congr rfl (by simp [emitL]) ⟨fun _ c hc => by simp [emitL] at hc, fun _ => trivial⟩
  · rw [if_neg h0, if_neg h0]
    have ha : atAfter o a = cellAt o.Cells.l (o.Cells.l.length - 1) := by unfold atAfter; rw [if_pos ⟨.inl hk, h0⟩]
    by_cases h1 : 1 ≤ o.Speed ∧ o.Speed ≤ 1048576
    · rw [if_pos h1, if_pos h1]
      obtain ⟨y, ey, hy⟩ := turns_ok o.Cells a (by omega)
      obtain ⟨q, eq, hq⟩ := travel_loop hv hg h40 h1 hp (by omega) hy
      have hq := EmS.t hv hn hout hp hg h40 hq
      have hl := last_ok hv hn hout hp hg h40 h0
      refine ⟨{ q with nozzle := cellAt o.Cells.l (o.Cells.l.length - 1) }, ?_, ?_⟩
      · have ey' : t_emit_turns o.Cells p.nozzle = some y := by rw [hp.noz]; exact ey
        simp only [bnot_t, Bool.false_eq_true, if_false, ey', eta_em, eq, hl]
      · show EmS s (celAfter o n) (atAfter o a) _ _ _ _
        rw [hc, ha]
        exact ⟨hq.set, hq.cel, rfl, hq.fee, hq.yes, hq.no⟩
    · rw [if_neg h1, if_neg h1]
      exact ⟨_, rfl, rfl⟩
theorem print_op (hk : o.Kind = 3) (e : Int) : ∃ q, t_emit_emitter_print p o = some q ∧ OpRes s n a fd out o (rawOp s o e a n) q := by
  have hr : rawOp s o e a n = if o.Cells.l = [] then some [] else if 1 ≤ o.Speed ∧ o.Speed ≤ 1048576 then some (rawP s o a n) else none := by
    unfold rawOp; rw [if_neg (by omega), if_pos (.inr hk), if_neg (show ¬ o.Kind = 2 by omega)]
  have hc : celAfter o n = n + o.Cells.l.length := by unfold celAfter; rw [if_pos hk]
  unfold t_emit_emitter_print
  rw [eta_em, moves_ok p o h40, hr]
  by_cases h0 : o.Cells.l = []
  · rw [if_pos h0, if_pos h0]
    have ha : atAfter o a = a := by unfold atAfter; rw [if_neg (fun h => h.2 h0)]
    refine ⟨p, rfl, ?_⟩
    show EmS s (celAfter o n) (atAfter o a) _ _ _ p
    rw [hc, ha, h0]
    exact hp.congr rfl (by simp [emitL]) ⟨fun _ c hc => by simp [emitL] at hc, fun _ => trivial⟩
  · rw [if_neg h0, if_neg h0]
    have ha : atAfter o a = cellAt o.Cells.l (o.Cells.l.length - 1) := by unfold atAfter; rw [if_pos ⟨.inr hk, h0⟩]
    have hpos := List.length_pos_iff.2 h0
    by_cases h1 : 1 ≤ o.Speed ∧ o.Speed ≤ 1048576
    · rw [if_pos h1, if_pos h1]
      obtain ⟨e1, e2⟩ := speed_ok hv hg h40 h1
      have hl := last_ok hv hn hout hp hg h40 h0
      have hfirst : fget o.Cells 0 = some (cellAt o.Cells.l 0) := fget_nat (i := 0) (cellAt_get hpos)
      by_cases ht : cellAt o.Cells.l 0 = a
      · have hrp : rawP s o a n = (⟨1, 8, 0, 0, 0, fil s (n + 1), 0, 0⟩, o.Speed * s.Pitch) :: rawQ s o a n 1 := by unfold rawP; rw [if_pos ht]
        have c1 : band (ieq (cellAt o.Cells.l 0).X p.nozzle.X) (band (ieq (cellAt o.Cells.l 0).Y p.nozzle.Y) true) = true := q_cell.2 (by rw [hp.noz]; exact ht)
        have hfil : t_emit_emitter_filament p 1 = some (fil s (n + 1)) := by
          have := filament_ok p (by rw [hp.set]; exact hv) hp.cel (k := 1) (by omega)
          rwa [hp.set] at this
        obtain ⟨p1, f1, f2, -⟩ := fast_ok hp (c := ⟨1, 8, 0, 0, 0, fil s (n + 1), 0, 0⟩) e2 rfl (by simp)
        obtain ⟨p2, g1, g2, -⟩ := add_ok f2 (by omega) (c := spd fd ⟨1, 8, 0, 0, 0, fil s (n + 1), 0, 0⟩ (o.Speed * s.Pitch)) (spd_pair (q := (⟨1, 8, 0, 0, 0, fil s (n + 1), 0, 0⟩, o.Speed * s.Pitch)) ⟨rfl, .inr ⟨e2, by simp⟩⟩ _)
        obtain ⟨z, ez, hz⟩ := fsl_drop (x := o.Cells) (i := 1) (by omega) h0
        obtain ⟨y, ey, hy⟩ := turns_ok z a (by rw [hz, List.length_drop]; omega)
        rw [hz] at hy
        obtain ⟨q, eq, hq⟩ := print_loop hv hg h40 h1 hn (first := 1) (by omega) g2 (by rw [List.length_append]; simp; omega) hy
        refine ⟨{ q with cells := iadd .i64 q.cells (flen o.Cells), nozzle := cellAt o.Cells.l (o.Cells.l.length - 1) }, ?_, ?_⟩
        · have ey' : t_emit_turns z p2.nozzle = some y := by rw [g2.noz]; exact ey
          have e1p : imul .i64 o.Speed p.settings.Pitch = o.Speed * s.Pitch := by rw [hp.set]; exact e1
          rw [show ((1 : Nat) : Int) = 1 from rfl] at ez eq
          simp only [bnot_t, Bool.false_eq_true, if_false, hfirst, c1, if_true, eta_em, hfil, e1p, f1, g1, ez, ey', eq, hl]
        · show EmS s (celAfter o n) (atAfter o a) _ _ _ _
          rw [hc, ha, hrp]
          have hce : iadd .i64 q.cells (flen o.Cells) = ((n + o.Cells.l.length : Nat) : Int) := by rw [hq.cel, flen_eq, iadd_eq (by omega) (by omega)]; omega
          have hq' : EmS s n a (feedL fd ((⟨1, 8, 0, 0, 0, fil s (n + 1), 0, 0⟩, o.Speed * s.Pitch) :: rawQ s o a n 1)) (out ++ emitL fd ((⟨1, 8, 0, 0, 0, fil s (n + 1), 0, 0⟩, o.Speed * s.Pitch) :: rawQ s o a n 1)) (AllV (emitL fd ((⟨1, 8, 0, 0, 0, fil s (n + 1), 0, 0⟩, o.Speed * s.Pitch) :: rawQ s o a n 1))) q := by
            refine hq.congr ?_ ?_ ?_
            · simp only [feedL, spf_pos e2]
            · simp only [emitL, spf_pos e2, List.append_assoc, List.singleton_append]
            · simp only [emitL, spf_pos e2, AllV, List.mem_cons, forall_eq_or_imp, true_and]
          exact ⟨hq'.set, hce, rfl, hq'.fee, hq'.yes, hq'.no⟩
      · have hrp : rawP s o a n = rawQ s o a n 0 := by unfold rawP; rw [if_neg ht]
        have c1 : band (ieq (cellAt o.Cells.l 0).X p.nozzle.X) (band (ieq (cellAt o.Cells.l 0).Y p.nozzle.Y) true) = false := by rw [← Bool.not_eq_true, q_cell, hp.noz]; exact ht
        obtain ⟨z, ez, hz⟩ := fsl_drop (x := o.Cells) (i := 0) (by omega) h0
        obtain ⟨y, ey, hy⟩ := turns_ok z a (by rw [hz, List.length_drop]; omega)
        rw [hz] at hy
        obtain ⟨q, eq, hq⟩ := print_loop hv hg h40 h1 hn (first := 0) (by omega) hp (by omega) hy
        have hq := EmS.t hv hn hout hp hg h40 hq
        refine ⟨{ q with cells := iadd .i64 q.cells (flen o.Cells), nozzle := cellAt o.Cells.l (o.Cells.l.length - 1) }, ?_, ?_⟩
        · have ey' : t_emit_turns z p.nozzle = some y := by rw [hp.noz]; exact ey
          have e1p : imul .i64 o.Speed p.settings.Pitch = o.Speed * s.Pitch := by rw [hp.set]; exact e1
          rw [show ((0 : Nat) : Int) = 0 from rfl] at ez eq
          simp only [bnot_t, Bool.false_eq_true, if_false, hfirst, c1, eta_em, e1p, ez, ey', eq, hl]
        · show EmS s (celAfter o n) (atAfter o a) _ _ _ _
          rw [hc, ha, hrp]
          have hce : iadd .i64 q.cells (flen o.Cells) = ((n + o.Cells.l.length : Nat) : Int) := by rw [hq.cel, flen_eq, iadd_eq (by omega) (by omega)]; omega
          exact ⟨hq.set, hce, rfl, hq.fee, hq.yes, hq.no⟩
    · rw [if_neg h1, if_neg h1]
      exact ⟨_, rfl, rfl⟩
end
end Go.Proofs.Ytchiiiahgmfofaa
