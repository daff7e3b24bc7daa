/- Typed functions of this seat, each with the proof that the code computes it; by program (tg3.py). -/
import Derived.Test.YtemehoioeoohmaaCode
import Derived.Test.YtemehoioeoohmaaVu
import Derived.KernelRfl
import Derived.Test.YtemehoioeoohmaaTe
namespace Go.Proofs.Ytemehoioeoohmaa
open Go Go.Vv Go.Proofs
set_option linter.unusedSimpArgs false
set_option linter.unusedVariables false
set_option maxRecDepth 100000
set_option maxHeartbeats 4000000
variable (Γ : Env) (ps : List Nat) (σ : St)
attribute [simp] c44_0 c44_1 c44_2 c44_3
def X7 (p0 : Jo) (p1 : Jd) : Option Jo := (J3 (fget p1.Cells 0) fun v3 => (J3 (Xp (⟨(⟨p0.list.ops⟩ : Kk), p0.r, p0.s, p0.nozzle⟩ : Jo) v3) fun v5 => (J3 (Zs (⟨(⟨v5.list.ops⟩ : Kk), v5.r, v5.s, v5.nozzle⟩ : Jo) v5.s.Feed) fun v9 => (if fits 16 ((flen (flit ([] : List Ja))) + (flen p1.Cells)) = true then (J3 (J0 (⟨(⟨v5.list.ops⟩ : Kk), v5.r, v5.s, v5.nozzle⟩ : Jo) (⟨3, p1.Role, 0, 0, v9, (fapp (flit ([] : List Ja)) p1.Cells)⟩ : Kj)) fun v14 => (J3 (fget p1.Cells (isub .i64 (flen p1.Cells) 1)) fun v18 => some (⟨(⟨v14.list.ops⟩ : Kk), v14.r, v14.s, v18⟩ : Jo))) else none))))
theorem Jfh {p0 : Jo} {p1 : Jd} (e000 : p0.list.ops = FS.nil) {r} (h : X7 p0 p1 = some r) : FC env 44 [.ptr 0 0 0, .agg [.int .i64 p1.Role, .bool p1.Closed, encF Je p1.Cells]] (some (hl [(0, .box 0 [.nils, encF Jg p0.r.Rows, .int .i64 p0.s.Pitch, .int .i64 p0.s.Height, .int .i64 p0.s.Walls, .int .i64 p0.s.Top, .int .i64 p0.s.Bottom, .int .i64 p0.s.Pattern, .int .i64 p0.s.Spacing, .bool p0.s.Support, .int .i64 p0.s.Reach, .int .i64 p0.s.Gap, .int .i64 p0.s.Brim, .int .i64 p0.s.Skirt, .int .i64 p0.s.Drop, .int .i64 p0.s.Feed, .int .i64 p0.s.Travel, .int .i64 p0.s.Retract, .int .i64 p0.s.MinTime, .int .i64 p0.s.MinFeed, .int .i64 p0.s.Nozzle, .int .i64 p0.s.Bed, .int .i64 p0.nozzle.X, .int .i64 p0.nozzle.Y])], 0)) = some (.tup [], hl [(0, .box 0 [.arr 1000000 0 0 r.list.ops.l.length, encF Jg r.r.Rows, .int .i64 r.s.Pitch, .int .i64 r.s.Height, .int .i64 r.s.Walls, .int .i64 r.s.Top, .int .i64 r.s.Bottom, .int .i64 r.s.Pattern, .int .i64 r.s.Spacing, .bool r.s.Support, .int .i64 r.s.Reach, .int .i64 r.s.Gap, .int .i64 r.s.Brim, .int .i64 r.s.Skirt, .int .i64 r.s.Drop, .int .i64 r.s.Feed, .int .i64 r.s.Travel, .int .i64 r.s.Retract, .int .i64 r.s.MinTime, .int .i64 r.s.MinFeed, .int .i64 r.s.Nozzle, .int .i64 r.s.Bed, .int .i64 r.nozzle.X, .int .i64 r.nozzle.Y]), (1000000, .arr 0 6 40 (Jp J2 r.list.ops.l) false)]) ∧ ∃ l, r.list.ops = FS.lst l := by
 unfold X7 at h
 simp only [e000, Jr] at h
 obtain ⟨v3, h2, h⟩ := oS h
 have f1 := Kc (e := Je) h2
 obtain ⟨v5, h4, h⟩ := oS h
 have f6 := Jev rfl h4
 try simp only [J5, K4, Jj, Jk, Jq, Jv, Jt, Jx, Jw, Ju] at f6
 cases e8 : v5.list.ops with
 | nil =>
  try simp only [e8, Jr] at h
  simp only [e8, Jr, Jj, Jk] at f6
  have f9 : ∀ H : Heap, H 0 = some (.box 0 [.nils, encF Jg p0.r.Rows, .int .i64 p0.s.Pitch, .int .i64 p0.s.Height, .int .i64 p0.s.Walls, .int .i64 p0.s.Top, .int .i64 p0.s.Bottom, .int .i64 p0.s.Pattern, .int .i64 p0.s.Spacing, .bool p0.s.Support, .int .i64 p0.s.Reach, .int .i64 p0.s.Gap, .int .i64 p0.s.Brim, .int .i64 p0.s.Skirt, .int .i64 p0.s.Drop, .int .i64 p0.s.Feed, .int .i64 p0.s.Travel, .int .i64 p0.s.Retract, .int .i64 p0.s.MinTime, .int .i64 p0.s.MinFeed, .int .i64 p0.s.Nozzle, .int .i64 p0.s.Bed, .int .i64 p0.nozzle.X, .int .i64 p0.nozzle.Y]) → Jak (FC env) 66 H [.ptr 0 0 0, .agg [.int .i64 v3.X, .int .i64 v3.Y]] = some (.tup [], upd H 0 (some (.box 0 [.nils, encF Jg v5.r.Rows, .int .i64 v5.s.Pitch, .int .i64 v5.s.Height, .int .i64 v5.s.Walls, .int .i64 v5.s.Top, .int .i64 v5.s.Bottom, .int .i64 v5.s.Pattern, .int .i64 v5.s.Spacing, .bool v5.s.Support, .int .i64 v5.s.Reach, .int .i64 v5.s.Gap, .int .i64 v5.s.Brim, .int .i64 v5.s.Skirt, .int .i64 v5.s.Drop, .int .i64 v5.s.Feed, .int .i64 v5.s.Travel, .int .i64 v5.s.Retract, .int .i64 v5.s.MinTime, .int .i64 v5.s.MinFeed, .int .i64 v5.s.Nozzle, .int .i64 v5.s.Bed, .int .i64 v5.nozzle.X, .int .i64 v5.nozzle.Y]))) := by
    intro H q0
    simp [*, q0]
  obtain ⟨v12, h11, h⟩ := oS h
  have f10 := Z2 h11
  try simp only [K4] at f10
  have f13 : ∀ (H : Heap) (g0 : Nat), bslV H g0 0 2 27 (some []) = some (.arr g0 (Kq H g0) 0 (flit ([] : List Ja)).l.length, upd H g0 (some (.arr (Kq H g0) 2 27 (Jp Je (flit ([] : List Ja)).l) false))) := fun H g0 => rfl
  obtain ⟨h15, h⟩ := ifS h
  have f14 := fun g0 H => @Jci _ _ Je _ (flit ([] : List Ja)) p1.Cells 16 h15 (by decide) g0 H 22 0 27
  obtain ⟨v17, h16, h⟩ := oS h
  obtain ⟨f18, ⟨l20, e19⟩⟩ := Kw rfl h16
  simp only [e19] at f18
  try simp only [e19] at h
  try simp only [J5, K4, Jj, Jk, Jq, Jv, Jt, Jx, Jw, Ju] at f18
  try simp only [Jj, Jk, Jq, Jv, Jt, Jx, Jw, Ju] at f18
  have f21 : ∀ H : Heap, H 0 = some (.box 0 [.nils, encF Jg v5.r.Rows, .int .i64 v5.s.Pitch, .int .i64 v5.s.Height, .int .i64 v5.s.Walls, .int .i64 v5.s.Top, .int .i64 v5.s.Bottom, .int .i64 v5.s.Pattern, .int .i64 v5.s.Spacing, .bool v5.s.Support, .int .i64 v5.s.Reach, .int .i64 v5.s.Gap, .int .i64 v5.s.Brim, .int .i64 v5.s.Skirt, .int .i64 v5.s.Drop, .int .i64 v5.s.Feed, .int .i64 v5.s.Travel, .int .i64 v5.s.Retract, .int .i64 v5.s.MinTime, .int .i64 v5.s.MinFeed, .int .i64 v5.s.Nozzle, .int .i64 v5.s.Bed, .int .i64 v5.nozzle.X, .int .i64 v5.nozzle.Y]) → H 1000000 = none → Jak (FC env) 24 H [.ptr 0 0 0, .agg [.int .i64 3, .int .i64 p1.Role, .int .i64 0, .int .i64 0, .int .i64 v12, encF Je (fapp (flit ([] : List Ja)) p1.Cells)]] = some (.tup [], upd (upd H 1000000 (some (.arr 0 6 40 (Jp J2 (FS.lst l20).l) false))) 0 (some (.box 0 [.arr 1000000 0 0 (FS.lst l20).l.length, encF Jg v17.r.Rows, .int .i64 v17.s.Pitch, .int .i64 v17.s.Height, .int .i64 v17.s.Walls, .int .i64 v17.s.Top, .int .i64 v17.s.Bottom, .int .i64 v17.s.Pattern, .int .i64 v17.s.Spacing, .bool v17.s.Support, .int .i64 v17.s.Reach, .int .i64 v17.s.Gap, .int .i64 v17.s.Brim, .int .i64 v17.s.Skirt, .int .i64 v17.s.Drop, .int .i64 v17.s.Feed, .int .i64 v17.s.Travel, .int .i64 v17.s.Retract, .int .i64 v17.s.MinTime, .int .i64 v17.s.MinFeed, .int .i64 v17.s.Nozzle, .int .i64 v17.s.Bed, .int .i64 v17.nozzle.X, .int .i64 v17.nozzle.Y]))) := by
    intro H q0 q1
    simp [*, q0, q1]
  obtain ⟨v24, h23, h⟩ := oS h
  have f22 := Kc (e := Je) h23
  cases h
  refine ⟨?_, by first | exact ⟨_, rfl⟩ | exact ⟨_, by assumption⟩⟩
  refine j7 (lf := lf44) rfl rfl rfl ?_
  simp only [lf44, lc44]
  simp [*, -Qr, Qm (e := Je) (el := 27) (fz := false)]
 | lst l7 =>
  try simp only [e8] at h
  simp only [e8, Jr, Jj, Jk] at f6
  have f25 : ∀ H : Heap, H 0 = some (.box 0 [.nils, encF Jg p0.r.Rows, .int .i64 p0.s.Pitch, .int .i64 p0.s.Height, .int .i64 p0.s.Walls, .int .i64 p0.s.Top, .int .i64 p0.s.Bottom, .int .i64 p0.s.Pattern, .int .i64 p0.s.Spacing, .bool p0.s.Support, .int .i64 p0.s.Reach, .int .i64 p0.s.Gap, .int .i64 p0.s.Brim, .int .i64 p0.s.Skirt, .int .i64 p0.s.Drop, .int .i64 p0.s.Feed, .int .i64 p0.s.Travel, .int .i64 p0.s.Retract, .int .i64 p0.s.MinTime, .int .i64 p0.s.MinFeed, .int .i64 p0.s.Nozzle, .int .i64 p0.s.Bed, .int .i64 p0.nozzle.X, .int .i64 p0.nozzle.Y]) → H 1000000 = none → Jak (FC env) 66 H [.ptr 0 0 0, .agg [.int .i64 v3.X, .int .i64 v3.Y]] = some (.tup [], upd (upd H 1000000 (some (.arr 0 6 40 (Jp J2 (FS.lst l7).l) false))) 0 (some (.box 0 [.arr 1000000 0 0 (FS.lst l7).l.length, encF Jg v5.r.Rows, .int .i64 v5.s.Pitch, .int .i64 v5.s.Height, .int .i64 v5.s.Walls, .int .i64 v5.s.Top, .int .i64 v5.s.Bottom, .int .i64 v5.s.Pattern, .int .i64 v5.s.Spacing, .bool v5.s.Support, .int .i64 v5.s.Reach, .int .i64 v5.s.Gap, .int .i64 v5.s.Brim, .int .i64 v5.s.Skirt, .int .i64 v5.s.Drop, .int .i64 v5.s.Feed, .int .i64 v5.s.Travel, .int .i64 v5.s.Retract, .int .i64 v5.s.MinTime, .int .i64 v5.s.MinFeed, .int .i64 v5.s.Nozzle, .int .i64 v5.s.Bed, .int .i64 v5.nozzle.X, .int .i64 v5.nozzle.Y]))) := by
    intro H q0 q1
    simp [*, q0, q1]
  obtain ⟨v28, h27, h⟩ := oS h
  have f26 := Z2 h27
  have f29 : ∀ (H : Heap) (g0 : Nat), bslV H g0 0 2 27 (some []) = some (.arr g0 (Kq H g0) 0 (flit ([] : List Ja)).l.length, upd H g0 (some (.arr (Kq H g0) 2 27 (Jp Je (flit ([] : List Ja)).l) false))) := fun H g0 => rfl
  obtain ⟨h31, h⟩ := ifS h
  have f30 := fun g0 H => @Jci _ _ Je _ (flit ([] : List Ja)) p1.Cells 16 h31 (by decide) g0 H 22 0 27
  obtain ⟨v33, h32, h⟩ := oS h
  obtain ⟨f34, ⟨l36, e35⟩⟩ := J1 rfl h32
  simp only [e35] at f34
  try simp only [e35] at h
  try simp only [J5, K4, Jj, Jk, Jq, Jv, Jt, Jx, Jw, Ju] at f34
  try simp only [Jj, Jk, Jq, Jv, Jt, Jx, Jw, Ju] at f34
  have f37 : ∀ H : Heap, H 0 = some (.box 0 [.arr 1000000 0 0 (FS.lst l7).l.length, encF Jg v5.r.Rows, .int .i64 v5.s.Pitch, .int .i64 v5.s.Height, .int .i64 v5.s.Walls, .int .i64 v5.s.Top, .int .i64 v5.s.Bottom, .int .i64 v5.s.Pattern, .int .i64 v5.s.Spacing, .bool v5.s.Support, .int .i64 v5.s.Reach, .int .i64 v5.s.Gap, .int .i64 v5.s.Brim, .int .i64 v5.s.Skirt, .int .i64 v5.s.Drop, .int .i64 v5.s.Feed, .int .i64 v5.s.Travel, .int .i64 v5.s.Retract, .int .i64 v5.s.MinTime, .int .i64 v5.s.MinFeed, .int .i64 v5.s.Nozzle, .int .i64 v5.s.Bed, .int .i64 v5.nozzle.X, .int .i64 v5.nozzle.Y]) → H 1000000 = some (.arr 0 6 40 (Jp J2 (FS.lst l7).l) false) → Jak (FC env) 24 H [.ptr 0 0 0, .agg [.int .i64 3, .int .i64 p1.Role, .int .i64 0, .int .i64 0, .int .i64 v28, encF Je (fapp (flit ([] : List Ja)) p1.Cells)]] = some (.tup [], upd (upd H 1000000 (some (.arr 1 6 40 (Jp J2 (FS.lst l36).l) false))) 0 (some (.box 0 [.arr 1000000 1 0 (FS.lst l36).l.length, encF Jg v33.r.Rows, .int .i64 v33.s.Pitch, .int .i64 v33.s.Height, .int .i64 v33.s.Walls, .int .i64 v33.s.Top, .int .i64 v33.s.Bottom, .int .i64 v33.s.Pattern, .int .i64 v33.s.Spacing, .bool v33.s.Support, .int .i64 v33.s.Reach, .int .i64 v33.s.Gap, .int .i64 v33.s.Brim, .int .i64 v33.s.Skirt, .int .i64 v33.s.Drop, .int .i64 v33.s.Feed, .int .i64 v33.s.Travel, .int .i64 v33.s.Retract, .int .i64 v33.s.MinTime, .int .i64 v33.s.MinFeed, .int .i64 v33.s.Nozzle, .int .i64 v33.s.Bed, .int .i64 v33.nozzle.X, .int .i64 v33.nozzle.Y]))) := by
    intro H q0 q1
    simp [*, q0, q1]
  obtain ⟨v40, h39, h⟩ := oS h
  have f38 := Kc (e := Je) h39
  cases h
  refine ⟨?_, by first | exact ⟨_, rfl⟩ | exact ⟨_, by assumption⟩⟩
  refine j7 (lf := lf44) rfl rfl rfl ?_
  simp only [lf44, lc44]
  simp [*, -Qr, Qm (e := J2) (el := 40) (fz := false), Qm (e := Je) (el := 27) (fz := false)]
theorem Je8 {p0 : Jo} {p1 : Jd} {le000 : List Kj} (e000 : p0.list.ops = FS.lst le000) {r} (h : X7 p0 p1 = some r) : FC env 44 [.ptr 0 0 0, .agg [.int .i64 p1.Role, .bool p1.Closed, encF Je p1.Cells]] (some (hl [(0, .box 0 [.arr 1000000 0 0 p0.list.ops.l.length, encF Jg p0.r.Rows, .int .i64 p0.s.Pitch, .int .i64 p0.s.Height, .int .i64 p0.s.Walls, .int .i64 p0.s.Top, .int .i64 p0.s.Bottom, .int .i64 p0.s.Pattern, .int .i64 p0.s.Spacing, .bool p0.s.Support, .int .i64 p0.s.Reach, .int .i64 p0.s.Gap, .int .i64 p0.s.Brim, .int .i64 p0.s.Skirt, .int .i64 p0.s.Drop, .int .i64 p0.s.Feed, .int .i64 p0.s.Travel, .int .i64 p0.s.Retract, .int .i64 p0.s.MinTime, .int .i64 p0.s.MinFeed, .int .i64 p0.s.Nozzle, .int .i64 p0.s.Bed, .int .i64 p0.nozzle.X, .int .i64 p0.nozzle.Y]), (1000000, .arr 0 6 40 (Jp J2 p0.list.ops.l) false)], 0)) = some (.tup [], hl [(0, .box 0 [.arr 1000000 0 0 r.list.ops.l.length, encF Jg r.r.Rows, .int .i64 r.s.Pitch, .int .i64 r.s.Height, .int .i64 r.s.Walls, .int .i64 r.s.Top, .int .i64 r.s.Bottom, .int .i64 r.s.Pattern, .int .i64 r.s.Spacing, .bool r.s.Support, .int .i64 r.s.Reach, .int .i64 r.s.Gap, .int .i64 r.s.Brim, .int .i64 r.s.Skirt, .int .i64 r.s.Drop, .int .i64 r.s.Feed, .int .i64 r.s.Travel, .int .i64 r.s.Retract, .int .i64 r.s.MinTime, .int .i64 r.s.MinFeed, .int .i64 r.s.Nozzle, .int .i64 r.s.Bed, .int .i64 r.nozzle.X, .int .i64 r.nozzle.Y]), (1000000, .arr 0 6 40 (Jp J2 r.list.ops.l) false)]) ∧ ∃ l, r.list.ops = FS.lst l := by
 unfold X7 at h
 simp only [e000, Jr] at h
 obtain ⟨v3, h2, h⟩ := oS h
 have f1 := Kc (e := Je) h2
 obtain ⟨v5, h4, h⟩ := oS h
 obtain ⟨f6, ⟨l8, e7⟩⟩ := Jeu rfl h4
 simp only [e7] at f6
 try simp only [e7] at h
 try simp only [J5, K4, Jj, Jk, Jq, Jv, Jt, Jx, Jw, Ju] at f6
 try simp only [Jj, Jk, Jq, Jv, Jt, Jx, Jw, Ju] at f6
 have f9 : ∀ H : Heap, H 0 = some (.box 0 [.arr 1000000 0 0 (FS.lst le000).l.length, encF Jg p0.r.Rows, .int .i64 p0.s.Pitch, .int .i64 p0.s.Height, .int .i64 p0.s.Walls, .int .i64 p0.s.Top, .int .i64 p0.s.Bottom, .int .i64 p0.s.Pattern, .int .i64 p0.s.Spacing, .bool p0.s.Support, .int .i64 p0.s.Reach, .int .i64 p0.s.Gap, .int .i64 p0.s.Brim, .int .i64 p0.s.Skirt, .int .i64 p0.s.Drop, .int .i64 p0.s.Feed, .int .i64 p0.s.Travel, .int .i64 p0.s.Retract, .int .i64 p0.s.MinTime, .int .i64 p0.s.MinFeed, .int .i64 p0.s.Nozzle, .int .i64 p0.s.Bed, .int .i64 p0.nozzle.X, .int .i64 p0.nozzle.Y]) → H 1000000 = some (.arr 0 6 40 (Jp J2 (FS.lst le000).l) false) → Jak (FC env) 66 H [.ptr 0 0 0, .agg [.int .i64 v3.X, .int .i64 v3.Y]] = some (.tup [], upd (upd H 1000000 (some (.arr 1 6 40 (Jp J2 (FS.lst l8).l) false))) 0 (some (.box 0 [.arr 1000000 1 0 (FS.lst l8).l.length, encF Jg v5.r.Rows, .int .i64 v5.s.Pitch, .int .i64 v5.s.Height, .int .i64 v5.s.Walls, .int .i64 v5.s.Top, .int .i64 v5.s.Bottom, .int .i64 v5.s.Pattern, .int .i64 v5.s.Spacing, .bool v5.s.Support, .int .i64 v5.s.Reach, .int .i64 v5.s.Gap, .int .i64 v5.s.Brim, .int .i64 v5.s.Skirt, .int .i64 v5.s.Drop, .int .i64 v5.s.Feed, .int .i64 v5.s.Travel, .int .i64 v5.s.Retract, .int .i64 v5.s.MinTime, .int .i64 v5.s.MinFeed, .int .i64 v5.s.Nozzle, .int .i64 v5.s.Bed, .int .i64 v5.nozzle.X, .int .i64 v5.nozzle.Y]))) := by
   intro H q0 q1
   simp [*, q0, q1]
 obtain ⟨v12, h11, h⟩ := oS h
 have f10 := Z2 h11
 have f13 : ∀ (H : Heap) (g0 : Nat), bslV H g0 0 2 27 (some []) = some (.arr g0 (Kq H g0) 0 (flit ([] : List Ja)).l.length, upd H g0 (some (.arr (Kq H g0) 2 27 (Jp Je (flit ([] : List Ja)).l) false))) := fun H g0 => rfl
 obtain ⟨h15, h⟩ := ifS h
 have f14 := fun g0 H => @Jci _ _ Je _ (flit ([] : List Ja)) p1.Cells 16 h15 (by decide) g0 H 22 0 27
 obtain ⟨v17, h16, h⟩ := oS h
 obtain ⟨f18, ⟨l20, e19⟩⟩ := J1 rfl h16
 simp only [e19] at f18
 try simp only [e19] at h
 try simp only [J5, K4, Jj, Jk, Jq, Jv, Jt, Jx, Jw, Ju] at f18
 try simp only [Jj, Jk, Jq, Jv, Jt, Jx, Jw, Ju] at f18
 have f21 : ∀ H : Heap, H 0 = some (.box 0 [.arr 1000000 1 0 (FS.lst l8).l.length, encF Jg v5.r.Rows, .int .i64 v5.s.Pitch, .int .i64 v5.s.Height, .int .i64 v5.s.Walls, .int .i64 v5.s.Top, .int .i64 v5.s.Bottom, .int .i64 v5.s.Pattern, .int .i64 v5.s.Spacing, .bool v5.s.Support, .int .i64 v5.s.Reach, .int .i64 v5.s.Gap, .int .i64 v5.s.Brim, .int .i64 v5.s.Skirt, .int .i64 v5.s.Drop, .int .i64 v5.s.Feed, .int .i64 v5.s.Travel, .int .i64 v5.s.Retract, .int .i64 v5.s.MinTime, .int .i64 v5.s.MinFeed, .int .i64 v5.s.Nozzle, .int .i64 v5.s.Bed, .int .i64 v5.nozzle.X, .int .i64 v5.nozzle.Y]) → H 1000000 = some (.arr 1 6 40 (Jp J2 (FS.lst l8).l) false) → Jak (FC env) 24 H [.ptr 0 0 0, .agg [.int .i64 3, .int .i64 p1.Role, .int .i64 0, .int .i64 0, .int .i64 v12, encF Je (fapp (flit ([] : List Ja)) p1.Cells)]] = some (.tup [], upd (upd H 1000000 (some (.arr 2 6 40 (Jp J2 (FS.lst l20).l) false))) 0 (some (.box 0 [.arr 1000000 2 0 (FS.lst l20).l.length, encF Jg v17.r.Rows, .int .i64 v17.s.Pitch, .int .i64 v17.s.Height, .int .i64 v17.s.Walls, .int .i64 v17.s.Top, .int .i64 v17.s.Bottom, .int .i64 v17.s.Pattern, .int .i64 v17.s.Spacing, .bool v17.s.Support, .int .i64 v17.s.Reach, .int .i64 v17.s.Gap, .int .i64 v17.s.Brim, .int .i64 v17.s.Skirt, .int .i64 v17.s.Drop, .int .i64 v17.s.Feed, .int .i64 v17.s.Travel, .int .i64 v17.s.Retract, .int .i64 v17.s.MinTime, .int .i64 v17.s.MinFeed, .int .i64 v17.s.Nozzle, .int .i64 v17.s.Bed, .int .i64 v17.nozzle.X, .int .i64 v17.nozzle.Y]))) := by
   intro H q0 q1
   simp [*, q0, q1]
 obtain ⟨v24, h23, h⟩ := oS h
 have f22 := Kc (e := Je) h23
 cases h
 refine ⟨?_, by first | exact ⟨_, rfl⟩ | exact ⟨_, by assumption⟩⟩
 refine j7 (lf := lf44) rfl rfl rfl ?_
 simp only [lf44, lc44]
 simp [*, -Qr, Qm (e := J2) (el := 40) (fz := false), Qm (e := Je) (el := 27) (fz := false)]
attribute [simp] c25_0 c25_1 c25_2 c25_3 c25_4 c25_5
theorem c25_L0_u : EC Γ ps 0 J2y σ = EC Γ ps 0 (.seq (.reg false c25_2) (.seq (.cond (.t 18) .skip (.seq (.trim []) (.exit 0))) (.seq (.blk 1 (.seq (.reg false c25_3) (.reg false c25_4))) (.reg false c25_5)))) σ := rfl
attribute [simp ↓] c25_L0_u
def Yg (k0 : (FS Jd)) (k1 : Int) (s : (Jo × Int)) : Option (LR (Jo × Int) Jo) := match s with
 | (s0, s1) => (if (ilt s1 k1) = true then (J3 (fget k0 s1) fun v10 => (J3 (X7 (⟨(⟨s0.list.ops⟩ : Kk), s0.r, s0.s, s0.nozzle⟩ : Jo) v10) fun v12 => some (.nx ((⟨(⟨v12.list.ops⟩ : Kk), v12.r, v12.s, v12.nozzle⟩ : Jo), (iadd .i64 s1 1)))))
 else some (.dn (⟨(⟨s0.list.ops⟩ : Kk), s0.r, s0.s, s0.nozzle⟩ : Jo)))
def Qd (k0 : (FS Jd)) (k1 : Int) (s : (Jo × Int)) : St := match s with
 | (s0, s1) => (zo s0.list.ops (⟨fr [(0, .ptr 0 0 0), (15, encF Jh k0), (16, .int .i64 k1), (17, .int .i64 s1)], hl [(0, .box 0 [.nils, encF Jg s0.r.Rows, .int .i64 s0.s.Pitch, .int .i64 s0.s.Height, .int .i64 s0.s.Walls, .int .i64 s0.s.Top, .int .i64 s0.s.Bottom, .int .i64 s0.s.Pattern, .int .i64 s0.s.Spacing, .bool s0.s.Support, .int .i64 s0.s.Reach, .int .i64 s0.s.Gap, .int .i64 s0.s.Brim, .int .i64 s0.s.Skirt, .int .i64 s0.s.Drop, .int .i64 s0.s.Feed, .int .i64 s0.s.Travel, .int .i64 s0.s.Retract, .int .i64 s0.s.MinTime, .int .i64 s0.s.MinFeed, .int .i64 s0.s.Nozzle, .int .i64 s0.s.Bed, .int .i64 s0.nozzle.X, .int .i64 s0.nozzle.Y])]⟩)
  (fun l0 => ⟨fr [(0, .ptr 0 0 0), (15, encF Jh k0), (16, .int .i64 k1), (17, .int .i64 s1)], hl [(0, .box 0 [.arr 1000000 0 0 l0.l.length, encF Jg s0.r.Rows, .int .i64 s0.s.Pitch, .int .i64 s0.s.Height, .int .i64 s0.s.Walls, .int .i64 s0.s.Top, .int .i64 s0.s.Bottom, .int .i64 s0.s.Pattern, .int .i64 s0.s.Spacing, .bool s0.s.Support, .int .i64 s0.s.Reach, .int .i64 s0.s.Gap, .int .i64 s0.s.Brim, .int .i64 s0.s.Skirt, .int .i64 s0.s.Drop, .int .i64 s0.s.Feed, .int .i64 s0.s.Travel, .int .i64 s0.s.Retract, .int .i64 s0.s.MinTime, .int .i64 s0.s.MinFeed, .int .i64 s0.s.Nozzle, .int .i64 s0.s.Bed, .int .i64 s0.nozzle.X, .int .i64 s0.nozzle.Y]), (1000000, .arr 0 6 40 (Jp J2 l0.l) false)]⟩))
def Q0 (k0 : (FS Jd)) (k1 : Int) (x : Jo) : LE × St := (zo x.list.ops (.exit 0, ⟨fr [], hl [(0, .box 0 [.nils, encF Jg x.r.Rows, .int .i64 x.s.Pitch, .int .i64 x.s.Height, .int .i64 x.s.Walls, .int .i64 x.s.Top, .int .i64 x.s.Bottom, .int .i64 x.s.Pattern, .int .i64 x.s.Spacing, .bool x.s.Support, .int .i64 x.s.Reach, .int .i64 x.s.Gap, .int .i64 x.s.Brim, .int .i64 x.s.Skirt, .int .i64 x.s.Drop, .int .i64 x.s.Feed, .int .i64 x.s.Travel, .int .i64 x.s.Retract, .int .i64 x.s.MinTime, .int .i64 x.s.MinFeed, .int .i64 x.s.Nozzle, .int .i64 x.s.Bed, .int .i64 x.nozzle.X, .int .i64 x.nozzle.Y])]⟩)
  (fun l0 => (.exit 0, ⟨fr [], hl [(0, .box 0 [.arr 1000000 0 0 l0.l.length, encF Jg x.r.Rows, .int .i64 x.s.Pitch, .int .i64 x.s.Height, .int .i64 x.s.Walls, .int .i64 x.s.Top, .int .i64 x.s.Bottom, .int .i64 x.s.Pattern, .int .i64 x.s.Spacing, .bool x.s.Support, .int .i64 x.s.Reach, .int .i64 x.s.Gap, .int .i64 x.s.Brim, .int .i64 x.s.Skirt, .int .i64 x.s.Drop, .int .i64 x.s.Feed, .int .i64 x.s.Travel, .int .i64 x.s.Retract, .int .i64 x.s.MinTime, .int .i64 x.s.MinFeed, .int .i64 x.s.Nozzle, .int .i64 x.s.Bed, .int .i64 x.nozzle.X, .int .i64 x.nozzle.Y]), (1000000, .arr 0 6 40 (Jp J2 l0.l) false)]⟩)))
theorem Jcb {k0} {k1} {s} {r} (h : Ky (Yg k0 k1) bigN s = some r) : LK env [0] 0 [0, 15, 16, 17] J2y (some (Qd k0 k1 s)) = some (Q0 k0 k1 r) ∧ (Lst s.1.list.ops → Lst r.list.ops) := Jhj (P := fun s => Lst s.1.list.ops) (Q := fun r => Lst r.list.ops) (st := Qd k0 k1) (out := Q0 k0 k1) (by
 clear h s r
 rintro ⟨s0, s1⟩ x h
 simp only [Yg] at h
 cases e8 : s0.list.ops with
 | nil =>
  try simp only [e8, Jr] at h
  rcases ifC h with ⟨c9, h⟩ | ⟨c9, h⟩
  ·obtain ⟨v12, h11, h⟩ := oS h
   have f10 := Kc (e := Jh) h11
   obtain ⟨v14, h13, h⟩ := oS h
   obtain ⟨f15, ⟨l17, e16⟩⟩ := Jfh rfl h13
   simp only [e16] at f15
   try simp only [e16] at h
   try simp only [J5, K4, Jj, Jk, Jq, Jv, Jt, Jx, Jw, Ju] at f15
   try simp only [Jj, Jk, Jq, Jv, Jt, Jx, Jw, Ju] at f15
   have f18 : ∀ H : Heap, H 0 = some (.box 0 [.nils, encF Jg s0.r.Rows, .int .i64 s0.s.Pitch, .int .i64 s0.s.Height, .int .i64 s0.s.Walls, .int .i64 s0.s.Top, .int .i64 s0.s.Bottom, .int .i64 s0.s.Pattern, .int .i64 s0.s.Spacing, .bool s0.s.Support, .int .i64 s0.s.Reach, .int .i64 s0.s.Gap, .int .i64 s0.s.Brim, .int .i64 s0.s.Skirt, .int .i64 s0.s.Drop, .int .i64 s0.s.Feed, .int .i64 s0.s.Travel, .int .i64 s0.s.Retract, .int .i64 s0.s.MinTime, .int .i64 s0.s.MinFeed, .int .i64 s0.s.Nozzle, .int .i64 s0.s.Bed, .int .i64 s0.nozzle.X, .int .i64 s0.nozzle.Y]) → H 1000000 = none → Jak (FC env) 44 H [.ptr 0 0 0, .agg [.int .i64 v12.Role, .bool v12.Closed, encF Je v12.Cells]] = some (.tup [], upd (upd H 1000000 (some (.arr 0 6 40 (Jp J2 (FS.lst l17).l) false))) 0 (some (.box 0 [.arr 1000000 0 0 (FS.lst l17).l.length, encF Jg v14.r.Rows, .int .i64 v14.s.Pitch, .int .i64 v14.s.Height, .int .i64 v14.s.Walls, .int .i64 v14.s.Top, .int .i64 v14.s.Bottom, .int .i64 v14.s.Pattern, .int .i64 v14.s.Spacing, .bool v14.s.Support, .int .i64 v14.s.Reach, .int .i64 v14.s.Gap, .int .i64 v14.s.Brim, .int .i64 v14.s.Skirt, .int .i64 v14.s.Drop, .int .i64 v14.s.Feed, .int .i64 v14.s.Travel, .int .i64 v14.s.Retract, .int .i64 v14.s.MinTime, .int .i64 v14.s.MinFeed, .int .i64 v14.s.Nozzle, .int .i64 v14.s.Bed, .int .i64 v14.nozzle.X, .int .i64 v14.nozzle.Y]))) := by
     intro H q0 q1
     simp [*, q0, q1]
   cases h
   refine ⟨?_, fun k => ?_⟩
   ·simp only [Qd, e8]
    rw [Jn]
    try simp only [c9] at f15
    simp [*, -Qr]
   ·obtain ⟨_, k⟩ := k
    first | exact (Jau k).elim | exact (Jau (e8.symm.trans k)).elim
  ·cases h
   refine ⟨?_, fun k => ?_⟩
   ·simp only [Qd, Q0, e8]
    rw [Jn]
    simp [*]
   ·obtain ⟨_, k⟩ := k
    first | exact (Jau k).elim | exact (Jau (e8.symm.trans k)).elim
 | lst l7 =>
  try simp only [e8] at h
  rcases ifC h with ⟨c19, h⟩ | ⟨c19, h⟩
  ·obtain ⟨v22, h21, h⟩ := oS h
   have f20 := Kc (e := Jh) h21
   obtain ⟨v24, h23, h⟩ := oS h
   obtain ⟨f25, ⟨l27, e26⟩⟩ := Je8 rfl h23
   simp only [e26] at f25
   try simp only [e26] at h
   try simp only [J5, K4, Jj, Jk, Jq, Jv, Jt, Jx, Jw, Ju] at f25
   try simp only [Jj, Jk, Jq, Jv, Jt, Jx, Jw, Ju] at f25
   have f28 : ∀ H : Heap, H 0 = some (.box 0 [.arr 1000000 0 0 (FS.lst l7).l.length, encF Jg s0.r.Rows, .int .i64 s0.s.Pitch, .int .i64 s0.s.Height, .int .i64 s0.s.Walls, .int .i64 s0.s.Top, .int .i64 s0.s.Bottom, .int .i64 s0.s.Pattern, .int .i64 s0.s.Spacing, .bool s0.s.Support, .int .i64 s0.s.Reach, .int .i64 s0.s.Gap, .int .i64 s0.s.Brim, .int .i64 s0.s.Skirt, .int .i64 s0.s.Drop, .int .i64 s0.s.Feed, .int .i64 s0.s.Travel, .int .i64 s0.s.Retract, .int .i64 s0.s.MinTime, .int .i64 s0.s.MinFeed, .int .i64 s0.s.Nozzle, .int .i64 s0.s.Bed, .int .i64 s0.nozzle.X, .int .i64 s0.nozzle.Y]) → H 1000000 = some (.arr 0 6 40 (Jp J2 (FS.lst l7).l) false) → Jak (FC env) 44 H [.ptr 0 0 0, .agg [.int .i64 v22.Role, .bool v22.Closed, encF Je v22.Cells]] = some (.tup [], upd (upd H 1000000 (some (.arr 1 6 40 (Jp J2 (FS.lst l27).l) false))) 0 (some (.box 0 [.arr 1000000 1 0 (FS.lst l27).l.length, encF Jg v24.r.Rows, .int .i64 v24.s.Pitch, .int .i64 v24.s.Height, .int .i64 v24.s.Walls, .int .i64 v24.s.Top, .int .i64 v24.s.Bottom, .int .i64 v24.s.Pattern, .int .i64 v24.s.Spacing, .bool v24.s.Support, .int .i64 v24.s.Reach, .int .i64 v24.s.Gap, .int .i64 v24.s.Brim, .int .i64 v24.s.Skirt, .int .i64 v24.s.Drop, .int .i64 v24.s.Feed, .int .i64 v24.s.Travel, .int .i64 v24.s.Retract, .int .i64 v24.s.MinTime, .int .i64 v24.s.MinFeed, .int .i64 v24.s.Nozzle, .int .i64 v24.s.Bed, .int .i64 v24.nozzle.X, .int .i64 v24.nozzle.Y]))) := by
     intro H q0 q1
     simp [*, q0, q1]
   cases h
   refine ⟨?_, fun k => ?_⟩
   ·simp only [Qd, e8]
    rw [Jn]
    try simp only [c19] at f25
    simp [*, -Qr]
   ·first | exact ⟨_, rfl⟩ | exact ⟨_, by assumption⟩
  ·cases h
   refine ⟨?_, fun k => ?_⟩
   ·simp only [Qd, Q0, e8]
    rw [Jn]
    simp [*]
   ·first | exact ⟨_, rfl⟩ | exact ⟨_, by assumption⟩) bigN s r h
def Yh (p0 : Jo) (p1 : (FS Jd)) : Option Jo := (J3 (Jdg p0.nozzle p1) fun v3 => (J3 (Jb4 p0.nozzle v3 8) fun v6 => (J3 (Ky (Yg v6 (flen v6)) bigN ((⟨(⟨p0.list.ops⟩ : Kk), p0.r, p0.s, p0.nozzle⟩ : Jo), 0)) fun v15 => some (⟨(⟨v15.list.ops⟩ : Kk), v15.r, v15.s, v15.nozzle⟩ : Jo))))
theorem Jfg {p0 : Jo} {p1 : (FS Jd)} (e000 : p0.list.ops = FS.nil) {r} (h : Yh p0 p1 = some r) : FC env 25 [.ptr 0 0 0, encF Jh p1] (some (hl [(0, .box 0 [.nils, encF Jg p0.r.Rows, .int .i64 p0.s.Pitch, .int .i64 p0.s.Height, .int .i64 p0.s.Walls, .int .i64 p0.s.Top, .int .i64 p0.s.Bottom, .int .i64 p0.s.Pattern, .int .i64 p0.s.Spacing, .bool p0.s.Support, .int .i64 p0.s.Reach, .int .i64 p0.s.Gap, .int .i64 p0.s.Brim, .int .i64 p0.s.Skirt, .int .i64 p0.s.Drop, .int .i64 p0.s.Feed, .int .i64 p0.s.Travel, .int .i64 p0.s.Retract, .int .i64 p0.s.MinTime, .int .i64 p0.s.MinFeed, .int .i64 p0.s.Nozzle, .int .i64 p0.s.Bed, .int .i64 p0.nozzle.X, .int .i64 p0.nozzle.Y])], 0)) = some (.tup [], (zo r.list.ops (hl [(0, .box 0 [.nils, encF Jg r.r.Rows, .int .i64 r.s.Pitch, .int .i64 r.s.Height, .int .i64 r.s.Walls, .int .i64 r.s.Top, .int .i64 r.s.Bottom, .int .i64 r.s.Pattern, .int .i64 r.s.Spacing, .bool r.s.Support, .int .i64 r.s.Reach, .int .i64 r.s.Gap, .int .i64 r.s.Brim, .int .i64 r.s.Skirt, .int .i64 r.s.Drop, .int .i64 r.s.Feed, .int .i64 r.s.Travel, .int .i64 r.s.Retract, .int .i64 r.s.MinTime, .int .i64 r.s.MinFeed, .int .i64 r.s.Nozzle, .int .i64 r.s.Bed, .int .i64 r.nozzle.X, .int .i64 r.nozzle.Y])])
  (fun l0 => hl [(0, .box 0 [.arr 1000000 0 0 l0.l.length, encF Jg r.r.Rows, .int .i64 r.s.Pitch, .int .i64 r.s.Height, .int .i64 r.s.Walls, .int .i64 r.s.Top, .int .i64 r.s.Bottom, .int .i64 r.s.Pattern, .int .i64 r.s.Spacing, .bool r.s.Support, .int .i64 r.s.Reach, .int .i64 r.s.Gap, .int .i64 r.s.Brim, .int .i64 r.s.Skirt, .int .i64 r.s.Drop, .int .i64 r.s.Feed, .int .i64 r.s.Travel, .int .i64 r.s.Retract, .int .i64 r.s.MinTime, .int .i64 r.s.MinFeed, .int .i64 r.s.Nozzle, .int .i64 r.s.Bed, .int .i64 r.nozzle.X, .int .i64 r.nozzle.Y]), (1000000, .arr 0 6 40 (Jp J2 l0.l) false)]))) := by
 unfold Yh at h
 simp only [e000, Jr] at h
 obtain ⟨v3, h2, h⟩ := oS h
 have f1 := Jg3 h2
 obtain ⟨v6, h5, h⟩ := oS h
 have f4 := Jgi h5
 obtain ⟨v30, h29, h⟩ := oS h
 obtain ⟨f31, f31k⟩ := Jcb h29
 simp only [Qd, Q0, J5] at f31
 cases e34 : v30.list.ops with
 | nil =>
  try simp only [e34, Jr] at h
  simp only [e34, Jr, Jj, Jk] at f31
  cases h
  refine j7 (lf := lf25) rfl rfl rfl ?_
  simp only [lf25, lc25]
  simp [*]
 | lst l33 =>
  try simp only [e34] at h
  simp only [e34, Jr, Jj, Jk] at f31
  cases h
  refine j7 (lf := lf25) rfl rfl rfl ?_
  simp only [lf25, lc25]
  simp [*]
theorem Je9 {p0 : Jo} {p1 : (FS Jd)} {le000 : List Kj} (e000 : p0.list.ops = FS.lst le000) {r} (h : Yh p0 p1 = some r) : FC env 25 [.ptr 0 0 0, encF Jh p1] (some (hl [(0, .box 0 [.arr 1000000 0 0 p0.list.ops.l.length, encF Jg p0.r.Rows, .int .i64 p0.s.Pitch, .int .i64 p0.s.Height, .int .i64 p0.s.Walls, .int .i64 p0.s.Top, .int .i64 p0.s.Bottom, .int .i64 p0.s.Pattern, .int .i64 p0.s.Spacing, .bool p0.s.Support, .int .i64 p0.s.Reach, .int .i64 p0.s.Gap, .int .i64 p0.s.Brim, .int .i64 p0.s.Skirt, .int .i64 p0.s.Drop, .int .i64 p0.s.Feed, .int .i64 p0.s.Travel, .int .i64 p0.s.Retract, .int .i64 p0.s.MinTime, .int .i64 p0.s.MinFeed, .int .i64 p0.s.Nozzle, .int .i64 p0.s.Bed, .int .i64 p0.nozzle.X, .int .i64 p0.nozzle.Y]), (1000000, .arr 0 6 40 (Jp J2 p0.list.ops.l) false)], 0)) = some (.tup [], hl [(0, .box 0 [.arr 1000000 0 0 r.list.ops.l.length, encF Jg r.r.Rows, .int .i64 r.s.Pitch, .int .i64 r.s.Height, .int .i64 r.s.Walls, .int .i64 r.s.Top, .int .i64 r.s.Bottom, .int .i64 r.s.Pattern, .int .i64 r.s.Spacing, .bool r.s.Support, .int .i64 r.s.Reach, .int .i64 r.s.Gap, .int .i64 r.s.Brim, .int .i64 r.s.Skirt, .int .i64 r.s.Drop, .int .i64 r.s.Feed, .int .i64 r.s.Travel, .int .i64 r.s.Retract, .int .i64 r.s.MinTime, .int .i64 r.s.MinFeed, .int .i64 r.s.Nozzle, .int .i64 r.s.Bed, .int .i64 r.nozzle.X, .int .i64 r.nozzle.Y]), (1000000, .arr 0 6 40 (Jp J2 r.list.ops.l) false)]) ∧ ∃ l, r.list.ops = FS.lst l := by
 unfold Yh at h
 simp only [e000, Jr] at h
 obtain ⟨v3, h2, h⟩ := oS h
 have f1 := Jg3 h2
 obtain ⟨v6, h5, h⟩ := oS h
 have f4 := Jgi h5
 obtain ⟨v8, h7, h⟩ := oS h
 obtain ⟨f9, f9k⟩ := Jcb h7
 simp only [Qd, Q0, J5] at f9
 cases e12 : v8.list.ops with
 | nil =>
  obtain ⟨_, k⟩ := f9k ⟨_, rfl⟩
  exact (Jau (e12.symm.trans k)).elim
 | lst l11 =>
  try simp only [e12] at h
  simp only [e12, Jr, Jj, Jk] at f9
  cases h
  refine ⟨?_, by first | exact ⟨_, rfl⟩ | exact ⟨_, by assumption⟩⟩
  refine j7 (lf := lf25) rfl rfl rfl ?_
  simp only [lf25, lc25]
  simp [*]
attribute [simp] c68_0 c68_1 c68_2 c68_3
def X0 (p0 : (FS Kj)) : Option (FS Kj) := (J3 (Jq8 p0) fun v3 => (if v3 = true then some (FS.nil : (FS Kj))
 else (if fits 64 ((flen (flit ([] : List Kj))) + (flen p0)) = true then some (fapp (flit ([] : List Kj)) p0) else none)))
theorem Jb6 {p0} {r} (h : X0 p0 = some r) : FC env 68 [encF J2 p0] (some (hl [], 0)) = (zo r (some (.nils, hl []))
  (fun l0 => (some (.arr 700000 0 0 l0.l.length, hl [(700000, .arr 0 6 40 (Jp J2 l0.l) false)])))) := by
 unfold X0 at h
 obtain ⟨v3, h2, h⟩ := oS h
 have f1 := Jxv (e := J2) h2
 rcases ifC h with ⟨c4, h⟩ | ⟨c4, h⟩
 ·cases h
  refine j7 (lf := lf68) rfl rfl rfl ?_
  simp only [lf68, lc68]
  simp [*]
  all_goals first | rfl | exact ⟨rfl, rfl⟩
 ·have f5 : ∀ (H : Heap) (g0 : Nat), bslV H g0 0 6 40 (some []) = some (.arr g0 (Kq H g0) 0 (flit ([] : List Kj)).l.length, upd H g0 (some (.arr (Kq H g0) 6 40 (Jp J2 (flit ([] : List Kj)).l) false))) := fun H g0 => rfl
  obtain ⟨h7, h⟩ := ifS h
  have f6 := fun g0 H => @Jci _ _ J2 _ (flit ([] : List Kj)) p0 64 h7 (by decide) g0 H 5 0 40
  cases h
  refine j7 (lf := lf68) rfl rfl rfl ?_
  simp only [lf68, lc68]
  simp [*]
  all_goals first | rfl | exact ⟨rfl, rfl⟩
attribute [simp] c69_0 c69_1 c69_2 c69_3
def X2 (p0 : (FS Ja)) : Option (FS Ja) := (J3 (Jq8 p0) fun v3 => (if v3 = true then some (FS.nil : (FS Ja))
 else (if fits 16 ((flen (flit ([] : List Ja))) + (flen p0)) = true then some (fapp (flit ([] : List Ja)) p0) else none)))
theorem Jdq {p0} {r} (h : X2 p0 = some r) : FC env 69 [encF Je p0] none = some (encF Je r, fun _ => none) := by
 unfold X2 at h
 obtain ⟨v3, h2, h⟩ := oS h
 have f1 := Jxv (e := Je) h2
 rcases ifC h with ⟨c4, h⟩ | ⟨c4, h⟩
 ·cases h
  refine J4 (lf := lf69) rfl rfl rfl ?_
  simp only [lf69, lc69]
  simp [*]
 ·have f5 : ∀ (H : Heap) (g0 : Nat), bslV H g0 0 2 27 (some []) = some (.arr g0 (Kq H g0) 0 (flit ([] : List Ja)).l.length, upd H g0 (some (.arr (Kq H g0) 2 27 (Jp Je (flit ([] : List Ja)).l) false))) := fun H g0 => rfl
  obtain ⟨h7, h⟩ := ifS h
  have f6 := fun g0 H => @Jci _ _ Je _ (flit ([] : List Ja)) p0 16 h7 (by decide) g0 H 5 0 27
  cases h
  refine J4 (lf := lf69) rfl rfl rfl ?_
  simp only [lf69, lc69]
  simp [*, Qm (e := Je) (el := 27) (fz := false)]
attribute [simp] c45_0 c45_1 c45_2 c45_3 c45_4 c45_5 c45_6 c45_8
theorem c45_L0_u : EC Γ ps 0 J0k σ = EC Γ ps 0 (.seq (.reg false c45_3) (.seq (.cond (.t 10) .skip (.seq (.trim [3]) (.exit 0))) (.seq (.blk 1 (.seq (.reg false c45_4) (.reg false c45_5))) (.reg false c45_6)))) σ := rfl
attribute [simp ↓] c45_L0_u
def Jbj (k0 : Int) (s : ((FS Kj) × Int)) : Option (LR ((FS Kj) × Int) (FS Kj)) := match s with
 | (s0, s1) => (if (ilt s1 k0) = true then (J3 (fget s0 s1) fun v7 => (J3 (X2 v7.Cells) fun v11 => some (.nx ((fset s0 s1 (⟨v7.Kind, v7.Role, v7.Layer, v7.Z, v7.Speed, v11⟩ : Kj)), (iadd .i64 s1 1)))))
 else some (.dn s0))
def j8 (k0 : Int) (s : ((FS Kj) × Int)) : St := match s with
 | (s0, s1) => (zo s0 (⟨fr [(3, .nils), (8, .int .i64 k0), (9, .int .i64 s1)], hl []⟩)
  (fun l0 => ⟨fr [(3, .arr 3 0 0 l0.l.length), (8, .int .i64 k0), (9, .int .i64 s1)], hl [(3, .arr 0 6 40 (Jp J2 l0.l) false)]⟩))
def zy (k0 : Int) (x : (FS Kj)) : LE × St := (zo x (.exit 0, ⟨fr [(3, .nils)], hl []⟩)
  (fun l0 => (.exit 0, ⟨fr [(3, .arr 3 0 0 l0.l.length)], hl [(3, .arr 0 6 40 (Jp J2 l0.l) false)]⟩)))
theorem Jfr {k0} {s} {r} (h : Ky (Jbj k0) bigN s = some r) : LK env [] 0 [3, 8, 9] J0k (some (j8 k0 s)) = some (zy k0 r) := Kt (st := j8 k0) (out := zy k0) (by
 clear h s r
 rintro ⟨s0, s1⟩ x h
 simp only [Jbj] at h
 cases e8 : s0 with
 | nil =>
  try simp only [e8, Jr] at h
  rcases ifC h with ⟨c9, h⟩ | ⟨c9, h⟩
  ·exact absurd h (by simp [Jcg])
  ·cases h
   simp only [j8, zy, e8]
   rw [Jn]
   simp [*]
 | lst l7 =>
  try simp only [e8] at h
  rcases ifC h with ⟨c10, h⟩ | ⟨c10, h⟩
  ·obtain ⟨v14, h13, h⟩ := oS h
   have f11 := Qa (w := 6) h13
   have f12 := h13
   have f15 := (Jgd (e := J2) f12 false 5 1 (by decide) (by decide))
   simp only [J2] at f15
   obtain ⟨v18, h17, h⟩ := oS h
   have f16 := Jdq h17
   have f21 := @Jg1 _ _ J2 _ (FS.lst l7) s1 v14 (⟨v14.Kind, v14.Role, v14.Layer, v14.Z, v14.Speed, v18⟩ : Kj) f12 5 [encF Je v18] (by simp) (by simp [J2])
   have f22 := Jo8 (w := 6) f12 5 1 (by decide)
   try simp at f22
   cases h
   simp only [j8, e8]
   rw [Jn]
   simp [*]
  ·cases h
   simp only [j8, zy, e8]
   rw [Jn]
   simp [*]) bigN s r h
def Jdy (p0 : (FS Kj)) : Option (FS Kj) := (J3 (X0 p0) fun v2 => (J3 (Ky (Jbj (flen v2)) bigN (v2, 0)) fun v16 => some v16))
theorem Jmd {p0} {r} (h : Jdy p0 = some r) : FC env 45 [encF J2 p0] none = some (encF J2 r, fun _ => none) := by
 unfold Jdy at h
 obtain ⟨v2, h1, h⟩ := oS h
 have f3 := Jb6 h1
 cases e5 : v2 with
 | nil =>
  try simp only [e5, Jr] at h
  simp only [e5, Jr, Jj, Jk] at f3
  have f6 : ∀ H : Heap, Jak (FC env) 68 H [encF J2 p0] = some (.nils, H) := by
    intro H 
    simp [*]
  obtain ⟨v24, h23, h⟩ := oS h
  have f25 := Jfr h23
  simp only [j8, zy, J5] at f25
  cases e28 : v24 with
  | nil =>
   try simp only [e28, Jr] at h
   simp only [e28, Jr, Jj, Jk] at f25
   cases h
   refine J4 (lf := lf45) rfl rfl rfl ?_
   simp only [lf45, lc45]
   simp [*, -Qr]
  | lst l27 =>
   try simp only [e28] at h
   simp only [e28, Jr, Jj, Jk] at f25
   cases h
   refine J4 (lf := lf45) rfl rfl rfl ?_
   simp only [lf45, lc45]
   simp [*, -Qr, Qm (e := J2) (el := 40) (fz := false)]
 | lst l4 =>
  try simp only [e5] at h
  simp only [e5, Jr, Jj, Jk] at f3
  have f29 : ∀ H : Heap, H 701068000 = none → Jak (FC env) 68 H [encF J2 p0] = some (.arr 701068000 0 0 (FS.lst l4).l.length, upd H 701068000 (some (.arr 0 6 40 (Jp J2 (FS.lst l4).l) false))) := by
    intro H q0
    simp [*, q0]
  obtain ⟨v31, h30, h⟩ := oS h
  have f32 := Jfr h30
  simp only [j8, zy, J5] at f32
  cases e35 : v31 with
  | nil =>
   try simp only [e35, Jr] at h
   simp only [e35, Jr, Jj, Jk] at f32
   cases h
   refine J4 (lf := lf45) rfl rfl rfl ?_
   simp only [lf45, lc45]
   simp [*, -Qr]
  | lst l34 =>
   try simp only [e35] at h
   simp only [e35, Jr, Jj, Jk] at f32
   cases h
   refine J4 (lf := lf45) rfl rfl rfl ?_
   simp only [lf45, lc45]
   simp [*, -Qr, Qm (e := J2) (el := 40) (fz := false)]
attribute [simp] c48_0 c48_1 c48_2 c48_3 c48_4 c48_5 c48_6 c48_7 c48_9
theorem c48_L0_u : EC Γ ps 0 J49 σ = EC Γ ps 0 (.seq (.reg false c48_3) (.seq (.cond (.t 13) .skip (.seq (.trim [5]) (.exit 0))) (.seq (.blk 1 (.seq (.reg false c48_4) (.seq (.reg false c48_5) (.cond (.t 19) (.reg false c48_6) .skip)))) (.reg false c48_7)))) σ := rfl
attribute [simp ↓] c48_L0_u
def Jae (k0 : Int) (k1 : Int) (s : ((FS Kj) × Int)) : Option (LR ((FS Kj) × Int) (FS Kj)) := match s with
 | (s0, s1) => (if (ilt s1 k1) = true then (J3 (fget s0 s1) fun v7 => (if (ieq v7.Kind 3) = true then some (.nx ((fset s0 s1 (⟨v7.Kind, v7.Role, v7.Layer, v7.Z, (imin v7.Speed k0), v7.Cells⟩ : Kj)), (iadd .i64 s1 1)))
 else some (.nx (s0, (iadd .i64 s1 1)))))
 else some (.dn s0))
def Zf (k0 : Int) (k1 : Int) (s : ((FS Kj) × Int)) : St := match s with
 | (s0, s1) => (zo s0 (⟨fr [(1, .int .i64 k0), (5, .nils), (10, .nils), (11, .int .i64 k1), (12, .int .i64 s1)], hl []⟩)
  (fun l0 => ⟨fr [(1, .int .i64 k0), (5, .arr 5 0 0 l0.l.length), (10, .arr 5 0 0 l0.l.length), (11, .int .i64 k1), (12, .int .i64 s1)], hl [(5, .arr 0 6 40 (Jp J2 l0.l) false)]⟩))
def ze (k0 : Int) (k1 : Int) (x : (FS Kj)) : LE × St := (zo x (.exit 0, ⟨fr [(5, .nils)], hl []⟩)
  (fun l0 => (.exit 0, ⟨fr [(5, .arr 5 0 0 l0.l.length)], hl [(5, .arr 0 6 40 (Jp J2 l0.l) false)]⟩)))
theorem Je4 {k0} {k1} {s} {r} (h : Ky (Jae k0 k1) bigN s = some r) : LK env [] 0 [1, 5, 10, 11, 12] J49 (some (Zf k0 k1 s)) = some (ze k0 k1 r) := Kt (st := Zf k0 k1) (out := ze k0 k1) (by
 clear h s r
 rintro ⟨s0, s1⟩ x h
 simp only [Jae] at h
 cases e8 : s0 with
 | nil =>
  try simp only [e8, Jr] at h
  rcases ifC h with ⟨c9, h⟩ | ⟨c9, h⟩
  ·exact absurd h (by simp [Jcg])
  ·cases h
   simp only [Zf, ze, e8]
   rw [Jn]
   simp [*]
 | lst l7 =>
  try simp only [e8] at h
  rcases ifC h with ⟨c10, h⟩ | ⟨c10, h⟩
  ·obtain ⟨v14, h13, h⟩ := oS h
   have f11 := Qa (w := 6) h13
   have f12 := h13
   have f15 := (X1 (e := J2) f12 true 6 (by decide) (by decide))
   simp only [J2] at f15
   rcases ifC h with ⟨c16, h⟩ | ⟨c16, h⟩
   ·have f19 := @Jg1 _ _ J2 _ (FS.lst l7) s1 v14 (⟨v14.Kind, v14.Role, v14.Layer, v14.Z, (imin v14.Speed k0), v14.Cells⟩ : Kj) f12 4 [.int .i64 (imin v14.Speed k0)] (by simp) (by simp [J2])
    have f20 := Jo8 (w := 6) f12 4 1 (by decide)
    try simp at f20
    cases h
    simp only [Zf, e8]
    rw [Jn]
    simp [*]
   ·cases h
    simp only [Zf, e8]
    rw [Jn]
    simp [*]
  ·cases h
   simp only [Zf, ze, e8]
   rw [Jn]
   simp [*]) bigN s r h
def Jcm (p0 : (FS Kj)) (p1 : Int) : Option (FS Kj) := (J3 (X0 p0) fun v2 => (J3 (Ky (Jae p1 (flen v2)) bigN (v2, 0)) fun v14 => some v14))
theorem Jg8 {p0} {p1} {r} (h : Jcm p0 p1 = some r) : FC env 48 [encF J2 p0, .int .i64 p1] none = some (encF J2 r, fun _ => none) := by
 unfold Jcm at h
 obtain ⟨v2, h1, h⟩ := oS h
 have f3 := Jb6 h1
 cases e5 : v2 with
 | nil =>
  try simp only [e5, Jr] at h
  simp only [e5, Jr, Jj, Jk] at f3
  have f6 : ∀ H : Heap, Jak (FC env) 68 H [encF J2 p0] = some (.nils, H) := by
    intro H 
    simp [*]
  obtain ⟨v22, h21, h⟩ := oS h
  have f23 := Je4 h21
  simp only [Zf, ze, J5] at f23
  cases e26 : v22 with
  | nil =>
   try simp only [e26, Jr] at h
   simp only [e26, Jr, Jj, Jk] at f23
   cases h
   refine J4 (lf := lf48) rfl rfl rfl ?_
   simp only [lf48, lc48]
   simp [*, -Qr]
  | lst l25 =>
   try simp only [e26] at h
   simp only [e26, Jr, Jj, Jk] at f23
   cases h
   refine J4 (lf := lf48) rfl rfl rfl ?_
   simp only [lf48, lc48]
   simp [*, -Qr, Qm (e := J2) (el := 40) (fz := false)]
 | lst l4 =>
  try simp only [e5] at h
  simp only [e5, Jr, Jj, Jk] at f3
  have f27 : ∀ H : Heap, H 701068000 = none → Jak (FC env) 68 H [encF J2 p0] = some (.arr 701068000 0 0 (FS.lst l4).l.length, upd H 701068000 (some (.arr 0 6 40 (Jp J2 (FS.lst l4).l) false))) := by
    intro H q0
    simp [*, q0]
  obtain ⟨v29, h28, h⟩ := oS h
  have f30 := Je4 h28
  simp only [Zf, ze, J5] at f30
  cases e33 : v29 with
  | nil =>
   try simp only [e33, Jr] at h
   simp only [e33, Jr, Jj, Jk] at f30
   cases h
   refine J4 (lf := lf48) rfl rfl rfl ?_
   simp only [lf48, lc48]
   simp [*, -Qr]
  | lst l32 =>
   try simp only [e33] at h
   simp only [e33, Jr, Jj, Jk] at f30
   cases h
   refine J4 (lf := lf48) rfl rfl rfl ?_
   simp only [lf48, lc48]
   simp [*, -Qr, Qm (e := J2) (el := 40) (fz := false)]
attribute [simp] c70_0 c70_1 c70_2 c70_3 c70_4 c70_5 c70_6
def Jcy (p0 : Kj) : Option Int := (if (bor (band (ine p0.Kind 2) (ine p0.Kind 3)) (ile p0.Speed 0)) = true then some 0
 else (if ieq p0.Speed 0 = true then none else (if (igt (irem (imul .i64 (flen p0.Cells) 1000) p0.Speed) 0) = true then (if ieq p0.Speed 0 = true then none else some (iadd .i64 (iquo .i64 (imul .i64 (flen p0.Cells) 1000) p0.Speed) 1))
 else (if ieq p0.Speed 0 = true then none else some (iquo .i64 (imul .i64 (flen p0.Cells) 1000) p0.Speed)))))
theorem Jkf {p0} {r} (h : Jcy p0 = some r) : FC env 70 [.agg [.int .i64 p0.Kind, .int .i64 p0.Role, .int .i64 p0.Layer, .int .i64 p0.Z, .int .i64 p0.Speed, encF Je p0.Cells]] none = some (.int .i64 r, fun _ => none) := by
 unfold Jcy at h
 rcases ifC h with ⟨c1, h⟩ | ⟨c1, h⟩
 ·cases h
  refine J4 (lf := lf70) rfl rfl rfl ?_
  simp only [lf70, lc70]
  rcases tof (ine p0.Kind 2) with a2 | a2 <;> rcases tof (ine p0.Kind 3) with a3 | a3 <;> rcases tof (ile p0.Speed 0) with a4 | a4 <;> (try (simp [a2, a3, a4] at c1; done)) <;> simp [*]
 ·obtain ⟨h5, h⟩ := ifN h
  rcases ifC h with ⟨c6, h⟩ | ⟨c6, h⟩
  ·obtain ⟨h7, h⟩ := ifN h
   cases h
   refine J4 (lf := lf70) rfl rfl rfl ?_
   simp only [lf70, lc70]
   rcases tof (ine p0.Kind 2) with a8 | a8 <;> rcases tof (ine p0.Kind 3) with a9 | a9 <;> rcases tof (ile p0.Speed 0) with a10 | a10 <;> (try (simp [c6, a8, a9, a10] at c1; done)) <;> simp [*]
  ·obtain ⟨h11, h⟩ := ifN h
   cases h
   refine J4 (lf := lf70) rfl rfl rfl ?_
   simp only [lf70, lc70]
   rcases tof (ine p0.Kind 2) with a12 | a12 <;> rcases tof (ine p0.Kind 3) with a13 | a13 <;> rcases tof (ile p0.Speed 0) with a14 | a14 <;> (try (simp [c6, a12, a13, a14] at c1; done)) <;> simp [*]
attribute [simp] c47_0 c47_1 c47_2 c47_3 c47_4 c47_5 c47_6 c47_8
theorem c47_L0_u : EC Γ ps 0 Jxq σ = EC Γ ps 0 (.seq (.reg false c47_3) (.seq (.cond (.t 9) .skip (.seq (.trim [3]) (.exit 0))) (.seq (.blk 1 (.seq (.reg false c47_4) (.reg false c47_5))) (.reg false c47_6)))) σ := rfl
attribute [simp ↓] c47_L0_u
def Jck (k0 : (FS Kj)) (k1 : Int) (s : (Int × Int)) : Option (LR (Int × Int) Int) := match s with
 | (s0, s1) => (if (ilt s1 k1) = true then (J3 (fget k0 s1) fun v4 => (J3 (Jcy v4) fun v7 => some (.nx ((iadd .i64 s0 v7), (iadd .i64 s1 1)))))
 else some (.dn s0))
def Jb3 (k0 : (FS Kj)) (k1 : Int) (s : (Int × Int)) : St := match s with
 | (s0, s1) => ⟨fr [(3, .int .i64 s0), (6, encF J2 k0), (7, .int .i64 k1), (8, .int .i64 s1)], hl []⟩
def Jct (k0 : (FS Kj)) (k1 : Int) (x : Int) : LE × St := (.exit 0, ⟨fr [(3, .int .i64 x)], hl []⟩)
theorem Jlg {k0} {k1} {s} {r} (h : Ky (Jck k0 k1) bigN s = some r) : LK env [] 0 [3, 6, 7, 8] Jxq (some (Jb3 k0 k1 s)) = some (Jct k0 k1 r) := Kt (st := Jb3 k0 k1) (out := Jct k0 k1) (by
 clear h s r
 rintro ⟨s0, s1⟩ x h
 simp only [Jck] at h
 rcases ifC h with ⟨c1, h⟩ | ⟨c1, h⟩
 ·obtain ⟨v4, h3, h⟩ := oS h
  have f2 := Kc (e := J2) h3
  obtain ⟨v7, h6, h⟩ := oS h
  have f5 := Jkf h6
  cases h
  simp only [Jb3]
  rw [Jn]
  simp [*]
 ·cases h
  simp only [Jb3, Jct]
  rw [Jn]
  simp [*]) bigN s r h
def Jfp (p0 : (FS Kj)) : Option Int := (J3 (Ky (Jck p0 (flen p0)) bigN (0, 0)) fun v9 => some v9)
theorem Jog {p0} {r} (h : Jfp p0 = some r) : FC env 47 [encF J2 p0] none = some (.int .i64 r, fun _ => none) := by
 unfold Jfp at h
 obtain ⟨v9, h8, h⟩ := oS h
 have f10 := Jlg h8
 simp only [Jb3, Jct, J5] at f10
 try simp only [Jj, Jk, Jq, Jv, Jt, Jx, Jw, Ju] at f10
 cases h
 refine J4 (lf := lf47) rfl rfl rfl ?_
 simp only [lf47, lc47]
 simp [*]
attribute [simp] c46_0 c46_1
def Jd1 (p0 : Int) (p1 : (FS Kj)) (p2 : J6) : Option Bool := (J3 (Jcm p1 p0) fun v3 => (J3 (Jfp v3) fun v6 => some (ige v6 p2.MinTime)))
theorem Jmf {p0} {p1} {p2} {r} (h : Jd1 p0 p1 p2 = some r) : FC env 46 [.int .i64 p0, .rptr [encF J2 p1], .rptr [.int .i64 p2.Pitch, .int .i64 p2.Height, .int .i64 p2.Walls, .int .i64 p2.Top, .int .i64 p2.Bottom, .int .i64 p2.Pattern, .int .i64 p2.Spacing, .bool p2.Support, .int .i64 p2.Reach, .int .i64 p2.Gap, .int .i64 p2.Brim, .int .i64 p2.Skirt, .int .i64 p2.Drop, .int .i64 p2.Feed, .int .i64 p2.Travel, .int .i64 p2.Retract, .int .i64 p2.MinTime, .int .i64 p2.MinFeed, .int .i64 p2.Nozzle, .int .i64 p2.Bed]] none = some (.bool r, fun _ => none) := by
 unfold Jd1 at h
 obtain ⟨v3, h2, h⟩ := oS h
 have f1 := Jg8 h2
 obtain ⟨v6, h5, h⟩ := oS h
 have f4 := Jog h5
 cases h
 refine J4 (lf := lf46) rfl rfl rfl ?_
 simp only [lf46, lc46]
 simp [*]
attribute [simp] c26_0 c26_1 c26_2 c26_3 c26_4 c26_5 c26_6 c26_7 c26_8 c26_9 Jy3 c26_12
theorem c26_L0_u : EC Γ ps 0 J52 σ = EC Γ ps 0 (.seq (.seq (.reg false c26_6) (.cond (.t 30) .skip (.seq (.trim [2, 6]) (.exit 0)))) (.blk 1 (.seq (.reg false c26_7) (.seq (.reg false c26_8) (.cond (.t 38) (.reg false c26_9) (.reg false Jy3)))))) σ := rfl
attribute [simp ↓] c26_L0_u
def Jbt (k0 : (FS Kj)) (k1 : J6) (s : (Int × Int)) : Option (LR (Int × Int) Int) := match s with
 | (s0, s1) => (if (ilt s0 s1) = true then (J3 (Jd1 (iquo .i64 (iadd .i64 (iadd .i64 s0 s1) 1) 2) k0 k1) fun v11 => (if v11 = true then some (.nx ((iquo .i64 (iadd .i64 (iadd .i64 s0 s1) 1) 2), s1))
 else some (.nx (s0, (isub .i64 (iquo .i64 (iadd .i64 (iadd .i64 s0 s1) 1) 2) 1)))))
 else some (.dn s0))
def Ja5 (k0 : (FS Kj)) (k1 : J6) (s : (Int × Int)) : St := match s with
 | (s0, s1) => ⟨fr [(2, .ptr 2 0 0), (5, .fn 46 [.ptr 2 0 0, .ptr 3 0 0]), (6, .int .i64 s0), (7, .int .i64 s1)], hl [(2, .box 0 [encF J2 k0]), (3, .box 0 [.int .i64 k1.Pitch, .int .i64 k1.Height, .int .i64 k1.Walls, .int .i64 k1.Top, .int .i64 k1.Bottom, .int .i64 k1.Pattern, .int .i64 k1.Spacing, .bool k1.Support, .int .i64 k1.Reach, .int .i64 k1.Gap, .int .i64 k1.Brim, .int .i64 k1.Skirt, .int .i64 k1.Drop, .int .i64 k1.Feed, .int .i64 k1.Travel, .int .i64 k1.Retract, .int .i64 k1.MinTime, .int .i64 k1.MinFeed, .int .i64 k1.Nozzle, .int .i64 k1.Bed])]⟩
def Jcq (k0 : (FS Kj)) (k1 : J6) (x : Int) : LE × St := (.exit 0, ⟨fr [(2, .ptr 2 0 0), (6, .int .i64 x)], hl [(2, .box 0 [encF J2 k0])]⟩)
theorem Jlk {k0} {k1} {s} {r} (h : Ky (Jbt k0 k1) bigN s = some r) : LK env [] 0 [2, 5, 6, 7] J52 (some (Ja5 k0 k1 s)) = some (Jcq k0 k1 r) := Kt (st := Ja5 k0 k1) (out := Jcq k0 k1) (by
 clear h s r
 rintro ⟨s0, s1⟩ x h
 simp only [Jbt] at h
 rcases ifC h with ⟨c9, h⟩ | ⟨c9, h⟩
 ·obtain ⟨v12, h11, h⟩ := oS h
  have f10 := Jmf h11
  rcases ifC h with ⟨c13, h⟩ | ⟨c13, h⟩
  ·cases h
   simp only [Ja5]
   rw [Jn]
   try simp only [c9, c13] at f10
   simp [*, (show ieq 2 0 = false from rfl)]
  ·cases h
   simp only [Ja5]
   rw [Jn]
   try simp only [c9, c13] at f10
   simp [*, (show ieq 2 0 = false from rfl)]
 ·cases h
  simp only [Ja5, Jcq]
  rw [Jn]
  simp [*]) bigN s r h
def Jdo (p0 : (FS Kj)) (p1 : J6) : Option (FS Kj) := (J3 (Jdy p0) fun v3 => (if (bnot (Xo p1)) = true then some v3
 else (if ieq p1.Pitch 0 = true then none else (if ieq p1.Pitch 0 = true then none else (J3 (Ky (Jbt v3 p1) bigN ((imax (iquo .i64 p1.MinFeed p1.Pitch) 1), (imax (iquo .i64 p1.Feed p1.Pitch) 1))) fun v14 => (J3 (Jcm v3 v14) fun v18 => some v18))))))
theorem Jjm {p0} {p1} {r} (h : Jdo p0 p1 = some r) : FC env 26 [encF J2 p0, .agg [.int .i64 p1.Pitch, .int .i64 p1.Height, .int .i64 p1.Walls, .int .i64 p1.Top, .int .i64 p1.Bottom, .int .i64 p1.Pattern, .int .i64 p1.Spacing, .bool p1.Support, .int .i64 p1.Reach, .int .i64 p1.Gap, .int .i64 p1.Brim, .int .i64 p1.Skirt, .int .i64 p1.Drop, .int .i64 p1.Feed, .int .i64 p1.Travel, .int .i64 p1.Retract, .int .i64 p1.MinTime, .int .i64 p1.MinFeed, .int .i64 p1.Nozzle, .int .i64 p1.Bed]] none = some (encF J2 r, fun _ => none) := by
 unfold Jdo at h
 obtain ⟨v3, h2, h⟩ := oS h
 have f1 := Jmd h2
 have f4 := Jin p1
 rcases ifC h with ⟨c5, h⟩ | ⟨c5, h⟩
 ·cases h
  refine J4 (lf := lf26) rfl rfl rfl ?_
  simp only [lf26, lc26]
  rcases tof (Xo p1) with a6 | a6
  ·simp [a6] at c5
  ·simp [*]
 ·obtain ⟨h7, h⟩ := ifN h
  obtain ⟨h8, h⟩ := ifN h
  obtain ⟨v15, h14, h⟩ := oS h
  have f16 := Jlk h14
  simp only [Ja5, Jcq, J5] at f16
  try simp only [Jj, Jk, Jq, Jv, Jt, Jx, Jw, Ju] at f16
  obtain ⟨v20, h19, h⟩ := oS h
  have f18 := Jg8 h19
  cases h
  refine J4 (lf := lf26) rfl rfl rfl ?_
  simp only [lf26, lc26]
  rcases tof (Xo p1) with a21 | a21
  ·try simp only [a21] at f16
   simp [*]
  ·simp [a21] at c5
attribute [simp] c7_0 c7_1 c7_2 c7_3 c7_4 c7_5 c7_6 c7_7 c7_8 c7_10 c7_11 c7_12 c7_13 c7_14 c7_15 c7_16 c7_17 c7_18 c7_19 c7_20 c7_22 c7_23 c7_25
theorem c7_L0_u : EC Γ ps 0 c7_L0 σ = EC Γ ps 0 (.seq (.reg false c7_4) (.seq (.cond (.t 44) .skip (.seq (.trim [0, 2, 6, 8, 9, 11]) (.exit 0))) (.seq (.blk 1 (.seq (.reg false c7_5) (.seq (.reg false c7_6) (.cond (.t 49) (.seq (.reg false c7_7) (.seq (.trim [10, 11, 12]) .ret)) .skip)))) (.reg false c7_8)))) σ := rfl
theorem c7_L1_u : EC Γ ps 0 c7_L1 σ = EC Γ ps 0 (.seq (.seq (.reg true c7_19) (.cond (.t 99) .skip (.seq (.trim [0, 9, 11, 15, 17, 18]) (.exit 4)))) (.blk 5 (.reg false c7_20))) σ := rfl
theorem c7_L2_u : EC Γ ps 0 c7_L2 σ = EC Γ ps 0 (.seq (.seq (.reg false c7_17) (.cond (.t 80) .skip (.seq (.trim [9, 11, 15]) (.exit 2)))) (.blk 3 (.seq (.reg false c7_18) (.seq (.blk 4 (.loop [0, 9, 11, 15, 17, 18] c7_L1)) (.seq (.reg false c7_22) (.reg false c7_23)))))) σ := rfl
attribute [simp ↓] c7_L0_u c7_L1_u c7_L2_u
def Y1 (k0 : (FS Jd)) (k1 : Int) (k2 : Ji) (k3 : Ja) (k4 : J6) (k5 : (FS Jd)) (k6 : Int) (s : (Ja × Int)) : Option (LR (Ja × Int) ((Ja × (FS Kj) × Int) ⊕ Ja)) := match s with
 | (s0, s1) => (if (ilt s1 k6) = true then (J3 (fget k5 s1) fun v10 => (J3 (Ja0 v10) fun v13 => (if (bnot v13) = true then some (.dn (.inl ((⟨0, 0⟩ : Ja), (FS.nil : (FS Kj)), 1)))
 else some (.nx (s0, (iadd .i64 s1 1))))))
 else some (.dn (.inr s0)))
def Zl (k0 : (FS Jd)) (k1 : Int) (k2 : Ji) (k3 : Ja) (k4 : J6) (k5 : (FS Jd)) (k6 : Int) (s : (Ja × Int)) : St := match s with
 | (s0, s1) => ⟨fr [(0, encF Jh k0), (2, .int .i64 k1), (6, .ptr 6 0 0), (8, .ptr 8 0 0), (9, .ptr 9 0 0), (11, .ptr 11 0 0), (41, encF Jh k5), (42, .int .i64 k6), (43, .int .i64 s1)], hl [(6, .box 0 [encF Jg k2.Rows]), (8, .box 0 [.int .i64 k3.X, .int .i64 k3.Y]), (9, .box 0 [.int .i64 k4.Pitch, .int .i64 k4.Height, .int .i64 k4.Walls, .int .i64 k4.Top, .int .i64 k4.Bottom, .int .i64 k4.Pattern, .int .i64 k4.Spacing, .bool k4.Support, .int .i64 k4.Reach, .int .i64 k4.Gap, .int .i64 k4.Brim, .int .i64 k4.Skirt, .int .i64 k4.Drop, .int .i64 k4.Feed, .int .i64 k4.Travel, .int .i64 k4.Retract, .int .i64 k4.MinTime, .int .i64 k4.MinFeed, .int .i64 k4.Nozzle, .int .i64 k4.Bed]), (11, .box 0 [.int .i64 s0.X, .int .i64 s0.Y])]⟩
def jj (k0 : (FS Jd)) (k1 : Int) (k2 : Ji) (k3 : Ja) (k4 : J6) (k5 : (FS Jd)) (k6 : Int) (x : ((Ja × (FS Kj) × Int) ⊕ Ja)) : LE × St := match x with
 | .inl x => (.ret, ⟨fr [(10, .nils), (11, .ptr 11 0 0), (12, .int .i64 x.2.2)], hl [(11, .box 0 [.int .i64 x.1.X, .int .i64 x.1.Y])]⟩)
 | .inr x => (.exit 0, ⟨fr [(0, encF Jh k0), (2, .int .i64 k1), (6, .ptr 6 0 0), (8, .ptr 8 0 0), (9, .ptr 9 0 0), (11, .ptr 11 0 0)], hl [(6, .box 0 [encF Jg k2.Rows]), (8, .box 0 [.int .i64 k3.X, .int .i64 k3.Y]), (9, .box 0 [.int .i64 k4.Pitch, .int .i64 k4.Height, .int .i64 k4.Walls, .int .i64 k4.Top, .int .i64 k4.Bottom, .int .i64 k4.Pattern, .int .i64 k4.Spacing, .bool k4.Support, .int .i64 k4.Reach, .int .i64 k4.Gap, .int .i64 k4.Brim, .int .i64 k4.Skirt, .int .i64 k4.Drop, .int .i64 k4.Feed, .int .i64 k4.Travel, .int .i64 k4.Retract, .int .i64 k4.MinTime, .int .i64 k4.MinFeed, .int .i64 k4.Nozzle, .int .i64 k4.Bed]), (11, .box 0 [.int .i64 x.X, .int .i64 x.Y])]⟩)
theorem Jie {k0} {k1} {k2} {k3} {k4} {k5} {k6} {s} {r} (h : Ky (Y1 k0 k1 k2 k3 k4 k5 k6) bigN s = some r) : LK env [] 0 [0, 2, 6, 8, 9, 11, 41, 42, 43] c7_L0 (some (Zl k0 k1 k2 k3 k4 k5 k6 s)) = some (jj k0 k1 k2 k3 k4 k5 k6 r) := Kt (st := Zl k0 k1 k2 k3 k4 k5 k6) (out := jj k0 k1 k2 k3 k4 k5 k6) (by
 clear h s r
 rintro ⟨s0, s1⟩ x h
 simp only [Y1] at h
 rcases ifC h with ⟨c12, h⟩ | ⟨c12, h⟩
 ·obtain ⟨v15, h14, h⟩ := oS h
  have f13 := Kc (e := Jh) h14
  obtain ⟨v18, h17, h⟩ := oS h
  have f16 := Jch h17
  rcases ifC h with ⟨c19, h⟩ | ⟨c19, h⟩
  ·cases h
   simp only [Zl, jj]
   rw [Jn]
   rcases tof v18 with a20 | a20
   ·simp [c12, a20] at c19
   ·simp [*]
  ·cases h
   simp only [Zl]
   rw [Jn]
   rcases tof v18 with a21 | a21
   ·simp [*]
   ·simp [c12, a21] at c19
 ·cases h
  simp only [Zl, jj]
  rw [Jn]
  simp [*]) bigN s r h
def Z6 (k0 : (FS Jd)) (k1 : J6) (k2 : Ja) (k3 : Jo) (k4 : Int) (s : Int) : Option (LR Int Int) := match s with
 | s0 => (J3 (gOpt (ilt s0 (flen k0)) (fget k0 s0)) fun v28 => (J3 (gOpt (ilt s0 (flen k0)) (fget k0 k4)) fun v31 => (if (band (ilt s0 (flen k0)) (ieq (((v28.getD (⟨0, false, (FS.nil : (FS Ja))⟩ : Jd))).Role) (((v31.getD (⟨0, false, (FS.nil : (FS Ja))⟩ : Jd))).Role))) = true then some (.nx (iadd .i64 s0 1))
 else some (.dn s0))))
def X3 (k0 : (FS Jd)) (k1 : J6) (k2 : Ja) (k3 : Jo) (k4 : Int) (s : Int) : St := match s with
 | s0 => (zo k3.list.ops (⟨fr [(0, encF Jh k0), (9, .ptr 9 0 0), (11, .ptr 11 0 0), (15, .ptr 56 0 0), (17, .int .i64 k4), (18, .int .i64 s0)], hl [(9, .box 0 [.int .i64 k1.Pitch, .int .i64 k1.Height, .int .i64 k1.Walls, .int .i64 k1.Top, .int .i64 k1.Bottom, .int .i64 k1.Pattern, .int .i64 k1.Spacing, .bool k1.Support, .int .i64 k1.Reach, .int .i64 k1.Gap, .int .i64 k1.Brim, .int .i64 k1.Skirt, .int .i64 k1.Drop, .int .i64 k1.Feed, .int .i64 k1.Travel, .int .i64 k1.Retract, .int .i64 k1.MinTime, .int .i64 k1.MinFeed, .int .i64 k1.Nozzle, .int .i64 k1.Bed]), (11, .box 0 [.int .i64 k2.X, .int .i64 k2.Y]), (56, .box 0 [.nils, encF Jg k3.r.Rows, .int .i64 k3.s.Pitch, .int .i64 k3.s.Height, .int .i64 k3.s.Walls, .int .i64 k3.s.Top, .int .i64 k3.s.Bottom, .int .i64 k3.s.Pattern, .int .i64 k3.s.Spacing, .bool k3.s.Support, .int .i64 k3.s.Reach, .int .i64 k3.s.Gap, .int .i64 k3.s.Brim, .int .i64 k3.s.Skirt, .int .i64 k3.s.Drop, .int .i64 k3.s.Feed, .int .i64 k3.s.Travel, .int .i64 k3.s.Retract, .int .i64 k3.s.MinTime, .int .i64 k3.s.MinFeed, .int .i64 k3.s.Nozzle, .int .i64 k3.s.Bed, .int .i64 k3.nozzle.X, .int .i64 k3.nozzle.Y])]⟩)
  (fun l0 => ⟨fr [(0, encF Jh k0), (9, .ptr 9 0 0), (11, .ptr 11 0 0), (15, .ptr 56 0 0), (17, .int .i64 k4), (18, .int .i64 s0)], hl [(9, .box 0 [.int .i64 k1.Pitch, .int .i64 k1.Height, .int .i64 k1.Walls, .int .i64 k1.Top, .int .i64 k1.Bottom, .int .i64 k1.Pattern, .int .i64 k1.Spacing, .bool k1.Support, .int .i64 k1.Reach, .int .i64 k1.Gap, .int .i64 k1.Brim, .int .i64 k1.Skirt, .int .i64 k1.Drop, .int .i64 k1.Feed, .int .i64 k1.Travel, .int .i64 k1.Retract, .int .i64 k1.MinTime, .int .i64 k1.MinFeed, .int .i64 k1.Nozzle, .int .i64 k1.Bed]), (11, .box 0 [.int .i64 k2.X, .int .i64 k2.Y]), (56, .box 0 [.arr 1056000 0 0 l0.l.length, encF Jg k3.r.Rows, .int .i64 k3.s.Pitch, .int .i64 k3.s.Height, .int .i64 k3.s.Walls, .int .i64 k3.s.Top, .int .i64 k3.s.Bottom, .int .i64 k3.s.Pattern, .int .i64 k3.s.Spacing, .bool k3.s.Support, .int .i64 k3.s.Reach, .int .i64 k3.s.Gap, .int .i64 k3.s.Brim, .int .i64 k3.s.Skirt, .int .i64 k3.s.Drop, .int .i64 k3.s.Feed, .int .i64 k3.s.Travel, .int .i64 k3.s.Retract, .int .i64 k3.s.MinTime, .int .i64 k3.s.MinFeed, .int .i64 k3.s.Nozzle, .int .i64 k3.s.Bed, .int .i64 k3.nozzle.X, .int .i64 k3.nozzle.Y]), (1056000, .arr 0 6 40 (Jp J2 l0.l) false)]⟩))
def ji (k0 : (FS Jd)) (k1 : J6) (k2 : Ja) (k3 : Jo) (k4 : Int) (x : Int) : LE × St := (zo k3.list.ops (.exit 4, ⟨fr [(0, encF Jh k0), (9, .ptr 9 0 0), (11, .ptr 11 0 0), (15, .ptr 56 0 0), (17, .int .i64 k4), (18, .int .i64 x)], hl [(9, .box 0 [.int .i64 k1.Pitch, .int .i64 k1.Height, .int .i64 k1.Walls, .int .i64 k1.Top, .int .i64 k1.Bottom, .int .i64 k1.Pattern, .int .i64 k1.Spacing, .bool k1.Support, .int .i64 k1.Reach, .int .i64 k1.Gap, .int .i64 k1.Brim, .int .i64 k1.Skirt, .int .i64 k1.Drop, .int .i64 k1.Feed, .int .i64 k1.Travel, .int .i64 k1.Retract, .int .i64 k1.MinTime, .int .i64 k1.MinFeed, .int .i64 k1.Nozzle, .int .i64 k1.Bed]), (11, .box 0 [.int .i64 k2.X, .int .i64 k2.Y]), (56, .box 0 [.nils, encF Jg k3.r.Rows, .int .i64 k3.s.Pitch, .int .i64 k3.s.Height, .int .i64 k3.s.Walls, .int .i64 k3.s.Top, .int .i64 k3.s.Bottom, .int .i64 k3.s.Pattern, .int .i64 k3.s.Spacing, .bool k3.s.Support, .int .i64 k3.s.Reach, .int .i64 k3.s.Gap, .int .i64 k3.s.Brim, .int .i64 k3.s.Skirt, .int .i64 k3.s.Drop, .int .i64 k3.s.Feed, .int .i64 k3.s.Travel, .int .i64 k3.s.Retract, .int .i64 k3.s.MinTime, .int .i64 k3.s.MinFeed, .int .i64 k3.s.Nozzle, .int .i64 k3.s.Bed, .int .i64 k3.nozzle.X, .int .i64 k3.nozzle.Y])]⟩)
  (fun l0 => (.exit 4, ⟨fr [(0, encF Jh k0), (9, .ptr 9 0 0), (11, .ptr 11 0 0), (15, .ptr 56 0 0), (17, .int .i64 k4), (18, .int .i64 x)], hl [(9, .box 0 [.int .i64 k1.Pitch, .int .i64 k1.Height, .int .i64 k1.Walls, .int .i64 k1.Top, .int .i64 k1.Bottom, .int .i64 k1.Pattern, .int .i64 k1.Spacing, .bool k1.Support, .int .i64 k1.Reach, .int .i64 k1.Gap, .int .i64 k1.Brim, .int .i64 k1.Skirt, .int .i64 k1.Drop, .int .i64 k1.Feed, .int .i64 k1.Travel, .int .i64 k1.Retract, .int .i64 k1.MinTime, .int .i64 k1.MinFeed, .int .i64 k1.Nozzle, .int .i64 k1.Bed]), (11, .box 0 [.int .i64 k2.X, .int .i64 k2.Y]), (56, .box 0 [.arr 1056000 0 0 l0.l.length, encF Jg k3.r.Rows, .int .i64 k3.s.Pitch, .int .i64 k3.s.Height, .int .i64 k3.s.Walls, .int .i64 k3.s.Top, .int .i64 k3.s.Bottom, .int .i64 k3.s.Pattern, .int .i64 k3.s.Spacing, .bool k3.s.Support, .int .i64 k3.s.Reach, .int .i64 k3.s.Gap, .int .i64 k3.s.Brim, .int .i64 k3.s.Skirt, .int .i64 k3.s.Drop, .int .i64 k3.s.Feed, .int .i64 k3.s.Travel, .int .i64 k3.s.Retract, .int .i64 k3.s.MinTime, .int .i64 k3.s.MinFeed, .int .i64 k3.s.Nozzle, .int .i64 k3.s.Bed, .int .i64 k3.nozzle.X, .int .i64 k3.nozzle.Y]), (1056000, .arr 0 6 40 (Jp J2 l0.l) false)]⟩)))
theorem Jeb {k0} {k1} {k2} {k3} {k4} {s} {r} (h : Ky (Z6 k0 k1 k2 k3 k4) bigN s = some r) : LK env [] 0 [0, 9, 11, 15, 17, 18] c7_L1 (some (X3 k0 k1 k2 k3 k4 s)) = some (ji k0 k1 k2 k3 k4 r) := Kt (st := X3 k0 k1 k2 k3 k4) (out := ji k0 k1 k2 k3 k4) (by
 clear h s r
 rintro s0 x h
 simp only [Z6] at h
 cases e49 : k3.list.ops with
 | nil =>
  try simp only [e49, Jr] at h
  obtain ⟨v52, h51, h⟩ := oS h
  have f50 := fun (q0 : (ilt s0 (flen k0)) = true) => Kc (e := Jh) (Kb (⟨0, false, (FS.nil : (FS Ja))⟩ : Jd) h51 q0)
  obtain ⟨v55, h54, h⟩ := oS h
  have f53 := fun (q0 : (ilt s0 (flen k0)) = true) => Kc (e := Jh) (Kb (⟨0, false, (FS.nil : (FS Ja))⟩ : Jd) h54 q0)
  rcases ifC h with ⟨c56, h⟩ | ⟨c56, h⟩
  ·cases h
   simp only [X3, e49]
   rw [Jn]
   rcases tof (ilt s0 (flen k0)) with a57 | a57 <;> rcases tof (ieq (((v52.getD (⟨0, false, (FS.nil : (FS Ja))⟩ : Jd))).Role) (((v55.getD (⟨0, false, (FS.nil : (FS Ja))⟩ : Jd))).Role)) with a58 | a58 <;> (try (simp [a57, a58] at c56; done)) <;> simp [*]
  ·cases h
   simp only [X3, ji, e49]
   rw [Jn]
   rcases tof (ilt s0 (flen k0)) with a59 | a59 <;> rcases tof (ieq (((v52.getD (⟨0, false, (FS.nil : (FS Ja))⟩ : Jd))).Role) (((v55.getD (⟨0, false, (FS.nil : (FS Ja))⟩ : Jd))).Role)) with a60 | a60 <;> (try (simp [a59, a60] at c56; done)) <;> simp [*]
 | lst l48 =>
  try simp only [e49] at h
  obtain ⟨v63, h62, h⟩ := oS h
  have f61 := fun (q0 : (ilt s0 (flen k0)) = true) => Kc (e := Jh) (Kb (⟨0, false, (FS.nil : (FS Ja))⟩ : Jd) h62 q0)
  obtain ⟨v66, h65, h⟩ := oS h
  have f64 := fun (q0 : (ilt s0 (flen k0)) = true) => Kc (e := Jh) (Kb (⟨0, false, (FS.nil : (FS Ja))⟩ : Jd) h65 q0)
  rcases ifC h with ⟨c67, h⟩ | ⟨c67, h⟩
  ·cases h
   simp only [X3, e49]
   rw [Jn]
   rcases tof (ilt s0 (flen k0)) with a68 | a68 <;> rcases tof (ieq (((v63.getD (⟨0, false, (FS.nil : (FS Ja))⟩ : Jd))).Role) (((v66.getD (⟨0, false, (FS.nil : (FS Ja))⟩ : Jd))).Role)) with a69 | a69 <;> (try (simp [a68, a69] at c67; done)) <;> simp [*]
  ·cases h
   simp only [X3, ji, e49]
   rw [Jn]
   rcases tof (ilt s0 (flen k0)) with a70 | a70 <;> rcases tof (ieq (((v63.getD (⟨0, false, (FS.nil : (FS Ja))⟩ : Jd))).Role) (((v66.getD (⟨0, false, (FS.nil : (FS Ja))⟩ : Jd))).Role)) with a71 | a71 <;> (try (simp [a70, a71] at c67; done)) <;> simp [*]) bigN s r h
def Yz (k0 : (FS Jd)) (k1 : J6) (k2 : Ja) (s : (Jo × Int)) : Option (LR (Jo × Int) Jo) := match s with
 | (s0, s1) => (if (ilt s1 (flen k0)) = true then (J3 (Ky (Z6 k0 k1 k2 (⟨(⟨s0.list.ops⟩ : Kk), s0.r, s0.s, s0.nozzle⟩ : Jo) s1) bigN (iadd .i64 s1 1)) fun v34 => (J3 (fsl k0 s1 v34) fun v38 => (J3 (Yh (⟨(⟨s0.list.ops⟩ : Kk), s0.r, s0.s, s0.nozzle⟩ : Jo) v38) fun v40 => some (.nx ((⟨(⟨v40.list.ops⟩ : Kk), v40.r, v40.s, v40.nozzle⟩ : Jo), v34)))))
 else some (.dn (⟨(⟨s0.list.ops⟩ : Kk), s0.r, s0.s, s0.nozzle⟩ : Jo)))
def Q8 (k0 : (FS Jd)) (k1 : J6) (k2 : Ja) (s : (Jo × Int)) : St := match s with
 | (s0, s1) => (zo s0.list.ops (⟨fr [(0, encF Jh k0), (9, .ptr 9 0 0), (11, .ptr 11 0 0), (15, .ptr 56 0 0), (17, .int .i64 s1)], hl [(9, .box 0 [.int .i64 k1.Pitch, .int .i64 k1.Height, .int .i64 k1.Walls, .int .i64 k1.Top, .int .i64 k1.Bottom, .int .i64 k1.Pattern, .int .i64 k1.Spacing, .bool k1.Support, .int .i64 k1.Reach, .int .i64 k1.Gap, .int .i64 k1.Brim, .int .i64 k1.Skirt, .int .i64 k1.Drop, .int .i64 k1.Feed, .int .i64 k1.Travel, .int .i64 k1.Retract, .int .i64 k1.MinTime, .int .i64 k1.MinFeed, .int .i64 k1.Nozzle, .int .i64 k1.Bed]), (11, .box 0 [.int .i64 k2.X, .int .i64 k2.Y]), (56, .box 0 [.nils, encF Jg s0.r.Rows, .int .i64 s0.s.Pitch, .int .i64 s0.s.Height, .int .i64 s0.s.Walls, .int .i64 s0.s.Top, .int .i64 s0.s.Bottom, .int .i64 s0.s.Pattern, .int .i64 s0.s.Spacing, .bool s0.s.Support, .int .i64 s0.s.Reach, .int .i64 s0.s.Gap, .int .i64 s0.s.Brim, .int .i64 s0.s.Skirt, .int .i64 s0.s.Drop, .int .i64 s0.s.Feed, .int .i64 s0.s.Travel, .int .i64 s0.s.Retract, .int .i64 s0.s.MinTime, .int .i64 s0.s.MinFeed, .int .i64 s0.s.Nozzle, .int .i64 s0.s.Bed, .int .i64 s0.nozzle.X, .int .i64 s0.nozzle.Y])]⟩)
  (fun l0 => ⟨fr [(0, encF Jh k0), (9, .ptr 9 0 0), (11, .ptr 11 0 0), (15, .ptr 56 0 0), (17, .int .i64 s1)], hl [(9, .box 0 [.int .i64 k1.Pitch, .int .i64 k1.Height, .int .i64 k1.Walls, .int .i64 k1.Top, .int .i64 k1.Bottom, .int .i64 k1.Pattern, .int .i64 k1.Spacing, .bool k1.Support, .int .i64 k1.Reach, .int .i64 k1.Gap, .int .i64 k1.Brim, .int .i64 k1.Skirt, .int .i64 k1.Drop, .int .i64 k1.Feed, .int .i64 k1.Travel, .int .i64 k1.Retract, .int .i64 k1.MinTime, .int .i64 k1.MinFeed, .int .i64 k1.Nozzle, .int .i64 k1.Bed]), (11, .box 0 [.int .i64 k2.X, .int .i64 k2.Y]), (56, .box 0 [.arr 1056000 0 0 l0.l.length, encF Jg s0.r.Rows, .int .i64 s0.s.Pitch, .int .i64 s0.s.Height, .int .i64 s0.s.Walls, .int .i64 s0.s.Top, .int .i64 s0.s.Bottom, .int .i64 s0.s.Pattern, .int .i64 s0.s.Spacing, .bool s0.s.Support, .int .i64 s0.s.Reach, .int .i64 s0.s.Gap, .int .i64 s0.s.Brim, .int .i64 s0.s.Skirt, .int .i64 s0.s.Drop, .int .i64 s0.s.Feed, .int .i64 s0.s.Travel, .int .i64 s0.s.Retract, .int .i64 s0.s.MinTime, .int .i64 s0.s.MinFeed, .int .i64 s0.s.Nozzle, .int .i64 s0.s.Bed, .int .i64 s0.nozzle.X, .int .i64 s0.nozzle.Y]), (1056000, .arr 0 6 40 (Jp J2 l0.l) false)]⟩))
def jf (k0 : (FS Jd)) (k1 : J6) (k2 : Ja) (x : Jo) : LE × St := (zo x.list.ops (.exit 2, ⟨fr [(9, .ptr 9 0 0), (11, .ptr 11 0 0), (15, .ptr 56 0 0)], hl [(9, .box 0 [.int .i64 k1.Pitch, .int .i64 k1.Height, .int .i64 k1.Walls, .int .i64 k1.Top, .int .i64 k1.Bottom, .int .i64 k1.Pattern, .int .i64 k1.Spacing, .bool k1.Support, .int .i64 k1.Reach, .int .i64 k1.Gap, .int .i64 k1.Brim, .int .i64 k1.Skirt, .int .i64 k1.Drop, .int .i64 k1.Feed, .int .i64 k1.Travel, .int .i64 k1.Retract, .int .i64 k1.MinTime, .int .i64 k1.MinFeed, .int .i64 k1.Nozzle, .int .i64 k1.Bed]), (11, .box 0 [.int .i64 k2.X, .int .i64 k2.Y]), (56, .box 0 [.nils, encF Jg x.r.Rows, .int .i64 x.s.Pitch, .int .i64 x.s.Height, .int .i64 x.s.Walls, .int .i64 x.s.Top, .int .i64 x.s.Bottom, .int .i64 x.s.Pattern, .int .i64 x.s.Spacing, .bool x.s.Support, .int .i64 x.s.Reach, .int .i64 x.s.Gap, .int .i64 x.s.Brim, .int .i64 x.s.Skirt, .int .i64 x.s.Drop, .int .i64 x.s.Feed, .int .i64 x.s.Travel, .int .i64 x.s.Retract, .int .i64 x.s.MinTime, .int .i64 x.s.MinFeed, .int .i64 x.s.Nozzle, .int .i64 x.s.Bed, .int .i64 x.nozzle.X, .int .i64 x.nozzle.Y])]⟩)
  (fun l0 => (.exit 2, ⟨fr [(9, .ptr 9 0 0), (11, .ptr 11 0 0), (15, .ptr 56 0 0)], hl [(9, .box 0 [.int .i64 k1.Pitch, .int .i64 k1.Height, .int .i64 k1.Walls, .int .i64 k1.Top, .int .i64 k1.Bottom, .int .i64 k1.Pattern, .int .i64 k1.Spacing, .bool k1.Support, .int .i64 k1.Reach, .int .i64 k1.Gap, .int .i64 k1.Brim, .int .i64 k1.Skirt, .int .i64 k1.Drop, .int .i64 k1.Feed, .int .i64 k1.Travel, .int .i64 k1.Retract, .int .i64 k1.MinTime, .int .i64 k1.MinFeed, .int .i64 k1.Nozzle, .int .i64 k1.Bed]), (11, .box 0 [.int .i64 k2.X, .int .i64 k2.Y]), (56, .box 0 [.arr 1056000 0 0 l0.l.length, encF Jg x.r.Rows, .int .i64 x.s.Pitch, .int .i64 x.s.Height, .int .i64 x.s.Walls, .int .i64 x.s.Top, .int .i64 x.s.Bottom, .int .i64 x.s.Pattern, .int .i64 x.s.Spacing, .bool x.s.Support, .int .i64 x.s.Reach, .int .i64 x.s.Gap, .int .i64 x.s.Brim, .int .i64 x.s.Skirt, .int .i64 x.s.Drop, .int .i64 x.s.Feed, .int .i64 x.s.Travel, .int .i64 x.s.Retract, .int .i64 x.s.MinTime, .int .i64 x.s.MinFeed, .int .i64 x.s.Nozzle, .int .i64 x.s.Bed, .int .i64 x.nozzle.X, .int .i64 x.nozzle.Y]), (1056000, .arr 0 6 40 (Jp J2 l0.l) false)]⟩)))
theorem Jd9 {k0} {k1} {k2} {s} {r} (h : Ky (Yz k0 k1 k2) bigN s = some r) : LK env [] 0 [0, 9, 11, 15, 17] c7_L2 (some (Q8 k0 k1 k2 s)) = some (jf k0 k1 k2 r) ∧ (Lst s.1.list.ops → Lst r.list.ops) := Jhj (P := fun s => Lst s.1.list.ops) (Q := fun r => Lst r.list.ops) (st := Q8 k0 k1 k2) (out := jf k0 k1 k2) (by
 clear h s r
 rintro ⟨s0, s1⟩ x h
 simp only [Yz] at h
 cases e46 : s0.list.ops with
 | nil =>
  try simp only [e46, Jr] at h
  rcases ifC h with ⟨c47, h⟩ | ⟨c47, h⟩
  ·obtain ⟨v73, h72, h⟩ := oS h
   have f74 := Jeb h72
   simp only [X3, ji, J5] at f74
   try simp only [Jj, Jk, Jq, Jv, Jt, Jx, Jw, Ju] at f74
   obtain ⟨v78, h77, h⟩ := oS h
   have f76 := Jp2 (e := Jh) h77
   obtain ⟨v80, h79, h⟩ := oS h
   have f81 := Jfg rfl h79
   try simp only [J5, K4, Jj, Jk, Jq, Jv, Jt, Jx, Jw, Ju] at f81
   cases e83 : v80.list.ops with
   | nil =>
    try simp only [e83, Jr] at h
    simp only [e83, Jr, Jj, Jk] at f81
    have f84 : ∀ H : Heap, H 56 = some (.box 0 [.nils, encF Jg s0.r.Rows, .int .i64 s0.s.Pitch, .int .i64 s0.s.Height, .int .i64 s0.s.Walls, .int .i64 s0.s.Top, .int .i64 s0.s.Bottom, .int .i64 s0.s.Pattern, .int .i64 s0.s.Spacing, .bool s0.s.Support, .int .i64 s0.s.Reach, .int .i64 s0.s.Gap, .int .i64 s0.s.Brim, .int .i64 s0.s.Skirt, .int .i64 s0.s.Drop, .int .i64 s0.s.Feed, .int .i64 s0.s.Travel, .int .i64 s0.s.Retract, .int .i64 s0.s.MinTime, .int .i64 s0.s.MinFeed, .int .i64 s0.s.Nozzle, .int .i64 s0.s.Bed, .int .i64 s0.nozzle.X, .int .i64 s0.nozzle.Y]) → Jak (FC env) 25 H [.ptr 56 0 0, encF Jh v78] = some (.tup [], upd H 56 (some (.box 0 [.nils, encF Jg v80.r.Rows, .int .i64 v80.s.Pitch, .int .i64 v80.s.Height, .int .i64 v80.s.Walls, .int .i64 v80.s.Top, .int .i64 v80.s.Bottom, .int .i64 v80.s.Pattern, .int .i64 v80.s.Spacing, .bool v80.s.Support, .int .i64 v80.s.Reach, .int .i64 v80.s.Gap, .int .i64 v80.s.Brim, .int .i64 v80.s.Skirt, .int .i64 v80.s.Drop, .int .i64 v80.s.Feed, .int .i64 v80.s.Travel, .int .i64 v80.s.Retract, .int .i64 v80.s.MinTime, .int .i64 v80.s.MinFeed, .int .i64 v80.s.Nozzle, .int .i64 v80.s.Bed, .int .i64 v80.nozzle.X, .int .i64 v80.nozzle.Y]))) := by
      intro H q0
      simp [*, q0]
    cases h
    refine ⟨?_, fun k => ?_⟩
    ·simp only [Q8, e46]
     rw [Jn]
     try simp only [c47] at f74 f81
     simp [*, -Qr]
    ·obtain ⟨_, k⟩ := k
     first | exact (Jau k).elim | exact (Jau (e46.symm.trans k)).elim
   | lst l82 =>
    try simp only [e83] at h
    simp only [e83, Jr, Jj, Jk] at f81
    have f85 : ∀ H : Heap, H 56 = some (.box 0 [.nils, encF Jg s0.r.Rows, .int .i64 s0.s.Pitch, .int .i64 s0.s.Height, .int .i64 s0.s.Walls, .int .i64 s0.s.Top, .int .i64 s0.s.Bottom, .int .i64 s0.s.Pattern, .int .i64 s0.s.Spacing, .bool s0.s.Support, .int .i64 s0.s.Reach, .int .i64 s0.s.Gap, .int .i64 s0.s.Brim, .int .i64 s0.s.Skirt, .int .i64 s0.s.Drop, .int .i64 s0.s.Feed, .int .i64 s0.s.Travel, .int .i64 s0.s.Retract, .int .i64 s0.s.MinTime, .int .i64 s0.s.MinFeed, .int .i64 s0.s.Nozzle, .int .i64 s0.s.Bed, .int .i64 s0.nozzle.X, .int .i64 s0.nozzle.Y]) → H 1056000 = none → Jak (FC env) 25 H [.ptr 56 0 0, encF Jh v78] = some (.tup [], upd (upd H 1056000 (some (.arr 0 6 40 (Jp J2 (FS.lst l82).l) false))) 56 (some (.box 0 [.arr 1056000 0 0 (FS.lst l82).l.length, encF Jg v80.r.Rows, .int .i64 v80.s.Pitch, .int .i64 v80.s.Height, .int .i64 v80.s.Walls, .int .i64 v80.s.Top, .int .i64 v80.s.Bottom, .int .i64 v80.s.Pattern, .int .i64 v80.s.Spacing, .bool v80.s.Support, .int .i64 v80.s.Reach, .int .i64 v80.s.Gap, .int .i64 v80.s.Brim, .int .i64 v80.s.Skirt, .int .i64 v80.s.Drop, .int .i64 v80.s.Feed, .int .i64 v80.s.Travel, .int .i64 v80.s.Retract, .int .i64 v80.s.MinTime, .int .i64 v80.s.MinFeed, .int .i64 v80.s.Nozzle, .int .i64 v80.s.Bed, .int .i64 v80.nozzle.X, .int .i64 v80.nozzle.Y]))) := by
      intro H q0 q1
      simp [*, q0, q1]
    cases h
    refine ⟨?_, fun k => ?_⟩
    ·simp only [Q8, e46]
     rw [Jn]
     try simp only [c47] at f74 f81
     simp [*, -Qr]
    ·obtain ⟨_, k⟩ := k
     first | exact (Jau k).elim | exact (Jau (e46.symm.trans k)).elim
  ·cases h
   refine ⟨?_, fun k => ?_⟩
   ·simp only [Q8, jf, e46]
    rw [Jn]
    simp [*]
   ·obtain ⟨_, k⟩ := k
    first | exact (Jau k).elim | exact (Jau (e46.symm.trans k)).elim
 | lst l45 =>
  try simp only [e46] at h
  rcases ifC h with ⟨c86, h⟩ | ⟨c86, h⟩
  ·obtain ⟨v88, h87, h⟩ := oS h
   have f89 := Jeb h87
   simp only [X3, ji, J5] at f89
   try simp only [Jj, Jk, Jq, Jv, Jt, Jx, Jw, Ju] at f89
   obtain ⟨v93, h92, h⟩ := oS h
   have f91 := Jp2 (e := Jh) h92
   obtain ⟨v95, h94, h⟩ := oS h
   obtain ⟨f96, ⟨l98, e97⟩⟩ := Je9 rfl h94
   simp only [e97] at f96
   try simp only [e97] at h
   try simp only [J5, K4, Jj, Jk, Jq, Jv, Jt, Jx, Jw, Ju] at f96
   try simp only [Jj, Jk, Jq, Jv, Jt, Jx, Jw, Ju] at f96
   have f99 : ∀ H : Heap, H 56 = some (.box 0 [.arr 1056000 0 0 (FS.lst l45).l.length, encF Jg s0.r.Rows, .int .i64 s0.s.Pitch, .int .i64 s0.s.Height, .int .i64 s0.s.Walls, .int .i64 s0.s.Top, .int .i64 s0.s.Bottom, .int .i64 s0.s.Pattern, .int .i64 s0.s.Spacing, .bool s0.s.Support, .int .i64 s0.s.Reach, .int .i64 s0.s.Gap, .int .i64 s0.s.Brim, .int .i64 s0.s.Skirt, .int .i64 s0.s.Drop, .int .i64 s0.s.Feed, .int .i64 s0.s.Travel, .int .i64 s0.s.Retract, .int .i64 s0.s.MinTime, .int .i64 s0.s.MinFeed, .int .i64 s0.s.Nozzle, .int .i64 s0.s.Bed, .int .i64 s0.nozzle.X, .int .i64 s0.nozzle.Y]) → H 1056000 = some (.arr 0 6 40 (Jp J2 (FS.lst l45).l) false) → Jak (FC env) 25 H [.ptr 56 0 0, encF Jh v93] = some (.tup [], upd (upd H 1056000 (some (.arr 1 6 40 (Jp J2 (FS.lst l98).l) false))) 56 (some (.box 0 [.arr 1056000 1 0 (FS.lst l98).l.length, encF Jg v95.r.Rows, .int .i64 v95.s.Pitch, .int .i64 v95.s.Height, .int .i64 v95.s.Walls, .int .i64 v95.s.Top, .int .i64 v95.s.Bottom, .int .i64 v95.s.Pattern, .int .i64 v95.s.Spacing, .bool v95.s.Support, .int .i64 v95.s.Reach, .int .i64 v95.s.Gap, .int .i64 v95.s.Brim, .int .i64 v95.s.Skirt, .int .i64 v95.s.Drop, .int .i64 v95.s.Feed, .int .i64 v95.s.Travel, .int .i64 v95.s.Retract, .int .i64 v95.s.MinTime, .int .i64 v95.s.MinFeed, .int .i64 v95.s.Nozzle, .int .i64 v95.s.Bed, .int .i64 v95.nozzle.X, .int .i64 v95.nozzle.Y]))) := by
     intro H q0 q1
     simp [*, q0, q1]
   cases h
   refine ⟨?_, fun k => ?_⟩
   ·simp only [Q8, e46]
    rw [Jn]
    try simp only [c86] at f89 f96
    simp [*, -Qr]
   ·first | exact ⟨_, rfl⟩ | exact ⟨_, by assumption⟩
  ·cases h
   refine ⟨?_, fun k => ?_⟩
   ·simp only [Q8, jf, e46]
    rw [Jn]
    simp [*]
   ·first | exact ⟨_, rfl⟩ | exact ⟨_, by assumption⟩) bigN s r h
def Jbh (p0 : (FS Jd)) (p1 : Ji) (p2 : Int) (p3 : Ja) (p4 : J6) : Option ((FS Kj) × Ja × Int) := (J3 (gOpt (bnot (bnot (Xo p4))) (Jbx p1)) fun v4 => (if (bor (bor (bor (bor (bnot (Xo p4)) (bnot (v4.getD false))) (ilt p2 0)) (ige p2 256)) (bnot (jy p3))) = true then some ((FS.nil : (FS Kj)), (⟨0, 0⟩ : Ja), 1)
 else (J3 (Ky (Y1 p0 p2 p1 p3 p4 p0 (flen p0)) bigN ((⟨0, 0⟩ : Ja), 0)) fun v16 => (match v16 with
 | .inl v16x => some ((FS.nil : (FS Kj)), v16x.1, v16x.2.2)
 | .inr v16x => (J3 (J0 (⟨(⟨(FS.nil : (FS Kj))⟩ : Kk), p1, p4, p3⟩ : Jo) (⟨1, 0, p2, (imul .i64 (iadd .i64 p2 1) p4.Height), 0, (FS.nil : (FS Ja))⟩ : Kj)) fun v19 => (if (igt p2 0) = true then (J3 (J0 (⟨(⟨v19.list.ops⟩ : Kk), v19.r, v19.s, v19.nozzle⟩ : Jo) (⟨6, 0, 0, 0, 255, (FS.nil : (FS Ja))⟩ : Kj)) fun v23 => (J3 (Ky (Yz p0 p4 v16x) bigN ((⟨(⟨v23.list.ops⟩ : Kk), v23.r, v23.s, v23.nozzle⟩ : Jo), 0)) fun v43 => (J3 (Jdo v43.list.ops p4) fun v47 => some (v47, v43.nozzle, 0))))
 else (J3 (J0 (⟨(⟨v19.list.ops⟩ : Kk), v19.r, v19.s, v19.nozzle⟩ : Jo) (⟨6, 0, 0, 0, 0, (FS.nil : (FS Ja))⟩ : Kj)) fun v49 => (J3 (Ky (Yz p0 p4 v16x) bigN ((⟨(⟨v49.list.ops⟩ : Kk), v49.r, v49.s, v49.nozzle⟩ : Jo), 0)) fun v52 => (J3 (Jdo v52.list.ops p4) fun v56 => some (v56, v52.nozzle, 0))))))))))
theorem Jjr {p0} {p1} {p2} {p3} {p4} {r} (h : Jbh p0 p1 p2 p3 p4 = some r) : FC env 7 [encF Jh p0, .agg [encF Jg p1.Rows], .int .i64 p2, .agg [.int .i64 p3.X, .int .i64 p3.Y], .agg [.int .i64 p4.Pitch, .int .i64 p4.Height, .int .i64 p4.Walls, .int .i64 p4.Top, .int .i64 p4.Bottom, .int .i64 p4.Pattern, .int .i64 p4.Spacing, .bool p4.Support, .int .i64 p4.Reach, .int .i64 p4.Gap, .int .i64 p4.Brim, .int .i64 p4.Skirt, .int .i64 p4.Drop, .int .i64 p4.Feed, .int .i64 p4.Travel, .int .i64 p4.Retract, .int .i64 p4.MinTime, .int .i64 p4.MinFeed, .int .i64 p4.Nozzle, .int .i64 p4.Bed]] none = some (.tup [encF J2 r.1, .agg [.int .i64 r.2.1.X, .int .i64 r.2.1.Y], .int .i64 r.2.2], fun _ => none) := by
 unfold Jbh at h
 have f1 := Jin p4
 obtain ⟨v4, h3, h⟩ := oS h
 have f2 := fun (q0 : (bnot (Xo p4)) = false) => Jhd (Kb false h3 (Qo q0))
 have f5 := Jme p3
 rcases ifC h with ⟨c6, h⟩ | ⟨c6, h⟩
 ·cases h
  refine J4 (lf := lf7) rfl rfl rfl ?_
  simp only [lf7, lc7]
  rcases tof (Xo p4) with a7 | a7
  ·rcases tof (v4.getD false) with a8 | a8
   ·rcases tof (ilt p2 0) with a9 | a9
    ·simp [*, zb, tupS, jk, Yx, jn, Yw, jl]
    ·rcases tof (ige p2 256) with a10 | a10
     ·simp [*, zb, tupS, jk, Yx, jn, Yw, jl]
     ·rcases tof (jy p3) with a11 | a11
      ·simp [a7, a8, a9, a10, a11] at c6
      ·simp [*, zb, tupS, jk, Yx, jn, Yw, jl]
   ·simp [*, zb, tupS, jk, Yx, jn, Yw, jl]
  ·simp [*, zb, tupS, jk, Yx, jn, Yw, jl]
 ·obtain ⟨v23, h22, h⟩ := oS h
  have f24 := Jie h22
  cases v23 with
  | inl v23x =>
   try simp only at h
   simp only [Zl, jj, J5] at f24
   try simp only [Jj, Jk, Jq, Jv, Jt, Jx, Jw, Ju] at f24
   cases h
   refine J4 (lf := lf7) rfl rfl rfl ?_
   simp only [lf7, lc7]
   rcases tof (Xo p4) with a26 | a26
   ·rcases tof (v4.getD false) with a27 | a27
    ·rcases tof (ilt p2 0) with a28 | a28
     ·simp [a26, a27, a28] at c6
     ·rcases tof (ige p2 256) with a29 | a29
      ·simp [a26, a27, a28, a29] at c6
      ·rcases tof (jy p3) with a30 | a30
       ·try simp only [a26, a27, a28, a29, a30] at f24
        simp [*, zb, tupS, jk, Yx, jn, Yw, jl]
       ·simp [a26, a27, a28, a29, a30] at c6
    ·simp [a26, a27] at c6
   ·simp [a26] at c6
  | inr v23x =>
   try simp only at h
   simp only [Zl, jj, J5] at f24
   try simp only [Jj, Jk, Jq, Jv, Jt, Jx, Jw, Ju] at f24
   obtain ⟨v33, h32, h⟩ := oS h
   obtain ⟨f34, ⟨l36, e35⟩⟩ := Kw rfl h32
   simp only [e35] at f34
   try simp only [e35] at h
   try simp only [J5, K4, Jj, Jk, Jq, Jv, Jt, Jx, Jw, Ju] at f34
   try simp only [Jj, Jk, Jq, Jv, Jt, Jx, Jw, Ju] at f34
   have f37 : ∀ H : Heap, H 56 = some (.box 0 [.nils, encF Jg p1.Rows, .int .i64 p4.Pitch, .int .i64 p4.Height, .int .i64 p4.Walls, .int .i64 p4.Top, .int .i64 p4.Bottom, .int .i64 p4.Pattern, .int .i64 p4.Spacing, .bool p4.Support, .int .i64 p4.Reach, .int .i64 p4.Gap, .int .i64 p4.Brim, .int .i64 p4.Skirt, .int .i64 p4.Drop, .int .i64 p4.Feed, .int .i64 p4.Travel, .int .i64 p4.Retract, .int .i64 p4.MinTime, .int .i64 p4.MinFeed, .int .i64 p4.Nozzle, .int .i64 p4.Bed, .int .i64 p3.X, .int .i64 p3.Y]) → H 1056000 = none → Jak (FC env) 24 H [.ptr 56 0 0, .agg [.int .i64 1, .int .i64 0, .int .i64 p2, .int .i64 (imul .i64 (iadd .i64 p2 1) p4.Height), .int .i64 0, .nils]] = some (.tup [], upd (upd H 1056000 (some (.arr 0 6 40 (Jp J2 (FS.lst l36).l) false))) 56 (some (.box 0 [.arr 1056000 0 0 (FS.lst l36).l.length, encF Jg v33.r.Rows, .int .i64 v33.s.Pitch, .int .i64 v33.s.Height, .int .i64 v33.s.Walls, .int .i64 v33.s.Top, .int .i64 v33.s.Bottom, .int .i64 v33.s.Pattern, .int .i64 v33.s.Spacing, .bool v33.s.Support, .int .i64 v33.s.Reach, .int .i64 v33.s.Gap, .int .i64 v33.s.Brim, .int .i64 v33.s.Skirt, .int .i64 v33.s.Drop, .int .i64 v33.s.Feed, .int .i64 v33.s.Travel, .int .i64 v33.s.Retract, .int .i64 v33.s.MinTime, .int .i64 v33.s.MinFeed, .int .i64 v33.s.Nozzle, .int .i64 v33.s.Bed, .int .i64 v33.nozzle.X, .int .i64 v33.nozzle.Y]))) := by
     intro H q0 q1
     simp [*, q0, q1]
   rcases ifC h with ⟨c38, h⟩ | ⟨c38, h⟩
   ·obtain ⟨v40, h39, h⟩ := oS h
    obtain ⟨f41, ⟨l43, e42⟩⟩ := J1 rfl h39
    simp only [e42] at f41
    try simp only [e42] at h
    try simp only [J5, K4, Jj, Jk, Jq, Jv, Jt, Jx, Jw, Ju] at f41
    try simp only [Jj, Jk, Jq, Jv, Jt, Jx, Jw, Ju] at f41
    have f44 : ∀ H : Heap, H 56 = some (.box 0 [.arr 1056000 0 0 (FS.lst l36).l.length, encF Jg v33.r.Rows, .int .i64 v33.s.Pitch, .int .i64 v33.s.Height, .int .i64 v33.s.Walls, .int .i64 v33.s.Top, .int .i64 v33.s.Bottom, .int .i64 v33.s.Pattern, .int .i64 v33.s.Spacing, .bool v33.s.Support, .int .i64 v33.s.Reach, .int .i64 v33.s.Gap, .int .i64 v33.s.Brim, .int .i64 v33.s.Skirt, .int .i64 v33.s.Drop, .int .i64 v33.s.Feed, .int .i64 v33.s.Travel, .int .i64 v33.s.Retract, .int .i64 v33.s.MinTime, .int .i64 v33.s.MinFeed, .int .i64 v33.s.Nozzle, .int .i64 v33.s.Bed, .int .i64 v33.nozzle.X, .int .i64 v33.nozzle.Y]) → H 1056000 = some (.arr 0 6 40 (Jp J2 (FS.lst l36).l) false) → Jak (FC env) 24 H [.ptr 56 0 0, .agg [.int .i64 6, .int .i64 0, .int .i64 0, .int .i64 0, .int .i64 255, .nils]] = some (.tup [], upd (upd H 1056000 (some (.arr 1 6 40 (Jp J2 (FS.lst l43).l) false))) 56 (some (.box 0 [.arr 1056000 1 0 (FS.lst l43).l.length, encF Jg v40.r.Rows, .int .i64 v40.s.Pitch, .int .i64 v40.s.Height, .int .i64 v40.s.Walls, .int .i64 v40.s.Top, .int .i64 v40.s.Bottom, .int .i64 v40.s.Pattern, .int .i64 v40.s.Spacing, .bool v40.s.Support, .int .i64 v40.s.Reach, .int .i64 v40.s.Gap, .int .i64 v40.s.Brim, .int .i64 v40.s.Skirt, .int .i64 v40.s.Drop, .int .i64 v40.s.Feed, .int .i64 v40.s.Travel, .int .i64 v40.s.Retract, .int .i64 v40.s.MinTime, .int .i64 v40.s.MinFeed, .int .i64 v40.s.Nozzle, .int .i64 v40.s.Bed, .int .i64 v40.nozzle.X, .int .i64 v40.nozzle.Y]))) := by
      intro H q0 q1
      simp [*, q0, q1]
    obtain ⟨v101, h100, h⟩ := oS h
    obtain ⟨f102, f102k⟩ := Jd9 h100
    simp only [Q8, jf, J5] at f102
    cases e105 : v101.list.ops with
    | nil =>
     obtain ⟨_, k⟩ := f102k ⟨_, rfl⟩
     exact (Jau (e105.symm.trans k)).elim
    | lst l104 =>
     try simp only [e105] at h
     simp only [e105, Jr, Jj, Jk] at f102
     obtain ⟨v108, h107, h⟩ := oS h
     have f106 := Jjm h107
     try simp only [K4] at f106
     cases h
     refine J4 (lf := lf7) rfl rfl rfl ?_
     simp only [lf7, lc7]
     rcases tof (Xo p4) with a109 | a109
     ·rcases tof (v4.getD false) with a110 | a110
      ·rcases tof (ilt p2 0) with a111 | a111
       ·simp [a109, a110, a111] at c6
       ·rcases tof (ige p2 256) with a112 | a112
        ·simp [a109, a110, a111, a112] at c6
        ·rcases tof (jy p3) with a113 | a113
         ·try simp only [a109, a110, a111, a112, a113, c38] at f24 f34 f41 f102
          simp [*, -Qr, Qm (e := J2) (el := 40) (fz := false), zb, tupS, jk, Yx, jn, Yw, jl]
         ·simp [a109, a110, a111, a112, a113] at c6
      ·simp [a109, a110] at c6
     ·simp [a109] at c6
   ·obtain ⟨v115, h114, h⟩ := oS h
    obtain ⟨f116, ⟨l118, e117⟩⟩ := J1 rfl h114
    simp only [e117] at f116
    try simp only [e117] at h
    try simp only [J5, K4, Jj, Jk, Jq, Jv, Jt, Jx, Jw, Ju] at f116
    try simp only [Jj, Jk, Jq, Jv, Jt, Jx, Jw, Ju] at f116
    have f119 : ∀ H : Heap, H 56 = some (.box 0 [.arr 1056000 0 0 (FS.lst l36).l.length, encF Jg v33.r.Rows, .int .i64 v33.s.Pitch, .int .i64 v33.s.Height, .int .i64 v33.s.Walls, .int .i64 v33.s.Top, .int .i64 v33.s.Bottom, .int .i64 v33.s.Pattern, .int .i64 v33.s.Spacing, .bool v33.s.Support, .int .i64 v33.s.Reach, .int .i64 v33.s.Gap, .int .i64 v33.s.Brim, .int .i64 v33.s.Skirt, .int .i64 v33.s.Drop, .int .i64 v33.s.Feed, .int .i64 v33.s.Travel, .int .i64 v33.s.Retract, .int .i64 v33.s.MinTime, .int .i64 v33.s.MinFeed, .int .i64 v33.s.Nozzle, .int .i64 v33.s.Bed, .int .i64 v33.nozzle.X, .int .i64 v33.nozzle.Y]) → H 1056000 = some (.arr 0 6 40 (Jp J2 (FS.lst l36).l) false) → Jak (FC env) 24 H [.ptr 56 0 0, .agg [.int .i64 6, .int .i64 0, .int .i64 0, .int .i64 0, .int .i64 0, .nils]] = some (.tup [], upd (upd H 1056000 (some (.arr 1 6 40 (Jp J2 (FS.lst l118).l) false))) 56 (some (.box 0 [.arr 1056000 1 0 (FS.lst l118).l.length, encF Jg v115.r.Rows, .int .i64 v115.s.Pitch, .int .i64 v115.s.Height, .int .i64 v115.s.Walls, .int .i64 v115.s.Top, .int .i64 v115.s.Bottom, .int .i64 v115.s.Pattern, .int .i64 v115.s.Spacing, .bool v115.s.Support, .int .i64 v115.s.Reach, .int .i64 v115.s.Gap, .int .i64 v115.s.Brim, .int .i64 v115.s.Skirt, .int .i64 v115.s.Drop, .int .i64 v115.s.Feed, .int .i64 v115.s.Travel, .int .i64 v115.s.Retract, .int .i64 v115.s.MinTime, .int .i64 v115.s.MinFeed, .int .i64 v115.s.Nozzle, .int .i64 v115.s.Bed, .int .i64 v115.nozzle.X, .int .i64 v115.nozzle.Y]))) := by
      intro H q0 q1
      simp [*, q0, q1]
    obtain ⟨v121, h120, h⟩ := oS h
    obtain ⟨f122, f122k⟩ := Jd9 h120
    simp only [Q8, jf, J5] at f122
    cases e125 : v121.list.ops with
    | nil =>
     obtain ⟨_, k⟩ := f122k ⟨_, rfl⟩
     exact (Jau (e125.symm.trans k)).elim
    | lst l124 =>
     try simp only [e125] at h
     simp only [e125, Jr, Jj, Jk] at f122
     obtain ⟨v128, h127, h⟩ := oS h
     have f126 := Jjm h127
     try simp only [K4] at f126
     cases h
     refine J4 (lf := lf7) rfl rfl rfl ?_
     simp only [lf7, lc7]
     rcases tof (Xo p4) with a129 | a129
     ·rcases tof (v4.getD false) with a130 | a130
      ·rcases tof (ilt p2 0) with a131 | a131
       ·simp [a129, a130, a131] at c6
       ·rcases tof (ige p2 256) with a132 | a132
        ·simp [a129, a130, a131, a132] at c6
        ·rcases tof (jy p3) with a133 | a133
         ·try simp only [a129, a130, a131, a132, a133, c38] at f24 f34 f116 f122
          simp [*, -Qr, Qm (e := J2) (el := 40) (fz := false), zb, tupS, jk, Yx, jn, Yw, jl]
         ·simp [a129, a130, a131, a132, a133] at c6
      ·simp [a129, a130] at c6
     ·simp [a129] at c6
attribute [simp] c27_0 c27_1
def Qx (p0 : Ja) : Bool := (band (band (band (ige p0.X (-4096)) (ilt p0.X 4096)) (ige p0.Y (-4096))) (ilt p0.Y 4096))
def Jps (p0 : Ja) : Option Bool := some (Qx p0)
theorem Jf9 (p0 : Ja) : FC env 27 [.agg [.int .i64 p0.X, .int .i64 p0.Y]] none = some (.bool (Qx p0), fun _ => none) := by
 unfold Qx
 refine J4 (lf := lf27) rfl rfl rfl ?_
 simp only [lf27, lc27]
 rcases tof (ige p0.X (-4096)) with a1 | a1 <;> rcases tof (ilt p0.X 4096) with a2 | a2 <;> rcases tof (ige p0.Y (-4096)) with a3 | a3 <;> simp [*]
attribute [simp] c49_0 c49_1
def X6 (p0 : Ja) (p1 : Ja) : Bool := (bor (ilt p0.Y p1.Y) (band (ieq p0.Y p1.Y) (ilt p0.X p1.X)))
def Jqe (p0 : Ja) (p1 : Ja) : Option Bool := some (X6 p0 p1)
theorem Jgv (p0 : Ja) (p1 : Ja) : FC env 49 [.agg [.int .i64 p0.X, .int .i64 p0.Y], .agg [.int .i64 p1.X, .int .i64 p1.Y]] none = some (.bool (X6 p0 p1), fun _ => none) := by
 unfold X6
 refine J4 (lf := lf49) rfl rfl rfl ?_
 simp only [lf49, lc49]
 rcases tof (ilt p0.Y p1.Y) with a1 | a1 <;> rcases tof (ieq p0.Y p1.Y) with a2 | a2 <;> simp [*]
attribute [simp] c28_0 c28_1 c28_2 c28_3 c28_4 c28_5 c28_6 c28_7 c28_8 c28_9 Jzy c28_13
theorem c28_L0_u : EC Γ ps 0 Jtu σ = EC Γ ps 0 (.seq (.seq (.reg true c28_5) (.cond (.t 30) .skip (.seq (.trim [3, 4]) (.exit 2)))) (.seq (.blk 3 (.seq (.reg false c28_6) (.seq (.reg false c28_7) (.reg false c28_8)))) (.reg false c28_9))) σ := rfl
theorem c28_L1_u : EC Γ ps 0 Jx8 σ = EC Γ ps 0 (.seq (.seq (.reg false c28_3) (.cond (.t 13) .skip (.seq (.trim [3]) (.exit 0)))) (.seq (.blk 1 (.seq (.reg false c28_4) (.blk 2 (.loop [3, 4, 5] Jtu)))) (.reg false Jzy))) σ := rfl
attribute [simp ↓] c28_L0_u c28_L1_u
def Ze (k0 : Int) (s : ((FS Ja) × Int)) : Option (LR ((FS Ja) × Int) (FS Ja)) := match s with
 | (s0, s1) => (J3 (gOpt (igt s1 0) (fget s0 s1)) fun v8 => (J3 (gOpt (igt s1 0) (fget s0 (isub .i64 s1 1))) fun v13 => (if (band (igt s1 0) (X6 (v8.getD (⟨0, 0⟩ : Ja)) (v13.getD (⟨0, 0⟩ : Ja)))) = true then (J3 (fget s0 s1) fun v20 => (J3 (fget s0 (isub .i64 s1 1)) fun v26 => (J3 (fget (fset s0 s1 v26) (isub .i64 s1 1)) fun v36 => some (.nx ((fset (fset s0 s1 v26) (isub .i64 s1 1) v20), (isub .i64 s1 1))))))
 else some (.dn s0))))
def Zo (k0 : Int) (s : ((FS Ja) × Int)) : St := match s with
 | (s0, s1) => ⟨fr [(3, .arr 3 0 0 s0.l.length), (4, .int .i64 k0), (5, .int .i64 s1)], hl [(3, .arr 0 2 27 (Jp Je s0.l) false)]⟩
def jz (k0 : Int) (x : (FS Ja)) : LE × St := (.exit 2, ⟨fr [(3, .arr 3 0 0 x.l.length), (4, .int .i64 k0)], hl [(3, .arr 0 2 27 (Jp Je x.l) false)]⟩)
theorem Jfb {k0} {s} {r} (h : Ky (Ze k0) bigN s = some r) : LK env [] 0 [3, 4, 5] Jtu (some (Zo k0 s)) = some (jz k0 r) := Kt (st := Zo k0) (out := jz k0) (by
 clear h s r
 rintro ⟨s0, s1⟩ x h
 simp only [Ze] at h
 obtain ⟨v8, h7, h⟩ := oS h
 have f5 := fun (q0 : (igt s1 0) = true) => Qa (w := 2) (Kb (⟨0, 0⟩ : Ja) h7 q0)
 have f6 := fun (q0 : (igt s1 0) = true) => (Kb (⟨0, 0⟩ : Ja) h7 q0)
 have f9 := fun (q0 : (igt s1 0) = true) => (X1 (e := Je) (f6 q0) true 2 (by decide) (by decide))
 simp only [Je] at f9
 obtain ⟨v13, h12, h⟩ := oS h
 have f10 := fun (q0 : (igt s1 0) = true) => Qa (w := 2) (Kb (⟨0, 0⟩ : Ja) h12 q0)
 have f11 := fun (q0 : (igt s1 0) = true) => (Kb (⟨0, 0⟩ : Ja) h12 q0)
 have f14 := fun (q0 : (igt s1 0) = true) => (X1 (e := Je) (f11 q0) true 2 (by decide) (by decide))
 simp only [Je] at f14
 have f15 := Jgv (v8.getD (⟨0, 0⟩ : Ja)) (v13.getD (⟨0, 0⟩ : Ja))
 rcases ifC h with ⟨c16, h⟩ | ⟨c16, h⟩
 ·obtain ⟨v20, h19, h⟩ := oS h
  have f17 := Qa (w := 2) h19
  have f18 := h19
  have f21 := fun (q0 : (igt s1 0) = true) => Ym (⟨0, 0⟩ : Ja) h7 q0 h19
  have f22 := (X1 (e := Je) f18 true 2 (by decide) (by decide))
  simp only [Je] at f22
  obtain ⟨v26, h25, h⟩ := oS h
  have f23 := Qa (w := 2) h25
  have f24 := h25
  have f27 := fun (q0 : (igt s1 0) = true) => Ym (⟨0, 0⟩ : Ja) h12 q0 h25
  have f28 := (X1 (e := Je) f24 true 2 (by decide) (by decide))
  simp only [Je] at f28
  have f31 := @Jda _ _ Je _ s0 s1 v20 v26 f18 [.int .i64 v26.X, .int .i64 v26.Y] (by simp) (by simp [Je])
  have f32 := Jhp (w := 2) f18 2 (by decide)
  try simp at f32
  obtain ⟨v36, h35, h⟩ := oS h
  have f33 := Qa (w := 2) h35
  try simp only [J5] at f33
  have f34 := h35
  have f37 := @Jda _ _ Je _ (fset s0 s1 v26) (isub .i64 s1 1) v36 v20 f34 [.int .i64 v20.X, .int .i64 v20.Y] (by simp) (by simp [Je])
  have f38 := Jhp (w := 2) f34 2 (by decide)
  try simp at f38
  cases h
  simp only [Zo]
  rw [Jn]
  rcases tof (igt s1 0) with a39 | a39
  ·rcases tof (X6 (v8.getD (⟨0, 0⟩ : Ja)) (v13.getD (⟨0, 0⟩ : Ja))) with a40 | a40
   ·have gf21 := f21 (by simp [*])
    try simp only [gf21] at f5 f9 f10 f14 f15 f17 f22 f23 f28 f31 f32 f33 f37 f38 a39 a40
    have gf27 := f27 (by simp [*])
    try simp only [gf27] at f5 f9 f10 f14 f15 f17 f22 f23 f28 f31 f32 f33 f37 f38 a39 a40
    simp [*]
   ·simp [a39, a40] at c16
  ·simp [a39] at c16
 ·cases h
  simp only [Zo, jz]
  rw [Jn]
  rcases tof (igt s1 0) with a41 | a41 <;> rcases tof (X6 (v8.getD (⟨0, 0⟩ : Ja)) (v13.getD (⟨0, 0⟩ : Ja))) with a42 | a42 <;> (try (simp [a41, a42] at c16; done)) <;> simp [*]) bigN s r h
def Zb  (s : ((FS Ja) × Int)) : Option (LR ((FS Ja) × Int) (FS Ja)) := match s with
 | (s0, s1) => (if (ilt s1 (flen s0)) = true then (J3 (Ky (Ze s1) bigN (s0, s1)) fun v40 => some (.nx (v40, (iadd .i64 s1 1))))
 else some (.dn s0))
def Zm  (s : ((FS Ja) × Int)) : St := match s with
 | (s0, s1) => ⟨fr [(3, .arr 3 0 0 s0.l.length), (4, .int .i64 s1)], hl [(3, .arr 0 2 27 (Jp Je s0.l) false)]⟩
def j6  (x : (FS Ja)) : LE × St := (.exit 0, ⟨fr [(3, .arr 3 0 0 x.l.length)], hl [(3, .arr 0 2 27 (Jp Je x.l) false)]⟩)
theorem Jfa  {s} {r} (h : Ky (Zb ) bigN s = some r) : LK env [] 0 [3, 4] Jx8 (some (Zm  s)) = some (j6  r) := Kt (st := Zm ) (out := j6 ) (by
 clear h s r
 rintro ⟨s0, s1⟩ x h
 simp only [Zb] at h
 rcases ifC h with ⟨c4, h⟩ | ⟨c4, h⟩
 ·obtain ⟨v44, h43, h⟩ := oS h
  have f45 := Jfb h43
  simp only [Zo, jz, J5] at f45
  try simp only [Jj, Jk, Jq, Jv, Jt, Jx, Jw, Ju] at f45
  cases h
  simp only [Zm]
  rw [Jn]
  try simp only [c4] at f45
  simp [*]
 ·cases h
  simp only [Zm, j6]
  rw [Jn]
  simp [*]) bigN s r h
def z7 (p0 : (FS Ja)) : Option (FS Ja) := (if fits 16 ((flen (flit ([] : List Ja))) + (flen p0)) = true then (J3 (Ky (Zb) bigN ((fapp (flit ([] : List Ja)) p0), 1)) fun v43 => some (flst v43)) else none)
theorem Jgt {p0} {r} (h : z7 p0 = some r) : FC env 28 [encF Je p0] none = some (encF Je r, fun _ => none) := by
 unfold z7 at h
 have f1 : ∀ (H : Heap) (g0 : Nat), bslV H g0 0 2 27 (some []) = some (.arr g0 (Kq H g0) 0 (flit ([] : List Ja)).l.length, upd H g0 (some (.arr (Kq H g0) 2 27 (Jp Je (flit ([] : List Ja)).l) false))) := fun H g0 => rfl
 obtain ⟨h3, h⟩ := ifS h
 have f2 := fun g0 H => @Jci _ _ Je _ (flit ([] : List Ja)) p0 16 h3 (by decide) g0 H 7 0 27
 obtain ⟨v48, h47, h⟩ := oS h
 have f49 := Jfa h47
 simp only [Zm, j6, J5] at f49
 try simp only [Jj, Jk, Jq, Jv, Jt, Jx, Jw, Ju] at f49
 cases h
 refine J4 (lf := lf28) rfl rfl rfl ?_
 simp only [lf28, lc28]
 simp [*, Qm (e := Je) (el := 27) (fz := false)]
attribute [simp] c29_0 c29_1 c29_2 c29_3 c29_4 c29_5 c29_6
def Qu (p0 : (FS Jf)) (p1 : Int) : Option (FS Jf) := (J3 (gOpt (igt (flen p0) 0) (fget p0 (isub .i64 (flen p0) 1))) fun v3 => (if (band (igt (flen p0) 0) (ilt p1 (((v3.getD (⟨0, 0⟩ : Jf))).To))) = true then some p0
 else (if (band (igt (flen p0) 0) (ieq p1 (((v3.getD (⟨0, 0⟩ : Jf))).To))) = true then (J3 (fsl p0 0 (isub .i64 (flen p0) 1)) fun v9 => (J3 (fget p0 (isub .i64 (flen p0) 1)) fun v12 => (if fits 16 ((flen (flit ([] : List Jf))) + (flen v9)) = true then (if fits 16 ((flen (fapp (flit ([] : List Jf)) v9)) + 1) = true then some (Y0 (fapp (flit ([] : List Jf)) v9) (⟨v12.From, (iadd .i64 p1 1)⟩ : Jf)) else none) else none)))
 else (if fits 16 ((flen (flit ([] : List Jf))) + (flen p0)) = true then (if fits 16 ((flen (fapp (flit ([] : List Jf)) p0)) + 1) = true then some (Y0 (fapp (flit ([] : List Jf)) p0) (⟨p1, (iadd .i64 p1 1)⟩ : Jf)) else none) else none))))
theorem Jcf {p0} {p1} {r} (h : Qu p0 p1 = some r) : FC env 29 [encF J9 p0, .int .i64 p1] none = some (encF J9 r, fun _ => none) := by
 unfold Qu at h
 obtain ⟨v3, h2, h⟩ := oS h
 have f1 := fun (q0 : (igt (flen p0) 0) = true) => Kc (e := J9) (Kb (⟨0, 0⟩ : Jf) h2 q0)
 rcases ifC h with ⟨c4, h⟩ | ⟨c4, h⟩
 ·cases h
  refine J4 (lf := lf29) rfl rfl rfl ?_
  simp only [lf29, lc29]
  rcases tof (igt (flen p0) 0) with a5 | a5 <;> rcases tof (ilt p1 (((v3.getD (⟨0, 0⟩ : Jf))).To)) with a6 | a6 <;> (try (simp [a5, a6] at c4; done)) <;> simp [*]
 ·rcases ifC h with ⟨c8, h⟩ | ⟨c8, h⟩
  ·obtain ⟨v11, h10, h⟩ := oS h
   have f9 := Jrk (e := J9) h10
   obtain ⟨v14, h13, h⟩ := oS h
   have f12 := Kc (e := J9) h13
   have f15 := fun (q0 : (igt (flen p0) 0) = true) => Ym (⟨0, 0⟩ : Jf) h2 q0 h13
   have f16 : ∀ (H : Heap) (g0 : Nat), bslV H g0 0 2 54 (some []) = some (.arr g0 (Kq H g0) 0 (flit ([] : List Jf)).l.length, upd H g0 (some (.arr (Kq H g0) 2 54 (Jp J9 (flit ([] : List Jf)).l) false))) := fun H g0 => rfl
   obtain ⟨h18, h⟩ := ifS h
   have f17 := fun g0 H => @Jci _ _ J9 _ (flit ([] : List Jf)) v11 16 h18 (by decide) g0 H 33 0 54
   obtain ⟨h20, h⟩ := ifS h
   have f19 := fun g0 H y => @Yn _ _ J9 _ (fapp (flit ([] : List Jf)) v11) (⟨v14.From, (iadd .i64 p1 1)⟩ : Jf) 16 h20 (by decide) g0 H 33 (bump 0 (flen v11)) 54 y
   simp only [J9] at f19
   cases h
   refine J4 (lf := lf29) rfl rfl rfl ?_
   simp only [lf29, lc29]
   rcases tof (igt (flen p0) 0) with a21 | a21
   ·rcases tof (ilt p1 (((v3.getD (⟨0, 0⟩ : Jf))).To)) with a22 | a22
    ·simp [a21, a22] at c4
    ·rcases tof (ieq p1 (((v3.getD (⟨0, 0⟩ : Jf))).To)) with a23 | a23
     ·have gf15 := f15 (by simp [*])
      try simp only [gf15] at f1 f9 f12 f16 f17 f19 a21 a22 a23
      simp [*, Qm (e := J9) (el := 54) (fz := false)]
     ·simp [a21, a22, a23] at c8
   ·simp [a21] at c8
  ·have f24 : ∀ (H : Heap) (g0 : Nat), bslV H g0 0 2 54 (some []) = some (.arr g0 (Kq H g0) 0 (flit ([] : List Jf)).l.length, upd H g0 (some (.arr (Kq H g0) 2 54 (Jp J9 (flit ([] : List Jf)).l) false))) := fun H g0 => rfl
   obtain ⟨h26, h⟩ := ifS h
   have f25 := fun g0 H => @Jci _ _ J9 _ (flit ([] : List Jf)) p0 16 h26 (by decide) g0 H 50 0 54
   obtain ⟨h28, h⟩ := ifS h
   have f27 := fun g0 H y => @Yn _ _ J9 _ (fapp (flit ([] : List Jf)) p0) (⟨p1, (iadd .i64 p1 1)⟩ : Jf) 16 h28 (by decide) g0 H 50 (bump 0 (flen p0)) 54 y
   simp only [J9] at f27
   cases h
   refine J4 (lf := lf29) rfl rfl rfl ?_
   simp only [lf29, lc29]
   rcases tof (igt (flen p0) 0) with a29 | a29 <;> rcases tof (ilt p1 (((v3.getD (⟨0, 0⟩ : Jf))).To)) with a30 | a30 <;> rcases tof (ieq p1 (((v3.getD (⟨0, 0⟩ : Jf))).To)) with a31 | a31 <;> (try (simp [a29, a30, a31] at c4 c8; done)) <;> simp [*, Qm (e := J9) (el := 54) (fz := false)]
attribute [simp] c8_0 c8_1 c8_2 c8_3 c8_4 c8_5 c8_7 c8_8 c8_9 c8_10 c8_11 c8_12 c8_13 c8_14 c8_15 c8_16 c8_18
theorem c8_L0_u : EC Γ ps 0 c8_L0 σ = EC Γ ps 0 (.seq (.seq (.reg false c8_2) (.cond (.t 11) .skip (.seq (.trim [0, 2]) (.exit 0)))) (.seq (.blk 1 (.seq (.reg false c8_3) (.cond (.t 19) (.seq (.reg false c8_4) (.seq (.trim [2, 3]) .ret)) .skip))) (.reg false c8_5))) σ := rfl
theorem c8_L1_u : EC Γ ps 0 c8_L1 σ = EC Γ ps 0 (.seq (.seq (.reg false c8_10) (.cond (.t 26) .skip (.seq (.trim [2, 5]) (.exit 2)))) (.seq (.blk 3 (.seq (.reg false c8_11) (.seq (.seq (.reg true c8_12) (.cond (.t 48) (.seq (.reg true c8_13) (.reg false c8_14)) .skip)) (.reg true c8_15)))) (.reg false c8_16))) σ := rfl
attribute [simp ↓] c8_L0_u c8_L1_u
def Z3 (k0 : (FS Ja)) (s : (Ji × Int)) : Option (LR (Ji × Int) ((Ji × Int) ⊕ Ji)) := match s with
 | (s0, s1) => (if (ilt s1 (flen k0)) = true then (J3 (fget k0 s1) fun v4 => (if (bnot (Qx v4)) = true then some (.dn (.inl ((⟨(FS.nil : (FS Jm))⟩ : Ji), 8)))
 else some (.nx ((⟨(FS.nil : (FS Jm))⟩ : Ji), (iadd .i64 s1 1)))))
 else some (.dn (.inr (⟨(FS.nil : (FS Jm))⟩ : Ji))))
def Yb (k0 : (FS Ja)) (s : (Ji × Int)) : St := match s with
 | (s0, s1) => ⟨fr [(0, encF Je k0), (2, .ptr 2 0 0), (4, .int .i64 s1)], hl [(2, .box 0 [.nils])]⟩
def Y8 (k0 : (FS Ja)) (x : ((Ji × Int) ⊕ Ji)) : LE × St := match x with
 | .inl x => (.ret, ⟨fr [(2, .ptr 2 0 0), (3, .int .i64 x.2)], hl [(2, .box 0 [.nils])]⟩)
 | .inr x => (.exit 0, ⟨fr [(0, encF Je k0), (2, .ptr 2 0 0)], hl [(2, .box 0 [.nils])]⟩)
theorem Jgz {k0} {s} {r} (h : Ky (Z3 k0) bigN s = some r) : LK env [] 0 [0, 2, 4] c8_L0 (some (Yb k0 s)) = some (Y8 k0 r) := Kt (st := Yb k0) (out := Y8 k0) (by
 clear h s r
 rintro ⟨s0, s1⟩ x h
 simp only [Z3] at h
 rcases ifC h with ⟨c1, h⟩ | ⟨c1, h⟩
 ·obtain ⟨v4, h3, h⟩ := oS h
  have f2 := Kc (e := Je) h3
  have f5 := Jf9 v4
  rcases ifC h with ⟨c6, h⟩ | ⟨c6, h⟩
  ·cases h
   simp only [Yb, Y8]
   rw [Jn]
   rcases tof (Qx v4) with a7 | a7
   ·simp [c1, a7] at c6
   ·simp [*]
  ·cases h
   simp only [Yb]
   rw [Jn]
   rcases tof (Qx v4) with a8 | a8
   ·simp [*]
   ·simp [c1, a8] at c6
 ·cases h
  simp only [Yb, Y8]
  rw [Jn]
  simp [*]) bigN s r h
def Xk (k0 : (FS Ja)) (k1 : Ji) (s : (Ji × Int)) : Option (LR (Ji × Int) Ji) := match s with
 | (s0, s1) => (if (ilt s1 (flen k0)) = true then (J3 (gOpt (bnot (ieq (flen s0.Rows) 0)) (fget s0.Rows (isub .i64 (flen s0.Rows) 1))) fun v16 => (J3 (gOpt (bnot (ieq (flen s0.Rows) 0)) (fget k0 s1)) fun v20 => (if (bor (ieq (flen s0.Rows) 0) (ine (((v16.getD (⟨0, (FS.nil : (FS Jf))⟩ : Jm))).Y) (((v20.getD (⟨0, 0⟩ : Ja))).Y))) = true then (J3 (fget k0 s1) fun v24 => (if fits 32 ((flen s0.Rows) + 1) = true then (J3 (fget (Y0 s0.Rows (⟨v24.Y, (FS.nil : (FS Jf))⟩ : Jm)) (isub .i64 (iadd .i64 (flen s0.Rows) 1) 1)) fun v31 => (J3 (Qu v31.Runs v24.X) fun v36 => some (.nx ((⟨(fset (Y0 s0.Rows (⟨v24.Y, (FS.nil : (FS Jf))⟩ : Jm)) (isub .i64 (iadd .i64 (flen s0.Rows) 1) 1) (⟨v31.Y, v36⟩ : Jm))⟩ : Ji), (iadd .i64 s1 1))))) else none))
 else (J3 (fget s0.Rows (isub .i64 (flen s0.Rows) 1)) fun v43 => (J3 (fget k0 s1) fun v48 => (J3 (Qu v43.Runs v48.X) fun v52 => some (.nx ((⟨(fset s0.Rows (isub .i64 (flen s0.Rows) 1) (⟨v43.Y, v52⟩ : Jm))⟩ : Ji), (iadd .i64 s1 1)))))))))
 else some (.dn (⟨s0.Rows⟩ : Ji)))
def Xa (k0 : (FS Ja)) (k1 : Ji) (s : (Ji × Int)) : St := match s with
 | (s0, s1) => (zo s0.Rows (⟨fr [(0, encF Je k0), (2, .ptr 2 0 0), (5, .ptr 5 0 0), (6, .int .i64 s1)], hl [(2, .box 0 [.nils]), (5, .box 0 [.nils])]⟩)
  (fun l0 => ⟨fr [(0, encF Je k0), (2, .ptr 2 0 0), (5, .ptr 5 0 0), (6, .int .i64 s1)], hl [(2, .box 0 [.nils]), (5, .box 0 [.arr 1005000 0 0 l0.l.length]), (1005000, .arr 0 2 57 (Jp Jg l0.l) false)]⟩))
def jw (k0 : (FS Ja)) (k1 : Ji) (x : Ji) : LE × St := (zo x.Rows (.exit 2, ⟨fr [(2, .ptr 2 0 0), (5, .ptr 5 0 0)], hl [(2, .box 0 [.nils]), (5, .box 0 [.nils])]⟩)
  (fun l0 => (.exit 2, ⟨fr [(2, .ptr 2 0 0), (5, .ptr 5 0 0)], hl [(2, .box 0 [.nils]), (5, .box 0 [.arr 1005000 0 0 l0.l.length]), (1005000, .arr 0 2 57 (Jp Jg l0.l) false)]⟩)))
theorem Jhl {k0} {k1} {s} {r} (h : Ky (Xk k0 k1) bigN s = some r) : LK env [] 0 [0, 2, 5, 6] c8_L1 (some (Xa k0 k1 s)) = some (jw k0 k1 r) ∧ (Lst s.1.Rows → Lst r.Rows) := Jhj (P := fun s => Lst s.1.Rows) (Q := fun r => Lst r.Rows) (st := Xa k0 k1) (out := jw k0 k1) (by
 clear h s r
 rintro ⟨s0, s1⟩ x h
 simp only [Xk] at h
 cases e18 : s0.Rows with
 | nil =>
  try simp only [e18, Jr] at h
  rcases ifC h with ⟨c19, h⟩ | ⟨c19, h⟩
  ·obtain ⟨v22, h21, h⟩ := oS h
   have g20 := Jkl h21
   obtain ⟨v25, h24, h⟩ := oS h
   have f23 := fun (q0 : (ieq 0 0) = false) => Kc (e := Je) (Kb (⟨0, 0⟩ : Ja) h24 (Qo q0))
   rcases ifC h with ⟨c26, h⟩ | ⟨c26, h⟩
   ·obtain ⟨v29, h28, h⟩ := oS h
    have f27 := Kc (e := Je) h28
    have f30 := fun (q0 : (ieq 0 0) = false) => Ym (⟨0, 0⟩ : Ja) h24 (Qo q0) h28
    obtain ⟨h32, h⟩ := ifS h
    have f31 := fun H g0 hg y => @Jbw _ _ Jg _ (⟨v29.Y, (FS.nil : (FS Jf))⟩ : Jm) 32 h32 (by decide) H g0 57 y hg
    simp only [Jg, K4] at f31
    obtain ⟨v36, h35, h⟩ := oS h
    have f33 := Qa (w := 2) h35
    have f34 := h35
    have f37 := (Jgd (e := Jg) f34 false 1 1 (by decide) (by decide))
    simp only [Jg] at f37
    obtain ⟨v41, h40, h⟩ := oS h
    have f39 := Jcf h40
    have f44 := @Jg1 _ _ Jg _ (Y0 (FS.nil : (FS Jm)) (⟨v29.Y, (FS.nil : (FS Jf))⟩ : Jm)) (isub .i64 (iadd .i64 0 1) 1) v36 (⟨v36.Y, v41⟩ : Jm) f34 1 [encF J9 v41] (by simp) (by simp [Jg])
    have f45 := Jo8 (w := 2) f34 1 1 (by decide)
    try simp at f45
    cases h
    refine ⟨?_, fun k => ?_⟩
    ·simp only [Xa, e18]
     rw [Jn]
     have a46 : (ieq 0 0) = true := rfl
     simp [*]
    ·obtain ⟨_, k⟩ := k
     first | exact (Jau k).elim | exact (Jau (e18.symm.trans k)).elim
   ·exact absurd h (by simp [Jcg])
  ·cases h
   refine ⟨?_, fun k => ?_⟩
   ·simp only [Xa, jw, e18]
    rw [Jn]
    simp [*]
   ·obtain ⟨_, k⟩ := k
    first | exact (Jau k).elim | exact (Jau (e18.symm.trans k)).elim
 | lst l17 =>
  try simp only [e18] at h
  rcases ifC h with ⟨c47, h⟩ | ⟨c47, h⟩
  ·obtain ⟨v51, h50, h⟩ := oS h
   have f48 := fun (q0 : (ieq (flen (FS.lst l17)) 0) = false) => Qa (w := 2) (Kb (⟨0, (FS.nil : (FS Jf))⟩ : Jm) h50 (Qo q0))
   have f49 := fun (q0 : (ieq (flen (FS.lst l17)) 0) = false) => (Kb (⟨0, (FS.nil : (FS Jf))⟩ : Jm) h50 (Qo q0))
   have f52 := fun (q0 : (ieq (flen (FS.lst l17)) 0) = false) => (X1 (e := Jg) (f49 q0) false 1 (by decide) (by decide))
   simp only [Jg] at f52
   obtain ⟨v55, h54, h⟩ := oS h
   have f53 := fun (q0 : (ieq (flen (FS.lst l17)) 0) = false) => Kc (e := Je) (Kb (⟨0, 0⟩ : Ja) h54 (Qo q0))
   rcases ifC h with ⟨c56, h⟩ | ⟨c56, h⟩
   ·obtain ⟨v59, h58, h⟩ := oS h
    have f57 := Kc (e := Je) h58
    have f60 := fun (q0 : (ieq (flen (FS.lst l17)) 0) = false) => Ym (⟨0, 0⟩ : Ja) h54 (Qo q0) h58
    obtain ⟨h62, h⟩ := ifS h
    have f61 := fun g0 H y => @Yn _ _ Jg _ (FS.lst l17) (⟨v59.Y, (FS.nil : (FS Jf))⟩ : Jm) 32 h62 (by decide) g0 H 1005000 0 57 y
    simp only [Jg, K4] at f61
    obtain ⟨v66, h65, h⟩ := oS h
    have f63 := Qa (w := 2) h65
    have f64 := h65
    have f67 := (Jgd (e := Jg) f64 false 1 1 (by decide) (by decide))
    simp only [Jg] at f67
    obtain ⟨v71, h70, h⟩ := oS h
    have f69 := Jcf h70
    have f74 := @Jg1 _ _ Jg _ (Y0 (FS.lst l17) (⟨v59.Y, (FS.nil : (FS Jf))⟩ : Jm)) (isub .i64 (iadd .i64 (flen (FS.lst l17)) 1) 1) v66 (⟨v66.Y, v71⟩ : Jm) f64 1 [encF J9 v71] (by simp) (by simp [Jg])
    have f75 := Jo8 (w := 2) f64 1 1 (by decide)
    try simp at f75
    cases h
    refine ⟨?_, fun k => ?_⟩
    ·simp only [Xa, e18]
     rw [Jn]
     rcases tof (ieq (flen (FS.lst l17)) 0) with a76 | a76
     ·simp [*]
     ·rcases tof (ine (((v51.getD (⟨0, (FS.nil : (FS Jf))⟩ : Jm))).Y) (((v55.getD (⟨0, 0⟩ : Ja))).Y)) with a77 | a77
      ·have gf60 := f60 (by simp [*])
       try simp only [gf60] at f48 f52 f53 f57 f61 f63 f67 f69 f74 f75 c47 a76 a77
       simp [*]
      ·simp [c47, a76, a77] at c56
    ·first | exact ⟨_, rfl⟩ | exact ⟨_, by assumption⟩
   ·obtain ⟨v81, h80, h⟩ := oS h
    have f78 := Qa (w := 2) h80
    have f79 := h80
    have f82 := fun (q0 : (ieq (flen (FS.lst l17)) 0) = false) => Ym (⟨0, (FS.nil : (FS Jf))⟩ : Jm) h50 (Qo q0) h80
    have f83 := (Jgd (e := Jg) f79 false 1 1 (by decide) (by decide))
    simp only [Jg] at f83
    obtain ⟨v86, h85, h⟩ := oS h
    have f84 := Kc (e := Je) h85
    have f87 := fun (q0 : (ieq (flen (FS.lst l17)) 0) = false) => Ym (⟨0, 0⟩ : Ja) h54 (Qo q0) h85
    obtain ⟨v90, h89, h⟩ := oS h
    have f88 := Jcf h89
    have f93 := @Jg1 _ _ Jg _ (FS.lst l17) (isub .i64 (flen (FS.lst l17)) 1) v81 (⟨v81.Y, v90⟩ : Jm) f79 1 [encF J9 v90] (by simp) (by simp [Jg])
    have f94 := Jo8 (w := 2) f79 1 1 (by decide)
    try simp at f94
    cases h
    refine ⟨?_, fun k => ?_⟩
    ·simp only [Xa, e18]
     rw [Jn]
     rcases tof (ieq (flen (FS.lst l17)) 0) with a95 | a95
     ·simp [c47, a95] at c56
     ·rcases tof (ine (((v51.getD (⟨0, (FS.nil : (FS Jf))⟩ : Jm))).Y) (((v55.getD (⟨0, 0⟩ : Ja))).Y)) with a96 | a96
      ·simp [c47, a95, a96] at c56
      ·have gf82 := f82 (by simp [*])
       try simp only [gf82] at f48 f52 f53 f78 f83 f84 f88 f93 f94 c47 a95 a96
       have gf87 := f87 (by simp [*])
       try simp only [gf87] at f48 f52 f53 f78 f83 f84 f88 f93 f94 c47 a95 a96
       simp [*]
    ·first | exact ⟨_, rfl⟩ | exact ⟨_, by assumption⟩
  ·cases h
   refine ⟨?_, fun k => ?_⟩
   ·simp only [Xa, jw, e18]
    rw [Jn]
    simp [*]
   ·first | exact ⟨_, rfl⟩ | exact ⟨_, by assumption⟩) bigN s r h
def zs (p0 : (FS Ja)) : Option (Ji × Int) := (J3 (Ky (Z3 p0) bigN ((⟨(FS.nil : (FS Jm))⟩ : Ji), 0)) fun v8 => (match v8 with
 | .inl v8x => some ((⟨(FS.nil : (FS Jm))⟩ : Ji), v8x.2)
 | .inr v8x => (J3 (z7 p0) fun v12 => (J3 (Ky (Xk v12 (⟨(FS.nil : (FS Jm))⟩ : Ji)) bigN ((⟨(FS.nil : (FS Jm))⟩ : Ji), 0)) fun v57 => some ((⟨v57.Rows⟩ : Ji), 0)))))
theorem Jep {p0} {r} (h : zs p0 = some r) : FC env 8 [encF Je p0] none = some (.tup [.agg [encF Jg r.1.Rows], .int .i64 r.2], fun _ => none) := by
 unfold zs at h
 obtain ⟨v10, h9, h⟩ := oS h
 have f11 := Jgz h9
 cases v10 with
 | inl v10x =>
  try simp only at h
  simp only [Yb, Y8, J5] at f11
  try simp only [Jj, Jk, Jq, Jv, Jt, Jx, Jw, Ju] at f11
  cases h
  refine J4 (lf := lf8) rfl rfl rfl ?_
  simp only [lf8, lc8]
  simp [*, zb, tupS, jk, Yx, jn, Yw, jl]
 | inr v10x =>
  try simp only at h
  simp only [Yb, Y8, J5] at f11
  try simp only [Jj, Jk, Jq, Jv, Jt, Jx, Jw, Ju] at f11
  obtain ⟨v16, h15, h⟩ := oS h
  have f14 := Jgt h15
  obtain ⟨v98, h97, h⟩ := oS h
  obtain ⟨f99, f99k⟩ := Jhl h97
  simp only [Xa, jw, J5] at f99
  cases e102 : v98.Rows with
  | nil =>
   try simp only [e102, Jr] at h
   simp only [e102, Jr, Jj, Jk] at f99
   cases h
   refine J4 (lf := lf8) rfl rfl rfl ?_
   simp only [lf8, lc8]
   simp [*, zb, tupS, jk, Yx, jn, Yw, jl]
  | lst l101 =>
   try simp only [e102] at h
   simp only [e102, Jr, Jj, Jk] at f99
   cases h
   refine J4 (lf := lf8) rfl rfl rfl ?_
   simp only [lf8, lc8]
   simp [*, Jwe, Jnb, J3i, Jwb, J3p, Jvr, Jxn, snap6_F, J4d (e := Jg) (el := 57) (fz := false), zb, tupS, jk, Yx, jn, Yw, jl]
attribute [simp] c81_0 c81_1 c81_2 c81_3 c81_4 c81_5 c81_7 c81_8 c81_9 J34 c81_12 J2x Jzw J6f J4k Jzd Jze Jxu J3f c81_23
theorem c81_L0_u : EC Γ ps 0 J4c σ = EC Γ ps 0 (.seq (.seq (.reg false c81_3) (.cond (.t 14) .skip (.seq (.trim [1, 5]) (.exit 0)))) (.seq (.blk 1 (.reg true c81_4)) (.reg false c81_5))) σ := rfl
theorem c81_L1_u : EC Γ ps 0 Jz0 σ = EC Γ ps 0 (.seq (.seq (.reg false c81_8) (.cond (.t 33) .skip (.seq (.trim [5]) (.exit 2)))) (.seq (.blk 3 (.reg true c81_9)) (.reg false J34))) σ := rfl
theorem c81_L2_u : EC Γ ps 0 Jt8 σ = EC Γ ps 0 (.seq (.seq (.reg true J6f) (.cond (.t 69) .skip (.seq (.trim [5, 8]) (.exit 6)))) (.seq (.blk 7 (.seq (.reg false J4k) (.seq (.reg false Jzd) (.reg false Jze)))) (.reg false Jxu))) σ := rfl
theorem c81_L3_u : EC Γ ps 0 J3u σ = EC Γ ps 0 (.seq (.seq (.reg false J2x) (.cond (.t 52) .skip (.seq (.trim [5]) (.exit 4)))) (.seq (.blk 5 (.seq (.reg false Jzw) (.blk 6 (.loop [5, 8, 9] Jt8)))) (.reg false J3f))) σ := rfl
attribute [simp ↓] c81_L0_u c81_L1_u c81_L2_u c81_L3_u
def Xq (k0 : (FS Jf)) (k1 : (FS Jf)) (s : ((FS Int) × Int)) : Option (LR ((FS Int) × Int) (FS Int)) := match s with
 | (s0, s1) => (if (ilt s1 (flen k0)) = true then (J3 (fget k0 s1) fun v4 => (if fits 8 ((flen s0) + (flen (flit ([v4.From, v4.To] : List Int)))) = true then some (.nx ((Jl8 s0 (flit ([v4.From, v4.To] : List Int))), (iadd .i64 s1 1))) else none))
 else some (.dn s0))
def Qi (k0 : (FS Jf)) (k1 : (FS Jf)) (s : ((FS Int) × Int)) : St := match s with
 | (s0, s1) => (zo s0 (⟨fr [(0, encF J9 k0), (1, encF J9 k1), (5, .nils), (6, .int .i64 s1)], hl []⟩)
  (fun l0 => ⟨fr [(0, encF J9 k0), (1, encF J9 k1), (5, .arr 5 0 0 l0.l.length), (6, .int .i64 s1)], hl [(5, .arr 0 1 3 (Jp Xc l0.l) false)]⟩))
def Y5 (k0 : (FS Jf)) (k1 : (FS Jf)) (x : (FS Int)) : LE × St := (zo x (.exit 0, ⟨fr [(1, encF J9 k1), (5, .nils)], hl []⟩)
  (fun l0 => (.exit 0, ⟨fr [(1, encF J9 k1), (5, .arr 5 0 0 l0.l.length)], hl [(5, .arr 0 1 3 (Jp Xc l0.l) false)]⟩)))
theorem Jfd {k0} {k1} {s} {r} (h : Ky (Xq k0 k1) bigN s = some r) : LK env [] 0 [0, 1, 5, 6] J4c (some (Qi k0 k1 s)) = some (Y5 k0 k1 r) := Kt (st := Qi k0 k1) (out := Y5 k0 k1) (by
 clear h s r
 rintro ⟨s0, s1⟩ x h
 simp only [Xq] at h
 cases e2 : s0 with
 | nil =>
  try simp only [e2, Jr] at h
  rcases ifC h with ⟨c3, h⟩ | ⟨c3, h⟩
  ·obtain ⟨v6, h5, h⟩ := oS h
   have f4 := Kc (e := J9) h5
   have f8 : ∀ (H : Heap) (g0 : Nat), bslV H g0 2 1 3 (some [.int .i64 v6.From, .int .i64 v6.To]) = some (.arr g0 (Kq H g0) 0 (flit ([v6.From, v6.To] : List Int)).l.length, upd H g0 (some (.arr (Kq H g0) 1 3 (Jp Xc (flit ([v6.From, v6.To] : List Int)).l) false))) := fun H g0 => rfl
   obtain ⟨h10, h⟩ := ifS h
   rcases tof (ieq (flen (flit ([v6.From, v6.To] : List Int))) 0) with z11 | z11
   ·simp only [Jll z11] at h
    have f9 := fun H g0 => @Jnm _ _ Xc _ (flit ([v6.From, v6.To] : List Int)) 8 z11 H g0 3 (.arr 28 0 0 (flit ([v6.From, v6.To] : List Int)).l.length) 
    cases h
    simp only [Qi, e2]
    rw [Jn]
    simp [*]
   ·simp only [Jk7 z11] at h
    have f9 := fun H g0 hg => @Jm4 _ _ Xc _ (flit ([v6.From, v6.To] : List Int)) 8 z11 (Jnx h10) (by decide) H g0 3 (.arr 28 0 0 (flit ([v6.From, v6.To] : List Int)).l.length) hg 
    cases h
    simp only [Qi, e2]
    rw [Jn]
    simp [*]
  ·cases h
   simp only [Qi, Y5, e2]
   rw [Jn]
   simp [*]
 | lst l1 =>
  try simp only [e2] at h
  rcases ifC h with ⟨c12, h⟩ | ⟨c12, h⟩
  ·obtain ⟨v15, h14, h⟩ := oS h
   have f13 := Kc (e := J9) h14
   have f17 : ∀ (H : Heap) (g0 : Nat), bslV H g0 2 1 3 (some [.int .i64 v15.From, .int .i64 v15.To]) = some (.arr g0 (Kq H g0) 0 (flit ([v15.From, v15.To] : List Int)).l.length, upd H g0 (some (.arr (Kq H g0) 1 3 (Jp Xc (flit ([v15.From, v15.To] : List Int)).l) false))) := fun H g0 => rfl
   obtain ⟨h19, h⟩ := ifS h
   have f18 := fun g0 H => @Jp1 _ _ Xc _ (FS.lst l1) (flit ([v15.From, v15.To] : List Int)) 8 h19 (by decide) g0 H 5 0 3 (.arr 28 0 0 (flit ([v15.From, v15.To] : List Int)).l.length)
   cases h
   simp only [Qi, e2]
   rw [Jn]
   simp [*]
  ·cases h
   simp only [Qi, Y5, e2]
   rw [Jn]
   simp [*]) bigN s r h
def Xs (k0 : (FS Jf)) (s : ((FS Int) × Int)) : Option (LR ((FS Int) × Int) (FS Int)) := match s with
 | (s0, s1) => (if (ilt s1 (flen k0)) = true then (J3 (fget k0 s1) fun v15 => (if fits 8 ((flen s0) + (flen (flit ([v15.From, v15.To] : List Int)))) = true then some (.nx ((Jl8 s0 (flit ([v15.From, v15.To] : List Int))), (iadd .i64 s1 1))) else none))
 else some (.dn s0))
def K6 (k0 : (FS Jf)) (s : ((FS Int) × Int)) : St := match s with
 | (s0, s1) => (zo s0 (⟨fr [(1, encF J9 k0), (5, .nils), (7, .int .i64 s1)], hl []⟩)
  (fun l0 => ⟨fr [(1, encF J9 k0), (5, .arr 5 0 0 l0.l.length), (7, .int .i64 s1)], hl [(5, .arr 0 1 3 (Jp Xc l0.l) false)]⟩))
def Xj (k0 : (FS Jf)) (x : (FS Int)) : LE × St := (zo x (.exit 2, ⟨fr [(5, .nils)], hl []⟩)
  (fun l0 => (.exit 2, ⟨fr [(5, .arr 5 0 0 l0.l.length)], hl [(5, .arr 0 1 3 (Jp Xc l0.l) false)]⟩)))
theorem Jcu {k0} {s} {r} (h : Ky (Xs k0) bigN s = some r) : LK env [] 0 [1, 5, 7] Jz0 (some (K6 k0 s)) = some (Xj k0 r) := Kt (st := K6 k0) (out := Xj k0) (by
 clear h s r
 rintro ⟨s0, s1⟩ x h
 simp only [Xs] at h
 cases e27 : s0 with
 | nil =>
  try simp only [e27, Jr] at h
  rcases ifC h with ⟨c28, h⟩ | ⟨c28, h⟩
  ·obtain ⟨v31, h30, h⟩ := oS h
   have f29 := Kc (e := J9) h30
   have f33 : ∀ (H : Heap) (g0 : Nat), bslV H g0 2 1 3 (some [.int .i64 v31.From, .int .i64 v31.To]) = some (.arr g0 (Kq H g0) 0 (flit ([v31.From, v31.To] : List Int)).l.length, upd H g0 (some (.arr (Kq H g0) 1 3 (Jp Xc (flit ([v31.From, v31.To] : List Int)).l) false))) := fun H g0 => rfl
   obtain ⟨h35, h⟩ := ifS h
   rcases tof (ieq (flen (flit ([v31.From, v31.To] : List Int))) 0) with z36 | z36
   ·simp only [Jll z36] at h
    have f34 := fun H g0 => @Jnm _ _ Xc _ (flit ([v31.From, v31.To] : List Int)) 8 z36 H g0 3 (.arr 47 0 0 (flit ([v31.From, v31.To] : List Int)).l.length) 
    cases h
    simp only [K6, e27]
    rw [Jn]
    simp [*]
   ·simp only [Jk7 z36] at h
    have f34 := fun H g0 hg => @Jm4 _ _ Xc _ (flit ([v31.From, v31.To] : List Int)) 8 z36 (Jnx h35) (by decide) H g0 3 (.arr 47 0 0 (flit ([v31.From, v31.To] : List Int)).l.length) hg 
    cases h
    simp only [K6, e27]
    rw [Jn]
    simp [*]
  ·cases h
   simp only [K6, Xj, e27]
   rw [Jn]
   simp [*]
 | lst l26 =>
  try simp only [e27] at h
  rcases ifC h with ⟨c37, h⟩ | ⟨c37, h⟩
  ·obtain ⟨v40, h39, h⟩ := oS h
   have f38 := Kc (e := J9) h39
   have f42 : ∀ (H : Heap) (g0 : Nat), bslV H g0 2 1 3 (some [.int .i64 v40.From, .int .i64 v40.To]) = some (.arr g0 (Kq H g0) 0 (flit ([v40.From, v40.To] : List Int)).l.length, upd H g0 (some (.arr (Kq H g0) 1 3 (Jp Xc (flit ([v40.From, v40.To] : List Int)).l) false))) := fun H g0 => rfl
   obtain ⟨h44, h⟩ := ifS h
   have f43 := fun g0 H => @Jp1 _ _ Xc _ (FS.lst l26) (flit ([v40.From, v40.To] : List Int)) 8 h44 (by decide) g0 H 5 0 3 (.arr 47 0 0 (flit ([v40.From, v40.To] : List Int)).l.length)
   cases h
   simp only [K6, e27]
   rw [Jn]
   simp [*]
  ·cases h
   simp only [K6, Xj, e27]
   rw [Jn]
   simp [*]) bigN s r h
def Y9 (k0 : Int) (s : ((FS Int) × Int)) : Option (LR ((FS Int) × Int) (FS Int)) := match s with
 | (s0, s1) => (J3 (gOpt (igt s1 0) (fget s0 s1)) fun v26 => (J3 (gOpt (igt s1 0) (fget s0 (isub .i64 s1 1))) fun v30 => (if (band (igt s1 0) (ilt (v26.getD 0) (v30.getD 0))) = true then (J3 (fget s0 s1) fun v35 => (J3 (fget s0 (isub .i64 s1 1)) fun v40 => (J3 (fget (fset s0 s1 v40) (isub .i64 s1 1)) fun v48 => some (.nx ((fset (fset s0 s1 v40) (isub .i64 s1 1) v35), (isub .i64 s1 1))))))
 else some (.dn s0))))
def Qv (k0 : Int) (s : ((FS Int) × Int)) : St := match s with
 | (s0, s1) => (zo s0 (⟨fr [(5, .nils), (8, .int .i64 k0), (9, .int .i64 s1)], hl []⟩)
  (fun l0 => ⟨fr [(5, .arr 5 0 0 l0.l.length), (8, .int .i64 k0), (9, .int .i64 s1)], hl [(5, .arr 0 1 3 (Jp Xc l0.l) false)]⟩))
def Xh (k0 : Int) (x : (FS Int)) : LE × St := (zo x (.exit 6, ⟨fr [(5, .nils), (8, .int .i64 k0)], hl []⟩)
  (fun l0 => (.exit 6, ⟨fr [(5, .arr 5 0 0 l0.l.length), (8, .int .i64 k0)], hl [(5, .arr 0 1 3 (Jp Xc l0.l) false)]⟩)))
theorem Jcr {k0} {s} {r} (h : Ky (Y9 k0) bigN s = some r) : LK env [] 0 [5, 8, 9] Jt8 (some (Qv k0 s)) = some (Xh k0 r) := Kt (st := Qv k0) (out := Xh k0) (by
 clear h s r
 rintro ⟨s0, s1⟩ x h
 simp only [Y9] at h
 cases e55 : s0 with
 | nil =>
  try simp only [e55, Jr] at h
  obtain ⟨v58, h57, h⟩ := oS h
  have g56 := Jkl h57
  obtain ⟨v61, h60, h⟩ := oS h
  have g59 := Jkl h60
  rcases ifC h with ⟨c62, h⟩ | ⟨c62, h⟩
  ·exact absurd h (by simp [Jcg])
  ·cases h
   simp only [Qv, Xh, e55]
   rw [Jn]
   simp [*]
 | lst l54 =>
  try simp only [e55] at h
  obtain ⟨v66, h65, h⟩ := oS h
  have f63 := fun (q0 : (igt s1 0) = true) => Qa (w := 1) (Kb 0 h65 q0)
  have f64 := fun (q0 : (igt s1 0) = true) => (Kb 0 h65 q0)
  have f67 := fun (q0 : (igt s1 0) = true) => (X1 (e := Xc) (f64 q0) false 1 (by decide) (by decide))
  simp only [Xc] at f67
  obtain ⟨v71, h70, h⟩ := oS h
  have f68 := fun (q0 : (igt s1 0) = true) => Qa (w := 1) (Kb 0 h70 q0)
  have f69 := fun (q0 : (igt s1 0) = true) => (Kb 0 h70 q0)
  have f72 := fun (q0 : (igt s1 0) = true) => (X1 (e := Xc) (f69 q0) false 1 (by decide) (by decide))
  simp only [Xc] at f72
  rcases ifC h with ⟨c73, h⟩ | ⟨c73, h⟩
  ·obtain ⟨v77, h76, h⟩ := oS h
   have f74 := Qa (w := 1) h76
   have f75 := h76
   have f78 := fun (q0 : (igt s1 0) = true) => Ym 0 h65 q0 h76
   have f79 := (X1 (e := Xc) f75 false 1 (by decide) (by decide))
   simp only [Xc] at f79
   obtain ⟨v83, h82, h⟩ := oS h
   have f80 := Qa (w := 1) h82
   have f81 := h82
   have f84 := fun (q0 : (igt s1 0) = true) => Ym 0 h70 q0 h82
   have f85 := (X1 (e := Xc) f81 false 1 (by decide) (by decide))
   simp only [Xc] at f85
   have f88 := @Jda _ _ Xc _ (FS.lst l54) s1 v77 v83 f75 [.int .i64 v83] (by simp) (by simp [Xc])
   have f89 := Jhp (w := 1) f75 1 (by decide)
   try simp at f89
   obtain ⟨v93, h92, h⟩ := oS h
   have f90 := Qa (w := 1) h92
   try simp only [J5] at f90
   have f91 := h92
   have f94 := @Jda _ _ Xc _ (fset (FS.lst l54) s1 v83) (isub .i64 s1 1) v93 v77 f91 [.int .i64 v77] (by simp) (by simp [Xc])
   have f95 := Jhp (w := 1) f91 1 (by decide)
   try simp at f95
   cases h
   simp only [Qv, e55]
   rw [Jn]
   rcases tof (igt s1 0) with a96 | a96
   ·rcases tof (ilt (v66.getD 0) (v71.getD 0)) with a97 | a97
    ·have gf78 := f78 (by simp [*])
     try simp only [gf78] at f63 f67 f68 f72 f74 f79 f80 f85 f88 f89 f90 f94 f95 a96 a97
     have gf84 := f84 (by simp [*])
     try simp only [gf84] at f63 f67 f68 f72 f74 f79 f80 f85 f88 f89 f90 f94 f95 a96 a97
     simp [*]
    ·simp [a96, a97] at c73
   ·simp [a96] at c73
  ·cases h
   simp only [Qv, Xh, e55]
   rw [Jn]
   rcases tof (igt s1 0) with a98 | a98 <;> rcases tof (ilt (v66.getD 0) (v71.getD 0)) with a99 | a99 <;> (try (simp [a98, a99] at c73; done)) <;> simp [*]) bigN s r h
def Zd  (s : ((FS Int) × Int)) : Option (LR ((FS Int) × Int) (FS Int)) := match s with
 | (s0, s1) => (if (ilt s1 (flen s0)) = true then (J3 (Ky (Y9 s1) bigN (s0, s1)) fun v52 => some (.nx (v52, (iadd .i64 s1 1))))
 else some (.dn s0))
def Kp  (s : ((FS Int) × Int)) : St := match s with
 | (s0, s1) => (zo s0 (⟨fr [(5, .nils), (8, .int .i64 s1)], hl []⟩)
  (fun l0 => ⟨fr [(5, .arr 5 0 0 l0.l.length), (8, .int .i64 s1)], hl [(5, .arr 0 1 3 (Jp Xc l0.l) false)]⟩))
def Qh  (x : (FS Int)) : LE × St := (zo x (.exit 4, ⟨fr [(5, .nils)], hl []⟩)
  (fun l0 => (.exit 4, ⟨fr [(5, .arr 5 0 0 l0.l.length)], hl [(5, .arr 0 1 3 (Jp Xc l0.l) false)]⟩)))
theorem zk  {s} {r} (h : Ky (Zd ) bigN s = some r) : LK env [] 0 [5, 8] J3u (some (Kp  s)) = some (Qh  r) := Kt (st := Kp ) (out := Qh ) (by
 clear h s r
 rintro ⟨s0, s1⟩ x h
 simp only [Zd] at h
 cases e52 : s0 with
 | nil =>
  try simp only [e52, Jr] at h
  rcases ifC h with ⟨c53, h⟩ | ⟨c53, h⟩
  ·obtain ⟨v101, h100, h⟩ := oS h
   have f102 := Jcr h100
   simp only [Qv, Xh, J5] at f102
   cases e105 : v101 with
   | nil =>
    try simp only [e105, Jr] at h
    simp only [e105, Jr, Jj, Jk] at f102
    cases h
    simp only [Kp, e52]
    rw [Jn]
    try simp only [c53] at f102
    simp [*]
   | lst l104 =>
    try simp only [e105] at h
    simp only [e105, Jr, Jj, Jk] at f102
    cases h
    simp only [Kp, e52]
    rw [Jn]
    try simp only [c53] at f102
    simp [*]
  ·cases h
   simp only [Kp, Qh, e52]
   rw [Jn]
   simp [*]
 | lst l51 =>
  try simp only [e52] at h
  rcases ifC h with ⟨c106, h⟩ | ⟨c106, h⟩
  ·obtain ⟨v108, h107, h⟩ := oS h
   have f109 := Jcr h107
   simp only [Qv, Xh, J5] at f109
   cases e112 : v108 with
   | nil =>
    try simp only [e112, Jr] at h
    simp only [e112, Jr, Jj, Jk] at f109
    cases h
    simp only [Kp, e52]
    rw [Jn]
    try simp only [c106] at f109
    simp [*]
   | lst l111 =>
    try simp only [e112] at h
    simp only [e112, Jr, Jj, Jk] at f109
    cases h
    simp only [Kp, e52]
    rw [Jn]
    try simp only [c106] at f109
    simp [*]
  ·cases h
   simp only [Kp, Qh, e52]
   rw [Jn]
   simp [*]) bigN s r h
def z8 (p0 : (FS Jf)) (p1 : (FS Jf)) : Option (FS Int) := (J3 (Ky (Xq p0 p1) bigN ((FS.nil : (FS Int)), 0)) fun v10 => (J3 (Ky (Xs p1) bigN (v10, 0)) fun v21 => (J3 (Ky (Zd) bigN (v21, 1)) fun v55 => some v55)))
theorem Jgw {p0} {p1} {r} (h : z8 p0 p1 = some r) : FC env 81 [encF J9 p0, encF J9 p1] none = some (encF Xc r, fun _ => none) := by
 unfold z8 at h
 obtain ⟨v21, h20, h⟩ := oS h
 have f22 := Jfd h20
 simp only [Qi, Y5, J5] at f22
 cases e25 : v21 with
 | nil =>
  try simp only [e25, Jr] at h
  simp only [e25, Jr, Jj, Jk] at f22
  obtain ⟨v46, h45, h⟩ := oS h
  have f47 := Jcu h45
  simp only [K6, Xj, J5] at f47
  cases e50 : v46 with
  | nil =>
   try simp only [e50, Jr] at h
   simp only [e50, Jr, Jj, Jk] at f47
   obtain ⟨v114, h113, h⟩ := oS h
   have f115 := zk h113
   simp only [Kp, Qh, J5] at f115
   cases e118 : v114 with
   | nil =>
    try simp only [e118, Jr] at h
    simp only [e118, Jr, Jj, Jk] at f115
    cases h
    refine J4 (lf := lf81) rfl rfl rfl ?_
    simp only [lf81, lc81]
    simp [*]
   | lst l117 =>
    try simp only [e118] at h
    simp only [e118, Jr, Jj, Jk] at f115
    cases h
    refine J4 (lf := lf81) rfl rfl rfl ?_
    simp only [lf81, lc81]
    simp [*, Qm (e := Xc) (el := 3) (fz := false)]
  | lst l49 =>
   try simp only [e50] at h
   simp only [e50, Jr, Jj, Jk] at f47
   obtain ⟨v120, h119, h⟩ := oS h
   have f121 := zk h119
   simp only [Kp, Qh, J5] at f121
   cases e124 : v120 with
   | nil =>
    try simp only [e124, Jr] at h
    simp only [e124, Jr, Jj, Jk] at f121
    cases h
    refine J4 (lf := lf81) rfl rfl rfl ?_
    simp only [lf81, lc81]
    simp [*]
   | lst l123 =>
    try simp only [e124] at h
    simp only [e124, Jr, Jj, Jk] at f121
    cases h
    refine J4 (lf := lf81) rfl rfl rfl ?_
    simp only [lf81, lc81]
    simp [*, Qm (e := Xc) (el := 3) (fz := false)]
 | lst l24 =>
  try simp only [e25] at h
  simp only [e25, Jr, Jj, Jk] at f22
  obtain ⟨v126, h125, h⟩ := oS h
  have f127 := Jcu h125
  simp only [K6, Xj, J5] at f127
  cases e130 : v126 with
  | nil =>
   try simp only [e130, Jr] at h
   simp only [e130, Jr, Jj, Jk] at f127
   obtain ⟨v132, h131, h⟩ := oS h
   have f133 := zk h131
   simp only [Kp, Qh, J5] at f133
   cases e136 : v132 with
   | nil =>
    try simp only [e136, Jr] at h
    simp only [e136, Jr, Jj, Jk] at f133
    cases h
    refine J4 (lf := lf81) rfl rfl rfl ?_
    simp only [lf81, lc81]
    simp [*]
   | lst l135 =>
    try simp only [e136] at h
    simp only [e136, Jr, Jj, Jk] at f133
    cases h
    refine J4 (lf := lf81) rfl rfl rfl ?_
    simp only [lf81, lc81]
    simp [*, Qm (e := Xc) (el := 3) (fz := false)]
  | lst l129 =>
   try simp only [e130] at h
   simp only [e130, Jr, Jj, Jk] at f127
   obtain ⟨v138, h137, h⟩ := oS h
   have f139 := zk h137
   simp only [Kp, Qh, J5] at f139
   cases e142 : v138 with
   | nil =>
    try simp only [e142, Jr] at h
    simp only [e142, Jr, Jj, Jk] at f139
    cases h
    refine J4 (lf := lf81) rfl rfl rfl ?_
    simp only [lf81, lc81]
    simp [*]
   | lst l141 =>
    try simp only [e142] at h
    simp only [e142, Jr, Jj, Jk] at f139
    cases h
    refine J4 (lf := lf81) rfl rfl rfl ?_
    simp only [lf81, lc81]
    simp [*, Qm (e := Xc) (el := 3) (fz := false)]
attribute [simp] c83_0 c83_1 c83_2 c83_3 c83_4 c83_5 c83_7
theorem c83_L0_u : EC Γ ps 0 J5p σ = EC Γ ps 0 (.seq (.seq (.reg false c83_2) (.cond (.t 9) .skip (.seq (.trim []) (.exit 0)))) (.seq (.blk 1 (.seq (.reg false c83_3) (.cond (.t 27) (.seq (.reg false c83_4) (.seq (.trim [4]) .ret)) .skip))) (.reg false c83_5))) σ := rfl
attribute [simp ↓] c83_L0_u
def Xu (k0 : (FS Jf)) (k1 : Int) (s : Int) : Option (LR Int (Bool ⊕ Unit)) := match s with
 | s0 => (if (ilt s0 (flen k0)) = true then (J3 (fget k0 s0) fun v4 => (if (band (ile v4.From k1) (ilt k1 v4.To)) = true then some (.dn (.inl true))
 else some (.nx (iadd .i64 s0 1))))
 else some (.dn (.inr ())))
def Qw (k0 : (FS Jf)) (k1 : Int) (s : Int) : St := match s with
 | s0 => ⟨fr [(0, encF J9 k0), (1, .int .i64 k1), (5, .int .i64 s0)], hl []⟩
def Xi (k0 : (FS Jf)) (k1 : Int) (x : (Bool ⊕ Unit)) : LE × St := match x with
 | .inl x => (.ret, ⟨fr [(4, .bool x)], hl []⟩)
 | .inr x => (.exit 0, ⟨fr [], hl []⟩)
theorem Je7 {k0} {k1} {s} {r} (h : Ky (Xu k0 k1) bigN s = some r) : LK env [] 0 [0, 1, 5] J5p (some (Qw k0 k1 s)) = some (Xi k0 k1 r) := Kt (st := Qw k0 k1) (out := Xi k0 k1) (by
 clear h s r
 rintro s0 x h
 simp only [Xu] at h
 rcases ifC h with ⟨c1, h⟩ | ⟨c1, h⟩
 ·obtain ⟨v4, h3, h⟩ := oS h
  have f2 := Kc (e := J9) h3
  rcases ifC h with ⟨c6, h⟩ | ⟨c6, h⟩
  ·cases h
   simp only [Qw, Xi]
   rw [Jn]
   rcases tof (ile v4.From k1) with a7 | a7 <;> rcases tof (ilt k1 v4.To) with a8 | a8 <;> (try (simp [c1, a7, a8] at c6; done)) <;> simp [*]
  ·cases h
   simp only [Qw]
   rw [Jn]
   rcases tof (ile v4.From k1) with a9 | a9 <;> rcases tof (ilt k1 v4.To) with a10 | a10 <;> (try (simp [c1, a9, a10] at c6; done)) <;> simp [*]
 ·cases h
  simp only [Qw, Xi]
  rw [Jn]
  simp [*]) bigN s r h
def ju (p0 : (FS Jf)) (p1 : Int) : Option Bool := (J3 (Ky (Xu p0 p1) bigN 0) fun v8 => (match v8 with
 | .inl v8x => some v8x
 | .inr v8x => some false))
theorem Jal {p0} {p1} {r} (h : ju p0 p1 = some r) : FC env 83 [encF J9 p0, .int .i64 p1] none = some (.bool r, fun _ => none) := by
 unfold ju at h
 obtain ⟨v12, h11, h⟩ := oS h
 have f13 := Je7 h11
 cases v12 with
 | inl v12x =>
  try simp only at h
  simp only [Qw, Xi, J5] at f13
  try simp only [Jj, Jk, Jq, Jv, Jt, Jx, Jw, Ju] at f13
  cases h
  refine J4 (lf := lf83) rfl rfl rfl ?_
  simp only [lf83, lc83]
  simp [*]
 | inr v12x =>
  try simp only at h
  simp only [Qw, Xi, J5] at f13
  try simp only [Jj, Jk, Jq, Jv, Jt, Jx, Jw, Ju] at f13
  cases h
  refine J4 (lf := lf83) rfl rfl rfl ?_
  simp only [lf83, lc83]
  simp [*]
attribute [simp] c82_0 c82_1 c82_2 c82_3 c82_4 c82_5 c82_6
def Jb2 (p0 : Int) (p1 : Bool) (p2 : Bool) : Option Bool := (if (ieq p0 0) = true then some (bor p1 p2)
 else (if (ieq p0 1) = true then some (band p1 p2)
 else some (band p1 (bnot p2))))
theorem Jd7 {p0} {p1} {p2} {r} (h : Jb2 p0 p1 p2 = some r) : FC env 82 [.int .i64 p0, .bool p1, .bool p2] none = some (.bool r, fun _ => none) := by
 unfold Jb2 at h
 rcases ifC h with ⟨c1, h⟩ | ⟨c1, h⟩
 ·cases h
  refine J4 (lf := lf82) rfl rfl rfl ?_
  simp only [lf82, lc82]
  rcases tof p1 with a2 | a2
  ·simp [*]
  ·simp [*]
 ·rcases ifC h with ⟨c3, h⟩ | ⟨c3, h⟩
  ·cases h
   refine J4 (lf := lf82) rfl rfl rfl ?_
   simp only [lf82, lc82]
   rcases tof p1 with a4 | a4
   ·simp [*]
   ·simp [*]
  ·cases h
   refine J4 (lf := lf82) rfl rfl rfl ?_
   simp only [lf82, lc82]
   rcases tof p1 with a5 | a5
   ·simp [*]
   ·simp [*]
attribute [simp] c71_0 c71_1 c71_2 c71_3 c71_4 c71_5 c71_6 c71_7 c71_8 c71_9 Jy4 c71_12
theorem c71_L0_u : EC Γ ps 0 J22 σ = EC Γ ps 0 (.seq (.seq (.reg false c71_4) (.cond (.t 18) .skip (.seq (.trim [8]) (.exit 0)))) (.seq (.blk 1 (.seq (.seq (.reg true c71_5) (.cond (.t 47) (.exit 1) .skip)) (.seq (.reg false c71_6) (.seq (.reg true c71_7) (.cond (.t 64) (.reg false c71_8) (.reg true c71_9)))))) (.reg false Jy4))) σ := rfl
attribute [simp ↓] c71_L0_u
def Q3 (k0 : Int) (k1 : (FS Jf)) (k2 : (FS Jf)) (k3 : (FS Int)) (s : ((FS Jf) × Int)) : Option (LR ((FS Jf) × Int) (FS Jf)) := match s with
 | (s0, s1) => (if (ilt (iadd .i64 s1 1) (flen k3)) = true then (J3 (fget k3 s1) fun v7 => (J3 (fget k3 (iadd .i64 s1 1)) fun v10 => (J3 (gOpt (bnot (ieq v7 v10)) (ju k1 v7)) fun v14 => (J3 (gOpt (bnot (ieq v7 v10)) (ju k2 v7)) fun v18 => (J3 (gOpt (bnot (ieq v7 v10)) (Jb2 k0 (v14.getD false) (v18.getD false))) fun v21 => (if (bor (ieq v7 v10) (bnot (v21.getD false))) = true then some (.nx (s0, (iadd .i64 s1 1)))
 else (J3 (gOpt (igt (flen s0) 0) (fget s0 (isub .i64 (flen s0) 1))) fun v25 => (if (band (igt (flen s0) 0) (ieq (((v25.getD (⟨0, 0⟩ : Jf))).To) v7)) = true then (J3 (fget s0 (isub .i64 (flen s0) 1)) fun v32 => some (.nx ((fset s0 (isub .i64 (flen s0) 1) (⟨v32.From, v10⟩ : Jf)), (iadd .i64 s1 1))))
 else (if fits 16 ((flen s0) + 1) = true then some (.nx ((Y0 s0 (⟨v7, v10⟩ : Jf)), (iadd .i64 s1 1))) else none)))))))))
 else some (.dn s0))
def Ku (k0 : Int) (k1 : (FS Jf)) (k2 : (FS Jf)) (k3 : (FS Int)) (s : ((FS Jf) × Int)) : St := match s with
 | (s0, s1) => (zo s0 (⟨fr [(0, .int .i64 k0), (1, encF J9 k1), (2, encF J9 k2), (7, encF Xc k3), (8, .nils), (9, .int .i64 s1)], hl []⟩)
  (fun l0 => ⟨fr [(0, .int .i64 k0), (1, encF J9 k1), (2, encF J9 k2), (7, encF Xc k3), (8, .arr 8 0 0 l0.l.length), (9, .int .i64 s1)], hl [(8, .arr 0 2 54 (Jp J9 l0.l) false)]⟩))
def Yl (k0 : Int) (k1 : (FS Jf)) (k2 : (FS Jf)) (k3 : (FS Int)) (x : (FS Jf)) : LE × St := (zo x (.exit 0, ⟨fr [(8, .nils)], hl []⟩)
  (fun l0 => (.exit 0, ⟨fr [(8, .arr 8 0 0 l0.l.length)], hl [(8, .arr 0 2 54 (Jp J9 l0.l) false)]⟩)))
theorem Jek {k0} {k1} {k2} {k3} {s} {r} (h : Ky (Q3 k0 k1 k2 k3) bigN s = some r) : LK env [] 0 [0, 1, 2, 7, 8, 9] J22 (some (Ku k0 k1 k2 k3 s)) = some (Yl k0 k1 k2 k3 r) := Kt (st := Ku k0 k1 k2 k3) (out := Yl k0 k1 k2 k3) (by
 clear h s r
 rintro ⟨s0, s1⟩ x h
 simp only [Q3] at h
 cases e5 : s0 with
 | nil =>
  try simp only [e5, Jr] at h
  rcases ifC h with ⟨c6, h⟩ | ⟨c6, h⟩
  ·obtain ⟨v9, h8, h⟩ := oS h
   have f7 := Kc (e := Xc) h8
   obtain ⟨v12, h11, h⟩ := oS h
   have f10 := Kc (e := Xc) h11
   obtain ⟨v16, h15, h⟩ := oS h
   have f14 := fun (q0 : (ieq v9 v12) = false) => Jal (Kb false h15 (Qo q0))
   obtain ⟨v20, h19, h⟩ := oS h
   have f18 := fun (q0 : (ieq v9 v12) = false) => Jal (Kb false h19 (Qo q0))
   obtain ⟨v23, h22, h⟩ := oS h
   have f21 := fun (q0 : (ieq v9 v12) = false) => Jd7 (Kb false h22 (Qo q0))
   rcases ifC h with ⟨c24, h⟩ | ⟨c24, h⟩
   ·cases h
    simp only [Ku, e5]
    rw [Jn]
    rcases tof (ieq v9 v12) with a25 | a25 <;> rcases tof (v23.getD false) with a26 | a26 <;> (try (simp [c6, a25, a26] at c24; done)) <;> simp [*]
   ·obtain ⟨v29, h28, h⟩ := oS h
    have g27 := Jkl h28
    rcases ifC h with ⟨c31, h⟩ | ⟨c31, h⟩
    ·exact absurd h (by simp [Jcg])
    ·obtain ⟨h36, h⟩ := ifS h
     have f35 := fun H g0 hg y => @Jbw _ _ J9 _ (⟨v9, v12⟩ : Jf) 16 h36 (by decide) H g0 54 y hg
     simp only [J9] at f35
     cases h
     simp only [Ku, e5]
     rw [Jn]
     rcases tof (ieq v9 v12) with a37 | a37 <;> rcases tof (v23.getD false) with a38 | a38 <;> (try (simp [c6, g27, a37, a38] at c24; done)) <;> simp [*]
  ·cases h
   simp only [Ku, Yl, e5]
   rw [Jn]
   simp [*]
 | lst l4 =>
  try simp only [e5] at h
  rcases ifC h with ⟨c39, h⟩ | ⟨c39, h⟩
  ·obtain ⟨v42, h41, h⟩ := oS h
   have f40 := Kc (e := Xc) h41
   obtain ⟨v45, h44, h⟩ := oS h
   have f43 := Kc (e := Xc) h44
   obtain ⟨v49, h48, h⟩ := oS h
   have f47 := fun (q0 : (ieq v42 v45) = false) => Jal (Kb false h48 (Qo q0))
   obtain ⟨v53, h52, h⟩ := oS h
   have f51 := fun (q0 : (ieq v42 v45) = false) => Jal (Kb false h52 (Qo q0))
   obtain ⟨v56, h55, h⟩ := oS h
   have f54 := fun (q0 : (ieq v42 v45) = false) => Jd7 (Kb false h55 (Qo q0))
   rcases ifC h with ⟨c57, h⟩ | ⟨c57, h⟩
   ·cases h
    simp only [Ku, e5]
    rw [Jn]
    rcases tof (ieq v42 v45) with a58 | a58 <;> rcases tof (v56.getD false) with a59 | a59 <;> (try (simp [c39, a58, a59] at c57; done)) <;> simp [*]
   ·obtain ⟨v63, h62, h⟩ := oS h
    have f60 := fun (q0 : (igt (flen (FS.lst l4)) 0) = true) => Qa (w := 2) (Kb (⟨0, 0⟩ : Jf) h62 q0)
    have f61 := fun (q0 : (igt (flen (FS.lst l4)) 0) = true) => (Kb (⟨0, 0⟩ : Jf) h62 q0)
    have f64 := fun (q0 : (igt (flen (FS.lst l4)) 0) = true) => (Jgd (e := J9) (f61 q0) false 1 1 (by decide) (by decide))
    simp only [J9] at f64
    rcases ifC h with ⟨c66, h⟩ | ⟨c66, h⟩
    ·obtain ⟨v71, h70, h⟩ := oS h
     have f68 := Qa (w := 2) h70
     have f69 := h70
     have f72 := fun (q0 : (igt (flen (FS.lst l4)) 0) = true) => Ym (⟨0, 0⟩ : Jf) h62 q0 h70
     have f73 := @Jg1 _ _ J9 _ (FS.lst l4) (isub .i64 (flen (FS.lst l4)) 1) v71 (⟨v71.From, v45⟩ : Jf) f69 1 [.int .i64 v45] (by simp) (by simp [J9])
     have f74 := Jo8 (w := 2) f69 1 1 (by decide)
     try simp at f74
     cases h
     simp only [Ku, e5]
     rw [Jn]
     rcases tof (ieq v42 v45) with a75 | a75
     ·simp [c39, a75] at c57
     ·rcases tof (v56.getD false) with a76 | a76
      ·rcases tof (igt (flen (FS.lst l4)) 0) with a77 | a77
       ·rcases tof (ieq (((v63.getD (⟨0, 0⟩ : Jf))).To) v42) with a78 | a78
        ·have gf72 := f72 (by simp [*])
         try simp only [gf72] at f40 f43 f47 f51 f54 f60 f64 f68 f73 f74 c39 a75 a76 a77 a78
         simp [*]
        ·simp [c39, a75, a76, a77, a78] at c66
       ·simp [c39, a75, a76, a77] at c66
      ·simp [c39, a75, a76] at c57
    ·obtain ⟨h82, h⟩ := ifS h
     have f81 := fun g0 H y => @Yn _ _ J9 _ (FS.lst l4) (⟨v42, v45⟩ : Jf) 16 h82 (by decide) g0 H 8 0 54 y
     simp only [J9] at f81
     cases h
     simp only [Ku, e5]
     rw [Jn]
     rcases tof (ieq v42 v45) with a83 | a83 <;> rcases tof (v56.getD false) with a84 | a84 <;> rcases tof (igt (flen (FS.lst l4)) 0) with a85 | a85 <;> rcases tof (ieq (((v63.getD (⟨0, 0⟩ : Jf))).To) v42) with a86 | a86 <;> (try (simp [c39, a83, a84, a85, a86] at c57 c66; done)) <;> simp [*]
  ·cases h
   simp only [Ku, Yl, e5]
   rw [Jn]
   simp [*]) bigN s r h
def Kz (p0 : Int) (p1 : (FS Jf)) (p2 : (FS Jf)) : Option (FS Jf) := (J3 (z8 p1 p2) fun v3 => (J3 (Ky (Q3 p0 p1 p2 v3) bigN ((FS.nil : (FS Jf)), 0)) fun v41 => some v41))
theorem Kg {p0} {p1} {p2} {r} (h : Kz p0 p1 p2 = some r) : FC env 71 [.int .i64 p0, encF J9 p1, encF J9 p2] none = some (encF J9 r, fun _ => none) := by
 unfold Kz at h
 obtain ⟨v3, h2, h⟩ := oS h
 have f1 := Jgw h2
 obtain ⟨v88, h87, h⟩ := oS h
 have f89 := Jek h87
 simp only [Ku, Yl, J5] at f89
 cases e92 : v88 with
 | nil =>
  try simp only [e92, Jr] at h
  simp only [e92, Jr, Jj, Jk] at f89
  cases h
  refine J4 (lf := lf71) rfl rfl rfl ?_
  simp only [lf71, lc71]
  simp [*]
 | lst l91 =>
  try simp only [e92] at h
  simp only [e92, Jr, Jj, Jk] at f89
  cases h
  refine J4 (lf := lf71) rfl rfl rfl ?_
  simp only [lf71, lc71]
  simp [*, Qm (e := J9) (el := 54) (fz := false)]
attribute [simp] c51_0 c51_1 c51_2 c51_3 c51_4 c51_5 c51_6 c51_7 c51_8 c51_9 Jzl J45 Jy5 J08 J4g Jy9 Jx2 J14 J1n J1m c51_21
theorem c51_L0_u : EC Γ ps 0 Jz3 σ = EC Γ ps 0 (.seq (.seq (.reg false c51_5) (.cond (.t 34) .skip (.seq (.trim [6, 7]) (.exit 0)))) (.blk 1 (.seq (.reg false c51_6) (.seq (.reg false c51_7) (.seq (.seq (.reg true c51_8) (.cond (.t 61) (.reg false c51_9) (.reg false Jzl))) (.seq (.seq (.reg false J45) (.cond (.t 88) (.seq (.reg false Jy5) (.reg false J08)) .skip)) (.seq (.seq (.reg false J4g) (.cond (.t 111) (.seq (.reg false Jy9) (.reg false Jx2)) .skip)) (.seq (.reg false J14) (.seq (.reg false J1n) (.cond (.t 126) (.reg false J1m) .skip)))))))))) σ := rfl
attribute [simp ↓] c51_L0_u
def Qn (k0 : Int) (k1 : Ji) (k2 : Ji) (k3 : Ji) (s : (Ji × Int × Int)) : Option (LR (Ji × Int × Int) Ji) := match s with
 | (s0, s1, s2) => (if (bor (ilt s1 (flen k1.Rows)) (ilt s2 (flen k2.Rows))) = true then (J3 (gOpt (band (bnot (ieq s2 (flen k2.Rows))) (ilt s1 (flen k1.Rows))) (fget k1.Rows s1)) fun v11 => (J3 (gOpt (band (bnot (ieq s2 (flen k2.Rows))) (ilt s1 (flen k1.Rows))) (fget k2.Rows s2)) fun v14 => (if (bor (ieq s2 (flen k2.Rows)) (band (ilt s1 (flen k1.Rows)) (ile (((v11.getD (⟨0, (FS.nil : (FS Jf))⟩ : Jm))).Y) (((v14.getD (⟨0, (FS.nil : (FS Jf))⟩ : Jm))).Y)))) = true then (J3 (fget k1.Rows s1) fun v18 => (if (band (ilt s1 (flen k1.Rows)) (ieq v18.Y v18.Y)) = true then (J3 (gOpt (ilt s2 (flen k2.Rows)) (fget k2.Rows s2)) fun v25 => (if (band (ilt s2 (flen k2.Rows)) (ieq (((v25.getD (⟨0, (FS.nil : (FS Jf))⟩ : Jm))).Y) v18.Y)) = true then (J3 (fget k2.Rows s2) fun v30 => (J3 (Kz k0 v18.Runs v30.Runs) fun v35 => (if (igt (flen v35) 0) = true then (if fits 32 ((flen s0.Rows) + 1) = true then some (.nx ((⟨(Y0 s0.Rows (⟨v18.Y, v35⟩ : Jm))⟩ : Ji), (iadd .i64 s1 1), (iadd .i64 s2 1))) else none)
 else some (.nx ((⟨s0.Rows⟩ : Ji), (iadd .i64 s1 1), (iadd .i64 s2 1))))))
 else (J3 (Kz k0 v18.Runs (FS.nil : (FS Jf))) fun v41 => (if (igt (flen v41) 0) = true then (if fits 32 ((flen s0.Rows) + 1) = true then some (.nx ((⟨(Y0 s0.Rows (⟨v18.Y, v41⟩ : Jm))⟩ : Ji), (iadd .i64 s1 1), s2)) else none)
 else some (.nx ((⟨s0.Rows⟩ : Ji), (iadd .i64 s1 1), s2))))))
 else (J3 (gOpt (ilt s2 (flen k2.Rows)) (fget k2.Rows s2)) fun v47 => (if (band (ilt s2 (flen k2.Rows)) (ieq (((v47.getD (⟨0, (FS.nil : (FS Jf))⟩ : Jm))).Y) v18.Y)) = true then (J3 (fget k2.Rows s2) fun v52 => (J3 (Kz k0 (FS.nil : (FS Jf)) v52.Runs) fun v57 => (if (igt (flen v57) 0) = true then (if fits 32 ((flen s0.Rows) + 1) = true then some (.nx ((⟨(Y0 s0.Rows (⟨v18.Y, v57⟩ : Jm))⟩ : Ji), s1, (iadd .i64 s2 1))) else none)
 else some (.nx ((⟨s0.Rows⟩ : Ji), s1, (iadd .i64 s2 1))))))
 else (J3 (Kz k0 (FS.nil : (FS Jf)) (FS.nil : (FS Jf))) fun v63 => (if (igt (flen v63) 0) = true then (if fits 32 ((flen s0.Rows) + 1) = true then some (.nx ((⟨(Y0 s0.Rows (⟨v18.Y, v63⟩ : Jm))⟩ : Ji), s1, s2)) else none)
 else some (.nx ((⟨s0.Rows⟩ : Ji), s1, s2))))))))
 else (J3 (fget k2.Rows s2) fun v69 => (J3 (gOpt (ilt s1 (flen k1.Rows)) (fget k1.Rows s1)) fun v73 => (if (band (ilt s1 (flen k1.Rows)) (ieq (((v73.getD (⟨0, (FS.nil : (FS Jf))⟩ : Jm))).Y) v69.Y)) = true then (J3 (fget k1.Rows s1) fun v78 => (if (band (ilt s2 (flen k2.Rows)) (ieq v69.Y v69.Y)) = true then (J3 (Kz k0 v78.Runs v69.Runs) fun v86 => (if (igt (flen v86) 0) = true then (if fits 32 ((flen s0.Rows) + 1) = true then some (.nx ((⟨(Y0 s0.Rows (⟨v69.Y, v86⟩ : Jm))⟩ : Ji), (iadd .i64 s1 1), (iadd .i64 s2 1))) else none)
 else some (.nx ((⟨s0.Rows⟩ : Ji), (iadd .i64 s1 1), (iadd .i64 s2 1)))))
 else (J3 (Kz k0 v78.Runs (FS.nil : (FS Jf))) fun v92 => (if (igt (flen v92) 0) = true then (if fits 32 ((flen s0.Rows) + 1) = true then some (.nx ((⟨(Y0 s0.Rows (⟨v69.Y, v92⟩ : Jm))⟩ : Ji), (iadd .i64 s1 1), s2)) else none)
 else some (.nx ((⟨s0.Rows⟩ : Ji), (iadd .i64 s1 1), s2))))))
 else (if (band (ilt s2 (flen k2.Rows)) (ieq v69.Y v69.Y)) = true then (J3 (Kz k0 (FS.nil : (FS Jf)) v69.Runs) fun v101 => (if (igt (flen v101) 0) = true then (if fits 32 ((flen s0.Rows) + 1) = true then some (.nx ((⟨(Y0 s0.Rows (⟨v69.Y, v101⟩ : Jm))⟩ : Ji), s1, (iadd .i64 s2 1))) else none)
 else some (.nx ((⟨s0.Rows⟩ : Ji), s1, (iadd .i64 s2 1)))))
 else (J3 (Kz k0 (FS.nil : (FS Jf)) (FS.nil : (FS Jf))) fun v107 => (if (igt (flen v107) 0) = true then (if fits 32 ((flen s0.Rows) + 1) = true then some (.nx ((⟨(Y0 s0.Rows (⟨v69.Y, v107⟩ : Jm))⟩ : Ji), s1, s2)) else none)
 else some (.nx ((⟨s0.Rows⟩ : Ji), s1, s2)))))))))))
 else some (.dn (⟨s0.Rows⟩ : Ji)))
def Jl (k0 : Int) (k1 : Ji) (k2 : Ji) (k3 : Ji) (s : (Ji × Int × Int)) : St := match s with
 | (s0, s1, s2) => (zo s0.Rows (⟨fr [(0, .int .i64 k0), (4, .ptr 4 0 0), (5, .ptr 5 0 0), (6, .ptr 6 0 0), (7, .ptr 7 0 0), (8, .int .i64 s1), (9, .int .i64 s2)], hl [(4, .box 0 [encF Jg k1.Rows]), (5, .box 0 [encF Jg k2.Rows]), (6, .box 0 [.nils]), (7, .box 0 [.nils])]⟩)
  (fun l0 => ⟨fr [(0, .int .i64 k0), (4, .ptr 4 0 0), (5, .ptr 5 0 0), (6, .ptr 6 0 0), (7, .ptr 7 0 0), (8, .int .i64 s1), (9, .int .i64 s2)], hl [(4, .box 0 [encF Jg k1.Rows]), (5, .box 0 [encF Jg k2.Rows]), (6, .box 0 [.nils]), (7, .box 0 [.arr 1007000 0 0 l0.l.length]), (1007000, .arr 0 2 57 (Jp Jg l0.l) false)]⟩))
def X8 (k0 : Int) (k1 : Ji) (k2 : Ji) (k3 : Ji) (x : Ji) : LE × St := (zo x.Rows (.exit 0, ⟨fr [(6, .ptr 6 0 0), (7, .ptr 7 0 0)], hl [(6, .box 0 [.nils]), (7, .box 0 [.nils])]⟩)
  (fun l0 => (.exit 0, ⟨fr [(6, .ptr 6 0 0), (7, .ptr 7 0 0)], hl [(6, .box 0 [.nils]), (7, .box 0 [.arr 1007000 0 0 l0.l.length]), (1007000, .arr 0 2 57 (Jp Jg l0.l) false)]⟩)))
theorem Jej {k0} {k1} {k2} {k3} {s} {r} (h : Ky (Qn k0 k1 k2 k3) bigN s = some r) : LK env [] 0 [0, 4, 5, 6, 7, 8, 9] Jz3 (some (Jl k0 k1 k2 k3 s)) = some (X8 k0 k1 k2 k3 r) ∧ (Lst s.1.Rows → Lst r.Rows) := Jhj (P := fun s => Lst s.1.Rows) (Q := fun r => Lst r.Rows) (st := Jl k0 k1 k2 k3) (out := X8 k0 k1 k2 k3) (by
 clear h s r
 rintro ⟨s0, s1, s2⟩ x h
 simp only [Qn] at h
 cases e11 : s0.Rows with
 | nil =>
  try simp only [e11, Jr] at h
  rcases ifC h with ⟨c12, h⟩ | ⟨c12, h⟩
  ·obtain ⟨v15, h14, h⟩ := oS h
   have f13 := fun (q0 : (ieq s2 (flen k2.Rows)) = false) (q1 : (ilt s1 (flen k1.Rows)) = true) => Kc (e := Jg) (Kb (⟨0, (FS.nil : (FS Jf))⟩ : Jm) h14 (z6 (Qo q0) q1))
   obtain ⟨v18, h17, h⟩ := oS h
   have f16 := fun (q0 : (ieq s2 (flen k2.Rows)) = false) (q1 : (ilt s1 (flen k1.Rows)) = true) => Kc (e := Jg) (Kb (⟨0, (FS.nil : (FS Jf))⟩ : Jm) h17 (z6 (Qo q0) q1))
   rcases ifC h with ⟨c19, h⟩ | ⟨c19, h⟩
   ·obtain ⟨v22, h21, h⟩ := oS h
    have f20 := Kc (e := Jg) h21
    have f23 := fun (q0 : (ieq s2 (flen k2.Rows)) = false) (q1 : (ilt s1 (flen k1.Rows)) = true) => Ym (⟨0, (FS.nil : (FS Jf))⟩ : Jm) h14 (z6 (Qo q0) q1) h21
    rcases ifC h with ⟨c25, h⟩ | ⟨c25, h⟩
    ·obtain ⟨v29, h28, h⟩ := oS h
     have f27 := fun (q0 : (ilt s2 (flen k2.Rows)) = true) => Kc (e := Jg) (Kb (⟨0, (FS.nil : (FS Jf))⟩ : Jm) h28 q0)
     have f30 := fun (q0 : (ieq s2 (flen k2.Rows)) = false) (q1 : (ilt s1 (flen k1.Rows)) = true) (r0 : (ilt s2 (flen k2.Rows)) = true) => Ym (⟨0, (FS.nil : (FS Jf))⟩ : Jm) h17 (z6 (Qo q0) q1) (Kb (⟨0, (FS.nil : (FS Jf))⟩ : Jm) h28 r0)
     rcases ifC h with ⟨c31, h⟩ | ⟨c31, h⟩
     ·obtain ⟨v34, h33, h⟩ := oS h
      have f32 := Kc (e := Jg) h33
      have f35 := fun (q0 : (ieq s2 (flen k2.Rows)) = false) (q1 : (ilt s1 (flen k1.Rows)) = true) => Ym (⟨0, (FS.nil : (FS Jf))⟩ : Jm) h17 (z6 (Qo q0) q1) h33
      have f36 := fun (q0 : (ilt s2 (flen k2.Rows)) = true) => Ym (⟨0, (FS.nil : (FS Jf))⟩ : Jm) h28 q0 h33
      obtain ⟨v39, h38, h⟩ := oS h
      have f37 := Kg h38
      rcases ifC h with ⟨c40, h⟩ | ⟨c40, h⟩
      ·obtain ⟨h42, h⟩ := ifS h
       have f41 := fun H g0 hg y => @Jbw _ _ Jg _ (⟨v22.Y, v39⟩ : Jm) 32 h42 (by decide) H g0 57 y hg
       simp only [Jg] at f41
       cases h
       refine ⟨?_, fun k => ?_⟩
       ·simp only [Jl, e11]
        rw [Jn]
        rcases tof (ilt s1 (flen k1.Rows)) with a43 | a43
        ·rcases tof (ieq s2 (flen k2.Rows)) with a44 | a44
         ·rcases tof (ieq v22.Y v22.Y) with a45 | a45
          ·rcases tof (ilt s2 (flen k2.Rows)) with a46 | a46
           ·rcases tof (ieq (((v29.getD (⟨0, (FS.nil : (FS Jf))⟩ : Jm))).Y) v22.Y) with a47 | a47
            ·have gf36 := f36 (by simp [*])
             try simp only [gf36] at f13 f16 f20 f27 f32 f37 f41 a43 a44 a45 a46 a47 c40
             simp [*]
            ·simp [a43, a44, a45, a46, a47] at c31
           ·simp [a43, a44, a45, a46] at c31
          ·simp [a43, a44, a45] at c25
         ·rcases tof (ile (((v15.getD (⟨0, (FS.nil : (FS Jf))⟩ : Jm))).Y) (((v18.getD (⟨0, (FS.nil : (FS Jf))⟩ : Jm))).Y)) with a48 | a48
          ·rcases tof (ieq v22.Y v22.Y) with a49 | a49
           ·rcases tof (ilt s2 (flen k2.Rows)) with a50 | a50
            ·rcases tof (ieq (((v29.getD (⟨0, (FS.nil : (FS Jf))⟩ : Jm))).Y) v22.Y) with a51 | a51
             ·have gf23 := f23 (by simp [*]) (by simp [*])
              try simp only [gf23] at f13 f16 f20 f27 f32 f37 f41 a43 a44 a48 a49 a50 a51 c40
              have gf30 := f30 (by simp [*]) (by simp [*]) (by simp [*])
              try simp only [gf30] at f13 f16 f20 f27 f32 f37 f41 a43 a44 a48 a49 a50 a51 c40
              have gf35 := f35 (by simp [*]) (by simp [*])
              try simp only [gf35] at f13 f16 f20 f27 f32 f37 f41 a43 a44 a48 a49 a50 a51 c40
              have gf36 := f36 (by simp [*])
              try simp only [gf36] at f13 f16 f20 f27 f32 f37 f41 a43 a44 a48 a49 a50 a51 c40
              simp [*]
             ·simp [a43, a44, a48, a49, a50, a51] at c31
            ·simp [a43, a44, a48, a49, a50] at c31
           ·simp [a43, a44, a48, a49] at c25
          ·simp [a43, a44, a48] at c19
        ·rcases tof (ilt s2 (flen k2.Rows)) with a52 | a52
         ·rcases tof (ieq s2 (flen k2.Rows)) with a53 | a53
          ·simp [a43, a52, a53] at c25
          ·simp [a43, a52, a53] at c19
         ·simp [a43, a52] at c12
       ·obtain ⟨_, k⟩ := k
        first | exact (Jau k).elim | exact (Jau (e11.symm.trans k)).elim
      ·cases h
       refine ⟨?_, fun k => ?_⟩
       ·simp only [Jl, e11]
        rw [Jn]
        rcases tof (ilt s1 (flen k1.Rows)) with a54 | a54
        ·rcases tof (ieq s2 (flen k2.Rows)) with a55 | a55
         ·rcases tof (ieq v22.Y v22.Y) with a56 | a56
          ·rcases tof (ilt s2 (flen k2.Rows)) with a57 | a57
           ·rcases tof (ieq (((v29.getD (⟨0, (FS.nil : (FS Jf))⟩ : Jm))).Y) v22.Y) with a58 | a58
            ·have gf36 := f36 (by simp [*])
             try simp only [gf36] at f13 f16 f20 f27 f32 f37 a54 a55 a56 a57 a58 c40
             simp [*]
            ·simp [a54, a55, a56, a57, a58] at c31
           ·simp [a54, a55, a56, a57] at c31
          ·simp [a54, a55, a56] at c25
         ·rcases tof (ile (((v15.getD (⟨0, (FS.nil : (FS Jf))⟩ : Jm))).Y) (((v18.getD (⟨0, (FS.nil : (FS Jf))⟩ : Jm))).Y)) with a59 | a59
          ·rcases tof (ieq v22.Y v22.Y) with a60 | a60
           ·rcases tof (ilt s2 (flen k2.Rows)) with a61 | a61
            ·rcases tof (ieq (((v29.getD (⟨0, (FS.nil : (FS Jf))⟩ : Jm))).Y) v22.Y) with a62 | a62
             ·have gf23 := f23 (by simp [*]) (by simp [*])
              try simp only [gf23] at f13 f16 f20 f27 f32 f37 a54 a55 a59 a60 a61 a62 c40
              have gf30 := f30 (by simp [*]) (by simp [*]) (by simp [*])
              try simp only [gf30] at f13 f16 f20 f27 f32 f37 a54 a55 a59 a60 a61 a62 c40
              have gf35 := f35 (by simp [*]) (by simp [*])
              try simp only [gf35] at f13 f16 f20 f27 f32 f37 a54 a55 a59 a60 a61 a62 c40
              have gf36 := f36 (by simp [*])
              try simp only [gf36] at f13 f16 f20 f27 f32 f37 a54 a55 a59 a60 a61 a62 c40
              simp [*]
             ·simp [a54, a55, a59, a60, a61, a62] at c31
            ·simp [a54, a55, a59, a60, a61] at c31
           ·simp [a54, a55, a59, a60] at c25
          ·simp [a54, a55, a59] at c19
        ·rcases tof (ilt s2 (flen k2.Rows)) with a63 | a63
         ·rcases tof (ieq s2 (flen k2.Rows)) with a64 | a64
          ·simp [a54, a63, a64] at c25
          ·simp [a54, a63, a64] at c19
         ·simp [a54, a63] at c12
       ·obtain ⟨_, k⟩ := k
        first | exact (Jau k).elim | exact (Jau (e11.symm.trans k)).elim
     ·obtain ⟨v67, h66, h⟩ := oS h
      have f65 := Kg h66
      try simp only [K4] at f65
      rcases ifC h with ⟨c68, h⟩ | ⟨c68, h⟩
      ·obtain ⟨h70, h⟩ := ifS h
       have f69 := fun H g0 hg y => @Jbw _ _ Jg _ (⟨v22.Y, v67⟩ : Jm) 32 h70 (by decide) H g0 57 y hg
       simp only [Jg] at f69
       cases h
       refine ⟨?_, fun k => ?_⟩
       ·simp only [Jl, e11]
        rw [Jn]
        rcases tof (ilt s1 (flen k1.Rows)) with a71 | a71
        ·rcases tof (ieq s2 (flen k2.Rows)) with a72 | a72
         ·rcases tof (ieq v22.Y v22.Y) with a73 | a73
          ·rcases tof (ilt s2 (flen k2.Rows)) with a74 | a74
           ·rcases tof (ieq (((v29.getD (⟨0, (FS.nil : (FS Jf))⟩ : Jm))).Y) v22.Y) with a75 | a75
            ·simp [a71, a72, a73, a74, a75] at c31
            ·simp [*]
           ·simp [*]
          ·simp [a71, a72, a73] at c25
         ·rcases tof (ile (((v15.getD (⟨0, (FS.nil : (FS Jf))⟩ : Jm))).Y) (((v18.getD (⟨0, (FS.nil : (FS Jf))⟩ : Jm))).Y)) with a76 | a76
          ·rcases tof (ieq v22.Y v22.Y) with a77 | a77
           ·rcases tof (ilt s2 (flen k2.Rows)) with a78 | a78
            ·rcases tof (ieq (((v29.getD (⟨0, (FS.nil : (FS Jf))⟩ : Jm))).Y) v22.Y) with a79 | a79
             ·simp [a71, a72, a76, a77, a78, a79] at c31
             ·have gf23 := f23 (by simp [*]) (by simp [*])
              try simp only [gf23] at f13 f16 f20 f27 f65 f69 a71 a72 a76 a77 a78 a79 c68
              have gf30 := f30 (by simp [*]) (by simp [*]) (by simp [*])
              try simp only [gf30] at f13 f16 f20 f27 f65 f69 a71 a72 a76 a77 a78 a79 c68
              simp [*]
            ·have gf23 := f23 (by simp [*]) (by simp [*])
             try simp only [gf23] at f13 f16 f20 f27 f65 f69 a71 a72 a76 a77 a78 c68
             simp [*]
           ·simp [a71, a72, a76, a77] at c25
          ·simp [a71, a72, a76] at c19
        ·rcases tof (ilt s2 (flen k2.Rows)) with a80 | a80
         ·rcases tof (ieq s2 (flen k2.Rows)) with a81 | a81
          ·simp [a71, a80, a81] at c25
          ·simp [a71, a80, a81] at c19
         ·simp [a71, a80] at c12
       ·obtain ⟨_, k⟩ := k
        first | exact (Jau k).elim | exact (Jau (e11.symm.trans k)).elim
      ·cases h
       refine ⟨?_, fun k => ?_⟩
       ·simp only [Jl, e11]
        rw [Jn]
        rcases tof (ilt s1 (flen k1.Rows)) with a82 | a82
        ·rcases tof (ieq s2 (flen k2.Rows)) with a83 | a83
         ·rcases tof (ieq v22.Y v22.Y) with a84 | a84
          ·rcases tof (ilt s2 (flen k2.Rows)) with a85 | a85
           ·rcases tof (ieq (((v29.getD (⟨0, (FS.nil : (FS Jf))⟩ : Jm))).Y) v22.Y) with a86 | a86
            ·simp [a82, a83, a84, a85, a86] at c31
            ·simp [*]
           ·simp [*]
          ·simp [a82, a83, a84] at c25
         ·rcases tof (ile (((v15.getD (⟨0, (FS.nil : (FS Jf))⟩ : Jm))).Y) (((v18.getD (⟨0, (FS.nil : (FS Jf))⟩ : Jm))).Y)) with a87 | a87
          ·rcases tof (ieq v22.Y v22.Y) with a88 | a88
           ·rcases tof (ilt s2 (flen k2.Rows)) with a89 | a89
            ·rcases tof (ieq (((v29.getD (⟨0, (FS.nil : (FS Jf))⟩ : Jm))).Y) v22.Y) with a90 | a90
             ·simp [a82, a83, a87, a88, a89, a90] at c31
             ·have gf23 := f23 (by simp [*]) (by simp [*])
              try simp only [gf23] at f13 f16 f20 f27 f65 a82 a83 a87 a88 a89 a90 c68
              have gf30 := f30 (by simp [*]) (by simp [*]) (by simp [*])
              try simp only [gf30] at f13 f16 f20 f27 f65 a82 a83 a87 a88 a89 a90 c68
              simp [*]
            ·have gf23 := f23 (by simp [*]) (by simp [*])
             try simp only [gf23] at f13 f16 f20 f27 f65 a82 a83 a87 a88 a89 c68
             simp [*]
           ·simp [a82, a83, a87, a88] at c25
          ·simp [a82, a83, a87] at c19
        ·rcases tof (ilt s2 (flen k2.Rows)) with a91 | a91
         ·rcases tof (ieq s2 (flen k2.Rows)) with a92 | a92
          ·simp [a82, a91, a92] at c25
          ·simp [a82, a91, a92] at c19
         ·simp [a82, a91] at c12
       ·obtain ⟨_, k⟩ := k
        first | exact (Jau k).elim | exact (Jau (e11.symm.trans k)).elim
    ·obtain ⟨v95, h94, h⟩ := oS h
     have f93 := fun (q0 : (ilt s2 (flen k2.Rows)) = true) => Kc (e := Jg) (Kb (⟨0, (FS.nil : (FS Jf))⟩ : Jm) h94 q0)
     have f96 := fun (q0 : (ieq s2 (flen k2.Rows)) = false) (q1 : (ilt s1 (flen k1.Rows)) = true) (r0 : (ilt s2 (flen k2.Rows)) = true) => Ym (⟨0, (FS.nil : (FS Jf))⟩ : Jm) h17 (z6 (Qo q0) q1) (Kb (⟨0, (FS.nil : (FS Jf))⟩ : Jm) h94 r0)
     rcases ifC h with ⟨c97, h⟩ | ⟨c97, h⟩
     ·obtain ⟨v100, h99, h⟩ := oS h
      have f98 := Kc (e := Jg) h99
      have f101 := fun (q0 : (ieq s2 (flen k2.Rows)) = false) (q1 : (ilt s1 (flen k1.Rows)) = true) => Ym (⟨0, (FS.nil : (FS Jf))⟩ : Jm) h17 (z6 (Qo q0) q1) h99
      have f102 := fun (q0 : (ilt s2 (flen k2.Rows)) = true) => Ym (⟨0, (FS.nil : (FS Jf))⟩ : Jm) h94 q0 h99
      obtain ⟨v105, h104, h⟩ := oS h
      have f103 := Kg h104
      try simp only [K4] at f103
      rcases ifC h with ⟨c106, h⟩ | ⟨c106, h⟩
      ·obtain ⟨h108, h⟩ := ifS h
       have f107 := fun H g0 hg y => @Jbw _ _ Jg _ (⟨v22.Y, v105⟩ : Jm) 32 h108 (by decide) H g0 57 y hg
       simp only [Jg] at f107
       cases h
       refine ⟨?_, fun k => ?_⟩
       ·simp only [Jl, e11]
        rw [Jn]
        rcases tof (ilt s1 (flen k1.Rows)) with a109 | a109
        ·rcases tof (ieq s2 (flen k2.Rows)) with a110 | a110
         ·rcases tof (ieq v22.Y v22.Y) with a111 | a111
          ·simp [a109, a110, a111] at c25
          ·rcases tof (ilt s2 (flen k2.Rows)) with a112 | a112
           ·rcases tof (ieq (((v95.getD (⟨0, (FS.nil : (FS Jf))⟩ : Jm))).Y) v22.Y) with a113 | a113
            ·have gf102 := f102 (by simp [*])
             try simp only [gf102] at f13 f16 f20 f93 f98 f103 f107 a109 a110 a111 a112 a113 c106
             simp [*]
            ·simp [a109, a110, a111, a112, a113] at c97
           ·simp [a109, a110, a111, a112] at c97
         ·rcases tof (ile (((v15.getD (⟨0, (FS.nil : (FS Jf))⟩ : Jm))).Y) (((v18.getD (⟨0, (FS.nil : (FS Jf))⟩ : Jm))).Y)) with a114 | a114
          ·rcases tof (ieq v22.Y v22.Y) with a115 | a115
           ·simp [a109, a110, a114, a115] at c25
           ·rcases tof (ilt s2 (flen k2.Rows)) with a116 | a116
            ·rcases tof (ieq (((v95.getD (⟨0, (FS.nil : (FS Jf))⟩ : Jm))).Y) v22.Y) with a117 | a117
             ·have gf23 := f23 (by simp [*]) (by simp [*])
              try simp only [gf23] at f13 f16 f20 f93 f98 f103 f107 a109 a110 a114 a115 a116 a117 c106
              have gf96 := f96 (by simp [*]) (by simp [*]) (by simp [*])
              try simp only [gf96] at f13 f16 f20 f93 f98 f103 f107 a109 a110 a114 a115 a116 a117 c106
              have gf101 := f101 (by simp [*]) (by simp [*])
              try simp only [gf101] at f13 f16 f20 f93 f98 f103 f107 a109 a110 a114 a115 a116 a117 c106
              have gf102 := f102 (by simp [*])
              try simp only [gf102] at f13 f16 f20 f93 f98 f103 f107 a109 a110 a114 a115 a116 a117 c106
              simp [*]
             ·simp [a109, a110, a114, a115, a116, a117] at c97
            ·simp [a109, a110, a114, a115, a116] at c97
          ·simp [a109, a110, a114] at c19
        ·rcases tof (ilt s2 (flen k2.Rows)) with a118 | a118
         ·rcases tof (ieq s2 (flen k2.Rows)) with a119 | a119
          ·rcases tof (ieq (((v95.getD (⟨0, (FS.nil : (FS Jf))⟩ : Jm))).Y) v22.Y) with a120 | a120
           ·have gf102 := f102 (by simp [*])
            try simp only [gf102] at f13 f16 f20 f93 f98 f103 f107 a109 a118 a119 a120 c106
            simp [*]
           ·simp [a109, a118, a119, a120] at c97
          ·simp [a109, a118, a119] at c19
         ·simp [a109, a118] at c12
       ·obtain ⟨_, k⟩ := k
        first | exact (Jau k).elim | exact (Jau (e11.symm.trans k)).elim
      ·cases h
       refine ⟨?_, fun k => ?_⟩
       ·simp only [Jl, e11]
        rw [Jn]
        rcases tof (ilt s1 (flen k1.Rows)) with a121 | a121
        ·rcases tof (ieq s2 (flen k2.Rows)) with a122 | a122
         ·rcases tof (ieq v22.Y v22.Y) with a123 | a123
          ·simp [a121, a122, a123] at c25
          ·rcases tof (ilt s2 (flen k2.Rows)) with a124 | a124
           ·rcases tof (ieq (((v95.getD (⟨0, (FS.nil : (FS Jf))⟩ : Jm))).Y) v22.Y) with a125 | a125
            ·have gf102 := f102 (by simp [*])
             try simp only [gf102] at f13 f16 f20 f93 f98 f103 a121 a122 a123 a124 a125 c106
             simp [*]
            ·simp [a121, a122, a123, a124, a125] at c97
           ·simp [a121, a122, a123, a124] at c97
         ·rcases tof (ile (((v15.getD (⟨0, (FS.nil : (FS Jf))⟩ : Jm))).Y) (((v18.getD (⟨0, (FS.nil : (FS Jf))⟩ : Jm))).Y)) with a126 | a126
          ·rcases tof (ieq v22.Y v22.Y) with a127 | a127
           ·simp [a121, a122, a126, a127] at c25
           ·rcases tof (ilt s2 (flen k2.Rows)) with a128 | a128
            ·rcases tof (ieq (((v95.getD (⟨0, (FS.nil : (FS Jf))⟩ : Jm))).Y) v22.Y) with a129 | a129
             ·have gf23 := f23 (by simp [*]) (by simp [*])
              try simp only [gf23] at f13 f16 f20 f93 f98 f103 a121 a122 a126 a127 a128 a129 c106
              have gf96 := f96 (by simp [*]) (by simp [*]) (by simp [*])
              try simp only [gf96] at f13 f16 f20 f93 f98 f103 a121 a122 a126 a127 a128 a129 c106
              have gf101 := f101 (by simp [*]) (by simp [*])
              try simp only [gf101] at f13 f16 f20 f93 f98 f103 a121 a122 a126 a127 a128 a129 c106
              have gf102 := f102 (by simp [*])
              try simp only [gf102] at f13 f16 f20 f93 f98 f103 a121 a122 a126 a127 a128 a129 c106
              simp [*]
             ·simp [a121, a122, a126, a127, a128, a129] at c97
            ·simp [a121, a122, a126, a127, a128] at c97
          ·simp [a121, a122, a126] at c19
        ·rcases tof (ilt s2 (flen k2.Rows)) with a130 | a130
         ·rcases tof (ieq s2 (flen k2.Rows)) with a131 | a131
          ·rcases tof (ieq (((v95.getD (⟨0, (FS.nil : (FS Jf))⟩ : Jm))).Y) v22.Y) with a132 | a132
           ·have gf102 := f102 (by simp [*])
            try simp only [gf102] at f13 f16 f20 f93 f98 f103 a121 a130 a131 a132 c106
            simp [*]
           ·simp [a121, a130, a131, a132] at c97
          ·simp [a121, a130, a131] at c19
         ·simp [a121, a130] at c12
       ·obtain ⟨_, k⟩ := k
        first | exact (Jau k).elim | exact (Jau (e11.symm.trans k)).elim
     ·obtain ⟨v135, h134, h⟩ := oS h
      have f133 := Kg h134
      try simp only [K4] at f133
      rcases ifC h with ⟨c136, h⟩ | ⟨c136, h⟩
      ·obtain ⟨h138, h⟩ := ifS h
       have f137 := fun H g0 hg y => @Jbw _ _ Jg _ (⟨v22.Y, v135⟩ : Jm) 32 h138 (by decide) H g0 57 y hg
       simp only [Jg] at f137
       cases h
       refine ⟨?_, fun k => ?_⟩
       ·simp only [Jl, e11]
        rw [Jn]
        rcases tof (ilt s1 (flen k1.Rows)) with a139 | a139
        ·rcases tof (ieq s2 (flen k2.Rows)) with a140 | a140
         ·rcases tof (ieq v22.Y v22.Y) with a141 | a141
          ·simp [a139, a140, a141] at c25
          ·rcases tof (ilt s2 (flen k2.Rows)) with a142 | a142
           ·rcases tof (ieq (((v95.getD (⟨0, (FS.nil : (FS Jf))⟩ : Jm))).Y) v22.Y) with a143 | a143
            ·simp [a139, a140, a141, a142, a143] at c97
            ·simp [*]
           ·simp [*]
         ·rcases tof (ile (((v15.getD (⟨0, (FS.nil : (FS Jf))⟩ : Jm))).Y) (((v18.getD (⟨0, (FS.nil : (FS Jf))⟩ : Jm))).Y)) with a144 | a144
          ·rcases tof (ieq v22.Y v22.Y) with a145 | a145
           ·simp [a139, a140, a144, a145] at c25
           ·rcases tof (ilt s2 (flen k2.Rows)) with a146 | a146
            ·rcases tof (ieq (((v95.getD (⟨0, (FS.nil : (FS Jf))⟩ : Jm))).Y) v22.Y) with a147 | a147
             ·simp [a139, a140, a144, a145, a146, a147] at c97
             ·have gf23 := f23 (by simp [*]) (by simp [*])
              try simp only [gf23] at f13 f16 f20 f93 f133 f137 a139 a140 a144 a145 a146 a147 c136
              have gf96 := f96 (by simp [*]) (by simp [*]) (by simp [*])
              try simp only [gf96] at f13 f16 f20 f93 f133 f137 a139 a140 a144 a145 a146 a147 c136
              simp [*]
            ·have gf23 := f23 (by simp [*]) (by simp [*])
             try simp only [gf23] at f13 f16 f20 f93 f133 f137 a139 a140 a144 a145 a146 c136
             simp [*]
          ·simp [a139, a140, a144] at c19
        ·rcases tof (ilt s2 (flen k2.Rows)) with a148 | a148
         ·rcases tof (ieq s2 (flen k2.Rows)) with a149 | a149
          ·rcases tof (ieq (((v95.getD (⟨0, (FS.nil : (FS Jf))⟩ : Jm))).Y) v22.Y) with a150 | a150
           ·simp [a139, a148, a149, a150] at c97
           ·simp [*]
          ·simp [a139, a148, a149] at c19
         ·simp [a139, a148] at c12
       ·obtain ⟨_, k⟩ := k
        first | exact (Jau k).elim | exact (Jau (e11.symm.trans k)).elim
      ·cases h
       refine ⟨?_, fun k => ?_⟩
       ·simp only [Jl, e11]
       ·obtain ⟨_, k⟩ := k
        first | exact (Jau k).elim | exact (Jau (e11.symm.trans k)).elim
   ·obtain ⟨v153, h152, h⟩ := oS h
    have f151 := Kc (e := Jg) h152
    have f154 := fun (q0 : (ieq s2 (flen k2.Rows)) = false) (q1 : (ilt s1 (flen k1.Rows)) = true) => Ym (⟨0, (FS.nil : (FS Jf))⟩ : Jm) h17 (z6 (Qo q0) q1) h152
    obtain ⟨v157, h156, h⟩ := oS h
    have f155 := fun (q0 : (ilt s1 (flen k1.Rows)) = true) => Kc (e := Jg) (Kb (⟨0, (FS.nil : (FS Jf))⟩ : Jm) h156 q0)
    have f158 := fun (q0 : (ieq s2 (flen k2.Rows)) = false) (q1 : (ilt s1 (flen k1.Rows)) = true) (r0 : (ilt s1 (flen k1.Rows)) = true) => Ym (⟨0, (FS.nil : (FS Jf))⟩ : Jm) h14 (z6 (Qo q0) q1) (Kb (⟨0, (FS.nil : (FS Jf))⟩ : Jm) h156 r0)
    rcases ifC h with ⟨c159, h⟩ | ⟨c159, h⟩
    ·obtain ⟨v162, h161, h⟩ := oS h
     have f160 := Kc (e := Jg) h161
     have f163 := fun (q0 : (ieq s2 (flen k2.Rows)) = false) (q1 : (ilt s1 (flen k1.Rows)) = true) => Ym (⟨0, (FS.nil : (FS Jf))⟩ : Jm) h14 (z6 (Qo q0) q1) h161
     have f164 := fun (q0 : (ilt s1 (flen k1.Rows)) = true) => Ym (⟨0, (FS.nil : (FS Jf))⟩ : Jm) h156 q0 h161
     rcases ifC h with ⟨c166, h⟩ | ⟨c166, h⟩
     ·obtain ⟨v170, h169, h⟩ := oS h
      have f168 := Kg h169
      rcases ifC h with ⟨c171, h⟩ | ⟨c171, h⟩
      ·obtain ⟨h173, h⟩ := ifS h
       have f172 := fun H g0 hg y => @Jbw _ _ Jg _ (⟨v153.Y, v170⟩ : Jm) 32 h173 (by decide) H g0 57 y hg
       simp only [Jg] at f172
       cases h
       refine ⟨?_, fun k => ?_⟩
       ·simp only [Jl, e11]
        rw [Jn]
        rcases tof (ilt s1 (flen k1.Rows)) with a174 | a174
        ·rcases tof (ieq s2 (flen k2.Rows)) with a175 | a175
         ·simp [a174, a175] at c19
         ·rcases tof (ile (((v15.getD (⟨0, (FS.nil : (FS Jf))⟩ : Jm))).Y) (((v18.getD (⟨0, (FS.nil : (FS Jf))⟩ : Jm))).Y)) with a176 | a176
          ·simp [a174, a175, a176] at c19
          ·rcases tof (ieq (((v157.getD (⟨0, (FS.nil : (FS Jf))⟩ : Jm))).Y) v153.Y) with a177 | a177
           ·rcases tof (ilt s2 (flen k2.Rows)) with a178 | a178
            ·rcases tof (ieq v153.Y v153.Y) with a179 | a179
             ·have gf154 := f154 (by simp [*]) (by simp [*])
              try simp only [gf154] at f13 f16 f151 f155 f160 f168 f172 a174 a175 a176 a177 a178 a179 c171
              have gf158 := f158 (by simp [*]) (by simp [*]) (by simp [*])
              try simp only [gf158] at f13 f16 f151 f155 f160 f168 f172 a174 a175 a176 a177 a178 a179 c171
              have gf163 := f163 (by simp [*]) (by simp [*])
              try simp only [gf163] at f13 f16 f151 f155 f160 f168 f172 a174 a175 a176 a177 a178 a179 c171
              have gf164 := f164 (by simp [*])
              try simp only [gf164] at f13 f16 f151 f155 f160 f168 f172 a174 a175 a176 a177 a178 a179 c171
              simp [*]
             ·simp [a174, a175, a176, a177, a178, a179] at c166
            ·simp [a174, a175, a176, a177, a178] at c166
           ·simp [a174, a175, a176, a177] at c159
        ·rcases tof (ilt s2 (flen k2.Rows)) with a180 | a180
         ·rcases tof (ieq s2 (flen k2.Rows)) with a181 | a181
          ·simp [a174, a180, a181] at c19
          ·simp [a174, a180, a181] at c159
         ·simp [a174, a180] at c12
       ·obtain ⟨_, k⟩ := k
        first | exact (Jau k).elim | exact (Jau (e11.symm.trans k)).elim
      ·cases h
       refine ⟨?_, fun k => ?_⟩
       ·simp only [Jl, e11]
        rw [Jn]
        rcases tof (ilt s1 (flen k1.Rows)) with a182 | a182
        ·rcases tof (ieq s2 (flen k2.Rows)) with a183 | a183
         ·simp [a182, a183] at c19
         ·rcases tof (ile (((v15.getD (⟨0, (FS.nil : (FS Jf))⟩ : Jm))).Y) (((v18.getD (⟨0, (FS.nil : (FS Jf))⟩ : Jm))).Y)) with a184 | a184
          ·simp [a182, a183, a184] at c19
          ·rcases tof (ieq (((v157.getD (⟨0, (FS.nil : (FS Jf))⟩ : Jm))).Y) v153.Y) with a185 | a185
           ·rcases tof (ilt s2 (flen k2.Rows)) with a186 | a186
            ·rcases tof (ieq v153.Y v153.Y) with a187 | a187
             ·have gf154 := f154 (by simp [*]) (by simp [*])
              try simp only [gf154] at f13 f16 f151 f155 f160 f168 a182 a183 a184 a185 a186 a187 c171
              have gf158 := f158 (by simp [*]) (by simp [*]) (by simp [*])
              try simp only [gf158] at f13 f16 f151 f155 f160 f168 a182 a183 a184 a185 a186 a187 c171
              have gf163 := f163 (by simp [*]) (by simp [*])
              try simp only [gf163] at f13 f16 f151 f155 f160 f168 a182 a183 a184 a185 a186 a187 c171
              have gf164 := f164 (by simp [*])
              try simp only [gf164] at f13 f16 f151 f155 f160 f168 a182 a183 a184 a185 a186 a187 c171
              simp [*]
             ·simp [a182, a183, a184, a185, a186, a187] at c166
            ·simp [a182, a183, a184, a185, a186] at c166
           ·simp [a182, a183, a184, a185] at c159
        ·rcases tof (ilt s2 (flen k2.Rows)) with a188 | a188
         ·rcases tof (ieq s2 (flen k2.Rows)) with a189 | a189
          ·simp [a182, a188, a189] at c19
          ·simp [a182, a188, a189] at c159
         ·simp [a182, a188] at c12
       ·obtain ⟨_, k⟩ := k
        first | exact (Jau k).elim | exact (Jau (e11.symm.trans k)).elim
     ·obtain ⟨v192, h191, h⟩ := oS h
      have f190 := Kg h191
      try simp only [K4] at f190
      rcases ifC h with ⟨c193, h⟩ | ⟨c193, h⟩
      ·obtain ⟨h195, h⟩ := ifS h
       have f194 := fun H g0 hg y => @Jbw _ _ Jg _ (⟨v153.Y, v192⟩ : Jm) 32 h195 (by decide) H g0 57 y hg
       simp only [Jg] at f194
       cases h
       refine ⟨?_, fun k => ?_⟩
       ·simp only [Jl, e11]
        rw [Jn]
        rcases tof (ilt s1 (flen k1.Rows)) with a196 | a196
        ·rcases tof (ieq s2 (flen k2.Rows)) with a197 | a197
         ·simp [a196, a197] at c19
         ·rcases tof (ile (((v15.getD (⟨0, (FS.nil : (FS Jf))⟩ : Jm))).Y) (((v18.getD (⟨0, (FS.nil : (FS Jf))⟩ : Jm))).Y)) with a198 | a198
          ·simp [a196, a197, a198] at c19
          ·rcases tof (ieq (((v157.getD (⟨0, (FS.nil : (FS Jf))⟩ : Jm))).Y) v153.Y) with a199 | a199
           ·rcases tof (ilt s2 (flen k2.Rows)) with a200 | a200
            ·rcases tof (ieq v153.Y v153.Y) with a201 | a201
             ·simp [a196, a197, a198, a199, a200, a201] at c166
             ·have gf154 := f154 (by simp [*]) (by simp [*])
              try simp only [gf154] at f13 f16 f151 f155 f160 f190 f194 a196 a197 a198 a199 a200 a201 c193
              have gf158 := f158 (by simp [*]) (by simp [*]) (by simp [*])
              try simp only [gf158] at f13 f16 f151 f155 f160 f190 f194 a196 a197 a198 a199 a200 a201 c193
              have gf163 := f163 (by simp [*]) (by simp [*])
              try simp only [gf163] at f13 f16 f151 f155 f160 f190 f194 a196 a197 a198 a199 a200 a201 c193
              have gf164 := f164 (by simp [*])
              try simp only [gf164] at f13 f16 f151 f155 f160 f190 f194 a196 a197 a198 a199 a200 a201 c193
              simp [*]
            ·have gf154 := f154 (by simp [*]) (by simp [*])
             try simp only [gf154] at f13 f16 f151 f155 f160 f190 f194 a196 a197 a198 a199 a200 c193
             have gf158 := f158 (by simp [*]) (by simp [*]) (by simp [*])
             try simp only [gf158] at f13 f16 f151 f155 f160 f190 f194 a196 a197 a198 a199 a200 c193
             have gf163 := f163 (by simp [*]) (by simp [*])
             try simp only [gf163] at f13 f16 f151 f155 f160 f190 f194 a196 a197 a198 a199 a200 c193
             have gf164 := f164 (by simp [*])
             try simp only [gf164] at f13 f16 f151 f155 f160 f190 f194 a196 a197 a198 a199 a200 c193
             simp [*]
           ·simp [a196, a197, a198, a199] at c159
        ·rcases tof (ilt s2 (flen k2.Rows)) with a202 | a202
         ·rcases tof (ieq s2 (flen k2.Rows)) with a203 | a203
          ·simp [a196, a202, a203] at c19
          ·simp [a196, a202, a203] at c159
         ·simp [a196, a202] at c12
       ·obtain ⟨_, k⟩ := k
        first | exact (Jau k).elim | exact (Jau (e11.symm.trans k)).elim
      ·cases h
       refine ⟨?_, fun k => ?_⟩
       ·simp only [Jl, e11]
        rw [Jn]
        rcases tof (ilt s1 (flen k1.Rows)) with a204 | a204
        ·rcases tof (ieq s2 (flen k2.Rows)) with a205 | a205
         ·simp [a204, a205] at c19
         ·rcases tof (ile (((v15.getD (⟨0, (FS.nil : (FS Jf))⟩ : Jm))).Y) (((v18.getD (⟨0, (FS.nil : (FS Jf))⟩ : Jm))).Y)) with a206 | a206
          ·simp [a204, a205, a206] at c19
          ·rcases tof (ieq (((v157.getD (⟨0, (FS.nil : (FS Jf))⟩ : Jm))).Y) v153.Y) with a207 | a207
           ·rcases tof (ilt s2 (flen k2.Rows)) with a208 | a208
            ·rcases tof (ieq v153.Y v153.Y) with a209 | a209
             ·simp [a204, a205, a206, a207, a208, a209] at c166
             ·have gf154 := f154 (by simp [*]) (by simp [*])
              try simp only [gf154] at f13 f16 f151 f155 f160 f190 a204 a205 a206 a207 a208 a209 c193
              have gf158 := f158 (by simp [*]) (by simp [*]) (by simp [*])
              try simp only [gf158] at f13 f16 f151 f155 f160 f190 a204 a205 a206 a207 a208 a209 c193
              have gf163 := f163 (by simp [*]) (by simp [*])
              try simp only [gf163] at f13 f16 f151 f155 f160 f190 a204 a205 a206 a207 a208 a209 c193
              have gf164 := f164 (by simp [*])
              try simp only [gf164] at f13 f16 f151 f155 f160 f190 a204 a205 a206 a207 a208 a209 c193
              simp [*]
            ·have gf154 := f154 (by simp [*]) (by simp [*])
             try simp only [gf154] at f13 f16 f151 f155 f160 f190 a204 a205 a206 a207 a208 c193
             have gf158 := f158 (by simp [*]) (by simp [*]) (by simp [*])
             try simp only [gf158] at f13 f16 f151 f155 f160 f190 a204 a205 a206 a207 a208 c193
             have gf163 := f163 (by simp [*]) (by simp [*])
             try simp only [gf163] at f13 f16 f151 f155 f160 f190 a204 a205 a206 a207 a208 c193
             have gf164 := f164 (by simp [*])
             try simp only [gf164] at f13 f16 f151 f155 f160 f190 a204 a205 a206 a207 a208 c193
             simp [*]
           ·simp [a204, a205, a206, a207] at c159
        ·rcases tof (ilt s2 (flen k2.Rows)) with a210 | a210
         ·rcases tof (ieq s2 (flen k2.Rows)) with a211 | a211
          ·simp [a204, a210, a211] at c19
          ·simp [a204, a210, a211] at c159
         ·simp [a204, a210] at c12
       ·obtain ⟨_, k⟩ := k
        first | exact (Jau k).elim | exact (Jau (e11.symm.trans k)).elim
    ·rcases ifC h with ⟨c213, h⟩ | ⟨c213, h⟩
     ·obtain ⟨v217, h216, h⟩ := oS h
      have f215 := Kg h216
      try simp only [K4] at f215
      rcases ifC h with ⟨c218, h⟩ | ⟨c218, h⟩
      ·obtain ⟨h220, h⟩ := ifS h
       have f219 := fun H g0 hg y => @Jbw _ _ Jg _ (⟨v153.Y, v217⟩ : Jm) 32 h220 (by decide) H g0 57 y hg
       simp only [Jg] at f219
       cases h
       refine ⟨?_, fun k => ?_⟩
       ·simp only [Jl, e11]
        rw [Jn]
        rcases tof (ilt s1 (flen k1.Rows)) with a221 | a221
        ·rcases tof (ieq s2 (flen k2.Rows)) with a222 | a222
         ·simp [a221, a222] at c19
         ·rcases tof (ile (((v15.getD (⟨0, (FS.nil : (FS Jf))⟩ : Jm))).Y) (((v18.getD (⟨0, (FS.nil : (FS Jf))⟩ : Jm))).Y)) with a223 | a223
          ·simp [a221, a222, a223] at c19
          ·rcases tof (ieq (((v157.getD (⟨0, (FS.nil : (FS Jf))⟩ : Jm))).Y) v153.Y) with a224 | a224
           ·simp [a221, a222, a223, a224] at c159
           ·rcases tof (ilt s2 (flen k2.Rows)) with a225 | a225
            ·rcases tof (ieq v153.Y v153.Y) with a226 | a226
             ·have gf154 := f154 (by simp [*]) (by simp [*])
              try simp only [gf154] at f13 f16 f151 f155 f215 f219 a221 a222 a223 a224 a225 a226 c218
              have gf158 := f158 (by simp [*]) (by simp [*]) (by simp [*])
              try simp only [gf158] at f13 f16 f151 f155 f215 f219 a221 a222 a223 a224 a225 a226 c218
              simp [*]
             ·simp [a221, a222, a223, a224, a225, a226] at c213
            ·simp [a221, a222, a223, a224, a225] at c213
        ·rcases tof (ilt s2 (flen k2.Rows)) with a227 | a227
         ·rcases tof (ieq s2 (flen k2.Rows)) with a228 | a228
          ·simp [a221, a227, a228] at c19
          ·rcases tof (ieq v153.Y v153.Y) with a229 | a229
           ·simp [*]
           ·simp [a221, a227, a228, a229] at c213
         ·simp [a221, a227] at c12
       ·obtain ⟨_, k⟩ := k
        first | exact (Jau k).elim | exact (Jau (e11.symm.trans k)).elim
      ·cases h
       refine ⟨?_, fun k => ?_⟩
       ·simp only [Jl, e11]
        rw [Jn]
        rcases tof (ilt s1 (flen k1.Rows)) with a230 | a230
        ·rcases tof (ieq s2 (flen k2.Rows)) with a231 | a231
         ·simp [a230, a231] at c19
         ·rcases tof (ile (((v15.getD (⟨0, (FS.nil : (FS Jf))⟩ : Jm))).Y) (((v18.getD (⟨0, (FS.nil : (FS Jf))⟩ : Jm))).Y)) with a232 | a232
          ·simp [a230, a231, a232] at c19
          ·rcases tof (ieq (((v157.getD (⟨0, (FS.nil : (FS Jf))⟩ : Jm))).Y) v153.Y) with a233 | a233
           ·simp [a230, a231, a232, a233] at c159
           ·rcases tof (ilt s2 (flen k2.Rows)) with a234 | a234
            ·rcases tof (ieq v153.Y v153.Y) with a235 | a235
             ·have gf154 := f154 (by simp [*]) (by simp [*])
              try simp only [gf154] at f13 f16 f151 f155 f215 a230 a231 a232 a233 a234 a235 c218
              have gf158 := f158 (by simp [*]) (by simp [*]) (by simp [*])
              try simp only [gf158] at f13 f16 f151 f155 f215 a230 a231 a232 a233 a234 a235 c218
              simp [*]
             ·simp [a230, a231, a232, a233, a234, a235] at c213
            ·simp [a230, a231, a232, a233, a234] at c213
        ·rcases tof (ilt s2 (flen k2.Rows)) with a236 | a236
         ·rcases tof (ieq s2 (flen k2.Rows)) with a237 | a237
          ·simp [a230, a236, a237] at c19
          ·rcases tof (ieq v153.Y v153.Y) with a238 | a238
           ·simp [*]
           ·simp [a230, a236, a237, a238] at c213
         ·simp [a230, a236] at c12
       ·obtain ⟨_, k⟩ := k
        first | exact (Jau k).elim | exact (Jau (e11.symm.trans k)).elim
     ·obtain ⟨v241, h240, h⟩ := oS h
      have f239 := Kg h240
      try simp only [K4] at f239
      rcases ifC h with ⟨c242, h⟩ | ⟨c242, h⟩
      ·obtain ⟨h244, h⟩ := ifS h
       have f243 := fun H g0 hg y => @Jbw _ _ Jg _ (⟨v153.Y, v241⟩ : Jm) 32 h244 (by decide) H g0 57 y hg
       simp only [Jg] at f243
       cases h
       refine ⟨?_, fun k => ?_⟩
       ·simp only [Jl, e11]
        rw [Jn]
        rcases tof (ilt s1 (flen k1.Rows)) with a245 | a245
        ·rcases tof (ieq s2 (flen k2.Rows)) with a246 | a246
         ·simp [a245, a246] at c19
         ·rcases tof (ile (((v15.getD (⟨0, (FS.nil : (FS Jf))⟩ : Jm))).Y) (((v18.getD (⟨0, (FS.nil : (FS Jf))⟩ : Jm))).Y)) with a247 | a247
          ·simp [a245, a246, a247] at c19
          ·rcases tof (ieq (((v157.getD (⟨0, (FS.nil : (FS Jf))⟩ : Jm))).Y) v153.Y) with a248 | a248
           ·simp [a245, a246, a247, a248] at c159
           ·rcases tof (ilt s2 (flen k2.Rows)) with a249 | a249
            ·rcases tof (ieq v153.Y v153.Y) with a250 | a250
             ·simp [a245, a246, a247, a248, a249, a250] at c213
             ·have gf154 := f154 (by simp [*]) (by simp [*])
              try simp only [gf154] at f13 f16 f151 f155 f239 f243 a245 a246 a247 a248 a249 a250 c242
              have gf158 := f158 (by simp [*]) (by simp [*]) (by simp [*])
              try simp only [gf158] at f13 f16 f151 f155 f239 f243 a245 a246 a247 a248 a249 a250 c242
              simp [*]
            ·have gf154 := f154 (by simp [*]) (by simp [*])
             try simp only [gf154] at f13 f16 f151 f155 f239 f243 a245 a246 a247 a248 a249 c242
             have gf158 := f158 (by simp [*]) (by simp [*]) (by simp [*])
             try simp only [gf158] at f13 f16 f151 f155 f239 f243 a245 a246 a247 a248 a249 c242
             simp [*]
        ·rcases tof (ilt s2 (flen k2.Rows)) with a251 | a251
         ·rcases tof (ieq s2 (flen k2.Rows)) with a252 | a252
          ·simp [a245, a251, a252] at c19
          ·rcases tof (ieq v153.Y v153.Y) with a253 | a253
           ·simp [a245, a251, a252, a253] at c213
           ·simp [*]
         ·simp [a245, a251] at c12
       ·obtain ⟨_, k⟩ := k
        first | exact (Jau k).elim | exact (Jau (e11.symm.trans k)).elim
      ·cases h
       refine ⟨?_, fun k => ?_⟩
       ·simp only [Jl, e11]
       ·obtain ⟨_, k⟩ := k
        first | exact (Jau k).elim | exact (Jau (e11.symm.trans k)).elim
  ·cases h
   refine ⟨?_, fun k => ?_⟩
   ·simp only [Jl, X8, e11]
    rw [Jn]
    rcases tof (ilt s1 (flen k1.Rows)) with a254 | a254 <;> rcases tof (ilt s2 (flen k2.Rows)) with a255 | a255 <;> (try (simp [a254, a255] at c12; done)) <;> simp [*]
   ·obtain ⟨_, k⟩ := k
    first | exact (Jau k).elim | exact (Jau (e11.symm.trans k)).elim
 | lst l10 =>
  try simp only [e11] at h
  rcases ifC h with ⟨c256, h⟩ | ⟨c256, h⟩
  ·obtain ⟨v259, h258, h⟩ := oS h
   have f257 := fun (q0 : (ieq s2 (flen k2.Rows)) = false) (q1 : (ilt s1 (flen k1.Rows)) = true) => Kc (e := Jg) (Kb (⟨0, (FS.nil : (FS Jf))⟩ : Jm) h258 (z6 (Qo q0) q1))
   obtain ⟨v262, h261, h⟩ := oS h
   have f260 := fun (q0 : (ieq s2 (flen k2.Rows)) = false) (q1 : (ilt s1 (flen k1.Rows)) = true) => Kc (e := Jg) (Kb (⟨0, (FS.nil : (FS Jf))⟩ : Jm) h261 (z6 (Qo q0) q1))
   rcases ifC h with ⟨c263, h⟩ | ⟨c263, h⟩
   ·obtain ⟨v266, h265, h⟩ := oS h
    have f264 := Kc (e := Jg) h265
    have f267 := fun (q0 : (ieq s2 (flen k2.Rows)) = false) (q1 : (ilt s1 (flen k1.Rows)) = true) => Ym (⟨0, (FS.nil : (FS Jf))⟩ : Jm) h258 (z6 (Qo q0) q1) h265
    rcases ifC h with ⟨c269, h⟩ | ⟨c269, h⟩
    ·obtain ⟨v273, h272, h⟩ := oS h
     have f271 := fun (q0 : (ilt s2 (flen k2.Rows)) = true) => Kc (e := Jg) (Kb (⟨0, (FS.nil : (FS Jf))⟩ : Jm) h272 q0)
     have f274 := fun (q0 : (ieq s2 (flen k2.Rows)) = false) (q1 : (ilt s1 (flen k1.Rows)) = true) (r0 : (ilt s2 (flen k2.Rows)) = true) => Ym (⟨0, (FS.nil : (FS Jf))⟩ : Jm) h261 (z6 (Qo q0) q1) (Kb (⟨0, (FS.nil : (FS Jf))⟩ : Jm) h272 r0)
     rcases ifC h with ⟨c275, h⟩ | ⟨c275, h⟩
     ·obtain ⟨v278, h277, h⟩ := oS h
      have f276 := Kc (e := Jg) h277
      have f279 := fun (q0 : (ieq s2 (flen k2.Rows)) = false) (q1 : (ilt s1 (flen k1.Rows)) = true) => Ym (⟨0, (FS.nil : (FS Jf))⟩ : Jm) h261 (z6 (Qo q0) q1) h277
      have f280 := fun (q0 : (ilt s2 (flen k2.Rows)) = true) => Ym (⟨0, (FS.nil : (FS Jf))⟩ : Jm) h272 q0 h277
      obtain ⟨v283, h282, h⟩ := oS h
      have f281 := Kg h282
      rcases ifC h with ⟨c284, h⟩ | ⟨c284, h⟩
      ·obtain ⟨h286, h⟩ := ifS h
       have f285 := fun g0 H y => @Yn _ _ Jg _ (FS.lst l10) (⟨v266.Y, v283⟩ : Jm) 32 h286 (by decide) g0 H 1007000 0 57 y
       simp only [Jg] at f285
       cases h
       refine ⟨?_, fun k => ?_⟩
       ·simp only [Jl, e11]
        rw [Jn]
        rcases tof (ilt s1 (flen k1.Rows)) with a287 | a287
        ·rcases tof (ieq s2 (flen k2.Rows)) with a288 | a288
         ·rcases tof (ieq v266.Y v266.Y) with a289 | a289
          ·rcases tof (ilt s2 (flen k2.Rows)) with a290 | a290
           ·rcases tof (ieq (((v273.getD (⟨0, (FS.nil : (FS Jf))⟩ : Jm))).Y) v266.Y) with a291 | a291
            ·have gf280 := f280 (by simp [*])
             try simp only [gf280] at f257 f260 f264 f271 f276 f281 f285 a287 a288 a289 a290 a291 c284
             simp [*]
            ·simp [a287, a288, a289, a290, a291] at c275
           ·simp [a287, a288, a289, a290] at c275
          ·simp [a287, a288, a289] at c269
         ·rcases tof (ile (((v259.getD (⟨0, (FS.nil : (FS Jf))⟩ : Jm))).Y) (((v262.getD (⟨0, (FS.nil : (FS Jf))⟩ : Jm))).Y)) with a292 | a292
          ·rcases tof (ieq v266.Y v266.Y) with a293 | a293
           ·rcases tof (ilt s2 (flen k2.Rows)) with a294 | a294
            ·rcases tof (ieq (((v273.getD (⟨0, (FS.nil : (FS Jf))⟩ : Jm))).Y) v266.Y) with a295 | a295
             ·have gf267 := f267 (by simp [*]) (by simp [*])
              try simp only [gf267] at f257 f260 f264 f271 f276 f281 f285 a287 a288 a292 a293 a294 a295 c284
              have gf274 := f274 (by simp [*]) (by simp [*]) (by simp [*])
              try simp only [gf274] at f257 f260 f264 f271 f276 f281 f285 a287 a288 a292 a293 a294 a295 c284
              have gf279 := f279 (by simp [*]) (by simp [*])
              try simp only [gf279] at f257 f260 f264 f271 f276 f281 f285 a287 a288 a292 a293 a294 a295 c284
              have gf280 := f280 (by simp [*])
              try simp only [gf280] at f257 f260 f264 f271 f276 f281 f285 a287 a288 a292 a293 a294 a295 c284
              simp [*]
             ·simp [a287, a288, a292, a293, a294, a295] at c275
            ·simp [a287, a288, a292, a293, a294] at c275
           ·simp [a287, a288, a292, a293] at c269
          ·simp [a287, a288, a292] at c263
        ·rcases tof (ilt s2 (flen k2.Rows)) with a296 | a296
         ·rcases tof (ieq s2 (flen k2.Rows)) with a297 | a297
          ·simp [a287, a296, a297] at c269
          ·simp [a287, a296, a297] at c263
         ·simp [a287, a296] at c256
       ·first | exact ⟨_, rfl⟩ | exact ⟨_, by assumption⟩
      ·cases h
       refine ⟨?_, fun k => ?_⟩
       ·simp only [Jl, e11]
        rw [Jn]
        rcases tof (ilt s1 (flen k1.Rows)) with a298 | a298
        ·rcases tof (ieq s2 (flen k2.Rows)) with a299 | a299
         ·rcases tof (ieq v266.Y v266.Y) with a300 | a300
          ·rcases tof (ilt s2 (flen k2.Rows)) with a301 | a301
           ·rcases tof (ieq (((v273.getD (⟨0, (FS.nil : (FS Jf))⟩ : Jm))).Y) v266.Y) with a302 | a302
            ·have gf280 := f280 (by simp [*])
             try simp only [gf280] at f257 f260 f264 f271 f276 f281 a298 a299 a300 a301 a302 c284
             simp [*]
            ·simp [a298, a299, a300, a301, a302] at c275
           ·simp [a298, a299, a300, a301] at c275
          ·simp [a298, a299, a300] at c269
         ·rcases tof (ile (((v259.getD (⟨0, (FS.nil : (FS Jf))⟩ : Jm))).Y) (((v262.getD (⟨0, (FS.nil : (FS Jf))⟩ : Jm))).Y)) with a303 | a303
          ·rcases tof (ieq v266.Y v266.Y) with a304 | a304
           ·rcases tof (ilt s2 (flen k2.Rows)) with a305 | a305
            ·rcases tof (ieq (((v273.getD (⟨0, (FS.nil : (FS Jf))⟩ : Jm))).Y) v266.Y) with a306 | a306
             ·have gf267 := f267 (by simp [*]) (by simp [*])
              try simp only [gf267] at f257 f260 f264 f271 f276 f281 a298 a299 a303 a304 a305 a306 c284
              have gf274 := f274 (by simp [*]) (by simp [*]) (by simp [*])
              try simp only [gf274] at f257 f260 f264 f271 f276 f281 a298 a299 a303 a304 a305 a306 c284
              have gf279 := f279 (by simp [*]) (by simp [*])
              try simp only [gf279] at f257 f260 f264 f271 f276 f281 a298 a299 a303 a304 a305 a306 c284
              have gf280 := f280 (by simp [*])
              try simp only [gf280] at f257 f260 f264 f271 f276 f281 a298 a299 a303 a304 a305 a306 c284
              simp [*]
             ·simp [a298, a299, a303, a304, a305, a306] at c275
            ·simp [a298, a299, a303, a304, a305] at c275
           ·simp [a298, a299, a303, a304] at c269
          ·simp [a298, a299, a303] at c263
        ·rcases tof (ilt s2 (flen k2.Rows)) with a307 | a307
         ·rcases tof (ieq s2 (flen k2.Rows)) with a308 | a308
          ·simp [a298, a307, a308] at c269
          ·simp [a298, a307, a308] at c263
         ·simp [a298, a307] at c256
       ·first | exact ⟨_, rfl⟩ | exact ⟨_, by assumption⟩
     ·obtain ⟨v311, h310, h⟩ := oS h
      have f309 := Kg h310
      try simp only [K4] at f309
      rcases ifC h with ⟨c312, h⟩ | ⟨c312, h⟩
      ·obtain ⟨h314, h⟩ := ifS h
       have f313 := fun g0 H y => @Yn _ _ Jg _ (FS.lst l10) (⟨v266.Y, v311⟩ : Jm) 32 h314 (by decide) g0 H 1007000 0 57 y
       simp only [Jg] at f313
       cases h
       refine ⟨?_, fun k => ?_⟩
       ·simp only [Jl, e11]
        rw [Jn]
        rcases tof (ilt s1 (flen k1.Rows)) with a315 | a315
        ·rcases tof (ieq s2 (flen k2.Rows)) with a316 | a316
         ·rcases tof (ieq v266.Y v266.Y) with a317 | a317
          ·rcases tof (ilt s2 (flen k2.Rows)) with a318 | a318
           ·rcases tof (ieq (((v273.getD (⟨0, (FS.nil : (FS Jf))⟩ : Jm))).Y) v266.Y) with a319 | a319
            ·simp [a315, a316, a317, a318, a319] at c275
            ·simp [*]
           ·simp [*]
          ·simp [a315, a316, a317] at c269
         ·rcases tof (ile (((v259.getD (⟨0, (FS.nil : (FS Jf))⟩ : Jm))).Y) (((v262.getD (⟨0, (FS.nil : (FS Jf))⟩ : Jm))).Y)) with a320 | a320
          ·rcases tof (ieq v266.Y v266.Y) with a321 | a321
           ·rcases tof (ilt s2 (flen k2.Rows)) with a322 | a322
            ·rcases tof (ieq (((v273.getD (⟨0, (FS.nil : (FS Jf))⟩ : Jm))).Y) v266.Y) with a323 | a323
             ·simp [a315, a316, a320, a321, a322, a323] at c275
             ·have gf267 := f267 (by simp [*]) (by simp [*])
              try simp only [gf267] at f257 f260 f264 f271 f309 f313 a315 a316 a320 a321 a322 a323 c312
              have gf274 := f274 (by simp [*]) (by simp [*]) (by simp [*])
              try simp only [gf274] at f257 f260 f264 f271 f309 f313 a315 a316 a320 a321 a322 a323 c312
              simp [*]
            ·have gf267 := f267 (by simp [*]) (by simp [*])
             try simp only [gf267] at f257 f260 f264 f271 f309 f313 a315 a316 a320 a321 a322 c312
             simp [*]
           ·simp [a315, a316, a320, a321] at c269
          ·simp [a315, a316, a320] at c263
        ·rcases tof (ilt s2 (flen k2.Rows)) with a324 | a324
         ·rcases tof (ieq s2 (flen k2.Rows)) with a325 | a325
          ·simp [a315, a324, a325] at c269
          ·simp [a315, a324, a325] at c263
         ·simp [a315, a324] at c256
       ·first | exact ⟨_, rfl⟩ | exact ⟨_, by assumption⟩
      ·cases h
       refine ⟨?_, fun k => ?_⟩
       ·simp only [Jl, e11]
        rw [Jn]
        rcases tof (ilt s1 (flen k1.Rows)) with a326 | a326
        ·rcases tof (ieq s2 (flen k2.Rows)) with a327 | a327
         ·rcases tof (ieq v266.Y v266.Y) with a328 | a328
          ·rcases tof (ilt s2 (flen k2.Rows)) with a329 | a329
           ·rcases tof (ieq (((v273.getD (⟨0, (FS.nil : (FS Jf))⟩ : Jm))).Y) v266.Y) with a330 | a330
            ·simp [a326, a327, a328, a329, a330] at c275
            ·simp [*]
           ·simp [*]
          ·simp [a326, a327, a328] at c269
         ·rcases tof (ile (((v259.getD (⟨0, (FS.nil : (FS Jf))⟩ : Jm))).Y) (((v262.getD (⟨0, (FS.nil : (FS Jf))⟩ : Jm))).Y)) with a331 | a331
          ·rcases tof (ieq v266.Y v266.Y) with a332 | a332
           ·rcases tof (ilt s2 (flen k2.Rows)) with a333 | a333
            ·rcases tof (ieq (((v273.getD (⟨0, (FS.nil : (FS Jf))⟩ : Jm))).Y) v266.Y) with a334 | a334
             ·simp [a326, a327, a331, a332, a333, a334] at c275
             ·have gf267 := f267 (by simp [*]) (by simp [*])
              try simp only [gf267] at f257 f260 f264 f271 f309 a326 a327 a331 a332 a333 a334 c312
              have gf274 := f274 (by simp [*]) (by simp [*]) (by simp [*])
              try simp only [gf274] at f257 f260 f264 f271 f309 a326 a327 a331 a332 a333 a334 c312
              simp [*]
            ·have gf267 := f267 (by simp [*]) (by simp [*])
             try simp only [gf267] at f257 f260 f264 f271 f309 a326 a327 a331 a332 a333 c312
             simp [*]
           ·simp [a326, a327, a331, a332] at c269
          ·simp [a326, a327, a331] at c263
        ·rcases tof (ilt s2 (flen k2.Rows)) with a335 | a335
         ·rcases tof (ieq s2 (flen k2.Rows)) with a336 | a336
          ·simp [a326, a335, a336] at c269
          ·simp [a326, a335, a336] at c263
         ·simp [a326, a335] at c256
       ·first | exact ⟨_, rfl⟩ | exact ⟨_, by assumption⟩
    ·obtain ⟨v339, h338, h⟩ := oS h
     have f337 := fun (q0 : (ilt s2 (flen k2.Rows)) = true) => Kc (e := Jg) (Kb (⟨0, (FS.nil : (FS Jf))⟩ : Jm) h338 q0)
     have f340 := fun (q0 : (ieq s2 (flen k2.Rows)) = false) (q1 : (ilt s1 (flen k1.Rows)) = true) (r0 : (ilt s2 (flen k2.Rows)) = true) => Ym (⟨0, (FS.nil : (FS Jf))⟩ : Jm) h261 (z6 (Qo q0) q1) (Kb (⟨0, (FS.nil : (FS Jf))⟩ : Jm) h338 r0)
     rcases ifC h with ⟨c341, h⟩ | ⟨c341, h⟩
     ·obtain ⟨v344, h343, h⟩ := oS h
      have f342 := Kc (e := Jg) h343
      have f345 := fun (q0 : (ieq s2 (flen k2.Rows)) = false) (q1 : (ilt s1 (flen k1.Rows)) = true) => Ym (⟨0, (FS.nil : (FS Jf))⟩ : Jm) h261 (z6 (Qo q0) q1) h343
      have f346 := fun (q0 : (ilt s2 (flen k2.Rows)) = true) => Ym (⟨0, (FS.nil : (FS Jf))⟩ : Jm) h338 q0 h343
      obtain ⟨v349, h348, h⟩ := oS h
      have f347 := Kg h348
      try simp only [K4] at f347
      rcases ifC h with ⟨c350, h⟩ | ⟨c350, h⟩
      ·obtain ⟨h352, h⟩ := ifS h
       have f351 := fun g0 H y => @Yn _ _ Jg _ (FS.lst l10) (⟨v266.Y, v349⟩ : Jm) 32 h352 (by decide) g0 H 1007000 0 57 y
       simp only [Jg] at f351
       cases h
       refine ⟨?_, fun k => ?_⟩
       ·simp only [Jl, e11]
        rw [Jn]
        rcases tof (ilt s1 (flen k1.Rows)) with a353 | a353
        ·rcases tof (ieq s2 (flen k2.Rows)) with a354 | a354
         ·rcases tof (ieq v266.Y v266.Y) with a355 | a355
          ·simp [a353, a354, a355] at c269
          ·rcases tof (ilt s2 (flen k2.Rows)) with a356 | a356
           ·rcases tof (ieq (((v339.getD (⟨0, (FS.nil : (FS Jf))⟩ : Jm))).Y) v266.Y) with a357 | a357
            ·have gf346 := f346 (by simp [*])
             try simp only [gf346] at f257 f260 f264 f337 f342 f347 f351 a353 a354 a355 a356 a357 c350
             simp [*]
            ·simp [a353, a354, a355, a356, a357] at c341
           ·simp [a353, a354, a355, a356] at c341
         ·rcases tof (ile (((v259.getD (⟨0, (FS.nil : (FS Jf))⟩ : Jm))).Y) (((v262.getD (⟨0, (FS.nil : (FS Jf))⟩ : Jm))).Y)) with a358 | a358
          ·rcases tof (ieq v266.Y v266.Y) with a359 | a359
           ·simp [a353, a354, a358, a359] at c269
           ·rcases tof (ilt s2 (flen k2.Rows)) with a360 | a360
            ·rcases tof (ieq (((v339.getD (⟨0, (FS.nil : (FS Jf))⟩ : Jm))).Y) v266.Y) with a361 | a361
             ·have gf267 := f267 (by simp [*]) (by simp [*])
              try simp only [gf267] at f257 f260 f264 f337 f342 f347 f351 a353 a354 a358 a359 a360 a361 c350
              have gf340 := f340 (by simp [*]) (by simp [*]) (by simp [*])
              try simp only [gf340] at f257 f260 f264 f337 f342 f347 f351 a353 a354 a358 a359 a360 a361 c350
              have gf345 := f345 (by simp [*]) (by simp [*])
              try simp only [gf345] at f257 f260 f264 f337 f342 f347 f351 a353 a354 a358 a359 a360 a361 c350
              have gf346 := f346 (by simp [*])
              try simp only [gf346] at f257 f260 f264 f337 f342 f347 f351 a353 a354 a358 a359 a360 a361 c350
              simp [*]
             ·simp [a353, a354, a358, a359, a360, a361] at c341
            ·simp [a353, a354, a358, a359, a360] at c341
          ·simp [a353, a354, a358] at c263
        ·rcases tof (ilt s2 (flen k2.Rows)) with a362 | a362
         ·rcases tof (ieq s2 (flen k2.Rows)) with a363 | a363
          ·rcases tof (ieq (((v339.getD (⟨0, (FS.nil : (FS Jf))⟩ : Jm))).Y) v266.Y) with a364 | a364
           ·have gf346 := f346 (by simp [*])
            try simp only [gf346] at f257 f260 f264 f337 f342 f347 f351 a353 a362 a363 a364 c350
            simp [*]
           ·simp [a353, a362, a363, a364] at c341
          ·simp [a353, a362, a363] at c263
         ·simp [a353, a362] at c256
       ·first | exact ⟨_, rfl⟩ | exact ⟨_, by assumption⟩
      ·cases h
       refine ⟨?_, fun k => ?_⟩
       ·simp only [Jl, e11]
        rw [Jn]
        rcases tof (ilt s1 (flen k1.Rows)) with a365 | a365
        ·rcases tof (ieq s2 (flen k2.Rows)) with a366 | a366
         ·rcases tof (ieq v266.Y v266.Y) with a367 | a367
          ·simp [a365, a366, a367] at c269
          ·rcases tof (ilt s2 (flen k2.Rows)) with a368 | a368
           ·rcases tof (ieq (((v339.getD (⟨0, (FS.nil : (FS Jf))⟩ : Jm))).Y) v266.Y) with a369 | a369
            ·have gf346 := f346 (by simp [*])
             try simp only [gf346] at f257 f260 f264 f337 f342 f347 a365 a366 a367 a368 a369 c350
             simp [*]
            ·simp [a365, a366, a367, a368, a369] at c341
           ·simp [a365, a366, a367, a368] at c341
         ·rcases tof (ile (((v259.getD (⟨0, (FS.nil : (FS Jf))⟩ : Jm))).Y) (((v262.getD (⟨0, (FS.nil : (FS Jf))⟩ : Jm))).Y)) with a370 | a370
          ·rcases tof (ieq v266.Y v266.Y) with a371 | a371
           ·simp [a365, a366, a370, a371] at c269
           ·rcases tof (ilt s2 (flen k2.Rows)) with a372 | a372
            ·rcases tof (ieq (((v339.getD (⟨0, (FS.nil : (FS Jf))⟩ : Jm))).Y) v266.Y) with a373 | a373
             ·have gf267 := f267 (by simp [*]) (by simp [*])
              try simp only [gf267] at f257 f260 f264 f337 f342 f347 a365 a366 a370 a371 a372 a373 c350
              have gf340 := f340 (by simp [*]) (by simp [*]) (by simp [*])
              try simp only [gf340] at f257 f260 f264 f337 f342 f347 a365 a366 a370 a371 a372 a373 c350
              have gf345 := f345 (by simp [*]) (by simp [*])
              try simp only [gf345] at f257 f260 f264 f337 f342 f347 a365 a366 a370 a371 a372 a373 c350
              have gf346 := f346 (by simp [*])
              try simp only [gf346] at f257 f260 f264 f337 f342 f347 a365 a366 a370 a371 a372 a373 c350
              simp [*]
             ·simp [a365, a366, a370, a371, a372, a373] at c341
            ·simp [a365, a366, a370, a371, a372] at c341
          ·simp [a365, a366, a370] at c263
        ·rcases tof (ilt s2 (flen k2.Rows)) with a374 | a374
         ·rcases tof (ieq s2 (flen k2.Rows)) with a375 | a375
          ·rcases tof (ieq (((v339.getD (⟨0, (FS.nil : (FS Jf))⟩ : Jm))).Y) v266.Y) with a376 | a376
           ·have gf346 := f346 (by simp [*])
            try simp only [gf346] at f257 f260 f264 f337 f342 f347 a365 a374 a375 a376 c350
            simp [*]
           ·simp [a365, a374, a375, a376] at c341
          ·simp [a365, a374, a375] at c263
         ·simp [a365, a374] at c256
       ·first | exact ⟨_, rfl⟩ | exact ⟨_, by assumption⟩
     ·obtain ⟨v379, h378, h⟩ := oS h
      have f377 := Kg h378
      try simp only [K4] at f377
      rcases ifC h with ⟨c380, h⟩ | ⟨c380, h⟩
      ·obtain ⟨h382, h⟩ := ifS h
       have f381 := fun g0 H y => @Yn _ _ Jg _ (FS.lst l10) (⟨v266.Y, v379⟩ : Jm) 32 h382 (by decide) g0 H 1007000 0 57 y
       simp only [Jg] at f381
       cases h
       refine ⟨?_, fun k => ?_⟩
       ·simp only [Jl, e11]
        rw [Jn]
        rcases tof (ilt s1 (flen k1.Rows)) with a383 | a383
        ·rcases tof (ieq s2 (flen k2.Rows)) with a384 | a384
         ·rcases tof (ieq v266.Y v266.Y) with a385 | a385
          ·simp [a383, a384, a385] at c269
          ·rcases tof (ilt s2 (flen k2.Rows)) with a386 | a386
           ·rcases tof (ieq (((v339.getD (⟨0, (FS.nil : (FS Jf))⟩ : Jm))).Y) v266.Y) with a387 | a387
            ·simp [a383, a384, a385, a386, a387] at c341
            ·simp [*]
           ·simp [*]
         ·rcases tof (ile (((v259.getD (⟨0, (FS.nil : (FS Jf))⟩ : Jm))).Y) (((v262.getD (⟨0, (FS.nil : (FS Jf))⟩ : Jm))).Y)) with a388 | a388
          ·rcases tof (ieq v266.Y v266.Y) with a389 | a389
           ·simp [a383, a384, a388, a389] at c269
           ·rcases tof (ilt s2 (flen k2.Rows)) with a390 | a390
            ·rcases tof (ieq (((v339.getD (⟨0, (FS.nil : (FS Jf))⟩ : Jm))).Y) v266.Y) with a391 | a391
             ·simp [a383, a384, a388, a389, a390, a391] at c341
             ·have gf267 := f267 (by simp [*]) (by simp [*])
              try simp only [gf267] at f257 f260 f264 f337 f377 f381 a383 a384 a388 a389 a390 a391 c380
              have gf340 := f340 (by simp [*]) (by simp [*]) (by simp [*])
              try simp only [gf340] at f257 f260 f264 f337 f377 f381 a383 a384 a388 a389 a390 a391 c380
              simp [*]
            ·have gf267 := f267 (by simp [*]) (by simp [*])
             try simp only [gf267] at f257 f260 f264 f337 f377 f381 a383 a384 a388 a389 a390 c380
             simp [*]
          ·simp [a383, a384, a388] at c263
        ·rcases tof (ilt s2 (flen k2.Rows)) with a392 | a392
         ·rcases tof (ieq s2 (flen k2.Rows)) with a393 | a393
          ·rcases tof (ieq (((v339.getD (⟨0, (FS.nil : (FS Jf))⟩ : Jm))).Y) v266.Y) with a394 | a394
           ·simp [a383, a392, a393, a394] at c341
           ·simp [*]
          ·simp [a383, a392, a393] at c263
         ·simp [a383, a392] at c256
       ·first | exact ⟨_, rfl⟩ | exact ⟨_, by assumption⟩
      ·cases h
       refine ⟨?_, fun k => ?_⟩
       ·simp only [Jl, e11]
       ·first | exact ⟨_, rfl⟩ | exact ⟨_, by assumption⟩
   ·obtain ⟨v397, h396, h⟩ := oS h
    have f395 := Kc (e := Jg) h396
    have f398 := fun (q0 : (ieq s2 (flen k2.Rows)) = false) (q1 : (ilt s1 (flen k1.Rows)) = true) => Ym (⟨0, (FS.nil : (FS Jf))⟩ : Jm) h261 (z6 (Qo q0) q1) h396
    obtain ⟨v401, h400, h⟩ := oS h
    have f399 := fun (q0 : (ilt s1 (flen k1.Rows)) = true) => Kc (e := Jg) (Kb (⟨0, (FS.nil : (FS Jf))⟩ : Jm) h400 q0)
    have f402 := fun (q0 : (ieq s2 (flen k2.Rows)) = false) (q1 : (ilt s1 (flen k1.Rows)) = true) (r0 : (ilt s1 (flen k1.Rows)) = true) => Ym (⟨0, (FS.nil : (FS Jf))⟩ : Jm) h258 (z6 (Qo q0) q1) (Kb (⟨0, (FS.nil : (FS Jf))⟩ : Jm) h400 r0)
    rcases ifC h with ⟨c403, h⟩ | ⟨c403, h⟩
    ·obtain ⟨v406, h405, h⟩ := oS h
     have f404 := Kc (e := Jg) h405
     have f407 := fun (q0 : (ieq s2 (flen k2.Rows)) = false) (q1 : (ilt s1 (flen k1.Rows)) = true) => Ym (⟨0, (FS.nil : (FS Jf))⟩ : Jm) h258 (z6 (Qo q0) q1) h405
     have f408 := fun (q0 : (ilt s1 (flen k1.Rows)) = true) => Ym (⟨0, (FS.nil : (FS Jf))⟩ : Jm) h400 q0 h405
     rcases ifC h with ⟨c410, h⟩ | ⟨c410, h⟩
     ·obtain ⟨v414, h413, h⟩ := oS h
      have f412 := Kg h413
      rcases ifC h with ⟨c415, h⟩ | ⟨c415, h⟩
      ·obtain ⟨h417, h⟩ := ifS h
       have f416 := fun g0 H y => @Yn _ _ Jg _ (FS.lst l10) (⟨v397.Y, v414⟩ : Jm) 32 h417 (by decide) g0 H 1007000 0 57 y
       simp only [Jg] at f416
       cases h
       refine ⟨?_, fun k => ?_⟩
       ·simp only [Jl, e11]
        rw [Jn]
        rcases tof (ilt s1 (flen k1.Rows)) with a418 | a418
        ·rcases tof (ieq s2 (flen k2.Rows)) with a419 | a419
         ·simp [a418, a419] at c263
         ·rcases tof (ile (((v259.getD (⟨0, (FS.nil : (FS Jf))⟩ : Jm))).Y) (((v262.getD (⟨0, (FS.nil : (FS Jf))⟩ : Jm))).Y)) with a420 | a420
          ·simp [a418, a419, a420] at c263
          ·rcases tof (ieq (((v401.getD (⟨0, (FS.nil : (FS Jf))⟩ : Jm))).Y) v397.Y) with a421 | a421
           ·rcases tof (ilt s2 (flen k2.Rows)) with a422 | a422
            ·rcases tof (ieq v397.Y v397.Y) with a423 | a423
             ·have gf398 := f398 (by simp [*]) (by simp [*])
              try simp only [gf398] at f257 f260 f395 f399 f404 f412 f416 a418 a419 a420 a421 a422 a423 c415
              have gf402 := f402 (by simp [*]) (by simp [*]) (by simp [*])
              try simp only [gf402] at f257 f260 f395 f399 f404 f412 f416 a418 a419 a420 a421 a422 a423 c415
              have gf407 := f407 (by simp [*]) (by simp [*])
              try simp only [gf407] at f257 f260 f395 f399 f404 f412 f416 a418 a419 a420 a421 a422 a423 c415
              have gf408 := f408 (by simp [*])
              try simp only [gf408] at f257 f260 f395 f399 f404 f412 f416 a418 a419 a420 a421 a422 a423 c415
              simp [*]
             ·simp [a418, a419, a420, a421, a422, a423] at c410
            ·simp [a418, a419, a420, a421, a422] at c410
           ·simp [a418, a419, a420, a421] at c403
        ·rcases tof (ilt s2 (flen k2.Rows)) with a424 | a424
         ·rcases tof (ieq s2 (flen k2.Rows)) with a425 | a425
          ·simp [a418, a424, a425] at c263
          ·simp [a418, a424, a425] at c403
         ·simp [a418, a424] at c256
       ·first | exact ⟨_, rfl⟩ | exact ⟨_, by assumption⟩
      ·cases h
       refine ⟨?_, fun k => ?_⟩
       ·simp only [Jl, e11]
        rw [Jn]
        rcases tof (ilt s1 (flen k1.Rows)) with a426 | a426
        ·rcases tof (ieq s2 (flen k2.Rows)) with a427 | a427
         ·simp [a426, a427] at c263
         ·rcases tof (ile (((v259.getD (⟨0, (FS.nil : (FS Jf))⟩ : Jm))).Y) (((v262.getD (⟨0, (FS.nil : (FS Jf))⟩ : Jm))).Y)) with a428 | a428
          ·simp [a426, a427, a428] at c263
          ·rcases tof (ieq (((v401.getD (⟨0, (FS.nil : (FS Jf))⟩ : Jm))).Y) v397.Y) with a429 | a429
           ·rcases tof (ilt s2 (flen k2.Rows)) with a430 | a430
            ·rcases tof (ieq v397.Y v397.Y) with a431 | a431
             ·have gf398 := f398 (by simp [*]) (by simp [*])
              try simp only [gf398] at f257 f260 f395 f399 f404 f412 a426 a427 a428 a429 a430 a431 c415
              have gf402 := f402 (by simp [*]) (by simp [*]) (by simp [*])
              try simp only [gf402] at f257 f260 f395 f399 f404 f412 a426 a427 a428 a429 a430 a431 c415
              have gf407 := f407 (by simp [*]) (by simp [*])
              try simp only [gf407] at f257 f260 f395 f399 f404 f412 a426 a427 a428 a429 a430 a431 c415
              have gf408 := f408 (by simp [*])
              try simp only [gf408] at f257 f260 f395 f399 f404 f412 a426 a427 a428 a429 a430 a431 c415
              simp [*]
             ·simp [a426, a427, a428, a429, a430, a431] at c410
            ·simp [a426, a427, a428, a429, a430] at c410
           ·simp [a426, a427, a428, a429] at c403
        ·rcases tof (ilt s2 (flen k2.Rows)) with a432 | a432
         ·rcases tof (ieq s2 (flen k2.Rows)) with a433 | a433
          ·simp [a426, a432, a433] at c263
          ·simp [a426, a432, a433] at c403
         ·simp [a426, a432] at c256
       ·first | exact ⟨_, rfl⟩ | exact ⟨_, by assumption⟩
     ·obtain ⟨v436, h435, h⟩ := oS h
      have f434 := Kg h435
      try simp only [K4] at f434
      rcases ifC h with ⟨c437, h⟩ | ⟨c437, h⟩
      ·obtain ⟨h439, h⟩ := ifS h
       have f438 := fun g0 H y => @Yn _ _ Jg _ (FS.lst l10) (⟨v397.Y, v436⟩ : Jm) 32 h439 (by decide) g0 H 1007000 0 57 y
       simp only [Jg] at f438
       cases h
       refine ⟨?_, fun k => ?_⟩
       ·simp only [Jl, e11]
        rw [Jn]
        rcases tof (ilt s1 (flen k1.Rows)) with a440 | a440
        ·rcases tof (ieq s2 (flen k2.Rows)) with a441 | a441
         ·simp [a440, a441] at c263
         ·rcases tof (ile (((v259.getD (⟨0, (FS.nil : (FS Jf))⟩ : Jm))).Y) (((v262.getD (⟨0, (FS.nil : (FS Jf))⟩ : Jm))).Y)) with a442 | a442
          ·simp [a440, a441, a442] at c263
          ·rcases tof (ieq (((v401.getD (⟨0, (FS.nil : (FS Jf))⟩ : Jm))).Y) v397.Y) with a443 | a443
           ·rcases tof (ilt s2 (flen k2.Rows)) with a444 | a444
            ·rcases tof (ieq v397.Y v397.Y) with a445 | a445
             ·simp [a440, a441, a442, a443, a444, a445] at c410
             ·have gf398 := f398 (by simp [*]) (by simp [*])
              try simp only [gf398] at f257 f260 f395 f399 f404 f434 f438 a440 a441 a442 a443 a444 a445 c437
              have gf402 := f402 (by simp [*]) (by simp [*]) (by simp [*])
              try simp only [gf402] at f257 f260 f395 f399 f404 f434 f438 a440 a441 a442 a443 a444 a445 c437
              have gf407 := f407 (by simp [*]) (by simp [*])
              try simp only [gf407] at f257 f260 f395 f399 f404 f434 f438 a440 a441 a442 a443 a444 a445 c437
              have gf408 := f408 (by simp [*])
              try simp only [gf408] at f257 f260 f395 f399 f404 f434 f438 a440 a441 a442 a443 a444 a445 c437
              simp [*]
            ·have gf398 := f398 (by simp [*]) (by simp [*])
             try simp only [gf398] at f257 f260 f395 f399 f404 f434 f438 a440 a441 a442 a443 a444 c437
             have gf402 := f402 (by simp [*]) (by simp [*]) (by simp [*])
             try simp only [gf402] at f257 f260 f395 f399 f404 f434 f438 a440 a441 a442 a443 a444 c437
             have gf407 := f407 (by simp [*]) (by simp [*])
             try simp only [gf407] at f257 f260 f395 f399 f404 f434 f438 a440 a441 a442 a443 a444 c437
             have gf408 := f408 (by simp [*])
             try simp only [gf408] at f257 f260 f395 f399 f404 f434 f438 a440 a441 a442 a443 a444 c437
             simp [*]
           ·simp [a440, a441, a442, a443] at c403
        ·rcases tof (ilt s2 (flen k2.Rows)) with a446 | a446
         ·rcases tof (ieq s2 (flen k2.Rows)) with a447 | a447
          ·simp [a440, a446, a447] at c263
          ·simp [a440, a446, a447] at c403
         ·simp [a440, a446] at c256
       ·first | exact ⟨_, rfl⟩ | exact ⟨_, by assumption⟩
      ·cases h
       refine ⟨?_, fun k => ?_⟩
       ·simp only [Jl, e11]
        rw [Jn]
        rcases tof (ilt s1 (flen k1.Rows)) with a448 | a448
        ·rcases tof (ieq s2 (flen k2.Rows)) with a449 | a449
         ·simp [a448, a449] at c263
         ·rcases tof (ile (((v259.getD (⟨0, (FS.nil : (FS Jf))⟩ : Jm))).Y) (((v262.getD (⟨0, (FS.nil : (FS Jf))⟩ : Jm))).Y)) with a450 | a450
          ·simp [a448, a449, a450] at c263
          ·rcases tof (ieq (((v401.getD (⟨0, (FS.nil : (FS Jf))⟩ : Jm))).Y) v397.Y) with a451 | a451
           ·rcases tof (ilt s2 (flen k2.Rows)) with a452 | a452
            ·rcases tof (ieq v397.Y v397.Y) with a453 | a453
             ·simp [a448, a449, a450, a451, a452, a453] at c410
             ·have gf398 := f398 (by simp [*]) (by simp [*])
              try simp only [gf398] at f257 f260 f395 f399 f404 f434 a448 a449 a450 a451 a452 a453 c437
              have gf402 := f402 (by simp [*]) (by simp [*]) (by simp [*])
              try simp only [gf402] at f257 f260 f395 f399 f404 f434 a448 a449 a450 a451 a452 a453 c437
              have gf407 := f407 (by simp [*]) (by simp [*])
              try simp only [gf407] at f257 f260 f395 f399 f404 f434 a448 a449 a450 a451 a452 a453 c437
              have gf408 := f408 (by simp [*])
              try simp only [gf408] at f257 f260 f395 f399 f404 f434 a448 a449 a450 a451 a452 a453 c437
              simp [*]
            ·have gf398 := f398 (by simp [*]) (by simp [*])
             try simp only [gf398] at f257 f260 f395 f399 f404 f434 a448 a449 a450 a451 a452 c437
             have gf402 := f402 (by simp [*]) (by simp [*]) (by simp [*])
             try simp only [gf402] at f257 f260 f395 f399 f404 f434 a448 a449 a450 a451 a452 c437
             have gf407 := f407 (by simp [*]) (by simp [*])
             try simp only [gf407] at f257 f260 f395 f399 f404 f434 a448 a449 a450 a451 a452 c437
             have gf408 := f408 (by simp [*])
             try simp only [gf408] at f257 f260 f395 f399 f404 f434 a448 a449 a450 a451 a452 c437
             simp [*]
           ·simp [a448, a449, a450, a451] at c403
        ·rcases tof (ilt s2 (flen k2.Rows)) with a454 | a454
         ·rcases tof (ieq s2 (flen k2.Rows)) with a455 | a455
          ·simp [a448, a454, a455] at c263
          ·simp [a448, a454, a455] at c403
         ·simp [a448, a454] at c256
       ·first | exact ⟨_, rfl⟩ | exact ⟨_, by assumption⟩
    ·rcases ifC h with ⟨c457, h⟩ | ⟨c457, h⟩
     ·obtain ⟨v461, h460, h⟩ := oS h
      have f459 := Kg h460
      try simp only [K4] at f459
      rcases ifC h with ⟨c462, h⟩ | ⟨c462, h⟩
      ·obtain ⟨h464, h⟩ := ifS h
       have f463 := fun g0 H y => @Yn _ _ Jg _ (FS.lst l10) (⟨v397.Y, v461⟩ : Jm) 32 h464 (by decide) g0 H 1007000 0 57 y
       simp only [Jg] at f463
       cases h
       refine ⟨?_, fun k => ?_⟩
       ·simp only [Jl, e11]
        rw [Jn]
        rcases tof (ilt s1 (flen k1.Rows)) with a465 | a465
        ·rcases tof (ieq s2 (flen k2.Rows)) with a466 | a466
         ·simp [a465, a466] at c263
         ·rcases tof (ile (((v259.getD (⟨0, (FS.nil : (FS Jf))⟩ : Jm))).Y) (((v262.getD (⟨0, (FS.nil : (FS Jf))⟩ : Jm))).Y)) with a467 | a467
          ·simp [a465, a466, a467] at c263
          ·rcases tof (ieq (((v401.getD (⟨0, (FS.nil : (FS Jf))⟩ : Jm))).Y) v397.Y) with a468 | a468
           ·simp [a465, a466, a467, a468] at c403
           ·rcases tof (ilt s2 (flen k2.Rows)) with a469 | a469
            ·rcases tof (ieq v397.Y v397.Y) with a470 | a470
             ·have gf398 := f398 (by simp [*]) (by simp [*])
              try simp only [gf398] at f257 f260 f395 f399 f459 f463 a465 a466 a467 a468 a469 a470 c462
              have gf402 := f402 (by simp [*]) (by simp [*]) (by simp [*])
              try simp only [gf402] at f257 f260 f395 f399 f459 f463 a465 a466 a467 a468 a469 a470 c462
              simp [*]
             ·simp [a465, a466, a467, a468, a469, a470] at c457
            ·simp [a465, a466, a467, a468, a469] at c457
        ·rcases tof (ilt s2 (flen k2.Rows)) with a471 | a471
         ·rcases tof (ieq s2 (flen k2.Rows)) with a472 | a472
          ·simp [a465, a471, a472] at c263
          ·rcases tof (ieq v397.Y v397.Y) with a473 | a473
           ·simp [*]
           ·simp [a465, a471, a472, a473] at c457
         ·simp [a465, a471] at c256
       ·first | exact ⟨_, rfl⟩ | exact ⟨_, by assumption⟩
      ·cases h
       refine ⟨?_, fun k => ?_⟩
       ·simp only [Jl, e11]
        rw [Jn]
        rcases tof (ilt s1 (flen k1.Rows)) with a474 | a474
        ·rcases tof (ieq s2 (flen k2.Rows)) with a475 | a475
         ·simp [a474, a475] at c263
         ·rcases tof (ile (((v259.getD (⟨0, (FS.nil : (FS Jf))⟩ : Jm))).Y) (((v262.getD (⟨0, (FS.nil : (FS Jf))⟩ : Jm))).Y)) with a476 | a476
          ·simp [a474, a475, a476] at c263
          ·rcases tof (ieq (((v401.getD (⟨0, (FS.nil : (FS Jf))⟩ : Jm))).Y) v397.Y) with a477 | a477
           ·simp [a474, a475, a476, a477] at c403
           ·rcases tof (ilt s2 (flen k2.Rows)) with a478 | a478
            ·rcases tof (ieq v397.Y v397.Y) with a479 | a479
             ·have gf398 := f398 (by simp [*]) (by simp [*])
              try simp only [gf398] at f257 f260 f395 f399 f459 a474 a475 a476 a477 a478 a479 c462
              have gf402 := f402 (by simp [*]) (by simp [*]) (by simp [*])
              try simp only [gf402] at f257 f260 f395 f399 f459 a474 a475 a476 a477 a478 a479 c462
              simp [*]
             ·simp [a474, a475, a476, a477, a478, a479] at c457
            ·simp [a474, a475, a476, a477, a478] at c457
        ·rcases tof (ilt s2 (flen k2.Rows)) with a480 | a480
         ·rcases tof (ieq s2 (flen k2.Rows)) with a481 | a481
          ·simp [a474, a480, a481] at c263
          ·rcases tof (ieq v397.Y v397.Y) with a482 | a482
           ·simp [*]
           ·simp [a474, a480, a481, a482] at c457
         ·simp [a474, a480] at c256
       ·first | exact ⟨_, rfl⟩ | exact ⟨_, by assumption⟩
     ·obtain ⟨v485, h484, h⟩ := oS h
      have f483 := Kg h484
      try simp only [K4] at f483
      rcases ifC h with ⟨c486, h⟩ | ⟨c486, h⟩
      ·obtain ⟨h488, h⟩ := ifS h
       have f487 := fun g0 H y => @Yn _ _ Jg _ (FS.lst l10) (⟨v397.Y, v485⟩ : Jm) 32 h488 (by decide) g0 H 1007000 0 57 y
       simp only [Jg] at f487
       cases h
       refine ⟨?_, fun k => ?_⟩
       ·simp only [Jl, e11]
        rw [Jn]
        rcases tof (ilt s1 (flen k1.Rows)) with a489 | a489
        ·rcases tof (ieq s2 (flen k2.Rows)) with a490 | a490
         ·simp [a489, a490] at c263
         ·rcases tof (ile (((v259.getD (⟨0, (FS.nil : (FS Jf))⟩ : Jm))).Y) (((v262.getD (⟨0, (FS.nil : (FS Jf))⟩ : Jm))).Y)) with a491 | a491
          ·simp [a489, a490, a491] at c263
          ·rcases tof (ieq (((v401.getD (⟨0, (FS.nil : (FS Jf))⟩ : Jm))).Y) v397.Y) with a492 | a492
           ·simp [a489, a490, a491, a492] at c403
           ·rcases tof (ilt s2 (flen k2.Rows)) with a493 | a493
            ·rcases tof (ieq v397.Y v397.Y) with a494 | a494
             ·simp [a489, a490, a491, a492, a493, a494] at c457
             ·have gf398 := f398 (by simp [*]) (by simp [*])
              try simp only [gf398] at f257 f260 f395 f399 f483 f487 a489 a490 a491 a492 a493 a494 c486
              have gf402 := f402 (by simp [*]) (by simp [*]) (by simp [*])
              try simp only [gf402] at f257 f260 f395 f399 f483 f487 a489 a490 a491 a492 a493 a494 c486
              simp [*]
            ·have gf398 := f398 (by simp [*]) (by simp [*])
             try simp only [gf398] at f257 f260 f395 f399 f483 f487 a489 a490 a491 a492 a493 c486
             have gf402 := f402 (by simp [*]) (by simp [*]) (by simp [*])
             try simp only [gf402] at f257 f260 f395 f399 f483 f487 a489 a490 a491 a492 a493 c486
             simp [*]
        ·rcases tof (ilt s2 (flen k2.Rows)) with a495 | a495
         ·rcases tof (ieq s2 (flen k2.Rows)) with a496 | a496
          ·simp [a489, a495, a496] at c263
          ·rcases tof (ieq v397.Y v397.Y) with a497 | a497
           ·simp [a489, a495, a496, a497] at c457
           ·simp [*]
         ·simp [a489, a495] at c256
       ·first | exact ⟨_, rfl⟩ | exact ⟨_, by assumption⟩
      ·cases h
       refine ⟨?_, fun k => ?_⟩
       ·simp only [Jl, e11]
       ·first | exact ⟨_, rfl⟩ | exact ⟨_, by assumption⟩
  ·cases h
   refine ⟨?_, fun k => ?_⟩
   ·simp only [Jl, X8, e11]
    rw [Jn]
    rcases tof (ilt s1 (flen k1.Rows)) with a498 | a498 <;> rcases tof (ilt s2 (flen k2.Rows)) with a499 | a499 <;> (try (simp [a498, a499] at c256; done)) <;> simp [*]
   ·first | exact ⟨_, rfl⟩ | exact ⟨_, by assumption⟩) bigN s r h
def Jas (p0 : Int) (p1 : Ji) (p2 : Ji) : Option Ji := (J3 (K1 p1) fun v3 => (J3 (gOpt (bnot (bnot v3)) (K1 p2)) fun v6 => (if (bor (bnot v3) (bnot (v6.getD false))) = true then some (⟨(FS.nil : (FS Jm))⟩ : Ji)
 else (J3 (Ky (Qn p0 p1 p2 (⟨(FS.nil : (FS Jm))⟩ : Ji)) bigN ((⟨(FS.nil : (FS Jm))⟩ : Ji), 0, 0)) fun v112 => some (⟨v112.Rows⟩ : Ji)))))
theorem Jfz {p0} {p1} {p2} {r} (h : Jas p0 p1 p2 = some r) : FC env 51 [.int .i64 p0, .agg [encF Jg p1.Rows], .agg [encF Jg p2.Rows]] none = some (.agg [encF Jg r.Rows], fun _ => none) := by
 unfold Jas at h
 obtain ⟨v3, h2, h⟩ := oS h
 have f1 := zg h2
 obtain ⟨v6, h5, h⟩ := oS h
 have f4 := fun (q0 : (bnot v3) = false) => zg (Kb false h5 (Qo q0))
 rcases ifC h with ⟨c7, h⟩ | ⟨c7, h⟩
 ·cases h
  refine J4 (lf := lf51) rfl rfl rfl ?_
  simp only [lf51, lc51]
  rcases tof v3 with a8 | a8 <;> rcases tof (v6.getD false) with a9 | a9 <;> (try (simp [a8, a9] at c7; done)) <;> simp [*]
 ·obtain ⟨v501, h500, h⟩ := oS h
  obtain ⟨f502, f502k⟩ := Jej h500
  simp only [Jl, X8, J5] at f502
  cases e505 : v501.Rows with
  | nil =>
   try simp only [e505, Jr] at h
   simp only [e505, Jr, Jj, Jk] at f502
   cases h
   refine J4 (lf := lf51) rfl rfl rfl ?_
   simp only [lf51, lc51]
   rcases tof v3 with a506 | a506 <;> rcases tof (v6.getD false) with a507 | a507 <;> (try (simp [a506, a507] at c7; done)) <;> (try simp only [a506, a507] at f502) <;> simp [*]
  | lst l504 =>
   try simp only [e505] at h
   simp only [e505, Jr, Jj, Jk] at f502
   cases h
   refine J4 (lf := lf51) rfl rfl rfl ?_
   simp only [lf51, lc51]
   rcases tof v3 with a508 | a508 <;> rcases tof (v6.getD false) with a509 | a509 <;> (try (simp [a508, a509] at c7; done)) <;> (try simp only [a508, a509] at f502) <;> simp [*, Jrr, Jnb, jk, Yx, jn, Yw, jl, Jhk (e := Jg) (el := 57) (fz := false)]
attribute [simp] c31_0 c31_1
def zh (p0 : Ji) (p1 : Ji) : Option Ji := (J3 (Jas 2 p0 p1) fun v3 => some v3)
theorem Jf3 {p0} {p1} {r} (h : zh p0 p1 = some r) : FC env 31 [.agg [encF Jg p0.Rows], .agg [encF Jg p1.Rows]] none = some (.agg [encF Jg r.Rows], fun _ => none) := by
 unfold zh at h
 obtain ⟨v3, h2, h⟩ := oS h
 have f1 := Jfz h2
 cases h
 refine J4 (lf := lf31) rfl rfl rfl ?_
 simp only [lf31, lc31]
 simp [*]
attribute [simp] c9_0 c9_1
def js (p0 : Ji) (p1 : Ji) : Option Bool := (J3 (K1 p0) fun v3 => (J3 (gOpt v3 (K1 p1)) fun v6 => (J3 (gOpt (band v3 (v6.getD false)) (zh p0 p1)) fun v9 => some (band (band v3 (v6.getD false)) (ieq (flen (((v9.getD (⟨(FS.nil : (FS Jm))⟩ : Ji))).Rows)) 0)))))
theorem Jdj {p0} {p1} {r} (h : js p0 p1 = some r) : FC env 9 [.agg [encF Jg p0.Rows], .agg [encF Jg p1.Rows]] none = some (.bool r, fun _ => none) := by
 unfold js at h
 obtain ⟨v3, h2, h⟩ := oS h
 have f1 := zg h2
 obtain ⟨v6, h5, h⟩ := oS h
 have f4 := fun (q0 : v3 = true) => zg (Kb false h5 q0)
 obtain ⟨v9, h8, h⟩ := oS h
 have f7 := fun (q0 : (band v3 (v6.getD false)) = true) => Jf3 (Kb (⟨(FS.nil : (FS Jm))⟩ : Ji) h8 q0)
 cases h
 refine J4 (lf := lf9) rfl rfl rfl ?_
 simp only [lf9, lc9]
 rcases tof v3 with a10 | a10 <;> rcases tof (v6.getD false) with a11 | a11 <;> simp [*]
attribute [simp] c12_0 c12_1 c12_2 c12_3 c12_4 c12_5 c12_6 c12_8
theorem c12_L0_u : EC Γ ps 0 J11 σ = EC Γ ps 0 (.seq (.seq (.reg false c12_3) (.cond (.t 8) .skip (.seq (.trim [3]) (.exit 0)))) (.seq (.blk 1 (.seq (.reg false c12_4) (.cond (.t 16) (.reg true c12_5) .skip))) (.reg false c12_6))) σ := rfl
attribute [simp ↓] c12_L0_u
def Xr (k0 : (FS Kj)) (s : ((FS Jd) × Int)) : Option (LR ((FS Jd) × Int) (FS Jd)) := match s with
 | (s0, s1) => (if (ilt s1 (flen k0)) = true then (J3 (fget k0 s1) fun v4 => (if (ieq v4.Kind 3) = true then (if fits 40 ((flen s0) + 1) = true then some (.nx ((Y0 s0 (⟨v4.Role, false, v4.Cells⟩ : Jd)), (iadd .i64 s1 1))) else none)
 else some (.nx (s0, (iadd .i64 s1 1)))))
 else some (.dn s0))
def K7 (k0 : (FS Kj)) (s : ((FS Jd) × Int)) : St := match s with
 | (s0, s1) => (zo s0 (⟨fr [(0, encF J2 k0), (3, .nils), (4, .int .i64 s1)], hl []⟩)
  (fun l0 => ⟨fr [(0, encF J2 k0), (3, .arr 3 0 0 l0.l.length), (4, .int .i64 s1)], hl [(3, .arr 0 3 50 (Jp Jh l0.l) false)]⟩))
def Y6 (k0 : (FS Kj)) (x : (FS Jd)) : LE × St := (zo x (.exit 0, ⟨fr [(3, .nils)], hl []⟩)
  (fun l0 => (.exit 0, ⟨fr [(3, .arr 3 0 0 l0.l.length)], hl [(3, .arr 0 3 50 (Jp Jh l0.l) false)]⟩)))
theorem Jff {k0} {s} {r} (h : Ky (Xr k0) bigN s = some r) : LK env [] 0 [0, 3, 4] J11 (some (K7 k0 s)) = some (Y6 k0 r) := Kt (st := K7 k0) (out := Y6 k0) (by
 clear h s r
 rintro ⟨s0, s1⟩ x h
 simp only [Xr] at h
 cases e2 : s0 with
 | nil =>
  try simp only [e2, Jr] at h
  rcases ifC h with ⟨c3, h⟩ | ⟨c3, h⟩
  ·obtain ⟨v6, h5, h⟩ := oS h
   have f4 := Kc (e := J2) h5
   rcases ifC h with ⟨c7, h⟩ | ⟨c7, h⟩
   ·obtain ⟨h11, h⟩ := ifS h
    have f10 := fun H g0 hg y => @Jbw _ _ Jh _ (⟨v6.Role, false, v6.Cells⟩ : Jd) 40 h11 (by decide) H g0 50 y hg
    simp only [Jh] at f10
    cases h
    simp only [K7, e2]
    rw [Jn]
    simp [*]
   ·cases h
    simp only [K7, e2]
    rw [Jn]
    simp [*]
  ·cases h
   simp only [K7, Y6, e2]
   rw [Jn]
   simp [*]
 | lst l1 =>
  try simp only [e2] at h
  rcases ifC h with ⟨c12, h⟩ | ⟨c12, h⟩
  ·obtain ⟨v15, h14, h⟩ := oS h
   have f13 := Kc (e := J2) h14
   rcases ifC h with ⟨c16, h⟩ | ⟨c16, h⟩
   ·obtain ⟨h20, h⟩ := ifS h
    have f19 := fun g0 H y => @Yn _ _ Jh _ (FS.lst l1) (⟨v15.Role, false, v15.Cells⟩ : Jd) 40 h20 (by decide) g0 H 3 0 50 y
    simp only [Jh] at f19
    cases h
    simp only [K7, e2]
    rw [Jn]
    simp [*]
   ·cases h
    simp only [K7, e2]
    rw [Jn]
    simp [*]
  ·cases h
   simp only [K7, Y6, e2]
   rw [Jn]
   simp [*]) bigN s r h
def z9 (p0 : (FS Kj)) : Option (FS Jd) := (J3 (Ky (Xr p0) bigN ((FS.nil : (FS Jd)), 0)) fun v11 => some v11)
theorem Jgr {p0} {r} (h : z9 p0 = some r) : FC env 12 [encF J2 p0] none = some (encF Jh r, fun _ => none) := by
 unfold z9 at h
 obtain ⟨v22, h21, h⟩ := oS h
 have f23 := Jff h21
 simp only [K7, Y6, J5] at f23
 cases e26 : v22 with
 | nil =>
  try simp only [e26, Jr] at h
  simp only [e26, Jr, Jj, Jk] at f23
  cases h
  refine J4 (lf := lf12) rfl rfl rfl ?_
  simp only [lf12, lc12]
  simp [*]
 | lst l25 =>
  try simp only [e26] at h
  simp only [e26, Jr, Jj, Jk] at f23
  cases h
  refine J4 (lf := lf12) rfl rfl rfl ?_
  simp only [lf12, lc12]
  simp [*, Qm (e := Jh) (el := 50) (fz := false)]
attribute [simp] c52_0 c52_1
def Qs (p0 : Ja) : Bool := (band (band (band (ige p0.X (-4096)) (ilt p0.X 4096)) (ige p0.Y (-4096))) (ilt p0.Y 4096))
def Jqf (p0 : Ja) : Option Bool := some (Qs p0)
theorem Jgs (p0 : Ja) : FC env 52 [.agg [.int .i64 p0.X, .int .i64 p0.Y]] none = some (.bool (Qs p0), fun _ => none) := by
 unfold Qs
 refine J4 (lf := lf52) rfl rfl rfl ?_
 simp only [lf52, lc52]
 rcases tof (ige p0.X (-4096)) with a1 | a1 <;> rcases tof (ilt p0.X 4096) with a2 | a2 <;> rcases tof (ige p0.Y (-4096)) with a3 | a3 <;> simp [*]
attribute [simp] c72_0 c72_1
def jp (p0 : Int) : Int := (imax p0 (ineg .i64 p0))
def Jr7 (p0 : Int) : Option Int := some (jp p0)
theorem Jd2 (p0 : Int) : FC env 72 [.int .i64 p0] none = some (.int .i64 (jp p0), fun _ => none) := by
 unfold jp
 refine J4 (lf := lf72) rfl rfl rfl ?_
 simp only [lf72, lc72]
 simp
attribute [simp] c53_0 c53_1
def Ql (p0 : Ja) (p1 : Ja) : Bool := (ieq (iadd .i64 (jp (isub .i64 p0.X p1.X)) (jp (isub .i64 p0.Y p1.Y))) 1)
def Joc (p0 : Ja) (p1 : Ja) : Option Bool := some (Ql p0 p1)
theorem Jco (p0 : Ja) (p1 : Ja) : FC env 53 [.agg [.int .i64 p0.X, .int .i64 p0.Y], .agg [.int .i64 p1.X, .int .i64 p1.Y]] none = some (.bool (Ql p0 p1), fun _ => none) := by
 unfold Ql
 have f1 := Jd2 (isub .i64 p0.X p1.X)
 have f2 := Jd2 (isub .i64 p0.Y p1.Y)
 refine J4 (lf := lf53) rfl rfl rfl ?_
 simp only [lf53, lc53]
 simp [*]
attribute [simp] c33_0 c33_1 c33_2 c33_3 c33_4 c33_5 c33_6 c33_7 c33_8 c33_9 c33_11
theorem c33_L0_u : EC Γ ps 0 J0n σ = EC Γ ps 0 (.seq (.reg false c33_5) (.seq (.cond (.t 29) .skip (.seq (.trim [1, 3]) (.exit 0))) (.seq (.blk 1 (.seq (.reg false c33_6) (.seq (.reg true c33_7) (.cond (.t 50) (.seq (.reg false c33_8) (.seq (.trim [2]) .ret)) .skip)))) (.reg false c33_9)))) σ := rfl
attribute [simp ↓] c33_L0_u
def Yj (k0 : Jd) (k1 : Int) (k2 : (FS Ja)) (k3 : Int) (s : Int) : Option (LR Int (Bool ⊕ Unit)) := match s with
 | s0 => (if (ilt s0 k3) = true then (J3 (fget k2 s0) fun v5 => (J3 (gOpt (band (bnot (bnot (Qs v5))) (igt s0 0)) (fget k0.Cells (isub .i64 s0 1))) fun v9 => (if (bor (bnot (Qs v5)) (band (igt s0 0) (bnot (Ql (v9.getD (⟨0, 0⟩ : Ja)) v5)))) = true then some (.dn (.inl false))
 else some (.nx (iadd .i64 s0 1)))))
 else some (.dn (.inr ())))
def Q5 (k0 : Jd) (k1 : Int) (k2 : (FS Ja)) (k3 : Int) (s : Int) : St := match s with
 | s0 => ⟨fr [(1, .ptr 1 0 0), (3, .int .i64 k1), (26, encF Je k2), (27, .int .i64 k3), (28, .int .i64 s0)], hl [(1, .box 0 [.int .i64 k0.Role, .bool k0.Closed, encF Je k0.Cells])]⟩
def Xy (k0 : Jd) (k1 : Int) (k2 : (FS Ja)) (k3 : Int) (x : (Bool ⊕ Unit)) : LE × St := match x with
 | .inl x => (.ret, ⟨fr [(2, .bool x)], hl []⟩)
 | .inr x => (.exit 0, ⟨fr [(1, .ptr 1 0 0), (3, .int .i64 k1)], hl [(1, .box 0 [.int .i64 k0.Role, .bool k0.Closed, encF Je k0.Cells])]⟩)
theorem Jfn {k0} {k1} {k2} {k3} {s} {r} (h : Ky (Yj k0 k1 k2 k3) bigN s = some r) : LK env [] 0 [1, 3, 26, 27, 28] J0n (some (Q5 k0 k1 k2 k3 s)) = some (Xy k0 k1 k2 k3 r) := Kt (st := Q5 k0 k1 k2 k3) (out := Xy k0 k1 k2 k3) (by
 clear h s r
 rintro s0 x h
 simp only [Yj] at h
 rcases ifC h with ⟨c6, h⟩ | ⟨c6, h⟩
 ·obtain ⟨v9, h8, h⟩ := oS h
  have f7 := Kc (e := Je) h8
  have f10 := Jgs v9
  obtain ⟨v13, h12, h⟩ := oS h
  have f11 := fun (q0 : (bnot (Qs v9)) = false) (q1 : (igt s0 0) = true) => Kc (e := Je) (Kb (⟨0, 0⟩ : Ja) h12 (z6 (Qo q0) q1))
  have f14 := Jco (v13.getD (⟨0, 0⟩ : Ja)) v9
  rcases ifC h with ⟨c15, h⟩ | ⟨c15, h⟩
  ·cases h
   simp only [Q5, Xy]
   rw [Jn]
   rcases tof (Qs v9) with a16 | a16 <;> rcases tof (igt s0 0) with a17 | a17 <;> rcases tof (Ql (v13.getD (⟨0, 0⟩ : Ja)) v9) with a18 | a18 <;> (try (simp [c6, a16, a17, a18] at c15; done)) <;> simp [*]
  ·cases h
   simp only [Q5]
   rw [Jn]
   rcases tof (Qs v9) with a19 | a19 <;> rcases tof (igt s0 0) with a20 | a20 <;> rcases tof (Ql (v13.getD (⟨0, 0⟩ : Ja)) v9) with a21 | a21 <;> (try (simp [c6, a19, a20, a21] at c15; done)) <;> simp [*]
 ·cases h
  simp only [Q5, Xy]
  rw [Jn]
  simp [*]) bigN s r h
def Jao (p0 : Jd) : Option Bool := (if (bor (bor (bor (ilt p0.Role 1) (igt p0.Role 7)) (ilt (flen p0.Cells) 1)) (igt (flen p0.Cells) 65536)) = true then some false
 else (J3 (Ky (Yj p0 (flen p0.Cells) p0.Cells (flen p0.Cells)) bigN 0) fun v13 => (match v13 with
 | .inl v13x => some v13x
 | .inr v13x => (J3 (gOpt (bnot (bor (bnot p0.Closed) (ieq (flen p0.Cells) 1))) (fget p0.Cells (isub .i64 (flen p0.Cells) 1))) fun v17 => (J3 (gOpt (bnot (bor (bnot p0.Closed) (ieq (flen p0.Cells) 1))) (fget p0.Cells 0)) fun v20 => some (bor (bor (bnot p0.Closed) (ieq (flen p0.Cells) 1)) (Ql (v17.getD (⟨0, 0⟩ : Ja)) (v20.getD (⟨0, 0⟩ : Ja)))))))))
theorem Jdw {p0} {r} (h : Jao p0 = some r) : FC env 33 [.agg [.int .i64 p0.Role, .bool p0.Closed, encF Je p0.Cells]] none = some (.bool r, fun _ => none) := by
 unfold Jao at h
 rcases ifC h with ⟨c1, h⟩ | ⟨c1, h⟩
 ·cases h
  refine J4 (lf := lf33) rfl rfl rfl ?_
  simp only [lf33, lc33]
  rcases tof (ilt p0.Role 1) with a2 | a2 <;> rcases tof (igt p0.Role 7) with a3 | a3 <;> rcases tof (ilt (flen p0.Cells) 1) with a4 | a4 <;> rcases tof (igt (flen p0.Cells) 65536) with a5 | a5 <;> (try (simp [a2, a3, a4, a5] at c1; done)) <;> simp [*]
 ·obtain ⟨v23, h22, h⟩ := oS h
  have f24 := Jfn h22
  cases v23 with
  | inl v23x =>
   try simp only at h
   simp only [Q5, Xy, J5] at f24
   try simp only [Jj, Jk, Jq, Jv, Jt, Jx, Jw, Ju] at f24
   cases h
   refine J4 (lf := lf33) rfl rfl rfl ?_
   simp only [lf33, lc33]
   rcases tof (ilt p0.Role 1) with a26 | a26 <;> rcases tof (igt p0.Role 7) with a27 | a27 <;> rcases tof (ilt (flen p0.Cells) 1) with a28 | a28 <;> rcases tof (igt (flen p0.Cells) 65536) with a29 | a29 <;> (try (simp [a26, a27, a28, a29] at c1; done)) <;> (try simp only [a26, a27, a28, a29] at f24) <;> simp [*]
  | inr v23x =>
   try simp only at h
   simp only [Q5, Xy, J5] at f24
   try simp only [Jj, Jk, Jq, Jv, Jt, Jx, Jw, Ju] at f24
   obtain ⟨v33, h32, h⟩ := oS h
   have f31 := fun (q0 : (bor (bnot p0.Closed) (ieq (flen p0.Cells) 1)) = false) => Kc (e := Je) (Kb (⟨0, 0⟩ : Ja) h32 (Qo q0))
   obtain ⟨v36, h35, h⟩ := oS h
   have f34 := fun (q0 : (bor (bnot p0.Closed) (ieq (flen p0.Cells) 1)) = false) => Kc (e := Je) (Kb (⟨0, 0⟩ : Ja) h35 (Qo q0))
   have f37 := Jco (v33.getD (⟨0, 0⟩ : Ja)) (v36.getD (⟨0, 0⟩ : Ja))
   cases h
   refine J4 (lf := lf33) rfl rfl rfl ?_
   simp only [lf33, lc33]
   rcases tof (ilt p0.Role 1) with a38 | a38
   ·simp [a38] at c1
   ·rcases tof (igt p0.Role 7) with a39 | a39
    ·simp [a38, a39] at c1
    ·rcases tof (ilt (flen p0.Cells) 1) with a40 | a40
     ·simp [a38, a39, a40] at c1
     ·rcases tof (igt (flen p0.Cells) 65536) with a41 | a41
      ·simp [a38, a39, a40, a41] at c1
      ·rcases tof p0.Closed with a42 | a42
       ·rcases tof (ieq (flen p0.Cells) 1) with a43 | a43
        ·try simp only [a42] at f24 f31 f34 f37
         try simp only [a38, a39, a40, a41, a42, a43] at f24
         simp [*]
        ·try simp only [a42] at f24 f31 f34 f37
         try simp only [a38, a39, a40, a41, a42, a43] at f24
         simp [*]
       ·try simp only [a42] at f24 f31 f34 f37
        try simp only [a38, a39, a40, a41, a42] at f24
        simp [*]
attribute [simp] c11_0 c11_1 c11_2 c11_3 c11_4 c11_5 c11_6 c11_7 c11_9
theorem c11_L0_u : EC Γ ps 0 Jy2 σ = EC Γ ps 0 (.seq (.reg false c11_3) (.seq (.cond (.t 9) .skip (.seq (.trim [3]) (.exit 0))) (.seq (.blk 1 (.seq (.reg false c11_4) (.seq (.reg false c11_5) (.cond (.t 13) (.reg false c11_6) .skip)))) (.reg false c11_7)))) σ := rfl
attribute [simp ↓] c11_L0_u
def Zt (k0 : (FS Jd)) (k1 : Int) (s : ((FS Ja) × Int)) : Option (LR ((FS Ja) × Int) (FS Ja)) := match s with
 | (s0, s1) => (if (ilt s1 k1) = true then (J3 (fget k0 s1) fun v4 => (J3 (Jao v4) fun v7 => (if v7 = true then (if fits 16 ((flen s0) + (flen v4.Cells)) = true then some (.nx ((Jl8 s0 v4.Cells), (iadd .i64 s1 1))) else none)
 else some (.nx (s0, (iadd .i64 s1 1))))))
 else some (.dn s0))
def K2 (k0 : (FS Jd)) (k1 : Int) (s : ((FS Ja) × Int)) : St := match s with
 | (s0, s1) => (zo s0 (⟨fr [(3, .nils), (6, encF Jh k0), (7, .int .i64 k1), (8, .int .i64 s1)], hl []⟩)
  (fun l0 => ⟨fr [(3, .arr 3 0 0 l0.l.length), (6, encF Jh k0), (7, .int .i64 k1), (8, .int .i64 s1)], hl [(3, .arr 0 2 27 (Jp Je l0.l) false)]⟩))
def Zp (k0 : (FS Jd)) (k1 : Int) (x : (FS Ja)) : LE × St := (zo x (.exit 0, ⟨fr [(3, .nils)], hl []⟩)
  (fun l0 => (.exit 0, ⟨fr [(3, .arr 3 0 0 l0.l.length)], hl [(3, .arr 0 2 27 (Jp Je l0.l) false)]⟩)))
theorem Jf2 {k0} {k1} {s} {r} (h : Ky (Zt k0 k1) bigN s = some r) : LK env [] 0 [3, 6, 7, 8] Jy2 (some (K2 k0 k1 s)) = some (Zp k0 k1 r) := Kt (st := K2 k0 k1) (out := Zp k0 k1) (by
 clear h s r
 rintro ⟨s0, s1⟩ x h
 simp only [Zt] at h
 cases e2 : s0 with
 | nil =>
  try simp only [e2, Jr] at h
  rcases ifC h with ⟨c3, h⟩ | ⟨c3, h⟩
  ·obtain ⟨v6, h5, h⟩ := oS h
   have f4 := Kc (e := Jh) h5
   obtain ⟨v9, h8, h⟩ := oS h
   have f7 := Jdw h8
   rcases ifC h with ⟨c10, h⟩ | ⟨c10, h⟩
   ·obtain ⟨h12, h⟩ := ifS h
    rcases tof (ieq (flen v6.Cells) 0) with z13 | z13
    ·simp only [Jll z13] at h
     have f11 := fun H g0 => @Jnm _ _ Je _ v6.Cells 16 z13 H g0 27 (encF Je v6.Cells) (Juj _ _) (Jpi _ _)
     cases h
     simp only [K2, e2]
     rw [Jn]
     simp [*]
    ·simp only [Jk7 z13] at h
     have f11 := fun H g0 hg => @Jm4 _ _ Je _ v6.Cells 16 z13 (Jnx h12) (by decide) H g0 27 (encF Je v6.Cells) hg (Juj _ _) (Jpi _ _)
     cases h
     simp only [K2, e2]
     rw [Jn]
     simp [*]
   ·cases h
    simp only [K2, e2]
    rw [Jn]
    simp [*]
  ·cases h
   simp only [K2, Zp, e2]
   rw [Jn]
   simp [*]
 | lst l1 =>
  try simp only [e2] at h
  rcases ifC h with ⟨c14, h⟩ | ⟨c14, h⟩
  ·obtain ⟨v17, h16, h⟩ := oS h
   have f15 := Kc (e := Jh) h16
   obtain ⟨v20, h19, h⟩ := oS h
   have f18 := Jdw h19
   rcases ifC h with ⟨c21, h⟩ | ⟨c21, h⟩
   ·obtain ⟨h23, h⟩ := ifS h
    have f22 := fun g0 H => @Jci _ _ Je _ (FS.lst l1) v17.Cells 16 h23 (by decide) g0 H 3 0 27
    cases h
    simp only [K2, e2]
    rw [Jn]
    simp [*]
   ·cases h
    simp only [K2, e2]
    rw [Jn]
    simp [*]
  ·cases h
   simp only [K2, Zp, e2]
   rw [Jn]
   simp [*]) bigN s r h
def zi (p0 : (FS Jd)) : Option (FS Ja) := (J3 (Ky (Zt p0 (flen p0)) bigN ((FS.nil : (FS Ja)), 0)) fun v12 => some v12)
theorem Jdu {p0} {r} (h : zi p0 = some r) : FC env 11 [encF Jh p0] none = some (encF Je r, fun _ => none) := by
 unfold zi at h
 obtain ⟨v25, h24, h⟩ := oS h
 have f26 := Jf2 h24
 simp only [K2, Zp, J5] at f26
 cases e29 : v25 with
 | nil =>
  try simp only [e29, Jr] at h
  simp only [e29, Jr, Jj, Jk] at f26
  cases h
  refine J4 (lf := lf11) rfl rfl rfl ?_
  simp only [lf11, lc11]
  simp [*]
 | lst l28 =>
  try simp only [e29] at h
  simp only [e29, Jr, Jj, Jk] at f26
  cases h
  refine J4 (lf := lf11) rfl rfl rfl ?_
  simp only [lf11, lc11]
  simp [*, Qm (e := Je) (el := 27) (fz := false)]
attribute [simp] c32_0 c32_1 c32_2 c32_3 c32_4 c32_5 c32_6 c32_8
theorem c32_L0_u : EC Γ ps 0 J3g σ = EC Γ ps 0 (.seq (.seq (.reg false c32_3) (.cond (.t 10) .skip (.seq (.trim [5]) (.exit 0)))) (.seq (.blk 1 (.seq (.reg true c32_4) (.cond (.t 18) (.reg false c32_5) .skip))) (.reg false c32_6))) σ := rfl
attribute [simp ↓] c32_L0_u
def Yc (k0 : (FS Ja)) (k1 : Ja) (s : (Int × Int)) : Option (LR (Int × Int) Int) := match s with
 | (s0, s1) => (if (ilt s1 (flen k0)) = true then (J3 (fget k0 s1) fun v4 => (if (band (ieq v4.X k1.X) (band (ieq v4.Y k1.Y) true)) = true then some (.nx ((iadd .i64 s0 1), (iadd .i64 s1 1)))
 else some (.nx (s0, (iadd .i64 s1 1)))))
 else some (.dn s0))
def Ya (k0 : (FS Ja)) (k1 : Ja) (s : (Int × Int)) : St := match s with
 | (s0, s1) => ⟨fr [(0, encF Je k0), (3, .ptr 3 0 0), (5, .int .i64 s0), (6, .int .i64 s1)], hl [(3, .box 0 [.int .i64 k1.X, .int .i64 k1.Y])]⟩
def zm (k0 : (FS Ja)) (k1 : Ja) (x : Int) : LE × St := (.exit 0, ⟨fr [(5, .int .i64 x)], hl []⟩)
theorem Jfu {k0} {k1} {s} {r} (h : Ky (Yc k0 k1) bigN s = some r) : LK env [] 0 [0, 3, 5, 6] J3g (some (Ya k0 k1 s)) = some (zm k0 k1 r) := Kt (st := Ya k0 k1) (out := zm k0 k1) (by
 clear h s r
 rintro ⟨s0, s1⟩ x h
 simp only [Yc] at h
 rcases ifC h with ⟨c1, h⟩ | ⟨c1, h⟩
 ·obtain ⟨v4, h3, h⟩ := oS h
  have f2 := Kc (e := Je) h3
  rcases ifC h with ⟨c5, h⟩ | ⟨c5, h⟩
  ·cases h
   simp only [Ya]
   rw [Jn]
   rcases tof (ieq v4.X k1.X) with a6 | a6 <;> rcases tof (ieq v4.Y k1.Y) with a7 | a7 <;> (try (simp [c1, a6, a7] at c5; done)) <;> simp [*]
  ·cases h
   simp only [Ya]
   rw [Jn]
   rcases tof (ieq v4.X k1.X) with a8 | a8 <;> rcases tof (ieq v4.Y k1.Y) with a9 | a9 <;> (try (simp [c1, a8, a9] at c5; done)) <;> simp [*]
 ·cases h
  simp only [Ya, zm]
  rw [Jn]
  simp [*]) bigN s r h
def za (p0 : (FS Ja)) (p1 : Ja) : Option Int := (J3 (Ky (Yc p0 p1) bigN (0, 0)) fun v7 => some v7)
theorem Jdt {p0} {p1} {r} (h : za p0 p1 = some r) : FC env 32 [encF Je p0, .agg [.int .i64 p1.X, .int .i64 p1.Y]] none = some (.int .i64 r, fun _ => none) := by
 unfold za at h
 obtain ⟨v11, h10, h⟩ := oS h
 have f12 := Jfu h10
 simp only [Ya, zm, J5] at f12
 try simp only [Jj, Jk, Jq, Jv, Jt, Jx, Jw, Ju] at f12
 cases h
 refine J4 (lf := lf32) rfl rfl rfl ?_
 simp only [lf32, lc32]
 simp [*]
end Go.Proofs.Ytemehoioeoohmaa
