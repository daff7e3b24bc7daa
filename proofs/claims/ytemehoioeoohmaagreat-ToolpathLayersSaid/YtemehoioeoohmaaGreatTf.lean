/- Typed functions of this seat, each with the proof that the code computes it; by program (tg3.py). -/
import Derived.Test.YtemehoioeoohmaaGreatCode
import Derived.Test.YtemehoioeoohmaaGreatVu
import Derived.KernelRfl
import Derived.Test.YtemehoioeoohmaaGreatTe
namespace Go.Proofs.YtemehoioeoohmaaGreat
open Go Go.Vv Go.Proofs
open AV renaming int → I
open Go.IntKind renaming i64 → L
set_option linter.unusedSimpArgs false
set_option linter.unusedVariables false
set_option maxRecDepth 100000
set_option maxHeartbeats 4000000
variable (Γ : Env) (ps : List Nat) (σ : St)
attribute [simp] c39_0 c39_1 c39_2 c39_3
def Zh (p0 : Jo) (p1 : Jb) : Option Jo := (J6 (fget p1.Cells 0) fun v3 => (J6 (Yk (⟨(⟨p0.list.ops⟩ : Km), p0.r, p0.s, p0.nozzle⟩ : Jo) v3) fun v5 => (J6 (jw (⟨(⟨v5.list.ops⟩ : Km), v5.r, v5.s, v5.nozzle⟩ : Jo) v5.s.Feed) fun v9 => (if fits 16 ((flen (flit ([] : List Ja))) + (flen p1.Cells)) = true then (J6 (J3 (⟨(⟨v5.list.ops⟩ : Km), v5.r, v5.s, v5.nozzle⟩ : Jo) (⟨3, p1.Role, 0, 0, v9, (fapp (flit ([] : List Ja)) p1.Cells)⟩ : J1)) fun v14 => (J6 (fget p1.Cells (isub L (flen p1.Cells) 1)) fun v18 => some (⟨(⟨v14.list.ops⟩ : Km), v14.r, v14.s, v18⟩ : Jo))) else none))))
theorem Jhi {p0 : Jo} {p1 : Jb} (e000 : p0.list.ops = FS.nil) {r} (h : Zh p0 p1 = some r) : FC env 39 [.ptr 0 0 0, .agg [I L p1.Role, .bool p1.Closed, encF Jf p1.Cells]] (some (hl [(0, .box 0 [.nils, encF Jq p0.r.Rows, I L p0.s.Pitch, I L p0.s.Height, I L p0.s.Walls, I L p0.s.Top, I L p0.s.Bottom, I L p0.s.Pattern, I L p0.s.Spacing, .bool p0.s.Support, I L p0.s.Reach, I L p0.s.Gap, I L p0.s.Brim, I L p0.s.Skirt, I L p0.s.Drop, I L p0.s.Feed, I L p0.s.Travel, I L p0.s.Retract, I L p0.s.MinTime, I L p0.s.MinFeed, I L p0.s.Nozzle, I L p0.s.Bed, I L p0.nozzle.X, I L p0.nozzle.Y])], 0)) = some (.tup [], hl [(0, .box 0 [.arr 1000000 0 0 r.list.ops.l.length, encF Jq r.r.Rows, I L r.s.Pitch, I L r.s.Height, I L r.s.Walls, I L r.s.Top, I L r.s.Bottom, I L r.s.Pattern, I L r.s.Spacing, .bool r.s.Support, I L r.s.Reach, I L r.s.Gap, I L r.s.Brim, I L r.s.Skirt, I L r.s.Drop, I L r.s.Feed, I L r.s.Travel, I L r.s.Retract, I L r.s.MinTime, I L r.s.MinFeed, I L r.s.Nozzle, I L r.s.Bed, I L r.nozzle.X, I L r.nozzle.Y]), (1000000, .arr 0 6 52 (Jn Jw r.list.ops.l) false)]) ∧ ∃ l, r.list.ops = FS.lst l := by
 unfold Zh at h
 simp only [e000, Jx] at h
 obtain ⟨v3, h2, h⟩ := oS h
 have f1 := Kf (e := Jf) h2
 obtain ⟨v5, h4, h⟩ := oS h
 have f6 := Jgy rfl h4
 try simp only [J5, Ka, Jg, Jh, Jk, Jr, Ju, Jt, Js, Jv] at f6
 cases e8 : v5.list.ops with
 | nil =>
  try simp only [e8, Jx] at h
  simp only [e8, Jx, Jg, Jh] at f6
  have f9 : ∀ H : Heap, H 0 = some (.box 0 [.nils, encF Jq p0.r.Rows, I L p0.s.Pitch, I L p0.s.Height, I L p0.s.Walls, I L p0.s.Top, I L p0.s.Bottom, I L p0.s.Pattern, I L p0.s.Spacing, .bool p0.s.Support, I L p0.s.Reach, I L p0.s.Gap, I L p0.s.Brim, I L p0.s.Skirt, I L p0.s.Drop, I L p0.s.Feed, I L p0.s.Travel, I L p0.s.Retract, I L p0.s.MinTime, I L p0.s.MinFeed, I L p0.s.Nozzle, I L p0.s.Bed, I L p0.nozzle.X, I L p0.nozzle.Y]) → Jcc (FC env) 69 H [.ptr 0 0 0, .agg [I L v3.X, I L v3.Y]] = some (.tup [], upd H 0 (some (.box 0 [.nils, encF Jq v5.r.Rows, I L v5.s.Pitch, I L v5.s.Height, I L v5.s.Walls, I L v5.s.Top, I L v5.s.Bottom, I L v5.s.Pattern, I L v5.s.Spacing, .bool v5.s.Support, I L v5.s.Reach, I L v5.s.Gap, I L v5.s.Brim, I L v5.s.Skirt, I L v5.s.Drop, I L v5.s.Feed, I L v5.s.Travel, I L v5.s.Retract, I L v5.s.MinTime, I L v5.s.MinFeed, I L v5.s.Nozzle, I L v5.s.Bed, I L v5.nozzle.X, I L v5.nozzle.Y]))) := by
    intro H q0
    simp [*, q0]
  obtain ⟨v12, h11, h⟩ := oS h
  have f10 := zq h11
  try simp only [Ka] at f10
  have f13 : ∀ (H : Heap) (g0 : Nat), bslV H g0 0 2 27 (some []) = some (.arr g0 (Kj H g0) 0 (flit ([] : List Ja)).l.length, upd H g0 (some (.arr (Kj H g0) 2 27 (Jn Jf (flit ([] : List Ja)).l) false))) := fun H g0 => rfl
  obtain ⟨h15, h⟩ := ifS h
  have f14 := fun g0 H => @Jar _ _ Jf _ (flit ([] : List Ja)) p1.Cells 16 h15 (by decide) g0 H 22 0 27
  obtain ⟨v17, h16, h⟩ := oS h
  obtain ⟨f18, ⟨l20, e19⟩⟩ := Kx rfl h16
  simp only [e19] at f18
  try simp only [e19] at h
  try simp only [J5, Ka, Jg, Jh, Jk, Jr, Ju, Jt, Js, Jv] at f18
  try simp only [Jg, Jh, Jk, Jr, Ju, Jt, Js, Jv] at f18
  have f21 : ∀ H : Heap, H 0 = some (.box 0 [.nils, encF Jq v5.r.Rows, I L v5.s.Pitch, I L v5.s.Height, I L v5.s.Walls, I L v5.s.Top, I L v5.s.Bottom, I L v5.s.Pattern, I L v5.s.Spacing, .bool v5.s.Support, I L v5.s.Reach, I L v5.s.Gap, I L v5.s.Brim, I L v5.s.Skirt, I L v5.s.Drop, I L v5.s.Feed, I L v5.s.Travel, I L v5.s.Retract, I L v5.s.MinTime, I L v5.s.MinFeed, I L v5.s.Nozzle, I L v5.s.Bed, I L v5.nozzle.X, I L v5.nozzle.Y]) → H 1000000 = none → Jcc (FC env) 18 H [.ptr 0 0 0, .agg [I L 3, I L p1.Role, I L 0, I L 0, I L v12, encF Jf (fapp (flit ([] : List Ja)) p1.Cells)]] = some (.tup [], upd (upd H 1000000 (some (.arr 0 6 52 (Jn Jw (FS.lst l20).l) false))) 0 (some (.box 0 [.arr 1000000 0 0 (FS.lst l20).l.length, encF Jq v17.r.Rows, I L v17.s.Pitch, I L v17.s.Height, I L v17.s.Walls, I L v17.s.Top, I L v17.s.Bottom, I L v17.s.Pattern, I L v17.s.Spacing, .bool v17.s.Support, I L v17.s.Reach, I L v17.s.Gap, I L v17.s.Brim, I L v17.s.Skirt, I L v17.s.Drop, I L v17.s.Feed, I L v17.s.Travel, I L v17.s.Retract, I L v17.s.MinTime, I L v17.s.MinFeed, I L v17.s.Nozzle, I L v17.s.Bed, I L v17.nozzle.X, I L v17.nozzle.Y]))) := by
    intro H q0 q1
    simp [*, q0, q1]
  obtain ⟨v24, h23, h⟩ := oS h
  have f22 := Kf (e := Jf) h23
  cases h
  refine ⟨?_, by first | exact ⟨_, rfl⟩ | exact ⟨_, by assumption⟩⟩
  refine Jav (lf := lf39) rfl rfl rfl ?_
  simp only [lf39, lc39]
  simp [*, -Q6, Kq (e := Jf) (el := 27) (fz := false)]
 | lst l7 =>
  try simp only [e8] at h
  simp only [e8, Jx, Jg, Jh] at f6
  have f25 : ∀ H : Heap, H 0 = some (.box 0 [.nils, encF Jq p0.r.Rows, I L p0.s.Pitch, I L p0.s.Height, I L p0.s.Walls, I L p0.s.Top, I L p0.s.Bottom, I L p0.s.Pattern, I L p0.s.Spacing, .bool p0.s.Support, I L p0.s.Reach, I L p0.s.Gap, I L p0.s.Brim, I L p0.s.Skirt, I L p0.s.Drop, I L p0.s.Feed, I L p0.s.Travel, I L p0.s.Retract, I L p0.s.MinTime, I L p0.s.MinFeed, I L p0.s.Nozzle, I L p0.s.Bed, I L p0.nozzle.X, I L p0.nozzle.Y]) → H 1000000 = none → Jcc (FC env) 69 H [.ptr 0 0 0, .agg [I L v3.X, I L v3.Y]] = some (.tup [], upd (upd H 1000000 (some (.arr 0 6 52 (Jn Jw (FS.lst l7).l) false))) 0 (some (.box 0 [.arr 1000000 0 0 (FS.lst l7).l.length, encF Jq v5.r.Rows, I L v5.s.Pitch, I L v5.s.Height, I L v5.s.Walls, I L v5.s.Top, I L v5.s.Bottom, I L v5.s.Pattern, I L v5.s.Spacing, .bool v5.s.Support, I L v5.s.Reach, I L v5.s.Gap, I L v5.s.Brim, I L v5.s.Skirt, I L v5.s.Drop, I L v5.s.Feed, I L v5.s.Travel, I L v5.s.Retract, I L v5.s.MinTime, I L v5.s.MinFeed, I L v5.s.Nozzle, I L v5.s.Bed, I L v5.nozzle.X, I L v5.nozzle.Y]))) := by
    intro H q0 q1
    simp [*, q0, q1]
  obtain ⟨v28, h27, h⟩ := oS h
  have f26 := zq h27
  have f29 : ∀ (H : Heap) (g0 : Nat), bslV H g0 0 2 27 (some []) = some (.arr g0 (Kj H g0) 0 (flit ([] : List Ja)).l.length, upd H g0 (some (.arr (Kj H g0) 2 27 (Jn Jf (flit ([] : List Ja)).l) false))) := fun H g0 => rfl
  obtain ⟨h31, h⟩ := ifS h
  have f30 := fun g0 H => @Jar _ _ Jf _ (flit ([] : List Ja)) p1.Cells 16 h31 (by decide) g0 H 22 0 27
  obtain ⟨v33, h32, h⟩ := oS h
  obtain ⟨f34, ⟨l36, e35⟩⟩ := J4 rfl h32
  simp only [e35] at f34
  try simp only [e35] at h
  try simp only [J5, Ka, Jg, Jh, Jk, Jr, Ju, Jt, Js, Jv] at f34
  try simp only [Jg, Jh, Jk, Jr, Ju, Jt, Js, Jv] at f34
  have f37 : ∀ H : Heap, H 0 = some (.box 0 [.arr 1000000 0 0 (FS.lst l7).l.length, encF Jq v5.r.Rows, I L v5.s.Pitch, I L v5.s.Height, I L v5.s.Walls, I L v5.s.Top, I L v5.s.Bottom, I L v5.s.Pattern, I L v5.s.Spacing, .bool v5.s.Support, I L v5.s.Reach, I L v5.s.Gap, I L v5.s.Brim, I L v5.s.Skirt, I L v5.s.Drop, I L v5.s.Feed, I L v5.s.Travel, I L v5.s.Retract, I L v5.s.MinTime, I L v5.s.MinFeed, I L v5.s.Nozzle, I L v5.s.Bed, I L v5.nozzle.X, I L v5.nozzle.Y]) → H 1000000 = some (.arr 0 6 52 (Jn Jw (FS.lst l7).l) false) → Jcc (FC env) 18 H [.ptr 0 0 0, .agg [I L 3, I L p1.Role, I L 0, I L 0, I L v28, encF Jf (fapp (flit ([] : List Ja)) p1.Cells)]] = some (.tup [], upd (upd H 1000000 (some (.arr 1 6 52 (Jn Jw (FS.lst l36).l) false))) 0 (some (.box 0 [.arr 1000000 1 0 (FS.lst l36).l.length, encF Jq v33.r.Rows, I L v33.s.Pitch, I L v33.s.Height, I L v33.s.Walls, I L v33.s.Top, I L v33.s.Bottom, I L v33.s.Pattern, I L v33.s.Spacing, .bool v33.s.Support, I L v33.s.Reach, I L v33.s.Gap, I L v33.s.Brim, I L v33.s.Skirt, I L v33.s.Drop, I L v33.s.Feed, I L v33.s.Travel, I L v33.s.Retract, I L v33.s.MinTime, I L v33.s.MinFeed, I L v33.s.Nozzle, I L v33.s.Bed, I L v33.nozzle.X, I L v33.nozzle.Y]))) := by
    intro H q0 q1
    simp [*, q0, q1]
  obtain ⟨v40, h39, h⟩ := oS h
  have f38 := Kf (e := Jf) h39
  cases h
  refine ⟨?_, by first | exact ⟨_, rfl⟩ | exact ⟨_, by assumption⟩⟩
  refine Jav (lf := lf39) rfl rfl rfl ?_
  simp only [lf39, lc39]
  simp [*, -Q6, Kq (e := Jw) (el := 52) (fz := false), Kq (e := Jf) (el := 27) (fz := false)]
theorem Jhk {p0 : Jo} {p1 : Jb} {le000 : List J1} (e000 : p0.list.ops = FS.lst le000) {r} (h : Zh p0 p1 = some r) : FC env 39 [.ptr 0 0 0, .agg [I L p1.Role, .bool p1.Closed, encF Jf p1.Cells]] (some (hl [(0, .box 0 [.arr 1000000 0 0 p0.list.ops.l.length, encF Jq p0.r.Rows, I L p0.s.Pitch, I L p0.s.Height, I L p0.s.Walls, I L p0.s.Top, I L p0.s.Bottom, I L p0.s.Pattern, I L p0.s.Spacing, .bool p0.s.Support, I L p0.s.Reach, I L p0.s.Gap, I L p0.s.Brim, I L p0.s.Skirt, I L p0.s.Drop, I L p0.s.Feed, I L p0.s.Travel, I L p0.s.Retract, I L p0.s.MinTime, I L p0.s.MinFeed, I L p0.s.Nozzle, I L p0.s.Bed, I L p0.nozzle.X, I L p0.nozzle.Y]), (1000000, .arr 0 6 52 (Jn Jw p0.list.ops.l) false)], 0)) = some (.tup [], hl [(0, .box 0 [.arr 1000000 0 0 r.list.ops.l.length, encF Jq r.r.Rows, I L r.s.Pitch, I L r.s.Height, I L r.s.Walls, I L r.s.Top, I L r.s.Bottom, I L r.s.Pattern, I L r.s.Spacing, .bool r.s.Support, I L r.s.Reach, I L r.s.Gap, I L r.s.Brim, I L r.s.Skirt, I L r.s.Drop, I L r.s.Feed, I L r.s.Travel, I L r.s.Retract, I L r.s.MinTime, I L r.s.MinFeed, I L r.s.Nozzle, I L r.s.Bed, I L r.nozzle.X, I L r.nozzle.Y]), (1000000, .arr 0 6 52 (Jn Jw r.list.ops.l) false)]) ∧ ∃ l, r.list.ops = FS.lst l := by
 unfold Zh at h
 simp only [e000, Jx] at h
 obtain ⟨v3, h2, h⟩ := oS h
 have f1 := Kf (e := Jf) h2
 obtain ⟨v5, h4, h⟩ := oS h
 obtain ⟨f6, ⟨l8, e7⟩⟩ := Jgw rfl h4
 simp only [e7] at f6
 try simp only [e7] at h
 try simp only [J5, Ka, Jg, Jh, Jk, Jr, Ju, Jt, Js, Jv] at f6
 try simp only [Jg, Jh, Jk, Jr, Ju, Jt, Js, Jv] at f6
 have f9 : ∀ H : Heap, H 0 = some (.box 0 [.arr 1000000 0 0 (FS.lst le000).l.length, encF Jq p0.r.Rows, I L p0.s.Pitch, I L p0.s.Height, I L p0.s.Walls, I L p0.s.Top, I L p0.s.Bottom, I L p0.s.Pattern, I L p0.s.Spacing, .bool p0.s.Support, I L p0.s.Reach, I L p0.s.Gap, I L p0.s.Brim, I L p0.s.Skirt, I L p0.s.Drop, I L p0.s.Feed, I L p0.s.Travel, I L p0.s.Retract, I L p0.s.MinTime, I L p0.s.MinFeed, I L p0.s.Nozzle, I L p0.s.Bed, I L p0.nozzle.X, I L p0.nozzle.Y]) → H 1000000 = some (.arr 0 6 52 (Jn Jw (FS.lst le000).l) false) → Jcc (FC env) 69 H [.ptr 0 0 0, .agg [I L v3.X, I L v3.Y]] = some (.tup [], upd (upd H 1000000 (some (.arr 1 6 52 (Jn Jw (FS.lst l8).l) false))) 0 (some (.box 0 [.arr 1000000 1 0 (FS.lst l8).l.length, encF Jq v5.r.Rows, I L v5.s.Pitch, I L v5.s.Height, I L v5.s.Walls, I L v5.s.Top, I L v5.s.Bottom, I L v5.s.Pattern, I L v5.s.Spacing, .bool v5.s.Support, I L v5.s.Reach, I L v5.s.Gap, I L v5.s.Brim, I L v5.s.Skirt, I L v5.s.Drop, I L v5.s.Feed, I L v5.s.Travel, I L v5.s.Retract, I L v5.s.MinTime, I L v5.s.MinFeed, I L v5.s.Nozzle, I L v5.s.Bed, I L v5.nozzle.X, I L v5.nozzle.Y]))) := by
   intro H q0 q1
   simp [*, q0, q1]
 obtain ⟨v12, h11, h⟩ := oS h
 have f10 := zq h11
 have f13 : ∀ (H : Heap) (g0 : Nat), bslV H g0 0 2 27 (some []) = some (.arr g0 (Kj H g0) 0 (flit ([] : List Ja)).l.length, upd H g0 (some (.arr (Kj H g0) 2 27 (Jn Jf (flit ([] : List Ja)).l) false))) := fun H g0 => rfl
 obtain ⟨h15, h⟩ := ifS h
 have f14 := fun g0 H => @Jar _ _ Jf _ (flit ([] : List Ja)) p1.Cells 16 h15 (by decide) g0 H 22 0 27
 obtain ⟨v17, h16, h⟩ := oS h
 obtain ⟨f18, ⟨l20, e19⟩⟩ := J4 rfl h16
 simp only [e19] at f18
 try simp only [e19] at h
 try simp only [J5, Ka, Jg, Jh, Jk, Jr, Ju, Jt, Js, Jv] at f18
 try simp only [Jg, Jh, Jk, Jr, Ju, Jt, Js, Jv] at f18
 have f21 : ∀ H : Heap, H 0 = some (.box 0 [.arr 1000000 1 0 (FS.lst l8).l.length, encF Jq v5.r.Rows, I L v5.s.Pitch, I L v5.s.Height, I L v5.s.Walls, I L v5.s.Top, I L v5.s.Bottom, I L v5.s.Pattern, I L v5.s.Spacing, .bool v5.s.Support, I L v5.s.Reach, I L v5.s.Gap, I L v5.s.Brim, I L v5.s.Skirt, I L v5.s.Drop, I L v5.s.Feed, I L v5.s.Travel, I L v5.s.Retract, I L v5.s.MinTime, I L v5.s.MinFeed, I L v5.s.Nozzle, I L v5.s.Bed, I L v5.nozzle.X, I L v5.nozzle.Y]) → H 1000000 = some (.arr 1 6 52 (Jn Jw (FS.lst l8).l) false) → Jcc (FC env) 18 H [.ptr 0 0 0, .agg [I L 3, I L p1.Role, I L 0, I L 0, I L v12, encF Jf (fapp (flit ([] : List Ja)) p1.Cells)]] = some (.tup [], upd (upd H 1000000 (some (.arr 2 6 52 (Jn Jw (FS.lst l20).l) false))) 0 (some (.box 0 [.arr 1000000 2 0 (FS.lst l20).l.length, encF Jq v17.r.Rows, I L v17.s.Pitch, I L v17.s.Height, I L v17.s.Walls, I L v17.s.Top, I L v17.s.Bottom, I L v17.s.Pattern, I L v17.s.Spacing, .bool v17.s.Support, I L v17.s.Reach, I L v17.s.Gap, I L v17.s.Brim, I L v17.s.Skirt, I L v17.s.Drop, I L v17.s.Feed, I L v17.s.Travel, I L v17.s.Retract, I L v17.s.MinTime, I L v17.s.MinFeed, I L v17.s.Nozzle, I L v17.s.Bed, I L v17.nozzle.X, I L v17.nozzle.Y]))) := by
   intro H q0 q1
   simp [*, q0, q1]
 obtain ⟨v24, h23, h⟩ := oS h
 have f22 := Kf (e := Jf) h23
 cases h
 refine ⟨?_, by first | exact ⟨_, rfl⟩ | exact ⟨_, by assumption⟩⟩
 refine Jav (lf := lf39) rfl rfl rfl ?_
 simp only [lf39, lc39]
 simp [*, -Q6, Kq (e := Jw) (el := 52) (fz := false), Kq (e := Jf) (el := 27) (fz := false)]
attribute [simp] c19_0 c19_1 c19_2 c19_3 c19_4 c19_5
theorem c19_L0_u : EC Γ ps 0 J9j σ = EC Γ ps 0 (.seq (.reg false c19_2) (.seq (.cond (.t 18) .skip (.seq (.trim []) (.exit 0))) (.seq (.blk 1 (.seq (.reg false c19_3) (.reg false c19_4))) (.reg false c19_5)))) σ := rfl
attribute [simp ↓] c19_L0_u
def Y5 (k0 : (FS Jb)) (k1 : Int) (s : (Jo × Int)) : Option (LR (Jo × Int) Jo) := match s with
 | (s0, s1) => (if (ilt s1 k1) = true then (J6 (fget k0 s1) fun v10 => (J6 (Zh (⟨(⟨s0.list.ops⟩ : Km), s0.r, s0.s, s0.nozzle⟩ : Jo) v10) fun v12 => some (.nx ((⟨(⟨v12.list.ops⟩ : Km), v12.r, v12.s, v12.nozzle⟩ : Jo), (iadd L s1 1)))))
 else some (.dn (⟨(⟨s0.list.ops⟩ : Km), s0.r, s0.s, s0.nozzle⟩ : Jo)))
def Qf (k0 : (FS Jb)) (k1 : Int) (s : (Jo × Int)) : St := match s with
 | (s0, s1) => (Jat s0.list.ops (⟨fr [(0, .ptr 0 0 0), (15, encF Jc k0), (16, I L k1), (17, I L s1)], hl [(0, .box 0 [.nils, encF Jq s0.r.Rows, I L s0.s.Pitch, I L s0.s.Height, I L s0.s.Walls, I L s0.s.Top, I L s0.s.Bottom, I L s0.s.Pattern, I L s0.s.Spacing, .bool s0.s.Support, I L s0.s.Reach, I L s0.s.Gap, I L s0.s.Brim, I L s0.s.Skirt, I L s0.s.Drop, I L s0.s.Feed, I L s0.s.Travel, I L s0.s.Retract, I L s0.s.MinTime, I L s0.s.MinFeed, I L s0.s.Nozzle, I L s0.s.Bed, I L s0.nozzle.X, I L s0.nozzle.Y])]⟩)
  (fun l0 => ⟨fr [(0, .ptr 0 0 0), (15, encF Jc k0), (16, I L k1), (17, I L s1)], hl [(0, .box 0 [.arr 1000000 0 0 l0.l.length, encF Jq s0.r.Rows, I L s0.s.Pitch, I L s0.s.Height, I L s0.s.Walls, I L s0.s.Top, I L s0.s.Bottom, I L s0.s.Pattern, I L s0.s.Spacing, .bool s0.s.Support, I L s0.s.Reach, I L s0.s.Gap, I L s0.s.Brim, I L s0.s.Skirt, I L s0.s.Drop, I L s0.s.Feed, I L s0.s.Travel, I L s0.s.Retract, I L s0.s.MinTime, I L s0.s.MinFeed, I L s0.s.Nozzle, I L s0.s.Bed, I L s0.nozzle.X, I L s0.nozzle.Y]), (1000000, .arr 0 6 52 (Jn Jw l0.l) false)]⟩))
def Xo (k0 : (FS Jb)) (k1 : Int) (x : Jo) : LE × St := (Jat x.list.ops (.exit 0, ⟨fr [], hl [(0, .box 0 [.nils, encF Jq x.r.Rows, I L x.s.Pitch, I L x.s.Height, I L x.s.Walls, I L x.s.Top, I L x.s.Bottom, I L x.s.Pattern, I L x.s.Spacing, .bool x.s.Support, I L x.s.Reach, I L x.s.Gap, I L x.s.Brim, I L x.s.Skirt, I L x.s.Drop, I L x.s.Feed, I L x.s.Travel, I L x.s.Retract, I L x.s.MinTime, I L x.s.MinFeed, I L x.s.Nozzle, I L x.s.Bed, I L x.nozzle.X, I L x.nozzle.Y])]⟩)
  (fun l0 => (.exit 0, ⟨fr [], hl [(0, .box 0 [.arr 1000000 0 0 l0.l.length, encF Jq x.r.Rows, I L x.s.Pitch, I L x.s.Height, I L x.s.Walls, I L x.s.Top, I L x.s.Bottom, I L x.s.Pattern, I L x.s.Spacing, .bool x.s.Support, I L x.s.Reach, I L x.s.Gap, I L x.s.Brim, I L x.s.Skirt, I L x.s.Drop, I L x.s.Feed, I L x.s.Travel, I L x.s.Retract, I L x.s.MinTime, I L x.s.MinFeed, I L x.s.Nozzle, I L x.s.Bed, I L x.nozzle.X, I L x.nozzle.Y]), (1000000, .arr 0 6 52 (Jn Jw l0.l) false)]⟩)))
theorem Jd1 {k0} {k1} {s} {r} (h : Kn (Y5 k0 k1) bigN s = some r) : LK env [0] 0 [0, 15, 16, 17] J9j (some (Qf k0 k1 s)) = some (Xo k0 k1 r) ∧ (Lst s.1.list.ops → Lst r.list.ops) := Jjy (P := fun s => Lst s.1.list.ops) (Q := fun r => Lst r.list.ops) (st := Qf k0 k1) (out := Xo k0 k1) (by
 clear h s r
 rintro ⟨s0, s1⟩ x h
 simp only [Y5] at h
 cases e8 : s0.list.ops with
 | nil =>
  try simp only [e8, Jx] at h
  rcases ifC h with ⟨c9, h⟩ | ⟨c9, h⟩
  ·obtain ⟨v12, h11, h⟩ := oS h
   have f10 := Kf (e := Jc) h11
   obtain ⟨v14, h13, h⟩ := oS h
   obtain ⟨f15, ⟨l17, e16⟩⟩ := Jhi rfl h13
   simp only [e16] at f15
   try simp only [e16] at h
   try simp only [J5, Ka, Jg, Jh, Jk, Jr, Ju, Jt, Js, Jv] at f15
   try simp only [Jg, Jh, Jk, Jr, Ju, Jt, Js, Jv] at f15
   have f18 : ∀ H : Heap, H 0 = some (.box 0 [.nils, encF Jq s0.r.Rows, I L s0.s.Pitch, I L s0.s.Height, I L s0.s.Walls, I L s0.s.Top, I L s0.s.Bottom, I L s0.s.Pattern, I L s0.s.Spacing, .bool s0.s.Support, I L s0.s.Reach, I L s0.s.Gap, I L s0.s.Brim, I L s0.s.Skirt, I L s0.s.Drop, I L s0.s.Feed, I L s0.s.Travel, I L s0.s.Retract, I L s0.s.MinTime, I L s0.s.MinFeed, I L s0.s.Nozzle, I L s0.s.Bed, I L s0.nozzle.X, I L s0.nozzle.Y]) → H 1000000 = none → Jcc (FC env) 39 H [.ptr 0 0 0, .agg [I L v12.Role, .bool v12.Closed, encF Jf v12.Cells]] = some (.tup [], upd (upd H 1000000 (some (.arr 0 6 52 (Jn Jw (FS.lst l17).l) false))) 0 (some (.box 0 [.arr 1000000 0 0 (FS.lst l17).l.length, encF Jq v14.r.Rows, I L v14.s.Pitch, I L v14.s.Height, I L v14.s.Walls, I L v14.s.Top, I L v14.s.Bottom, I L v14.s.Pattern, I L v14.s.Spacing, .bool v14.s.Support, I L v14.s.Reach, I L v14.s.Gap, I L v14.s.Brim, I L v14.s.Skirt, I L v14.s.Drop, I L v14.s.Feed, I L v14.s.Travel, I L v14.s.Retract, I L v14.s.MinTime, I L v14.s.MinFeed, I L v14.s.Nozzle, I L v14.s.Bed, I L v14.nozzle.X, I L v14.nozzle.Y]))) := by
     intro H q0 q1
     simp [*, q0, q1]
   cases h
   refine ⟨?_, fun k => ?_⟩
   ·simp only [Qf, e8]
    rw [Jm]
    try simp only [c9] at f15
    simp [*, -Q6]
   ·obtain ⟨_, k⟩ := k
    first | exact (Jja k).elim | exact (Jja (e8.symm.trans k)).elim
  ·cases h
   refine ⟨?_, fun k => ?_⟩
   ·simp only [Qf, Xo, e8]
    rw [Jm]
    simp [*]
   ·obtain ⟨_, k⟩ := k
    first | exact (Jja k).elim | exact (Jja (e8.symm.trans k)).elim
 | lst l7 =>
  try simp only [e8] at h
  rcases ifC h with ⟨c19, h⟩ | ⟨c19, h⟩
  ·obtain ⟨v22, h21, h⟩ := oS h
   have f20 := Kf (e := Jc) h21
   obtain ⟨v24, h23, h⟩ := oS h
   obtain ⟨f25, ⟨l27, e26⟩⟩ := Jhk rfl h23
   simp only [e26] at f25
   try simp only [e26] at h
   try simp only [J5, Ka, Jg, Jh, Jk, Jr, Ju, Jt, Js, Jv] at f25
   try simp only [Jg, Jh, Jk, Jr, Ju, Jt, Js, Jv] at f25
   have f28 : ∀ H : Heap, H 0 = some (.box 0 [.arr 1000000 0 0 (FS.lst l7).l.length, encF Jq s0.r.Rows, I L s0.s.Pitch, I L s0.s.Height, I L s0.s.Walls, I L s0.s.Top, I L s0.s.Bottom, I L s0.s.Pattern, I L s0.s.Spacing, .bool s0.s.Support, I L s0.s.Reach, I L s0.s.Gap, I L s0.s.Brim, I L s0.s.Skirt, I L s0.s.Drop, I L s0.s.Feed, I L s0.s.Travel, I L s0.s.Retract, I L s0.s.MinTime, I L s0.s.MinFeed, I L s0.s.Nozzle, I L s0.s.Bed, I L s0.nozzle.X, I L s0.nozzle.Y]) → H 1000000 = some (.arr 0 6 52 (Jn Jw (FS.lst l7).l) false) → Jcc (FC env) 39 H [.ptr 0 0 0, .agg [I L v22.Role, .bool v22.Closed, encF Jf v22.Cells]] = some (.tup [], upd (upd H 1000000 (some (.arr 1 6 52 (Jn Jw (FS.lst l27).l) false))) 0 (some (.box 0 [.arr 1000000 1 0 (FS.lst l27).l.length, encF Jq v24.r.Rows, I L v24.s.Pitch, I L v24.s.Height, I L v24.s.Walls, I L v24.s.Top, I L v24.s.Bottom, I L v24.s.Pattern, I L v24.s.Spacing, .bool v24.s.Support, I L v24.s.Reach, I L v24.s.Gap, I L v24.s.Brim, I L v24.s.Skirt, I L v24.s.Drop, I L v24.s.Feed, I L v24.s.Travel, I L v24.s.Retract, I L v24.s.MinTime, I L v24.s.MinFeed, I L v24.s.Nozzle, I L v24.s.Bed, I L v24.nozzle.X, I L v24.nozzle.Y]))) := by
     intro H q0 q1
     simp [*, q0, q1]
   cases h
   refine ⟨?_, fun k => ?_⟩
   ·simp only [Qf, e8]
    rw [Jm]
    try simp only [c19] at f25
    simp [*, -Q6]
   ·first | exact ⟨_, rfl⟩ | exact ⟨_, by assumption⟩
  ·cases h
   refine ⟨?_, fun k => ?_⟩
   ·simp only [Qf, Xo, e8]
    rw [Jm]
    simp [*]
   ·first | exact ⟨_, rfl⟩ | exact ⟨_, by assumption⟩) bigN s r h
def Y8 (p0 : Jo) (p1 : (FS Jb)) : Option Jo := (J6 (Jfc p0.nozzle p1) fun v3 => (J6 (Jdw p0.nozzle v3 8) fun v6 => (J6 (Kn (Y5 v6 (flen v6)) bigN ((⟨(⟨p0.list.ops⟩ : Km), p0.r, p0.s, p0.nozzle⟩ : Jo), 0)) fun v15 => some (⟨(⟨v15.list.ops⟩ : Km), v15.r, v15.s, v15.nozzle⟩ : Jo))))
theorem Jhe {p0 : Jo} {p1 : (FS Jb)} (e000 : p0.list.ops = FS.nil) {r} (h : Y8 p0 p1 = some r) : FC env 19 [.ptr 0 0 0, encF Jc p1] (some (hl [(0, .box 0 [.nils, encF Jq p0.r.Rows, I L p0.s.Pitch, I L p0.s.Height, I L p0.s.Walls, I L p0.s.Top, I L p0.s.Bottom, I L p0.s.Pattern, I L p0.s.Spacing, .bool p0.s.Support, I L p0.s.Reach, I L p0.s.Gap, I L p0.s.Brim, I L p0.s.Skirt, I L p0.s.Drop, I L p0.s.Feed, I L p0.s.Travel, I L p0.s.Retract, I L p0.s.MinTime, I L p0.s.MinFeed, I L p0.s.Nozzle, I L p0.s.Bed, I L p0.nozzle.X, I L p0.nozzle.Y])], 0)) = some (.tup [], (Jat r.list.ops (hl [(0, .box 0 [.nils, encF Jq r.r.Rows, I L r.s.Pitch, I L r.s.Height, I L r.s.Walls, I L r.s.Top, I L r.s.Bottom, I L r.s.Pattern, I L r.s.Spacing, .bool r.s.Support, I L r.s.Reach, I L r.s.Gap, I L r.s.Brim, I L r.s.Skirt, I L r.s.Drop, I L r.s.Feed, I L r.s.Travel, I L r.s.Retract, I L r.s.MinTime, I L r.s.MinFeed, I L r.s.Nozzle, I L r.s.Bed, I L r.nozzle.X, I L r.nozzle.Y])])
  (fun l0 => hl [(0, .box 0 [.arr 1000000 0 0 l0.l.length, encF Jq r.r.Rows, I L r.s.Pitch, I L r.s.Height, I L r.s.Walls, I L r.s.Top, I L r.s.Bottom, I L r.s.Pattern, I L r.s.Spacing, .bool r.s.Support, I L r.s.Reach, I L r.s.Gap, I L r.s.Brim, I L r.s.Skirt, I L r.s.Drop, I L r.s.Feed, I L r.s.Travel, I L r.s.Retract, I L r.s.MinTime, I L r.s.MinFeed, I L r.s.Nozzle, I L r.s.Bed, I L r.nozzle.X, I L r.nozzle.Y]), (1000000, .arr 0 6 52 (Jn Jw l0.l) false)]))) := by
 unfold Y8 at h
 simp only [e000, Jx] at h
 obtain ⟨v3, h2, h⟩ := oS h
 have f1 := Jj4 h2
 obtain ⟨v6, h5, h⟩ := oS h
 have f4 := Jiy h5
 obtain ⟨v30, h29, h⟩ := oS h
 obtain ⟨f31, f31k⟩ := Jd1 h29
 simp only [Qf, Xo, J5, Ka] at f31
 cases e34 : v30.list.ops with
 | nil =>
  try simp only [e34, Jx] at h
  simp only [e34, Jx, Jg, Jh] at f31
  cases h
  refine Jav (lf := lf19) rfl rfl rfl ?_
  simp only [lf19, lc19]
  simp [*]
 | lst l33 =>
  try simp only [e34] at h
  simp only [e34, Jx, Jg, Jh] at f31
  cases h
  refine Jav (lf := lf19) rfl rfl rfl ?_
  simp only [lf19, lc19]
  simp [*]
theorem Jhh {p0 : Jo} {p1 : (FS Jb)} {le000 : List J1} (e000 : p0.list.ops = FS.lst le000) {r} (h : Y8 p0 p1 = some r) : FC env 19 [.ptr 0 0 0, encF Jc p1] (some (hl [(0, .box 0 [.arr 1000000 0 0 p0.list.ops.l.length, encF Jq p0.r.Rows, I L p0.s.Pitch, I L p0.s.Height, I L p0.s.Walls, I L p0.s.Top, I L p0.s.Bottom, I L p0.s.Pattern, I L p0.s.Spacing, .bool p0.s.Support, I L p0.s.Reach, I L p0.s.Gap, I L p0.s.Brim, I L p0.s.Skirt, I L p0.s.Drop, I L p0.s.Feed, I L p0.s.Travel, I L p0.s.Retract, I L p0.s.MinTime, I L p0.s.MinFeed, I L p0.s.Nozzle, I L p0.s.Bed, I L p0.nozzle.X, I L p0.nozzle.Y]), (1000000, .arr 0 6 52 (Jn Jw p0.list.ops.l) false)], 0)) = some (.tup [], hl [(0, .box 0 [.arr 1000000 0 0 r.list.ops.l.length, encF Jq r.r.Rows, I L r.s.Pitch, I L r.s.Height, I L r.s.Walls, I L r.s.Top, I L r.s.Bottom, I L r.s.Pattern, I L r.s.Spacing, .bool r.s.Support, I L r.s.Reach, I L r.s.Gap, I L r.s.Brim, I L r.s.Skirt, I L r.s.Drop, I L r.s.Feed, I L r.s.Travel, I L r.s.Retract, I L r.s.MinTime, I L r.s.MinFeed, I L r.s.Nozzle, I L r.s.Bed, I L r.nozzle.X, I L r.nozzle.Y]), (1000000, .arr 0 6 52 (Jn Jw r.list.ops.l) false)]) ∧ ∃ l, r.list.ops = FS.lst l := by
 unfold Y8 at h
 simp only [e000, Jx] at h
 obtain ⟨v3, h2, h⟩ := oS h
 have f1 := Jj4 h2
 obtain ⟨v6, h5, h⟩ := oS h
 have f4 := Jiy h5
 obtain ⟨v8, h7, h⟩ := oS h
 obtain ⟨f9, f9k⟩ := Jd1 h7
 simp only [Qf, Xo, J5, Ka] at f9
 cases e12 : v8.list.ops with
 | nil =>
  obtain ⟨_, k⟩ := f9k ⟨_, rfl⟩
  exact (Jja (e12.symm.trans k)).elim
 | lst l11 =>
  try simp only [e12] at h
  simp only [e12, Jx, Jg, Jh] at f9
  cases h
  refine ⟨?_, by first | exact ⟨_, rfl⟩ | exact ⟨_, by assumption⟩⟩
  refine Jav (lf := lf19) rfl rfl rfl ?_
  simp only [lf19, lc19]
  simp [*]
attribute [simp] c71_0 c71_1 c71_2 c71_3
def Yo (p0 : (FS J1)) : Option (FS J1) := (J6 (Jt1 p0) fun v3 => (if v3 = true then some (FS.nil : (FS J1))
 else (if fits 64 ((flen (flit ([] : List J1))) + (flen p0)) = true then some (fapp (flit ([] : List J1)) p0) else none)))
theorem Jdx {p0} {r} (h : Yo p0 = some r) : FC env 71 [encF Jw p0] (some (hl [], 0)) = (Jat r (some (.nils, hl []))
  (fun l0 => (some (.arr 700000 0 0 l0.l.length, hl [(700000, .arr 0 6 52 (Jn Jw l0.l) false)])))) := by
 unfold Yo at h
 obtain ⟨v3, h2, h⟩ := oS h
 have f1 := J2c (e := Jw) h2
 rcases ifC h with ⟨c4, h⟩ | ⟨c4, h⟩
 ·cases h
  refine Jav (lf := lf71) rfl rfl rfl ?_
  simp only [lf71, lc71]
  simp [*]
  all_goals first | rfl | exact ⟨rfl, rfl⟩
 ·have f5 : ∀ (H : Heap) (g0 : Nat), bslV H g0 0 6 52 (some []) = some (.arr g0 (Kj H g0) 0 (flit ([] : List J1)).l.length, upd H g0 (some (.arr (Kj H g0) 6 52 (Jn Jw (flit ([] : List J1)).l) false))) := fun H g0 => rfl
  obtain ⟨h7, h⟩ := ifS h
  have f6 := fun g0 H => @Jar _ _ Jw _ (flit ([] : List J1)) p0 64 h7 (by decide) g0 H 5 0 52
  cases h
  refine Jav (lf := lf71) rfl rfl rfl ?_
  simp only [lf71, lc71]
  simp [*]
  all_goals first | rfl | exact ⟨rfl, rfl⟩
attribute [simp] c72_0 c72_1 c72_2 c72_3
def Yx (p0 : (FS Ja)) : Option (FS Ja) := (J6 (Jt1 p0) fun v3 => (if v3 = true then some (FS.nil : (FS Ja))
 else (if fits 16 ((flen (flit ([] : List Ja))) + (flen p0)) = true then some (fapp (flit ([] : List Ja)) p0) else none)))
theorem Jfk {p0} {r} (h : Yx p0 = some r) : FC env 72 [encF Jf p0] none = some (encF Jf r, fun _ => none) := by
 unfold Yx at h
 obtain ⟨v3, h2, h⟩ := oS h
 have f1 := J2c (e := Jf) h2
 rcases ifC h with ⟨c4, h⟩ | ⟨c4, h⟩
 ·cases h
  refine J0 (lf := lf72) rfl rfl rfl ?_
  simp only [lf72, lc72]
  simp [*]
 ·have f5 : ∀ (H : Heap) (g0 : Nat), bslV H g0 0 2 27 (some []) = some (.arr g0 (Kj H g0) 0 (flit ([] : List Ja)).l.length, upd H g0 (some (.arr (Kj H g0) 2 27 (Jn Jf (flit ([] : List Ja)).l) false))) := fun H g0 => rfl
  obtain ⟨h7, h⟩ := ifS h
  have f6 := fun g0 H => @Jar _ _ Jf _ (flit ([] : List Ja)) p0 16 h7 (by decide) g0 H 5 0 27
  cases h
  refine J0 (lf := lf72) rfl rfl rfl ?_
  simp only [lf72, lc72]
  simp [*, Kq (e := Jf) (el := 27) (fz := false)]
attribute [simp] c40_0 c40_1 c40_2 c40_3 c40_4 c40_5 c40_6 c40_8
theorem c40_L0_u : EC Γ ps 0 J8w σ = EC Γ ps 0 (.seq (.reg false c40_3) (.seq (.cond (.t 10) .skip (.seq (.trim [3]) (.exit 0))) (.seq (.blk 1 (.seq (.reg false c40_4) (.reg false c40_5))) (.reg false c40_6)))) σ := rfl
attribute [simp ↓] c40_L0_u
def Jda (k0 : Int) (s : ((FS J1) × Int)) : Option (LR ((FS J1) × Int) (FS J1)) := match s with
 | (s0, s1) => (if (ilt s1 k0) = true then (J6 (fget s0 s1) fun v7 => (J6 (Yx v7.Cells) fun v11 => some (.nx ((fset s0 s1 (⟨v7.Kind, v7.Role, v7.Layer, v7.Z, v7.Speed, v11⟩ : J1)), (iadd L s1 1)))))
 else some (.dn s0))
def Jay (k0 : Int) (s : ((FS J1) × Int)) : St := match s with
 | (s0, s1) => (Jat s0 (⟨fr [(3, .nils), (8, I L k0), (9, I L s1)], hl []⟩)
  (fun l0 => ⟨fr [(3, .arr 3 0 0 l0.l.length), (8, I L k0), (9, I L s1)], hl [(3, .arr 0 6 52 (Jn Jw l0.l) false)]⟩))
def Jbq (k0 : Int) (x : (FS J1)) : LE × St := (Jat x (.exit 0, ⟨fr [(3, .nils)], hl []⟩)
  (fun l0 => (.exit 0, ⟨fr [(3, .arr 3 0 0 l0.l.length)], hl [(3, .arr 0 6 52 (Jn Jw l0.l) false)]⟩)))
theorem Jie {k0} {s} {r} (h : Kn (Jda k0) bigN s = some r) : LK env [] 0 [3, 8, 9] J8w (some (Jay k0 s)) = some (Jbq k0 r) := Kh (st := Jay k0) (out := Jbq k0) (by
 clear h s r
 rintro ⟨s0, s1⟩ x h
 simp only [Jda] at h
 cases e8 : s0 with
 | nil =>
  try simp only [e8, Jx] at h
  rcases ifC h with ⟨c9, h⟩ | ⟨c9, h⟩
  ·exact absurd h (by simp [Jez])
  ·cases h
   simp only [Jay, Jbq, e8]
   rw [Jm]
   simp [*]
 | lst l7 =>
  try simp only [e8] at h
  rcases ifC h with ⟨c10, h⟩ | ⟨c10, h⟩
  ·obtain ⟨v14, h13, h⟩ := oS h
   have f11 := Xm (w := 6) h13
   have f12 := h13
   have f15 := (Jpa (e := Jw) f12 false 5 1 (by decide) (by decide))
   simp only [Jw] at f15
   obtain ⟨v18, h17, h⟩ := oS h
   have f16 := Jfk h17
   have f21 := @Js9 _ _ Jw _ (FS.lst l7) s1 v14 (⟨v14.Kind, v14.Role, v14.Layer, v14.Z, v14.Speed, v18⟩ : J1) f12 5 [encF Jf v18] (by simp) (by simp [Jw])
   have f22 := in_row (w := 6) f12 5 1 (by decide)
   try simp at f22
   cases h
   simp only [Jay, e8]
   rw [Jm]
   simp [*]
  ·cases h
   simp only [Jay, Jbq, e8]
   rw [Jm]
   simp [*]) bigN s r h
def Jft (p0 : (FS J1)) : Option (FS J1) := (J6 (Yo p0) fun v2 => (J6 (Kn (Jda (flen v2)) bigN (v2, 0)) fun v16 => some v16))
theorem Jo0 {p0} {r} (h : Jft p0 = some r) : FC env 40 [encF Jw p0] none = some (encF Jw r, fun _ => none) := by
 unfold Jft at h
 obtain ⟨v2, h1, h⟩ := oS h
 have f3 := Jdx h1
 cases e5 : v2 with
 | nil =>
  try simp only [e5, Jx] at h
  simp only [e5, Jx, Jg, Jh] at f3
  have f6 : ∀ H : Heap, Jcc (FC env) 71 H [encF Jw p0] = some (.nils, H) := by
    intro H 
    simp [*]
  obtain ⟨v24, h23, h⟩ := oS h
  have f25 := Jie h23
  simp only [Jay, Jbq, J5, Ka] at f25
  cases e28 : v24 with
  | nil =>
   try simp only [e28, Jx] at h
   simp only [e28, Jx, Jg, Jh] at f25
   cases h
   refine J0 (lf := lf40) rfl rfl rfl ?_
   simp only [lf40, lc40]
   simp [*, -Q6]
  | lst l27 =>
   try simp only [e28] at h
   simp only [e28, Jx, Jg, Jh] at f25
   cases h
   refine J0 (lf := lf40) rfl rfl rfl ?_
   simp only [lf40, lc40]
   simp [*, -Q6, Kq (e := Jw) (el := 52) (fz := false)]
 | lst l4 =>
  try simp only [e5] at h
  simp only [e5, Jx, Jg, Jh] at f3
  have f29 : ∀ H : Heap, H 701071000 = none → Jcc (FC env) 71 H [encF Jw p0] = some (.arr 701071000 0 0 (FS.lst l4).l.length, upd H 701071000 (some (.arr 0 6 52 (Jn Jw (FS.lst l4).l) false))) := by
    intro H q0
    simp [*, q0]
  obtain ⟨v31, h30, h⟩ := oS h
  have f32 := Jie h30
  simp only [Jay, Jbq, J5, Ka] at f32
  cases e35 : v31 with
  | nil =>
   try simp only [e35, Jx] at h
   simp only [e35, Jx, Jg, Jh] at f32
   cases h
   refine J0 (lf := lf40) rfl rfl rfl ?_
   simp only [lf40, lc40]
   simp [*, -Q6]
  | lst l34 =>
   try simp only [e35] at h
   simp only [e35, Jx, Jg, Jh] at f32
   cases h
   refine J0 (lf := lf40) rfl rfl rfl ?_
   simp only [lf40, lc40]
   simp [*, -Q6, Kq (e := Jw) (el := 52) (fz := false)]
attribute [simp] c43_0 c43_1 c43_2 c43_3 c43_4 c43_5 c43_6 c43_7 c43_9
theorem c43_L0_u : EC Γ ps 0 J4j σ = EC Γ ps 0 (.seq (.reg false c43_3) (.seq (.cond (.t 13) .skip (.seq (.trim [5]) (.exit 0))) (.seq (.blk 1 (.seq (.reg false c43_4) (.seq (.reg false c43_5) (.cond (.t 19) (.reg false c43_6) .skip)))) (.reg false c43_7)))) σ := rfl
attribute [simp ↓] c43_L0_u
def Jb7 (k0 : Int) (k1 : Int) (s : ((FS J1) × Int)) : Option (LR ((FS J1) × Int) (FS J1)) := match s with
 | (s0, s1) => (if (ilt s1 k1) = true then (J6 (fget s0 s1) fun v7 => (if (ieq v7.Kind 3) = true then some (.nx ((fset s0 s1 (⟨v7.Kind, v7.Role, v7.Layer, v7.Z, (imin v7.Speed k0), v7.Cells⟩ : J1)), (iadd L s1 1)))
 else some (.nx (s0, (iadd L s1 1)))))
 else some (.dn s0))
def jl (k0 : Int) (k1 : Int) (s : ((FS J1) × Int)) : St := match s with
 | (s0, s1) => (Jat s0 (⟨fr [(1, I L k0), (5, .nils), (10, .nils), (11, I L k1), (12, I L s1)], hl []⟩)
  (fun l0 => ⟨fr [(1, I L k0), (5, .arr 5 0 0 l0.l.length), (10, .arr 5 0 0 l0.l.length), (11, I L k1), (12, I L s1)], hl [(5, .arr 0 6 52 (Jn Jw l0.l) false)]⟩))
def Ja5 (k0 : Int) (k1 : Int) (x : (FS J1)) : LE × St := (Jat x (.exit 0, ⟨fr [(5, .nils)], hl []⟩)
  (fun l0 => (.exit 0, ⟨fr [(5, .arr 5 0 0 l0.l.length)], hl [(5, .arr 0 6 52 (Jn Jw l0.l) false)]⟩)))
theorem Jg3 {k0} {k1} {s} {r} (h : Kn (Jb7 k0 k1) bigN s = some r) : LK env [] 0 [1, 5, 10, 11, 12] J4j (some (jl k0 k1 s)) = some (Ja5 k0 k1 r) := Kh (st := jl k0 k1) (out := Ja5 k0 k1) (by
 clear h s r
 rintro ⟨s0, s1⟩ x h
 simp only [Jb7] at h
 cases e8 : s0 with
 | nil =>
  try simp only [e8, Jx] at h
  rcases ifC h with ⟨c9, h⟩ | ⟨c9, h⟩
  ·exact absurd h (by simp [Jez])
  ·cases h
   simp only [jl, Ja5, e8]
   rw [Jm]
   simp [*]
 | lst l7 =>
  try simp only [e8] at h
  rcases ifC h with ⟨c10, h⟩ | ⟨c10, h⟩
  ·obtain ⟨v14, h13, h⟩ := oS h
   have f11 := Xm (w := 6) h13
   have f12 := h13
   have f15 := (Zb (e := Jw) f12 true 6 (by decide) (by decide))
   simp only [Jw] at f15
   rcases ifC h with ⟨c16, h⟩ | ⟨c16, h⟩
   ·have f19 := @Js9 _ _ Jw _ (FS.lst l7) s1 v14 (⟨v14.Kind, v14.Role, v14.Layer, v14.Z, (imin v14.Speed k0), v14.Cells⟩ : J1) f12 4 [I L (imin v14.Speed k0)] (by simp) (by simp [Jw])
    have f20 := in_row (w := 6) f12 4 1 (by decide)
    try simp at f20
    cases h
    simp only [jl, e8]
    rw [Jm]
    simp [*]
   ·cases h
    simp only [jl, e8]
    rw [Jm]
    simp [*]
  ·cases h
   simp only [jl, Ja5, e8]
   rw [Jm]
   simp [*]) bigN s r h
def Jd9 (p0 : (FS J1)) (p1 : Int) : Option (FS J1) := (J6 (Yo p0) fun v2 => (J6 (Kn (Jb7 p1 (flen v2)) bigN (v2, 0)) fun v14 => some v14))
theorem Jjl {p0} {p1} {r} (h : Jd9 p0 p1 = some r) : FC env 43 [encF Jw p0, I L p1] none = some (encF Jw r, fun _ => none) := by
 unfold Jd9 at h
 obtain ⟨v2, h1, h⟩ := oS h
 have f3 := Jdx h1
 cases e5 : v2 with
 | nil =>
  try simp only [e5, Jx] at h
  simp only [e5, Jx, Jg, Jh] at f3
  have f6 : ∀ H : Heap, Jcc (FC env) 71 H [encF Jw p0] = some (.nils, H) := by
    intro H 
    simp [*]
  obtain ⟨v22, h21, h⟩ := oS h
  have f23 := Jg3 h21
  simp only [jl, Ja5, J5, Ka] at f23
  cases e26 : v22 with
  | nil =>
   try simp only [e26, Jx] at h
   simp only [e26, Jx, Jg, Jh] at f23
   cases h
   refine J0 (lf := lf43) rfl rfl rfl ?_
   simp only [lf43, lc43]
   simp [*, -Q6]
  | lst l25 =>
   try simp only [e26] at h
   simp only [e26, Jx, Jg, Jh] at f23
   cases h
   refine J0 (lf := lf43) rfl rfl rfl ?_
   simp only [lf43, lc43]
   simp [*, -Q6, Kq (e := Jw) (el := 52) (fz := false)]
 | lst l4 =>
  try simp only [e5] at h
  simp only [e5, Jx, Jg, Jh] at f3
  have f27 : ∀ H : Heap, H 701071000 = none → Jcc (FC env) 71 H [encF Jw p0] = some (.arr 701071000 0 0 (FS.lst l4).l.length, upd H 701071000 (some (.arr 0 6 52 (Jn Jw (FS.lst l4).l) false))) := by
    intro H q0
    simp [*, q0]
  obtain ⟨v29, h28, h⟩ := oS h
  have f30 := Jg3 h28
  simp only [jl, Ja5, J5, Ka] at f30
  cases e33 : v29 with
  | nil =>
   try simp only [e33, Jx] at h
   simp only [e33, Jx, Jg, Jh] at f30
   cases h
   refine J0 (lf := lf43) rfl rfl rfl ?_
   simp only [lf43, lc43]
   simp [*, -Q6]
  | lst l32 =>
   try simp only [e33] at h
   simp only [e33, Jx, Jg, Jh] at f30
   cases h
   refine J0 (lf := lf43) rfl rfl rfl ?_
   simp only [lf43, lc43]
   simp [*, -Q6, Kq (e := Jw) (el := 52) (fz := false)]
attribute [simp] c73_0 c73_1 c73_2 c73_3 c73_4 c73_5 c73_6
def Jcw (p0 : J1) : Option Int := (if (bor (band (ine p0.Kind 2) (ine p0.Kind 3)) (ile p0.Speed 0)) = true then some 0
 else (if ieq p0.Speed 0 = true then none else (if (igt (irem (imul L (flen p0.Cells) 1000) p0.Speed) 0) = true then (if ieq p0.Speed 0 = true then none else some (iadd L (iquo L (imul L (flen p0.Cells) 1000) p0.Speed) 1))
 else (if ieq p0.Speed 0 = true then none else some (iquo L (imul L (flen p0.Cells) 1000) p0.Speed)))))
theorem Jnb {p0} {r} (h : Jcw p0 = some r) : FC env 73 [.agg [I L p0.Kind, I L p0.Role, I L p0.Layer, I L p0.Z, I L p0.Speed, encF Jf p0.Cells]] none = some (I L r, fun _ => none) := by
 unfold Jcw at h
 rcases ifC h with ⟨c1, h⟩ | ⟨c1, h⟩
 ·cases h
  refine J0 (lf := lf73) rfl rfl rfl ?_
  simp only [lf73, lc73]
  rcases tof (ine p0.Kind 2) with a2 | a2 <;> rcases tof (ine p0.Kind 3) with a3 | a3 <;> rcases tof (ile p0.Speed 0) with a4 | a4 <;> (try (simp [a2, a3, a4] at c1; done)) <;> simp [*]
 ·obtain ⟨h5, h⟩ := ifN h
  rcases ifC h with ⟨c6, h⟩ | ⟨c6, h⟩
  ·obtain ⟨h7, h⟩ := ifN h
   cases h
   refine J0 (lf := lf73) rfl rfl rfl ?_
   simp only [lf73, lc73]
   rcases tof (ine p0.Kind 2) with a8 | a8 <;> rcases tof (ine p0.Kind 3) with a9 | a9 <;> rcases tof (ile p0.Speed 0) with a10 | a10 <;> (try (simp [c6, a8, a9, a10] at c1; done)) <;> simp [*]
  ·obtain ⟨h11, h⟩ := ifN h
   cases h
   refine J0 (lf := lf73) rfl rfl rfl ?_
   simp only [lf73, lc73]
   rcases tof (ine p0.Kind 2) with a12 | a12 <;> rcases tof (ine p0.Kind 3) with a13 | a13 <;> rcases tof (ile p0.Speed 0) with a14 | a14 <;> (try (simp [c6, a12, a13, a14] at c1; done)) <;> simp [*]
attribute [simp] c42_0 c42_1 c42_2 c42_3 c42_4 c42_5 c42_6 c42_8
theorem c42_L0_u : EC Γ ps 0 J3a σ = EC Γ ps 0 (.seq (.reg false c42_3) (.seq (.cond (.t 9) .skip (.seq (.trim [3]) (.exit 0))) (.seq (.blk 1 (.seq (.reg false c42_4) (.reg false c42_5))) (.reg false c42_6)))) σ := rfl
attribute [simp ↓] c42_L0_u
def Jcb (k0 : (FS J1)) (k1 : Int) (s : (Int × Int)) : Option (LR (Int × Int) Int) := match s with
 | (s0, s1) => (if (ilt s1 k1) = true then (J6 (fget k0 s1) fun v4 => (J6 (Jcw v4) fun v7 => some (.nx ((iadd L s0 v7), (iadd L s1 1)))))
 else some (.dn s0))
def Jdt (k0 : (FS J1)) (k1 : Int) (s : (Int × Int)) : St := match s with
 | (s0, s1) => ⟨fr [(3, I L s0), (6, encF Jw k0), (7, I L k1), (8, I L s1)], hl []⟩
def Jej (k0 : (FS J1)) (k1 : Int) (x : Int) : LE × St := (.exit 0, ⟨fr [(3, I L x)], hl []⟩)
theorem Jn2 {k0} {k1} {s} {r} (h : Kn (Jcb k0 k1) bigN s = some r) : LK env [] 0 [3, 6, 7, 8] J3a (some (Jdt k0 k1 s)) = some (Jej k0 k1 r) := Kh (st := Jdt k0 k1) (out := Jej k0 k1) (by
 clear h s r
 rintro ⟨s0, s1⟩ x h
 simp only [Jcb] at h
 rcases ifC h with ⟨c1, h⟩ | ⟨c1, h⟩
 ·obtain ⟨v4, h3, h⟩ := oS h
  have f2 := Kf (e := Jw) h3
  obtain ⟨v7, h6, h⟩ := oS h
  have f5 := Jnb h6
  cases h
  simp only [Jdt]
  rw [Jm]
  simp [*]
 ·cases h
  simp only [Jdt, Jej]
  rw [Jm]
  simp [*]) bigN s r h
def Jfl (p0 : (FS J1)) : Option Int := (J6 (Kn (Jcb p0 (flen p0)) bigN (0, 0)) fun v9 => some v9)
theorem Jq6 {p0} {r} (h : Jfl p0 = some r) : FC env 42 [encF Jw p0] none = some (I L r, fun _ => none) := by
 unfold Jfl at h
 obtain ⟨v9, h8, h⟩ := oS h
 have f10 := Jn2 h8
 simp only [Jdt, Jej, J5, Ka] at f10
 try simp only [Jg, Jh, Jk, Jr, Ju, Jt, Js, Jv] at f10
 cases h
 refine J0 (lf := lf42) rfl rfl rfl ?_
 simp only [lf42, lc42]
 simp [*]
attribute [simp] c41_0 c41_1
def Jd3 (p0 : Int) (p1 : (FS J1)) (p2 : Jy) : Option Bool := (J6 (Jd9 p1 p0) fun v3 => (J6 (Jfl v3) fun v6 => some (ige v6 p2.MinTime)))
theorem Jov {p0} {p1} {p2} {r} (h : Jd3 p0 p1 p2 = some r) : FC env 41 [I L p0, .rptr [encF Jw p1], .rptr [I L p2.Pitch, I L p2.Height, I L p2.Walls, I L p2.Top, I L p2.Bottom, I L p2.Pattern, I L p2.Spacing, .bool p2.Support, I L p2.Reach, I L p2.Gap, I L p2.Brim, I L p2.Skirt, I L p2.Drop, I L p2.Feed, I L p2.Travel, I L p2.Retract, I L p2.MinTime, I L p2.MinFeed, I L p2.Nozzle, I L p2.Bed]] none = some (.bool r, fun _ => none) := by
 unfold Jd3 at h
 obtain ⟨v3, h2, h⟩ := oS h
 have f1 := Jjl h2
 obtain ⟨v6, h5, h⟩ := oS h
 have f4 := Jq6 h5
 cases h
 refine J0 (lf := lf41) rfl rfl rfl ?_
 simp only [lf41, lc41]
 simp [*]
attribute [simp] c20_0 c20_1 c20_2 c20_3 c20_4 c20_5 c20_6 c20_7 c20_8 c20_9 J7g c20_12
theorem c20_L0_u : EC Γ ps 0 J1x σ = EC Γ ps 0 (.seq (.seq (.reg false c20_6) (.cond (.t 30) .skip (.seq (.trim [2, 6]) (.exit 0)))) (.blk 1 (.seq (.reg false c20_7) (.seq (.reg false c20_8) (.cond (.t 38) (.reg false c20_9) (.reg false J7g)))))) σ := rfl
attribute [simp ↓] c20_L0_u
def Jce (k0 : (FS J1)) (k1 : Jy) (s : (Int × Int)) : Option (LR (Int × Int) Int) := match s with
 | (s0, s1) => (if (ilt s0 s1) = true then (J6 (Jd3 (iquo L (iadd L (iadd L s0 s1) 1) 2) k0 k1) fun v11 => (if v11 = true then some (.nx ((iquo L (iadd L (iadd L s0 s1) 1) 2), s1))
 else some (.nx (s0, (isub L (iquo L (iadd L (iadd L s0 s1) 1) 2) 1)))))
 else some (.dn s0))
def Jcu (k0 : (FS J1)) (k1 : Jy) (s : (Int × Int)) : St := match s with
 | (s0, s1) => ⟨fr [(2, .ptr 2 0 0), (5, .fn 41 [.ptr 2 0 0, .ptr 3 0 0]), (6, I L s0), (7, I L s1)], hl [(2, .box 0 [encF Jw k0]), (3, .box 0 [I L k1.Pitch, I L k1.Height, I L k1.Walls, I L k1.Top, I L k1.Bottom, I L k1.Pattern, I L k1.Spacing, .bool k1.Support, I L k1.Reach, I L k1.Gap, I L k1.Brim, I L k1.Skirt, I L k1.Drop, I L k1.Feed, I L k1.Travel, I L k1.Retract, I L k1.MinTime, I L k1.MinFeed, I L k1.Nozzle, I L k1.Bed])]⟩
def Jed (k0 : (FS J1)) (k1 : Jy) (x : Int) : LE × St := (.exit 0, ⟨fr [(2, .ptr 2 0 0), (6, I L x)], hl [(2, .box 0 [encF Jw k0])]⟩)
theorem Jn5 {k0} {k1} {s} {r} (h : Kn (Jce k0 k1) bigN s = some r) : LK env [] 0 [2, 5, 6, 7] J1x (some (Jcu k0 k1 s)) = some (Jed k0 k1 r) := Kh (st := Jcu k0 k1) (out := Jed k0 k1) (by
 clear h s r
 rintro ⟨s0, s1⟩ x h
 simp only [Jce] at h
 rcases ifC h with ⟨c9, h⟩ | ⟨c9, h⟩
 ·obtain ⟨v12, h11, h⟩ := oS h
  have f10 := Jov h11
  rcases ifC h with ⟨c13, h⟩ | ⟨c13, h⟩
  ·cases h
   simp only [Jcu]
   rw [Jm]
   try simp only [c9, c13] at f10
   simp [*, (show ieq 2 0 = false from rfl)]
  ·cases h
   simp only [Jcu]
   rw [Jm]
   try simp only [c9, c13] at f10
   simp [*, (show ieq 2 0 = false from rfl)]
 ·cases h
  simp only [Jcu, Jed]
  rw [Jm]
  simp [*]) bigN s r h
def Jcl (p0 : (FS J1)) (p1 : Jy) : Option (FS J1) := (J6 (Jft p0) fun v3 => (if (bnot (Q0 p1)) = true then some v3
 else (if ieq p1.Pitch 0 = true then none else (if ieq p1.Pitch 0 = true then none else (J6 (Kn (Jce v3 p1) bigN ((imax (iquo L p1.MinFeed p1.Pitch) 1), (imax (iquo L p1.Feed p1.Pitch) 1))) fun v14 => (J6 (Jd9 v3 v14) fun v18 => some v18))))))
theorem Jl5 {p0} {p1} {r} (h : Jcl p0 p1 = some r) : FC env 20 [encF Jw p0, .agg [I L p1.Pitch, I L p1.Height, I L p1.Walls, I L p1.Top, I L p1.Bottom, I L p1.Pattern, I L p1.Spacing, .bool p1.Support, I L p1.Reach, I L p1.Gap, I L p1.Brim, I L p1.Skirt, I L p1.Drop, I L p1.Feed, I L p1.Travel, I L p1.Retract, I L p1.MinTime, I L p1.MinFeed, I L p1.Nozzle, I L p1.Bed]] none = some (encF Jw r, fun _ => none) := by
 unfold Jcl at h
 obtain ⟨v3, h2, h⟩ := oS h
 have f1 := Jo0 h2
 have f4 := Jlf p1
 rcases ifC h with ⟨c5, h⟩ | ⟨c5, h⟩
 ·cases h
  refine J0 (lf := lf20) rfl rfl rfl ?_
  simp only [lf20, lc20]
  rcases tof (Q0 p1) with a6 | a6
  ·simp [a6] at c5
  ·simp [*]
 ·obtain ⟨h7, h⟩ := ifN h
  obtain ⟨h8, h⟩ := ifN h
  obtain ⟨v15, h14, h⟩ := oS h
  have f16 := Jn5 h14
  simp only [Jcu, Jed, J5, Ka] at f16
  try simp only [Jg, Jh, Jk, Jr, Ju, Jt, Js, Jv] at f16
  obtain ⟨v20, h19, h⟩ := oS h
  have f18 := Jjl h19
  cases h
  refine J0 (lf := lf20) rfl rfl rfl ?_
  simp only [lf20, lc20]
  rcases tof (Q0 p1) with a21 | a21
  ·try simp only [a21] at f16
   simp [*]
  ·simp [a21] at c5
attribute [simp] c6_0 c6_1 c6_2 c6_3 c6_4 c6_5 c6_6 c6_7 c6_8 c6_10 c6_11 c6_12 c6_13 c6_14 c6_15 c6_16 c6_17 c6_18 c6_19 c6_20 c6_22 c6_23 c6_25
theorem c6_L0_u : EC Γ ps 0 c6_L0 σ = EC Γ ps 0 (.seq (.reg false c6_4) (.seq (.cond (.t 44) .skip (.seq (.trim [0, 2, 6, 8, 9, 11]) (.exit 0))) (.seq (.blk 1 (.seq (.reg false c6_5) (.seq (.reg false c6_6) (.cond (.t 49) (.seq (.reg false c6_7) (.seq (.trim [10, 11, 12]) .ret)) .skip)))) (.reg false c6_8)))) σ := rfl
theorem c6_L1_u : EC Γ ps 0 c6_L1 σ = EC Γ ps 0 (.seq (.seq (.reg true c6_19) (.cond (.t 99) .skip (.seq (.trim [0, 9, 11, 15, 17, 18]) (.exit 4)))) (.blk 5 (.reg false c6_20))) σ := rfl
theorem c6_L2_u : EC Γ ps 0 c6_L2 σ = EC Γ ps 0 (.seq (.seq (.reg false c6_17) (.cond (.t 80) .skip (.seq (.trim [9, 11, 15]) (.exit 2)))) (.blk 3 (.seq (.reg false c6_18) (.seq (.blk 4 (.loop [0, 9, 11, 15, 17, 18] c6_L1)) (.seq (.reg false c6_22) (.reg false c6_23)))))) σ := rfl
attribute [simp ↓] c6_L0_u c6_L1_u c6_L2_u
def Z3 (k0 : (FS Jb)) (k1 : Int) (k2 : Jl) (k3 : Ja) (k4 : Jy) (k5 : (FS Jb)) (k6 : Int) (s : (Ja × Int)) : Option (LR (Ja × Int) ((Ja × (FS J1) × Int) ⊕ Ja)) := match s with
 | (s0, s1) => (if (ilt s1 k6) = true then (J6 (fget k5 s1) fun v10 => (J6 (Jcr v10) fun v13 => (if (bnot v13) = true then some (.dn (.inl ((⟨0, 0⟩ : Ja), (FS.nil : (FS J1)), 1)))
 else some (.nx (s0, (iadd L s1 1))))))
 else some (.dn (.inr s0)))
def jo (k0 : (FS Jb)) (k1 : Int) (k2 : Jl) (k3 : Ja) (k4 : Jy) (k5 : (FS Jb)) (k6 : Int) (s : (Ja × Int)) : St := match s with
 | (s0, s1) => ⟨fr [(0, encF Jc k0), (2, I L k1), (6, .ptr 6 0 0), (8, .ptr 8 0 0), (9, .ptr 9 0 0), (11, .ptr 11 0 0), (41, encF Jc k5), (42, I L k6), (43, I L s1)], hl [(6, .box 0 [encF Jq k2.Rows]), (8, .box 0 [I L k3.X, I L k3.Y]), (9, .box 0 [I L k4.Pitch, I L k4.Height, I L k4.Walls, I L k4.Top, I L k4.Bottom, I L k4.Pattern, I L k4.Spacing, .bool k4.Support, I L k4.Reach, I L k4.Gap, I L k4.Brim, I L k4.Skirt, I L k4.Drop, I L k4.Feed, I L k4.Travel, I L k4.Retract, I L k4.MinTime, I L k4.MinFeed, I L k4.Nozzle, I L k4.Bed]), (11, .box 0 [I L s0.X, I L s0.Y])]⟩
def z5 (k0 : (FS Jb)) (k1 : Int) (k2 : Jl) (k3 : Ja) (k4 : Jy) (k5 : (FS Jb)) (k6 : Int) (x : ((Ja × (FS J1) × Int) ⊕ Ja)) : LE × St := match x with
 | .inl x => (.ret, ⟨fr [(10, .nils), (11, .ptr 11 0 0), (12, I L x.2.2)], hl [(11, .box 0 [I L x.1.X, I L x.1.Y])]⟩)
 | .inr x => (.exit 0, ⟨fr [(0, encF Jc k0), (2, I L k1), (6, .ptr 6 0 0), (8, .ptr 8 0 0), (9, .ptr 9 0 0), (11, .ptr 11 0 0)], hl [(6, .box 0 [encF Jq k2.Rows]), (8, .box 0 [I L k3.X, I L k3.Y]), (9, .box 0 [I L k4.Pitch, I L k4.Height, I L k4.Walls, I L k4.Top, I L k4.Bottom, I L k4.Pattern, I L k4.Spacing, .bool k4.Support, I L k4.Reach, I L k4.Gap, I L k4.Brim, I L k4.Skirt, I L k4.Drop, I L k4.Feed, I L k4.Travel, I L k4.Retract, I L k4.MinTime, I L k4.MinFeed, I L k4.Nozzle, I L k4.Bed]), (11, .box 0 [I L x.X, I L x.Y])]⟩)
theorem Jkw {k0} {k1} {k2} {k3} {k4} {k5} {k6} {s} {r} (h : Kn (Z3 k0 k1 k2 k3 k4 k5 k6) bigN s = some r) : LK env [] 0 [0, 2, 6, 8, 9, 11, 41, 42, 43] c6_L0 (some (jo k0 k1 k2 k3 k4 k5 k6 s)) = some (z5 k0 k1 k2 k3 k4 k5 k6 r) := Kh (st := jo k0 k1 k2 k3 k4 k5 k6) (out := z5 k0 k1 k2 k3 k4 k5 k6) (by
 clear h s r
 rintro ⟨s0, s1⟩ x h
 simp only [Z3] at h
 rcases ifC h with ⟨c12, h⟩ | ⟨c12, h⟩
 ·obtain ⟨v15, h14, h⟩ := oS h
  have f13 := Kf (e := Jc) h14
  obtain ⟨v18, h17, h⟩ := oS h
  have f16 := Jd6 h17
  rcases ifC h with ⟨c19, h⟩ | ⟨c19, h⟩
  ·cases h
   simp only [jo, z5]
   rw [Jm]
   rcases tof v18 with a20 | a20
   ·simp [c12, a20] at c19
   ·simp [*]
  ·cases h
   simp only [jo]
   rw [Jm]
   rcases tof v18 with a21 | a21
   ·simp [*]
   ·simp [c12, a21] at c19
 ·cases h
  simp only [jo, z5]
  rw [Jm]
  simp [*]) bigN s r h
def zi (k0 : (FS Jb)) (k1 : Jy) (k2 : Ja) (k3 : Jo) (k4 : Int) (s : Int) : Option (LR Int Int) := match s with
 | s0 => (J6 (gOpt (ilt s0 (flen k0)) (fget k0 s0)) fun v28 => (J6 (gOpt (ilt s0 (flen k0)) (fget k0 k4)) fun v31 => (if (band (ilt s0 (flen k0)) (ieq (((v28.getD (⟨0, false, (FS.nil : (FS Ja))⟩ : Jb))).Role) (((v31.getD (⟨0, false, (FS.nil : (FS Ja))⟩ : Jb))).Role))) = true then some (.nx (iadd L s0 1))
 else some (.dn s0))))
def Y0 (k0 : (FS Jb)) (k1 : Jy) (k2 : Ja) (k3 : Jo) (k4 : Int) (s : Int) : St := match s with
 | s0 => (Jat k3.list.ops (⟨fr [(0, encF Jc k0), (9, .ptr 9 0 0), (11, .ptr 11 0 0), (15, .ptr 56 0 0), (17, I L k4), (18, I L s0)], hl [(9, .box 0 [I L k1.Pitch, I L k1.Height, I L k1.Walls, I L k1.Top, I L k1.Bottom, I L k1.Pattern, I L k1.Spacing, .bool k1.Support, I L k1.Reach, I L k1.Gap, I L k1.Brim, I L k1.Skirt, I L k1.Drop, I L k1.Feed, I L k1.Travel, I L k1.Retract, I L k1.MinTime, I L k1.MinFeed, I L k1.Nozzle, I L k1.Bed]), (11, .box 0 [I L k2.X, I L k2.Y]), (56, .box 0 [.nils, encF Jq k3.r.Rows, I L k3.s.Pitch, I L k3.s.Height, I L k3.s.Walls, I L k3.s.Top, I L k3.s.Bottom, I L k3.s.Pattern, I L k3.s.Spacing, .bool k3.s.Support, I L k3.s.Reach, I L k3.s.Gap, I L k3.s.Brim, I L k3.s.Skirt, I L k3.s.Drop, I L k3.s.Feed, I L k3.s.Travel, I L k3.s.Retract, I L k3.s.MinTime, I L k3.s.MinFeed, I L k3.s.Nozzle, I L k3.s.Bed, I L k3.nozzle.X, I L k3.nozzle.Y])]⟩)
  (fun l0 => ⟨fr [(0, encF Jc k0), (9, .ptr 9 0 0), (11, .ptr 11 0 0), (15, .ptr 56 0 0), (17, I L k4), (18, I L s0)], hl [(9, .box 0 [I L k1.Pitch, I L k1.Height, I L k1.Walls, I L k1.Top, I L k1.Bottom, I L k1.Pattern, I L k1.Spacing, .bool k1.Support, I L k1.Reach, I L k1.Gap, I L k1.Brim, I L k1.Skirt, I L k1.Drop, I L k1.Feed, I L k1.Travel, I L k1.Retract, I L k1.MinTime, I L k1.MinFeed, I L k1.Nozzle, I L k1.Bed]), (11, .box 0 [I L k2.X, I L k2.Y]), (56, .box 0 [.arr 1056000 0 0 l0.l.length, encF Jq k3.r.Rows, I L k3.s.Pitch, I L k3.s.Height, I L k3.s.Walls, I L k3.s.Top, I L k3.s.Bottom, I L k3.s.Pattern, I L k3.s.Spacing, .bool k3.s.Support, I L k3.s.Reach, I L k3.s.Gap, I L k3.s.Brim, I L k3.s.Skirt, I L k3.s.Drop, I L k3.s.Feed, I L k3.s.Travel, I L k3.s.Retract, I L k3.s.MinTime, I L k3.s.MinFeed, I L k3.s.Nozzle, I L k3.s.Bed, I L k3.nozzle.X, I L k3.nozzle.Y]), (1056000, .arr 0 6 52 (Jn Jw l0.l) false)]⟩))
def z9 (k0 : (FS Jb)) (k1 : Jy) (k2 : Ja) (k3 : Jo) (k4 : Int) (x : Int) : LE × St := (Jat k3.list.ops (.exit 4, ⟨fr [(0, encF Jc k0), (9, .ptr 9 0 0), (11, .ptr 11 0 0), (15, .ptr 56 0 0), (17, I L k4), (18, I L x)], hl [(9, .box 0 [I L k1.Pitch, I L k1.Height, I L k1.Walls, I L k1.Top, I L k1.Bottom, I L k1.Pattern, I L k1.Spacing, .bool k1.Support, I L k1.Reach, I L k1.Gap, I L k1.Brim, I L k1.Skirt, I L k1.Drop, I L k1.Feed, I L k1.Travel, I L k1.Retract, I L k1.MinTime, I L k1.MinFeed, I L k1.Nozzle, I L k1.Bed]), (11, .box 0 [I L k2.X, I L k2.Y]), (56, .box 0 [.nils, encF Jq k3.r.Rows, I L k3.s.Pitch, I L k3.s.Height, I L k3.s.Walls, I L k3.s.Top, I L k3.s.Bottom, I L k3.s.Pattern, I L k3.s.Spacing, .bool k3.s.Support, I L k3.s.Reach, I L k3.s.Gap, I L k3.s.Brim, I L k3.s.Skirt, I L k3.s.Drop, I L k3.s.Feed, I L k3.s.Travel, I L k3.s.Retract, I L k3.s.MinTime, I L k3.s.MinFeed, I L k3.s.Nozzle, I L k3.s.Bed, I L k3.nozzle.X, I L k3.nozzle.Y])]⟩)
  (fun l0 => (.exit 4, ⟨fr [(0, encF Jc k0), (9, .ptr 9 0 0), (11, .ptr 11 0 0), (15, .ptr 56 0 0), (17, I L k4), (18, I L x)], hl [(9, .box 0 [I L k1.Pitch, I L k1.Height, I L k1.Walls, I L k1.Top, I L k1.Bottom, I L k1.Pattern, I L k1.Spacing, .bool k1.Support, I L k1.Reach, I L k1.Gap, I L k1.Brim, I L k1.Skirt, I L k1.Drop, I L k1.Feed, I L k1.Travel, I L k1.Retract, I L k1.MinTime, I L k1.MinFeed, I L k1.Nozzle, I L k1.Bed]), (11, .box 0 [I L k2.X, I L k2.Y]), (56, .box 0 [.arr 1056000 0 0 l0.l.length, encF Jq k3.r.Rows, I L k3.s.Pitch, I L k3.s.Height, I L k3.s.Walls, I L k3.s.Top, I L k3.s.Bottom, I L k3.s.Pattern, I L k3.s.Spacing, .bool k3.s.Support, I L k3.s.Reach, I L k3.s.Gap, I L k3.s.Brim, I L k3.s.Skirt, I L k3.s.Drop, I L k3.s.Feed, I L k3.s.Travel, I L k3.s.Retract, I L k3.s.MinTime, I L k3.s.MinFeed, I L k3.s.Nozzle, I L k3.s.Bed, I L k3.nozzle.X, I L k3.nozzle.Y]), (1056000, .arr 0 6 52 (Jn Jw l0.l) false)]⟩)))
theorem Jf7 {k0} {k1} {k2} {k3} {k4} {s} {r} (h : Kn (zi k0 k1 k2 k3 k4) bigN s = some r) : LK env [] 0 [0, 9, 11, 15, 17, 18] c6_L1 (some (Y0 k0 k1 k2 k3 k4 s)) = some (z9 k0 k1 k2 k3 k4 r) := Kh (st := Y0 k0 k1 k2 k3 k4) (out := z9 k0 k1 k2 k3 k4) (by
 clear h s r
 rintro s0 x h
 simp only [zi] at h
 cases e49 : k3.list.ops with
 | nil =>
  try simp only [e49, Jx] at h
  obtain ⟨v52, h51, h⟩ := oS h
  have f50 := fun (q0 : (ilt s0 (flen k0)) = true) => Kf (e := Jc) (Qp (⟨0, false, (FS.nil : (FS Ja))⟩ : Jb) h51 q0)
  obtain ⟨v55, h54, h⟩ := oS h
  have f53 := fun (q0 : (ilt s0 (flen k0)) = true) => Kf (e := Jc) (Qp (⟨0, false, (FS.nil : (FS Ja))⟩ : Jb) h54 q0)
  rcases ifC h with ⟨c56, h⟩ | ⟨c56, h⟩
  ·cases h
   simp only [Y0, e49]
   rw [Jm]
   rcases tof (ilt s0 (flen k0)) with a57 | a57 <;> rcases tof (ieq (((v52.getD (⟨0, false, (FS.nil : (FS Ja))⟩ : Jb))).Role) (((v55.getD (⟨0, false, (FS.nil : (FS Ja))⟩ : Jb))).Role)) with a58 | a58 <;> (try (simp [a57, a58] at c56; done)) <;> simp [*]
  ·cases h
   simp only [Y0, z9, e49]
   rw [Jm]
   rcases tof (ilt s0 (flen k0)) with a59 | a59 <;> rcases tof (ieq (((v52.getD (⟨0, false, (FS.nil : (FS Ja))⟩ : Jb))).Role) (((v55.getD (⟨0, false, (FS.nil : (FS Ja))⟩ : Jb))).Role)) with a60 | a60 <;> (try (simp [a59, a60] at c56; done)) <;> simp [*]
 | lst l48 =>
  try simp only [e49] at h
  obtain ⟨v63, h62, h⟩ := oS h
  have f61 := fun (q0 : (ilt s0 (flen k0)) = true) => Kf (e := Jc) (Qp (⟨0, false, (FS.nil : (FS Ja))⟩ : Jb) h62 q0)
  obtain ⟨v66, h65, h⟩ := oS h
  have f64 := fun (q0 : (ilt s0 (flen k0)) = true) => Kf (e := Jc) (Qp (⟨0, false, (FS.nil : (FS Ja))⟩ : Jb) h65 q0)
  rcases ifC h with ⟨c67, h⟩ | ⟨c67, h⟩
  ·cases h
   simp only [Y0, e49]
   rw [Jm]
   rcases tof (ilt s0 (flen k0)) with a68 | a68 <;> rcases tof (ieq (((v63.getD (⟨0, false, (FS.nil : (FS Ja))⟩ : Jb))).Role) (((v66.getD (⟨0, false, (FS.nil : (FS Ja))⟩ : Jb))).Role)) with a69 | a69 <;> (try (simp [a68, a69] at c67; done)) <;> simp [*]
  ·cases h
   simp only [Y0, z9, e49]
   rw [Jm]
   rcases tof (ilt s0 (flen k0)) with a70 | a70 <;> rcases tof (ieq (((v63.getD (⟨0, false, (FS.nil : (FS Ja))⟩ : Jb))).Role) (((v66.getD (⟨0, false, (FS.nil : (FS Ja))⟩ : Jb))).Role)) with a71 | a71 <;> (try (simp [a70, a71] at c67; done)) <;> simp [*]) bigN s r h
def jc (k0 : (FS Jb)) (k1 : Jy) (k2 : Ja) (s : (Jo × Int)) : Option (LR (Jo × Int) Jo) := match s with
 | (s0, s1) => (if (ilt s1 (flen k0)) = true then (J6 (Kn (zi k0 k1 k2 (⟨(⟨s0.list.ops⟩ : Km), s0.r, s0.s, s0.nozzle⟩ : Jo) s1) bigN (iadd L s1 1)) fun v34 => (J6 (fsl k0 s1 v34) fun v38 => (J6 (Y8 (⟨(⟨s0.list.ops⟩ : Km), s0.r, s0.s, s0.nozzle⟩ : Jo) v38) fun v40 => some (.nx ((⟨(⟨v40.list.ops⟩ : Km), v40.r, v40.s, v40.nozzle⟩ : Jo), v34)))))
 else some (.dn (⟨(⟨s0.list.ops⟩ : Km), s0.r, s0.s, s0.nozzle⟩ : Jo)))
def Xw (k0 : (FS Jb)) (k1 : Jy) (k2 : Ja) (s : (Jo × Int)) : St := match s with
 | (s0, s1) => (Jat s0.list.ops (⟨fr [(0, encF Jc k0), (9, .ptr 9 0 0), (11, .ptr 11 0 0), (15, .ptr 56 0 0), (17, I L s1)], hl [(9, .box 0 [I L k1.Pitch, I L k1.Height, I L k1.Walls, I L k1.Top, I L k1.Bottom, I L k1.Pattern, I L k1.Spacing, .bool k1.Support, I L k1.Reach, I L k1.Gap, I L k1.Brim, I L k1.Skirt, I L k1.Drop, I L k1.Feed, I L k1.Travel, I L k1.Retract, I L k1.MinTime, I L k1.MinFeed, I L k1.Nozzle, I L k1.Bed]), (11, .box 0 [I L k2.X, I L k2.Y]), (56, .box 0 [.nils, encF Jq s0.r.Rows, I L s0.s.Pitch, I L s0.s.Height, I L s0.s.Walls, I L s0.s.Top, I L s0.s.Bottom, I L s0.s.Pattern, I L s0.s.Spacing, .bool s0.s.Support, I L s0.s.Reach, I L s0.s.Gap, I L s0.s.Brim, I L s0.s.Skirt, I L s0.s.Drop, I L s0.s.Feed, I L s0.s.Travel, I L s0.s.Retract, I L s0.s.MinTime, I L s0.s.MinFeed, I L s0.s.Nozzle, I L s0.s.Bed, I L s0.nozzle.X, I L s0.nozzle.Y])]⟩)
  (fun l0 => ⟨fr [(0, encF Jc k0), (9, .ptr 9 0 0), (11, .ptr 11 0 0), (15, .ptr 56 0 0), (17, I L s1)], hl [(9, .box 0 [I L k1.Pitch, I L k1.Height, I L k1.Walls, I L k1.Top, I L k1.Bottom, I L k1.Pattern, I L k1.Spacing, .bool k1.Support, I L k1.Reach, I L k1.Gap, I L k1.Brim, I L k1.Skirt, I L k1.Drop, I L k1.Feed, I L k1.Travel, I L k1.Retract, I L k1.MinTime, I L k1.MinFeed, I L k1.Nozzle, I L k1.Bed]), (11, .box 0 [I L k2.X, I L k2.Y]), (56, .box 0 [.arr 1056000 0 0 l0.l.length, encF Jq s0.r.Rows, I L s0.s.Pitch, I L s0.s.Height, I L s0.s.Walls, I L s0.s.Top, I L s0.s.Bottom, I L s0.s.Pattern, I L s0.s.Spacing, .bool s0.s.Support, I L s0.s.Reach, I L s0.s.Gap, I L s0.s.Brim, I L s0.s.Skirt, I L s0.s.Drop, I L s0.s.Feed, I L s0.s.Travel, I L s0.s.Retract, I L s0.s.MinTime, I L s0.s.MinFeed, I L s0.s.Nozzle, I L s0.s.Bed, I L s0.nozzle.X, I L s0.nozzle.Y]), (1056000, .arr 0 6 52 (Jn Jw l0.l) false)]⟩))
def z3 (k0 : (FS Jb)) (k1 : Jy) (k2 : Ja) (x : Jo) : LE × St := (Jat x.list.ops (.exit 2, ⟨fr [(9, .ptr 9 0 0), (11, .ptr 11 0 0), (15, .ptr 56 0 0)], hl [(9, .box 0 [I L k1.Pitch, I L k1.Height, I L k1.Walls, I L k1.Top, I L k1.Bottom, I L k1.Pattern, I L k1.Spacing, .bool k1.Support, I L k1.Reach, I L k1.Gap, I L k1.Brim, I L k1.Skirt, I L k1.Drop, I L k1.Feed, I L k1.Travel, I L k1.Retract, I L k1.MinTime, I L k1.MinFeed, I L k1.Nozzle, I L k1.Bed]), (11, .box 0 [I L k2.X, I L k2.Y]), (56, .box 0 [.nils, encF Jq x.r.Rows, I L x.s.Pitch, I L x.s.Height, I L x.s.Walls, I L x.s.Top, I L x.s.Bottom, I L x.s.Pattern, I L x.s.Spacing, .bool x.s.Support, I L x.s.Reach, I L x.s.Gap, I L x.s.Brim, I L x.s.Skirt, I L x.s.Drop, I L x.s.Feed, I L x.s.Travel, I L x.s.Retract, I L x.s.MinTime, I L x.s.MinFeed, I L x.s.Nozzle, I L x.s.Bed, I L x.nozzle.X, I L x.nozzle.Y])]⟩)
  (fun l0 => (.exit 2, ⟨fr [(9, .ptr 9 0 0), (11, .ptr 11 0 0), (15, .ptr 56 0 0)], hl [(9, .box 0 [I L k1.Pitch, I L k1.Height, I L k1.Walls, I L k1.Top, I L k1.Bottom, I L k1.Pattern, I L k1.Spacing, .bool k1.Support, I L k1.Reach, I L k1.Gap, I L k1.Brim, I L k1.Skirt, I L k1.Drop, I L k1.Feed, I L k1.Travel, I L k1.Retract, I L k1.MinTime, I L k1.MinFeed, I L k1.Nozzle, I L k1.Bed]), (11, .box 0 [I L k2.X, I L k2.Y]), (56, .box 0 [.arr 1056000 0 0 l0.l.length, encF Jq x.r.Rows, I L x.s.Pitch, I L x.s.Height, I L x.s.Walls, I L x.s.Top, I L x.s.Bottom, I L x.s.Pattern, I L x.s.Spacing, .bool x.s.Support, I L x.s.Reach, I L x.s.Gap, I L x.s.Brim, I L x.s.Skirt, I L x.s.Drop, I L x.s.Feed, I L x.s.Travel, I L x.s.Retract, I L x.s.MinTime, I L x.s.MinFeed, I L x.s.Nozzle, I L x.s.Bed, I L x.nozzle.X, I L x.nozzle.Y]), (1056000, .arr 0 6 52 (Jn Jw l0.l) false)]⟩)))
theorem Jf5 {k0} {k1} {k2} {s} {r} (h : Kn (jc k0 k1 k2) bigN s = some r) : LK env [] 0 [0, 9, 11, 15, 17] c6_L2 (some (Xw k0 k1 k2 s)) = some (z3 k0 k1 k2 r) ∧ (Lst s.1.list.ops → Lst r.list.ops) := Jjy (P := fun s => Lst s.1.list.ops) (Q := fun r => Lst r.list.ops) (st := Xw k0 k1 k2) (out := z3 k0 k1 k2) (by
 clear h s r
 rintro ⟨s0, s1⟩ x h
 simp only [jc] at h
 cases e46 : s0.list.ops with
 | nil =>
  try simp only [e46, Jx] at h
  rcases ifC h with ⟨c47, h⟩ | ⟨c47, h⟩
  ·obtain ⟨v73, h72, h⟩ := oS h
   have f74 := Jf7 h72
   simp only [Y0, z9, J5, Ka] at f74
   try simp only [Jg, Jh, Jk, Jr, Ju, Jt, Js, Jv] at f74
   obtain ⟨v78, h77, h⟩ := oS h
   have f76 := Jpe (e := Jc) h77
   obtain ⟨v80, h79, h⟩ := oS h
   have f81 := Jhe rfl h79
   try simp only [J5, Ka, Jg, Jh, Jk, Jr, Ju, Jt, Js, Jv] at f81
   cases e83 : v80.list.ops with
   | nil =>
    try simp only [e83, Jx] at h
    simp only [e83, Jx, Jg, Jh] at f81
    have f84 : ∀ H : Heap, H 56 = some (.box 0 [.nils, encF Jq s0.r.Rows, I L s0.s.Pitch, I L s0.s.Height, I L s0.s.Walls, I L s0.s.Top, I L s0.s.Bottom, I L s0.s.Pattern, I L s0.s.Spacing, .bool s0.s.Support, I L s0.s.Reach, I L s0.s.Gap, I L s0.s.Brim, I L s0.s.Skirt, I L s0.s.Drop, I L s0.s.Feed, I L s0.s.Travel, I L s0.s.Retract, I L s0.s.MinTime, I L s0.s.MinFeed, I L s0.s.Nozzle, I L s0.s.Bed, I L s0.nozzle.X, I L s0.nozzle.Y]) → Jcc (FC env) 19 H [.ptr 56 0 0, encF Jc v78] = some (.tup [], upd H 56 (some (.box 0 [.nils, encF Jq v80.r.Rows, I L v80.s.Pitch, I L v80.s.Height, I L v80.s.Walls, I L v80.s.Top, I L v80.s.Bottom, I L v80.s.Pattern, I L v80.s.Spacing, .bool v80.s.Support, I L v80.s.Reach, I L v80.s.Gap, I L v80.s.Brim, I L v80.s.Skirt, I L v80.s.Drop, I L v80.s.Feed, I L v80.s.Travel, I L v80.s.Retract, I L v80.s.MinTime, I L v80.s.MinFeed, I L v80.s.Nozzle, I L v80.s.Bed, I L v80.nozzle.X, I L v80.nozzle.Y]))) := by
      intro H q0
      simp [*, q0]
    cases h
    refine ⟨?_, fun k => ?_⟩
    ·simp only [Xw, e46]
     rw [Jm]
     try simp only [c47] at f74 f81
     simp [*, -Q6]
    ·obtain ⟨_, k⟩ := k
     first | exact (Jja k).elim | exact (Jja (e46.symm.trans k)).elim
   | lst l82 =>
    try simp only [e83] at h
    simp only [e83, Jx, Jg, Jh] at f81
    have f85 : ∀ H : Heap, H 56 = some (.box 0 [.nils, encF Jq s0.r.Rows, I L s0.s.Pitch, I L s0.s.Height, I L s0.s.Walls, I L s0.s.Top, I L s0.s.Bottom, I L s0.s.Pattern, I L s0.s.Spacing, .bool s0.s.Support, I L s0.s.Reach, I L s0.s.Gap, I L s0.s.Brim, I L s0.s.Skirt, I L s0.s.Drop, I L s0.s.Feed, I L s0.s.Travel, I L s0.s.Retract, I L s0.s.MinTime, I L s0.s.MinFeed, I L s0.s.Nozzle, I L s0.s.Bed, I L s0.nozzle.X, I L s0.nozzle.Y]) → H 1056000 = none → Jcc (FC env) 19 H [.ptr 56 0 0, encF Jc v78] = some (.tup [], upd (upd H 1056000 (some (.arr 0 6 52 (Jn Jw (FS.lst l82).l) false))) 56 (some (.box 0 [.arr 1056000 0 0 (FS.lst l82).l.length, encF Jq v80.r.Rows, I L v80.s.Pitch, I L v80.s.Height, I L v80.s.Walls, I L v80.s.Top, I L v80.s.Bottom, I L v80.s.Pattern, I L v80.s.Spacing, .bool v80.s.Support, I L v80.s.Reach, I L v80.s.Gap, I L v80.s.Brim, I L v80.s.Skirt, I L v80.s.Drop, I L v80.s.Feed, I L v80.s.Travel, I L v80.s.Retract, I L v80.s.MinTime, I L v80.s.MinFeed, I L v80.s.Nozzle, I L v80.s.Bed, I L v80.nozzle.X, I L v80.nozzle.Y]))) := by
      intro H q0 q1
      simp [*, q0, q1]
    cases h
    refine ⟨?_, fun k => ?_⟩
    ·simp only [Xw, e46]
     rw [Jm]
     try simp only [c47] at f74 f81
     simp [*, -Q6]
    ·obtain ⟨_, k⟩ := k
     first | exact (Jja k).elim | exact (Jja (e46.symm.trans k)).elim
  ·cases h
   refine ⟨?_, fun k => ?_⟩
   ·simp only [Xw, z3, e46]
    rw [Jm]
    simp [*]
   ·obtain ⟨_, k⟩ := k
    first | exact (Jja k).elim | exact (Jja (e46.symm.trans k)).elim
 | lst l45 =>
  try simp only [e46] at h
  rcases ifC h with ⟨c86, h⟩ | ⟨c86, h⟩
  ·obtain ⟨v88, h87, h⟩ := oS h
   have f89 := Jf7 h87
   simp only [Y0, z9, J5, Ka] at f89
   try simp only [Jg, Jh, Jk, Jr, Ju, Jt, Js, Jv] at f89
   obtain ⟨v93, h92, h⟩ := oS h
   have f91 := Jpe (e := Jc) h92
   obtain ⟨v95, h94, h⟩ := oS h
   obtain ⟨f96, ⟨l98, e97⟩⟩ := Jhh rfl h94
   simp only [e97] at f96
   try simp only [e97] at h
   try simp only [J5, Ka, Jg, Jh, Jk, Jr, Ju, Jt, Js, Jv] at f96
   try simp only [Jg, Jh, Jk, Jr, Ju, Jt, Js, Jv] at f96
   have f99 : ∀ H : Heap, H 56 = some (.box 0 [.arr 1056000 0 0 (FS.lst l45).l.length, encF Jq s0.r.Rows, I L s0.s.Pitch, I L s0.s.Height, I L s0.s.Walls, I L s0.s.Top, I L s0.s.Bottom, I L s0.s.Pattern, I L s0.s.Spacing, .bool s0.s.Support, I L s0.s.Reach, I L s0.s.Gap, I L s0.s.Brim, I L s0.s.Skirt, I L s0.s.Drop, I L s0.s.Feed, I L s0.s.Travel, I L s0.s.Retract, I L s0.s.MinTime, I L s0.s.MinFeed, I L s0.s.Nozzle, I L s0.s.Bed, I L s0.nozzle.X, I L s0.nozzle.Y]) → H 1056000 = some (.arr 0 6 52 (Jn Jw (FS.lst l45).l) false) → Jcc (FC env) 19 H [.ptr 56 0 0, encF Jc v93] = some (.tup [], upd (upd H 1056000 (some (.arr 1 6 52 (Jn Jw (FS.lst l98).l) false))) 56 (some (.box 0 [.arr 1056000 1 0 (FS.lst l98).l.length, encF Jq v95.r.Rows, I L v95.s.Pitch, I L v95.s.Height, I L v95.s.Walls, I L v95.s.Top, I L v95.s.Bottom, I L v95.s.Pattern, I L v95.s.Spacing, .bool v95.s.Support, I L v95.s.Reach, I L v95.s.Gap, I L v95.s.Brim, I L v95.s.Skirt, I L v95.s.Drop, I L v95.s.Feed, I L v95.s.Travel, I L v95.s.Retract, I L v95.s.MinTime, I L v95.s.MinFeed, I L v95.s.Nozzle, I L v95.s.Bed, I L v95.nozzle.X, I L v95.nozzle.Y]))) := by
     intro H q0 q1
     simp [*, q0, q1]
   cases h
   refine ⟨?_, fun k => ?_⟩
   ·simp only [Xw, e46]
    rw [Jm]
    try simp only [c86] at f89 f96
    simp [*, -Q6]
   ·first | exact ⟨_, rfl⟩ | exact ⟨_, by assumption⟩
  ·cases h
   refine ⟨?_, fun k => ?_⟩
   ·simp only [Xw, z3, e46]
    rw [Jm]
    simp [*]
   ·first | exact ⟨_, rfl⟩ | exact ⟨_, by assumption⟩) bigN s r h
def Jc9 (p0 : (FS Jb)) (p1 : Jl) (p2 : Int) (p3 : Ja) (p4 : Jy) : Option ((FS J1) × Ja × Int) := (J6 (gOpt (bnot (bnot (Q0 p4))) (Jdm p1)) fun v4 => (if (bor (bor (bor (bor (bnot (Q0 p4)) (bnot (v4.getD false))) (ilt p2 0)) (ige p2 256)) (bnot (Jaw p3))) = true then some ((FS.nil : (FS J1)), (⟨0, 0⟩ : Ja), 1)
 else (J6 (Kn (Z3 p0 p2 p1 p3 p4 p0 (flen p0)) bigN ((⟨0, 0⟩ : Ja), 0)) fun v16 => (match v16 with
 | .inl v16x => some ((FS.nil : (FS J1)), v16x.1, v16x.2.2)
 | .inr v16x => (J6 (J3 (⟨(⟨(FS.nil : (FS J1))⟩ : Km), p1, p4, p3⟩ : Jo) (⟨1, 0, p2, (imul L (iadd L p2 1) p4.Height), 0, (FS.nil : (FS Ja))⟩ : J1)) fun v19 => (if (igt p2 0) = true then (J6 (J3 (⟨(⟨v19.list.ops⟩ : Km), v19.r, v19.s, v19.nozzle⟩ : Jo) (⟨6, 0, 0, 0, 255, (FS.nil : (FS Ja))⟩ : J1)) fun v23 => (J6 (Kn (jc p0 p4 v16x) bigN ((⟨(⟨v23.list.ops⟩ : Km), v23.r, v23.s, v23.nozzle⟩ : Jo), 0)) fun v43 => (J6 (Jcl v43.list.ops p4) fun v47 => some (v47, v43.nozzle, 0))))
 else (J6 (J3 (⟨(⟨v19.list.ops⟩ : Km), v19.r, v19.s, v19.nozzle⟩ : Jo) (⟨6, 0, 0, 0, 0, (FS.nil : (FS Ja))⟩ : J1)) fun v49 => (J6 (Kn (jc p0 p4 v16x) bigN ((⟨(⟨v49.list.ops⟩ : Km), v49.r, v49.s, v49.nozzle⟩ : Jo), 0)) fun v52 => (J6 (Jcl v52.list.ops p4) fun v56 => some (v56, v52.nozzle, 0))))))))))
theorem Jmq {p0} {p1} {p2} {p3} {p4} {r} (h : Jc9 p0 p1 p2 p3 p4 = some r) : FC env 6 [encF Jc p0, .agg [encF Jq p1.Rows], I L p2, .agg [I L p3.X, I L p3.Y], .agg [I L p4.Pitch, I L p4.Height, I L p4.Walls, I L p4.Top, I L p4.Bottom, I L p4.Pattern, I L p4.Spacing, .bool p4.Support, I L p4.Reach, I L p4.Gap, I L p4.Brim, I L p4.Skirt, I L p4.Drop, I L p4.Feed, I L p4.Travel, I L p4.Retract, I L p4.MinTime, I L p4.MinFeed, I L p4.Nozzle, I L p4.Bed]] none = some (.tup [encF Jw r.1, .agg [I L r.2.1.X, I L r.2.1.Y], I L r.2.2], fun _ => none) := by
 unfold Jc9 at h
 have f1 := Jlf p4
 obtain ⟨v4, h3, h⟩ := oS h
 have f2 := fun (q0 : (bnot (Q0 p4)) = false) => Jjz (Qp false h3 (Jeb q0))
 have f5 := Joz p3
 rcases ifC h with ⟨c6, h⟩ | ⟨c6, h⟩
 ·cases h
  refine J0 (lf := lf6) rfl rfl rfl ?_
  simp only [lf6, lc6]
  rcases tof (Q0 p4) with a7 | a7
  ·rcases tof (v4.getD false) with a8 | a8
   ·rcases tof (ilt p2 0) with a9 | a9
    ·simp [*, Q4, tupS, Qm, K5, Qo, K4, Qq]
    ·rcases tof (ige p2 256) with a10 | a10
     ·simp [*, Q4, tupS, Qm, K5, Qo, K4, Qq]
     ·rcases tof (Jaw p3) with a11 | a11
      ·simp [a7, a8, a9, a10, a11] at c6
      ·simp [*, Q4, tupS, Qm, K5, Qo, K4, Qq]
   ·simp [*, Q4, tupS, Qm, K5, Qo, K4, Qq]
  ·simp [*, Q4, tupS, Qm, K5, Qo, K4, Qq]
 ·obtain ⟨v23, h22, h⟩ := oS h
  have f24 := Jkw h22
  cases v23 with
  | inl v23x =>
   try simp only at h
   simp only [jo, z5, J5, Ka] at f24
   try simp only [Jg, Jh, Jk, Jr, Ju, Jt, Js, Jv] at f24
   cases h
   refine J0 (lf := lf6) rfl rfl rfl ?_
   simp only [lf6, lc6]
   rcases tof (Q0 p4) with a26 | a26
   ·rcases tof (v4.getD false) with a27 | a27
    ·rcases tof (ilt p2 0) with a28 | a28
     ·simp [a26, a27, a28] at c6
     ·rcases tof (ige p2 256) with a29 | a29
      ·simp [a26, a27, a28, a29] at c6
      ·rcases tof (Jaw p3) with a30 | a30
       ·try simp only [a26, a27, a28, a29, a30] at f24
        simp [*, Q4, tupS, Qm, K5, Qo, K4, Qq]
       ·simp [a26, a27, a28, a29, a30] at c6
    ·simp [a26, a27] at c6
   ·simp [a26] at c6
  | inr v23x =>
   try simp only at h
   simp only [jo, z5, J5, Ka] at f24
   try simp only [Jg, Jh, Jk, Jr, Ju, Jt, Js, Jv] at f24
   obtain ⟨v33, h32, h⟩ := oS h
   obtain ⟨f34, ⟨l36, e35⟩⟩ := Kx rfl h32
   simp only [e35] at f34
   try simp only [e35] at h
   try simp only [J5, Ka, Jg, Jh, Jk, Jr, Ju, Jt, Js, Jv] at f34
   try simp only [Jg, Jh, Jk, Jr, Ju, Jt, Js, Jv] at f34
   have f37 : ∀ H : Heap, H 56 = some (.box 0 [.nils, encF Jq p1.Rows, I L p4.Pitch, I L p4.Height, I L p4.Walls, I L p4.Top, I L p4.Bottom, I L p4.Pattern, I L p4.Spacing, .bool p4.Support, I L p4.Reach, I L p4.Gap, I L p4.Brim, I L p4.Skirt, I L p4.Drop, I L p4.Feed, I L p4.Travel, I L p4.Retract, I L p4.MinTime, I L p4.MinFeed, I L p4.Nozzle, I L p4.Bed, I L p3.X, I L p3.Y]) → H 1056000 = none → Jcc (FC env) 18 H [.ptr 56 0 0, .agg [I L 1, I L 0, I L p2, I L (imul L (iadd L p2 1) p4.Height), I L 0, .nils]] = some (.tup [], upd (upd H 1056000 (some (.arr 0 6 52 (Jn Jw (FS.lst l36).l) false))) 56 (some (.box 0 [.arr 1056000 0 0 (FS.lst l36).l.length, encF Jq v33.r.Rows, I L v33.s.Pitch, I L v33.s.Height, I L v33.s.Walls, I L v33.s.Top, I L v33.s.Bottom, I L v33.s.Pattern, I L v33.s.Spacing, .bool v33.s.Support, I L v33.s.Reach, I L v33.s.Gap, I L v33.s.Brim, I L v33.s.Skirt, I L v33.s.Drop, I L v33.s.Feed, I L v33.s.Travel, I L v33.s.Retract, I L v33.s.MinTime, I L v33.s.MinFeed, I L v33.s.Nozzle, I L v33.s.Bed, I L v33.nozzle.X, I L v33.nozzle.Y]))) := by
     intro H q0 q1
     simp [*, q0, q1]
   rcases ifC h with ⟨c38, h⟩ | ⟨c38, h⟩
   ·obtain ⟨v40, h39, h⟩ := oS h
    obtain ⟨f41, ⟨l43, e42⟩⟩ := J4 rfl h39
    simp only [e42] at f41
    try simp only [e42] at h
    try simp only [J5, Ka, Jg, Jh, Jk, Jr, Ju, Jt, Js, Jv] at f41
    try simp only [Jg, Jh, Jk, Jr, Ju, Jt, Js, Jv] at f41
    have f44 : ∀ H : Heap, H 56 = some (.box 0 [.arr 1056000 0 0 (FS.lst l36).l.length, encF Jq v33.r.Rows, I L v33.s.Pitch, I L v33.s.Height, I L v33.s.Walls, I L v33.s.Top, I L v33.s.Bottom, I L v33.s.Pattern, I L v33.s.Spacing, .bool v33.s.Support, I L v33.s.Reach, I L v33.s.Gap, I L v33.s.Brim, I L v33.s.Skirt, I L v33.s.Drop, I L v33.s.Feed, I L v33.s.Travel, I L v33.s.Retract, I L v33.s.MinTime, I L v33.s.MinFeed, I L v33.s.Nozzle, I L v33.s.Bed, I L v33.nozzle.X, I L v33.nozzle.Y]) → H 1056000 = some (.arr 0 6 52 (Jn Jw (FS.lst l36).l) false) → Jcc (FC env) 18 H [.ptr 56 0 0, .agg [I L 6, I L 0, I L 0, I L 0, I L 255, .nils]] = some (.tup [], upd (upd H 1056000 (some (.arr 1 6 52 (Jn Jw (FS.lst l43).l) false))) 56 (some (.box 0 [.arr 1056000 1 0 (FS.lst l43).l.length, encF Jq v40.r.Rows, I L v40.s.Pitch, I L v40.s.Height, I L v40.s.Walls, I L v40.s.Top, I L v40.s.Bottom, I L v40.s.Pattern, I L v40.s.Spacing, .bool v40.s.Support, I L v40.s.Reach, I L v40.s.Gap, I L v40.s.Brim, I L v40.s.Skirt, I L v40.s.Drop, I L v40.s.Feed, I L v40.s.Travel, I L v40.s.Retract, I L v40.s.MinTime, I L v40.s.MinFeed, I L v40.s.Nozzle, I L v40.s.Bed, I L v40.nozzle.X, I L v40.nozzle.Y]))) := by
      intro H q0 q1
      simp [*, q0, q1]
    obtain ⟨v101, h100, h⟩ := oS h
    obtain ⟨f102, f102k⟩ := Jf5 h100
    simp only [Xw, z3, J5, Ka] at f102
    cases e105 : v101.list.ops with
    | nil =>
     obtain ⟨_, k⟩ := f102k ⟨_, rfl⟩
     exact (Jja (e105.symm.trans k)).elim
    | lst l104 =>
     try simp only [e105] at h
     simp only [e105, Jx, Jg, Jh] at f102
     obtain ⟨v108, h107, h⟩ := oS h
     have f106 := Jl5 h107
     try simp only [Ka] at f106
     cases h
     refine J0 (lf := lf6) rfl rfl rfl ?_
     simp only [lf6, lc6]
     rcases tof (Q0 p4) with a109 | a109
     ·rcases tof (v4.getD false) with a110 | a110
      ·rcases tof (ilt p2 0) with a111 | a111
       ·simp [a109, a110, a111] at c6
       ·rcases tof (ige p2 256) with a112 | a112
        ·simp [a109, a110, a111, a112] at c6
        ·rcases tof (Jaw p3) with a113 | a113
         ·try simp only [a109, a110, a111, a112, a113, c38] at f24 f34 f41 f102
          simp [*, -Q6, Kq (e := Jw) (el := 52) (fz := false), Q4, tupS, Qm, K5, Qo, K4, Qq]
         ·simp [a109, a110, a111, a112, a113] at c6
      ·simp [a109, a110] at c6
     ·simp [a109] at c6
   ·obtain ⟨v115, h114, h⟩ := oS h
    obtain ⟨f116, ⟨l118, e117⟩⟩ := J4 rfl h114
    simp only [e117] at f116
    try simp only [e117] at h
    try simp only [J5, Ka, Jg, Jh, Jk, Jr, Ju, Jt, Js, Jv] at f116
    try simp only [Jg, Jh, Jk, Jr, Ju, Jt, Js, Jv] at f116
    have f119 : ∀ H : Heap, H 56 = some (.box 0 [.arr 1056000 0 0 (FS.lst l36).l.length, encF Jq v33.r.Rows, I L v33.s.Pitch, I L v33.s.Height, I L v33.s.Walls, I L v33.s.Top, I L v33.s.Bottom, I L v33.s.Pattern, I L v33.s.Spacing, .bool v33.s.Support, I L v33.s.Reach, I L v33.s.Gap, I L v33.s.Brim, I L v33.s.Skirt, I L v33.s.Drop, I L v33.s.Feed, I L v33.s.Travel, I L v33.s.Retract, I L v33.s.MinTime, I L v33.s.MinFeed, I L v33.s.Nozzle, I L v33.s.Bed, I L v33.nozzle.X, I L v33.nozzle.Y]) → H 1056000 = some (.arr 0 6 52 (Jn Jw (FS.lst l36).l) false) → Jcc (FC env) 18 H [.ptr 56 0 0, .agg [I L 6, I L 0, I L 0, I L 0, I L 0, .nils]] = some (.tup [], upd (upd H 1056000 (some (.arr 1 6 52 (Jn Jw (FS.lst l118).l) false))) 56 (some (.box 0 [.arr 1056000 1 0 (FS.lst l118).l.length, encF Jq v115.r.Rows, I L v115.s.Pitch, I L v115.s.Height, I L v115.s.Walls, I L v115.s.Top, I L v115.s.Bottom, I L v115.s.Pattern, I L v115.s.Spacing, .bool v115.s.Support, I L v115.s.Reach, I L v115.s.Gap, I L v115.s.Brim, I L v115.s.Skirt, I L v115.s.Drop, I L v115.s.Feed, I L v115.s.Travel, I L v115.s.Retract, I L v115.s.MinTime, I L v115.s.MinFeed, I L v115.s.Nozzle, I L v115.s.Bed, I L v115.nozzle.X, I L v115.nozzle.Y]))) := by
      intro H q0 q1
      simp [*, q0, q1]
    obtain ⟨v121, h120, h⟩ := oS h
    obtain ⟨f122, f122k⟩ := Jf5 h120
    simp only [Xw, z3, J5, Ka] at f122
    cases e125 : v121.list.ops with
    | nil =>
     obtain ⟨_, k⟩ := f122k ⟨_, rfl⟩
     exact (Jja (e125.symm.trans k)).elim
    | lst l124 =>
     try simp only [e125] at h
     simp only [e125, Jx, Jg, Jh] at f122
     obtain ⟨v128, h127, h⟩ := oS h
     have f126 := Jl5 h127
     try simp only [Ka] at f126
     cases h
     refine J0 (lf := lf6) rfl rfl rfl ?_
     simp only [lf6, lc6]
     rcases tof (Q0 p4) with a129 | a129
     ·rcases tof (v4.getD false) with a130 | a130
      ·rcases tof (ilt p2 0) with a131 | a131
       ·simp [a129, a130, a131] at c6
       ·rcases tof (ige p2 256) with a132 | a132
        ·simp [a129, a130, a131, a132] at c6
        ·rcases tof (Jaw p3) with a133 | a133
         ·try simp only [a129, a130, a131, a132, a133, c38] at f24 f34 f116 f122
          simp [*, -Q6, Kq (e := Jw) (el := 52) (fz := false), Q4, tupS, Qm, K5, Qo, K4, Qq]
         ·simp [a129, a130, a131, a132, a133] at c6
      ·simp [a129, a130] at c6
     ·simp [a129] at c6
attribute [simp] c44_0 c44_1
def Ji (p0 : Int) (p1 : Int) (p2 : Int) : Bool := (band (ige p0 p1) (ile p0 p2))
def Jxm (p0 : Int) (p1 : Int) (p2 : Int) : Option Bool := some (Ji p0 p1 p2)
theorem Kl (p0 : Int) (p1 : Int) (p2 : Int) : FC env 44 [I L p0, I L p1, I L p2] none = some (.bool (Ji p0 p1 p2), fun _ => none) := by
 unfold Ji
 refine J0 (lf := lf44) rfl rfl rfl ?_
 simp only [lf44, lc44]
 rcases tof (ige p0 p1) with a1 | a1
 ·simp [*]
 ·simp [*]
attribute [simp] c21_0 c21_1 c21_2 c21_3 c21_4 c21_5 c21_6 c21_7 c21_8 c21_9
def Zo (p0 : Jy) : Option Bool := (if (bor (bor (bor (bnot (Ji p0.Pitch 32 1024)) (ine (irem p0.Pitch 2) 0)) (bnot (Ji p0.Height 4 1024))) (ine (irem p0.Height 2) 0)) = true then some false
 else (if (bor (bor (bor (bor (bnot (Ji p0.Walls 0 8)) (bnot (Ji p0.Top 0 16))) (bnot (Ji p0.Bottom 0 16))) (bnot (Ji p0.Pattern 0 3))) (bnot (Ji p0.Spacing 1 64))) = true then some false
 else (if (bor (bor (bor (bnot (Ji p0.Reach 0 64)) (bnot (Ji p0.Gap 0 64))) (bnot (Ji p0.Brim 0 64))) (bnot (Ji p0.Skirt 0 63))) = true then some false
 else (if (bor (bor (bor (bnot (Ji p0.Drop 1 1073741824)) (bnot (Ji p0.Feed 1 1048576))) (bnot (Ji p0.Travel 1 1048576))) (bnot (Ji p0.Retract 0 65536))) = true then some false
 else some (band (band (band (Ji p0.MinTime 0 1048576) (Ji p0.MinFeed 1 p0.Feed)) (Ji p0.Nozzle 0 400000)) (Ji p0.Bed 0 400000))))))
theorem Jfm {p0} {r} (h : Zo p0 = some r) : FC env 21 [.agg [I L p0.Pitch, I L p0.Height, I L p0.Walls, I L p0.Top, I L p0.Bottom, I L p0.Pattern, I L p0.Spacing, .bool p0.Support, I L p0.Reach, I L p0.Gap, I L p0.Brim, I L p0.Skirt, I L p0.Drop, I L p0.Feed, I L p0.Travel, I L p0.Retract, I L p0.MinTime, I L p0.MinFeed, I L p0.Nozzle, I L p0.Bed]] none = some (.bool r, fun _ => none) := by
 unfold Zo at h
 have f1 := Kl p0.Pitch 32 1024
 have f2 := Kl p0.Height 4 1024
 rcases ifC h with ⟨c3, h⟩ | ⟨c3, h⟩
 ·cases h
  refine J0 (lf := lf21) rfl rfl rfl ?_
  simp only [lf21, lc21]
  rcases tof (Ji p0.Pitch 32 1024) with a4 | a4 <;> rcases tof (ine (irem p0.Pitch 2) 0) with a5 | a5 <;> rcases tof (Ji p0.Height 4 1024) with a6 | a6 <;> rcases tof (ine (irem p0.Height 2) 0) with a7 | a7 <;> (try (simp [a4, a5, a6, a7] at c3; done)) <;> simp [*, (show ieq 2 0 = false from rfl), (show ieq 2 0 = false from rfl)]
 ·have f8 := Kl p0.Walls 0 8
  have f9 := Kl p0.Top 0 16
  have f10 := Kl p0.Bottom 0 16
  have f11 := Kl p0.Pattern 0 3
  have f12 := Kl p0.Spacing 1 64
  rcases ifC h with ⟨c13, h⟩ | ⟨c13, h⟩
  ·cases h
   refine J0 (lf := lf21) rfl rfl rfl ?_
   simp only [lf21, lc21]
   rcases tof (Ji p0.Pitch 32 1024) with a14 | a14
   ·rcases tof (ine (irem p0.Pitch 2) 0) with a15 | a15
    ·simp [a14, a15] at c3
    ·rcases tof (Ji p0.Height 4 1024) with a16 | a16
     ·rcases tof (ine (irem p0.Height 2) 0) with a17 | a17
      ·simp [a14, a15, a16, a17] at c3
      ·rcases tof (Ji p0.Walls 0 8) with a18 | a18
       ·rcases tof (Ji p0.Top 0 16) with a19 | a19
        ·rcases tof (Ji p0.Bottom 0 16) with a20 | a20
         ·rcases tof (Ji p0.Pattern 0 3) with a21 | a21
          ·rcases tof (Ji p0.Spacing 1 64) with a22 | a22
           ·simp [a14, a15, a16, a17, a18, a19, a20, a21, a22] at c13
           ·simp [*, (show ieq 2 0 = false from rfl), (show ieq 2 0 = false from rfl)]
          ·simp [*, (show ieq 2 0 = false from rfl), (show ieq 2 0 = false from rfl)]
         ·simp [*, (show ieq 2 0 = false from rfl), (show ieq 2 0 = false from rfl)]
        ·simp [*, (show ieq 2 0 = false from rfl), (show ieq 2 0 = false from rfl)]
       ·simp [*, (show ieq 2 0 = false from rfl), (show ieq 2 0 = false from rfl)]
     ·simp [a14, a15, a16] at c3
   ·simp [a14] at c3
  ·have f23 := Kl p0.Reach 0 64
   have f24 := Kl p0.Gap 0 64
   have f25 := Kl p0.Brim 0 64
   have f26 := Kl p0.Skirt 0 63
   rcases ifC h with ⟨c27, h⟩ | ⟨c27, h⟩
   ·cases h
    refine J0 (lf := lf21) rfl rfl rfl ?_
    simp only [lf21, lc21]
    rcases tof (Ji p0.Pitch 32 1024) with a28 | a28
    ·rcases tof (ine (irem p0.Pitch 2) 0) with a29 | a29
     ·simp [a28, a29] at c3
     ·rcases tof (Ji p0.Height 4 1024) with a30 | a30
      ·rcases tof (ine (irem p0.Height 2) 0) with a31 | a31
       ·simp [a28, a29, a30, a31] at c3
       ·rcases tof (Ji p0.Walls 0 8) with a32 | a32
        ·rcases tof (Ji p0.Top 0 16) with a33 | a33
         ·rcases tof (Ji p0.Bottom 0 16) with a34 | a34
          ·rcases tof (Ji p0.Pattern 0 3) with a35 | a35
           ·rcases tof (Ji p0.Spacing 1 64) with a36 | a36
            ·rcases tof (Ji p0.Reach 0 64) with a37 | a37
             ·rcases tof (Ji p0.Gap 0 64) with a38 | a38
              ·rcases tof (Ji p0.Brim 0 64) with a39 | a39
               ·rcases tof (Ji p0.Skirt 0 63) with a40 | a40
                ·simp [a28, a29, a30, a31, a32, a33, a34, a35, a36, a37, a38, a39, a40] at c27
                ·simp [*, (show ieq 2 0 = false from rfl), (show ieq 2 0 = false from rfl)]
               ·simp [*, (show ieq 2 0 = false from rfl), (show ieq 2 0 = false from rfl)]
              ·simp [*, (show ieq 2 0 = false from rfl), (show ieq 2 0 = false from rfl)]
             ·simp [*, (show ieq 2 0 = false from rfl), (show ieq 2 0 = false from rfl)]
            ·simp [a28, a29, a30, a31, a32, a33, a34, a35, a36] at c13
           ·simp [a28, a29, a30, a31, a32, a33, a34, a35] at c13
          ·simp [a28, a29, a30, a31, a32, a33, a34] at c13
         ·simp [a28, a29, a30, a31, a32, a33] at c13
        ·simp [a28, a29, a30, a31, a32] at c13
      ·simp [a28, a29, a30] at c3
    ·simp [a28] at c3
   ·have f41 := Kl p0.Drop 1 1073741824
    have f42 := Kl p0.Feed 1 1048576
    have f43 := Kl p0.Travel 1 1048576
    have f44 := Kl p0.Retract 0 65536
    rcases ifC h with ⟨c45, h⟩ | ⟨c45, h⟩
    ·cases h
     refine J0 (lf := lf21) rfl rfl rfl ?_
     simp only [lf21, lc21]
     rcases tof (Ji p0.Pitch 32 1024) with a46 | a46
     ·rcases tof (ine (irem p0.Pitch 2) 0) with a47 | a47
      ·simp [a46, a47] at c3
      ·rcases tof (Ji p0.Height 4 1024) with a48 | a48
       ·rcases tof (ine (irem p0.Height 2) 0) with a49 | a49
        ·simp [a46, a47, a48, a49] at c3
        ·rcases tof (Ji p0.Walls 0 8) with a50 | a50
         ·rcases tof (Ji p0.Top 0 16) with a51 | a51
          ·rcases tof (Ji p0.Bottom 0 16) with a52 | a52
           ·rcases tof (Ji p0.Pattern 0 3) with a53 | a53
            ·rcases tof (Ji p0.Spacing 1 64) with a54 | a54
             ·rcases tof (Ji p0.Reach 0 64) with a55 | a55
              ·rcases tof (Ji p0.Gap 0 64) with a56 | a56
               ·rcases tof (Ji p0.Brim 0 64) with a57 | a57
                ·rcases tof (Ji p0.Skirt 0 63) with a58 | a58
                 ·rcases tof (Ji p0.Drop 1 1073741824) with a59 | a59
                  ·rcases tof (Ji p0.Feed 1 1048576) with a60 | a60
                   ·rcases tof (Ji p0.Travel 1 1048576) with a61 | a61
                    ·rcases tof (Ji p0.Retract 0 65536) with a62 | a62
                     ·simp [a46, a47, a48, a49, a50, a51, a52, a53, a54, a55, a56, a57, a58, a59, a60, a61, a62] at c45
                     ·simp [*, (show ieq 2 0 = false from rfl), (show ieq 2 0 = false from rfl)]
                    ·simp [*, (show ieq 2 0 = false from rfl), (show ieq 2 0 = false from rfl)]
                   ·simp [*, (show ieq 2 0 = false from rfl), (show ieq 2 0 = false from rfl)]
                  ·simp [*, (show ieq 2 0 = false from rfl), (show ieq 2 0 = false from rfl)]
                 ·simp [a46, a47, a48, a49, a50, a51, a52, a53, a54, a55, a56, a57, a58] at c27
                ·simp [a46, a47, a48, a49, a50, a51, a52, a53, a54, a55, a56, a57] at c27
               ·simp [a46, a47, a48, a49, a50, a51, a52, a53, a54, a55, a56] at c27
              ·simp [a46, a47, a48, a49, a50, a51, a52, a53, a54, a55] at c27
             ·simp [a46, a47, a48, a49, a50, a51, a52, a53, a54] at c13
            ·simp [a46, a47, a48, a49, a50, a51, a52, a53] at c13
           ·simp [a46, a47, a48, a49, a50, a51, a52] at c13
          ·simp [a46, a47, a48, a49, a50, a51] at c13
         ·simp [a46, a47, a48, a49, a50] at c13
       ·simp [a46, a47, a48] at c3
     ·simp [a46] at c3
    ·have f63 := Kl p0.MinTime 0 1048576
     have f64 := Kl p0.MinFeed 1 p0.Feed
     have f65 := Kl p0.Nozzle 0 400000
     have f66 := Kl p0.Bed 0 400000
     cases h
     refine J0 (lf := lf21) rfl rfl rfl ?_
     simp only [lf21, lc21]
     rcases tof (Ji p0.Pitch 32 1024) with a67 | a67
     ·rcases tof (ine (irem p0.Pitch 2) 0) with a68 | a68
      ·simp [a67, a68] at c3
      ·rcases tof (Ji p0.Height 4 1024) with a69 | a69
       ·rcases tof (ine (irem p0.Height 2) 0) with a70 | a70
        ·simp [a67, a68, a69, a70] at c3
        ·rcases tof (Ji p0.Walls 0 8) with a71 | a71
         ·rcases tof (Ji p0.Top 0 16) with a72 | a72
          ·rcases tof (Ji p0.Bottom 0 16) with a73 | a73
           ·rcases tof (Ji p0.Pattern 0 3) with a74 | a74
            ·rcases tof (Ji p0.Spacing 1 64) with a75 | a75
             ·rcases tof (Ji p0.Reach 0 64) with a76 | a76
              ·rcases tof (Ji p0.Gap 0 64) with a77 | a77
               ·rcases tof (Ji p0.Brim 0 64) with a78 | a78
                ·rcases tof (Ji p0.Skirt 0 63) with a79 | a79
                 ·rcases tof (Ji p0.Drop 1 1073741824) with a80 | a80
                  ·rcases tof (Ji p0.Feed 1 1048576) with a81 | a81
                   ·rcases tof (Ji p0.Travel 1 1048576) with a82 | a82
                    ·rcases tof (Ji p0.Retract 0 65536) with a83 | a83
                     ·rcases tof (Ji p0.MinTime 0 1048576) with a84 | a84
                      ·rcases tof (Ji p0.MinFeed 1 p0.Feed) with a85 | a85
                       ·rcases tof (Ji p0.Nozzle 0 400000) with a86 | a86
                        ·simp [*, (show ieq 2 0 = false from rfl), (show ieq 2 0 = false from rfl)]
                        ·simp [*, (show ieq 2 0 = false from rfl), (show ieq 2 0 = false from rfl)]
                       ·simp [*, (show ieq 2 0 = false from rfl), (show ieq 2 0 = false from rfl)]
                      ·simp [*, (show ieq 2 0 = false from rfl), (show ieq 2 0 = false from rfl)]
                     ·simp [a67, a68, a69, a70, a71, a72, a73, a74, a75, a76, a77, a78, a79, a80, a81, a82, a83] at c45
                    ·simp [a67, a68, a69, a70, a71, a72, a73, a74, a75, a76, a77, a78, a79, a80, a81, a82] at c45
                   ·simp [a67, a68, a69, a70, a71, a72, a73, a74, a75, a76, a77, a78, a79, a80, a81] at c45
                  ·simp [a67, a68, a69, a70, a71, a72, a73, a74, a75, a76, a77, a78, a79, a80] at c45
                 ·simp [a67, a68, a69, a70, a71, a72, a73, a74, a75, a76, a77, a78, a79] at c27
                ·simp [a67, a68, a69, a70, a71, a72, a73, a74, a75, a76, a77, a78] at c27
               ·simp [a67, a68, a69, a70, a71, a72, a73, a74, a75, a76, a77] at c27
              ·simp [a67, a68, a69, a70, a71, a72, a73, a74, a75, a76] at c27
             ·simp [a67, a68, a69, a70, a71, a72, a73, a74, a75] at c13
            ·simp [a67, a68, a69, a70, a71, a72, a73, a74] at c13
           ·simp [a67, a68, a69, a70, a71, a72, a73] at c13
          ·simp [a67, a68, a69, a70, a71, a72] at c13
         ·simp [a67, a68, a69, a70, a71] at c13
       ·simp [a67, a68, a69] at c3
     ·simp [a67] at c3
attribute [simp] c23_0 c23_1
def Qr (p0 : Ja) : Bool := (band (band (band (ige p0.X (-4096)) (ilt p0.X 4096)) (ige p0.Y (-4096))) (ilt p0.Y 4096))
def Jt8 (p0 : Ja) : Option Bool := some (Qr p0)
theorem Jj3 (p0 : Ja) : FC env 23 [.agg [I L p0.X, I L p0.Y]] none = some (.bool (Qr p0), fun _ => none) := by
 unfold Qr
 refine J0 (lf := lf23) rfl rfl rfl ?_
 simp only [lf23, lc23]
 rcases tof (ige p0.X (-4096)) with a1 | a1 <;> rcases tof (ilt p0.X 4096) with a2 | a2 <;> rcases tof (ige p0.Y (-4096)) with a3 | a3 <;> simp [*]
attribute [simp] c46_0 c46_1
def Kb (p0 : Ja) : Bool := (band (band (band (ige p0.X (-4096)) (ilt p0.X 4096)) (ige p0.Y (-4096))) (ilt p0.Y 4096))
def Js6 (p0 : Ja) : Option Bool := some (Kb p0)
theorem Jcd (p0 : Ja) : FC env 46 [.agg [I L p0.X, I L p0.Y]] none = some (.bool (Kb p0), fun _ => none) := by
 unfold Kb
 refine J0 (lf := lf46) rfl rfl rfl ?_
 simp only [lf46, lc46]
 rcases tof (ige p0.X (-4096)) with a1 | a1 <;> rcases tof (ilt p0.X 4096) with a2 | a2 <;> rcases tof (ige p0.Y (-4096)) with a3 | a3 <;> simp [*]
attribute [simp] c74_0 c74_1
def Jai (p0 : Int) : Int := (imax p0 (ineg L p0))
def Ju0 (p0 : Int) : Option Int := some (Jai p0)
theorem Jfu (p0 : Int) : FC env 74 [I L p0] none = some (I L (Jai p0), fun _ => none) := by
 unfold Jai
 refine J0 (lf := lf74) rfl rfl rfl ?_
 simp only [lf74, lc74]
 simp
attribute [simp] c47_0 c47_1
def Ky (p0 : Ja) (p1 : Ja) : Bool := (ieq (iadd L (Jai (isub L p0.X p1.X)) (Jai (isub L p0.Y p1.Y))) 1)
def Jq1 (p0 : Ja) (p1 : Ja) : Option Bool := some (Ky p0 p1)
theorem Jeg (p0 : Ja) (p1 : Ja) : FC env 47 [.agg [I L p0.X, I L p0.Y], .agg [I L p1.X, I L p1.Y]] none = some (.bool (Ky p0 p1), fun _ => none) := by
 unfold Ky
 have f1 := Jfu (isub L p0.X p1.X)
 have f2 := Jfu (isub L p0.Y p1.Y)
 refine J0 (lf := lf47) rfl rfl rfl ?_
 simp only [lf47, lc47]
 simp [*]
attribute [simp] c24_0 c24_1 c24_2 c24_3 c24_4 c24_5 c24_6 c24_7 c24_8 c24_9 c24_11
theorem c24_L0_u : EC Γ ps 0 J7n σ = EC Γ ps 0 (.seq (.reg false c24_5) (.seq (.cond (.t 29) .skip (.seq (.trim [1, 3]) (.exit 0))) (.seq (.blk 1 (.seq (.reg false c24_6) (.seq (.reg true c24_7) (.cond (.t 50) (.seq (.reg false c24_8) (.seq (.trim [2]) .ret)) .skip)))) (.reg false c24_9)))) σ := rfl
attribute [simp ↓] c24_L0_u
def K3 (k0 : Jb) (k1 : Int) (k2 : (FS Ja)) (k3 : Int) (s : Int) : Option (LR Int (Bool ⊕ Unit)) := match s with
 | s0 => (if (ilt s0 k3) = true then (J6 (fget k2 s0) fun v5 => (J6 (gOpt (band (bnot (bnot (Kb v5))) (igt s0 0)) (fget k0.Cells (isub L s0 1))) fun v9 => (if (bor (bnot (Kb v5)) (band (igt s0 0) (bnot (Ky (v9.getD (⟨0, 0⟩ : Ja)) v5)))) = true then some (.dn (.inl false))
 else some (.nx (iadd L s0 1)))))
 else some (.dn (.inr ())))
def Xv (k0 : Jb) (k1 : Int) (k2 : (FS Ja)) (k3 : Int) (s : Int) : St := match s with
 | s0 => ⟨fr [(1, .ptr 1 0 0), (3, I L k1), (26, encF Jf k2), (27, I L k3), (28, I L s0)], hl [(1, .box 0 [I L k0.Role, .bool k0.Closed, encF Jf k0.Cells])]⟩
def Yr (k0 : Jb) (k1 : Int) (k2 : (FS Ja)) (k3 : Int) (x : (Bool ⊕ Unit)) : LE × St := match x with
 | .inl x => (.ret, ⟨fr [(2, .bool x)], hl []⟩)
 | .inr x => (.exit 0, ⟨fr [(1, .ptr 1 0 0), (3, I L k1)], hl [(1, .box 0 [I L k0.Role, .bool k0.Closed, encF Jf k0.Cells])]⟩)
theorem Jh2 {k0} {k1} {k2} {k3} {s} {r} (h : Kn (K3 k0 k1 k2 k3) bigN s = some r) : LK env [] 0 [1, 3, 26, 27, 28] J7n (some (Xv k0 k1 k2 k3 s)) = some (Yr k0 k1 k2 k3 r) := Kh (st := Xv k0 k1 k2 k3) (out := Yr k0 k1 k2 k3) (by
 clear h s r
 rintro s0 x h
 simp only [K3] at h
 rcases ifC h with ⟨c6, h⟩ | ⟨c6, h⟩
 ·obtain ⟨v9, h8, h⟩ := oS h
  have f7 := Kf (e := Jf) h8
  have f10 := Jcd v9
  obtain ⟨v13, h12, h⟩ := oS h
  have f11 := fun (q0 : (bnot (Kb v9)) = false) (q1 : (igt s0 0) = true) => Kf (e := Jf) (Qp (⟨0, 0⟩ : Ja) h12 (Jog (Jeb q0) q1))
  have f14 := Jeg (v13.getD (⟨0, 0⟩ : Ja)) v9
  rcases ifC h with ⟨c15, h⟩ | ⟨c15, h⟩
  ·cases h
   simp only [Xv, Yr]
   rw [Jm]
   rcases tof (Kb v9) with a16 | a16 <;> rcases tof (igt s0 0) with a17 | a17 <;> rcases tof (Ky (v13.getD (⟨0, 0⟩ : Ja)) v9) with a18 | a18 <;> (try (simp [c6, a16, a17, a18] at c15; done)) <;> simp [*]
  ·cases h
   simp only [Xv]
   rw [Jm]
   rcases tof (Kb v9) with a19 | a19 <;> rcases tof (igt s0 0) with a20 | a20 <;> rcases tof (Ky (v13.getD (⟨0, 0⟩ : Ja)) v9) with a21 | a21 <;> (try (simp [c6, a19, a20, a21] at c15; done)) <;> simp [*]
 ·cases h
  simp only [Xv, Yr]
  rw [Jm]
  simp [*]) bigN s r h
def Xi (p0 : Jb) : Option Bool := (if (bor (bor (bor (ilt p0.Role 1) (igt p0.Role 7)) (ilt (flen p0.Cells) 1)) (igt (flen p0.Cells) 65536)) = true then some false
 else (J6 (Kn (K3 p0 (flen p0.Cells) p0.Cells (flen p0.Cells)) bigN 0) fun v13 => (match v13 with
 | .inl v13x => some v13x
 | .inr v13x => (J6 (gOpt (bnot (bor (bnot p0.Closed) (ieq (flen p0.Cells) 1))) (fget p0.Cells (isub L (flen p0.Cells) 1))) fun v17 => (J6 (gOpt (bnot (bor (bnot p0.Closed) (ieq (flen p0.Cells) 1))) (fget p0.Cells 0)) fun v20 => some (bor (bor (bnot p0.Closed) (ieq (flen p0.Cells) 1)) (Ky (v17.getD (⟨0, 0⟩ : Ja)) (v20.getD (⟨0, 0⟩ : Ja)))))))))
theorem Ja4 {p0} {r} (h : Xi p0 = some r) : FC env 24 [.agg [I L p0.Role, .bool p0.Closed, encF Jf p0.Cells]] none = some (.bool r, fun _ => none) := by
 unfold Xi at h
 rcases ifC h with ⟨c1, h⟩ | ⟨c1, h⟩
 ·cases h
  refine J0 (lf := lf24) rfl rfl rfl ?_
  simp only [lf24, lc24]
  rcases tof (ilt p0.Role 1) with a2 | a2 <;> rcases tof (igt p0.Role 7) with a3 | a3 <;> rcases tof (ilt (flen p0.Cells) 1) with a4 | a4 <;> rcases tof (igt (flen p0.Cells) 65536) with a5 | a5 <;> (try (simp [a2, a3, a4, a5] at c1; done)) <;> simp [*]
 ·obtain ⟨v23, h22, h⟩ := oS h
  have f24 := Jh2 h22
  cases v23 with
  | inl v23x =>
   try simp only at h
   simp only [Xv, Yr, J5, Ka] at f24
   try simp only [Jg, Jh, Jk, Jr, Ju, Jt, Js, Jv] at f24
   cases h
   refine J0 (lf := lf24) rfl rfl rfl ?_
   simp only [lf24, lc24]
   rcases tof (ilt p0.Role 1) with a26 | a26 <;> rcases tof (igt p0.Role 7) with a27 | a27 <;> rcases tof (ilt (flen p0.Cells) 1) with a28 | a28 <;> rcases tof (igt (flen p0.Cells) 65536) with a29 | a29 <;> (try (simp [a26, a27, a28, a29] at c1; done)) <;> (try simp only [a26, a27, a28, a29] at f24) <;> simp [*]
  | inr v23x =>
   try simp only at h
   simp only [Xv, Yr, J5, Ka] at f24
   try simp only [Jg, Jh, Jk, Jr, Ju, Jt, Js, Jv] at f24
   obtain ⟨v33, h32, h⟩ := oS h
   have f31 := fun (q0 : (bor (bnot p0.Closed) (ieq (flen p0.Cells) 1)) = false) => Kf (e := Jf) (Qp (⟨0, 0⟩ : Ja) h32 (Jeb q0))
   obtain ⟨v36, h35, h⟩ := oS h
   have f34 := fun (q0 : (bor (bnot p0.Closed) (ieq (flen p0.Cells) 1)) = false) => Kf (e := Jf) (Qp (⟨0, 0⟩ : Ja) h35 (Jeb q0))
   have f37 := Jeg (v33.getD (⟨0, 0⟩ : Ja)) (v36.getD (⟨0, 0⟩ : Ja))
   cases h
   refine J0 (lf := lf24) rfl rfl rfl ?_
   simp only [lf24, lc24]
   rcases tof (ilt p0.Role 1) with a38 | a38
   ·simp [a38] at c1
   ·rcases tof (igt p0.Role 7) with a39 | a39
    ·simp [a38, a39] at c1
    ·rcases tof (ilt (flen p0.Cells) 1) with a40 | a40
     ·simp [a38, a39, a40] at c1
     ·rcases tof (igt (flen p0.Cells) 65536) with a41 | a41
      ·simp [a38, a39, a40, a41] at c1
      ·rcases tof p0.Closed with a42 | a42
       ·rcases tof (ieq (flen p0.Cells) 1) with a43 | a43
        ·try simp only [a42] at f24 f31 f34 f37
         try simp only [a38, a39, a40, a41, a42, a43] at f24
         simp [*]
        ·try simp only [a42] at f24 f31 f34 f37
         try simp only [a38, a39, a40, a41, a42, a43] at f24
         simp [*]
       ·try simp only [a42] at f24 f31 f34 f37
        try simp only [a38, a39, a40, a41, a42] at f24
        simp [*]
attribute [simp] c25_0 c25_1 c25_2 c25_3 c25_5
theorem c25_L0_u : EC Γ ps 0 J30 σ = EC Γ ps 0 (.seq (.seq (.reg true c25_2) (.cond (.t 23) .skip (.seq (.trim [5]) (.exit 0)))) (.blk 1 (.reg false c25_3))) σ := rfl
attribute [simp ↓] c25_L0_u
def Y7 (k0 : (FS Jb)) (k1 : Int) (s : Int) : Option (LR Int Int) := match s with
 | s0 => (J6 (gOpt (ilt s0 (flen k0)) (fget k0 s0)) fun v3 => (J6 (gOpt (ilt s0 (flen k0)) (fget k0 k1)) fun v6 => (if (band (ilt s0 (flen k0)) (ieq (((v3.getD (⟨0, false, (FS.nil : (FS Ja))⟩ : Jb))).Role) (((v6.getD (⟨0, false, (FS.nil : (FS Ja))⟩ : Jb))).Role))) = true then some (.nx (iadd L s0 1))
 else some (.dn s0))))
def ze (k0 : (FS Jb)) (k1 : Int) (s : Int) : St := match s with
 | s0 => ⟨fr [(0, encF Jc k0), (1, I L k1), (5, I L s0)], hl []⟩
def Ja8 (k0 : (FS Jb)) (k1 : Int) (x : Int) : LE × St := (.exit 0, ⟨fr [(5, I L x)], hl []⟩)
theorem Jih {k0} {k1} {s} {r} (h : Kn (Y7 k0 k1) bigN s = some r) : LK env [] 0 [0, 1, 5] J30 (some (ze k0 k1 s)) = some (Ja8 k0 k1 r) := Kh (st := ze k0 k1) (out := Ja8 k0 k1) (by
 clear h s r
 rintro s0 x h
 simp only [Y7] at h
 obtain ⟨v3, h2, h⟩ := oS h
 have f1 := fun (q0 : (ilt s0 (flen k0)) = true) => Kf (e := Jc) (Qp (⟨0, false, (FS.nil : (FS Ja))⟩ : Jb) h2 q0)
 obtain ⟨v6, h5, h⟩ := oS h
 have f4 := fun (q0 : (ilt s0 (flen k0)) = true) => Kf (e := Jc) (Qp (⟨0, false, (FS.nil : (FS Ja))⟩ : Jb) h5 q0)
 rcases ifC h with ⟨c7, h⟩ | ⟨c7, h⟩
 ·cases h
  simp only [ze]
  rw [Jm]
  rcases tof (ilt s0 (flen k0)) with a8 | a8 <;> rcases tof (ieq (((v3.getD (⟨0, false, (FS.nil : (FS Ja))⟩ : Jb))).Role) (((v6.getD (⟨0, false, (FS.nil : (FS Ja))⟩ : Jb))).Role)) with a9 | a9 <;> (try (simp [a8, a9] at c7; done)) <;> simp [*]
 ·cases h
  simp only [ze, Ja8]
  rw [Jm]
  rcases tof (ilt s0 (flen k0)) with a10 | a10 <;> rcases tof (ieq (((v3.getD (⟨0, false, (FS.nil : (FS Ja))⟩ : Jb))).Role) (((v6.getD (⟨0, false, (FS.nil : (FS Ja))⟩ : Jb))).Role)) with a11 | a11 <;> (try (simp [a10, a11] at c7; done)) <;> simp [*]) bigN s r h
def Ja2 (p0 : (FS Jb)) (p1 : Int) : Option Int := (J6 (Kn (Y7 p0 p1) bigN p1) fun v9 => some v9)
theorem Jjw {p0} {p1} {r} (h : Ja2 p0 p1 = some r) : FC env 25 [encF Jc p0, I L p1] none = some (I L r, fun _ => none) := by
 unfold Ja2 at h
 obtain ⟨v13, h12, h⟩ := oS h
 have f14 := Jih h12
 simp only [ze, Ja8, J5, Ka] at f14
 try simp only [Jg, Jh, Jk, Jr, Ju, Jt, Js, Jv] at f14
 cases h
 refine J0 (lf := lf25) rfl rfl rfl ?_
 simp only [lf25, lc25]
 simp [*]
attribute [simp] c48_0 c48_1 c48_2 c48_3 c48_4 c48_5 c48_6 c48_7 c48_9
theorem c48_L0_u : EC Γ ps 0 J5g σ = EC Γ ps 0 (.seq (.reg false c48_3) (.seq (.cond (.t 9) .skip (.seq (.trim [3]) (.exit 0))) (.seq (.blk 1 (.seq (.reg false c48_4) (.seq (.reg false c48_5) (.cond (.t 13) (.reg false c48_6) .skip)))) (.reg false c48_7)))) σ := rfl
attribute [simp ↓] c48_L0_u
def jv (k0 : (FS Jb)) (k1 : Int) (s : ((FS Jb) × Int)) : Option (LR ((FS Jb) × Int) (FS Jb)) := match s with
 | (s0, s1) => (if (ilt s1 k1) = true then (J6 (fget k0 s1) fun v4 => (J6 (Xi v4) fun v7 => (if v7 = true then (if fits 40 ((flen s0) + 1) = true then some (.nx ((Yy s0 v4), (iadd L s1 1))) else none)
 else some (.nx (s0, (iadd L s1 1))))))
 else some (.dn s0))
def Qi (k0 : (FS Jb)) (k1 : Int) (s : ((FS Jb) × Int)) : St := match s with
 | (s0, s1) => (Jat s0 (⟨fr [(3, .nils), (6, encF Jc k0), (7, I L k1), (8, I L s1)], hl []⟩)
  (fun l0 => ⟨fr [(3, .arr 3 0 0 l0.l.length), (6, encF Jc k0), (7, I L k1), (8, I L s1)], hl [(3, .arr 0 3 42 (Jn Jc l0.l) false)]⟩))
def js (k0 : (FS Jb)) (k1 : Int) (x : (FS Jb)) : LE × St := (Jat x (.exit 0, ⟨fr [(3, .nils)], hl []⟩)
  (fun l0 => (.exit 0, ⟨fr [(3, .arr 3 0 0 l0.l.length)], hl [(3, .arr 0 3 42 (Jn Jc l0.l) false)]⟩)))
theorem Jhw {k0} {k1} {s} {r} (h : Kn (jv k0 k1) bigN s = some r) : LK env [] 0 [3, 6, 7, 8] J5g (some (Qi k0 k1 s)) = some (js k0 k1 r) := Kh (st := Qi k0 k1) (out := js k0 k1) (by
 clear h s r
 rintro ⟨s0, s1⟩ x h
 simp only [jv] at h
 cases e2 : s0 with
 | nil =>
  try simp only [e2, Jx] at h
  rcases ifC h with ⟨c3, h⟩ | ⟨c3, h⟩
  ·obtain ⟨v6, h5, h⟩ := oS h
   have f4 := Kf (e := Jc) h5
   obtain ⟨v9, h8, h⟩ := oS h
   have f7 := Ja4 h8
   rcases ifC h with ⟨c10, h⟩ | ⟨c10, h⟩
   ·obtain ⟨h12, h⟩ := ifS h
    have f11 := fun H g0 hg y => @Jdk _ _ Jc _ v6 40 h12 (by decide) H g0 42 y hg
    simp only [Jc] at f11
    cases h
    simp only [Qi, e2]
    rw [Jm]
    simp [*]
   ·cases h
    simp only [Qi, e2]
    rw [Jm]
    simp [*]
  ·cases h
   simp only [Qi, js, e2]
   rw [Jm]
   simp [*]
 | lst l1 =>
  try simp only [e2] at h
  rcases ifC h with ⟨c13, h⟩ | ⟨c13, h⟩
  ·obtain ⟨v16, h15, h⟩ := oS h
   have f14 := Kf (e := Jc) h15
   obtain ⟨v19, h18, h⟩ := oS h
   have f17 := Ja4 h18
   rcases ifC h with ⟨c20, h⟩ | ⟨c20, h⟩
   ·obtain ⟨h22, h⟩ := ifS h
    have f21 := fun g0 H y => @Y3 _ _ Jc _ (FS.lst l1) v16 40 h22 (by decide) g0 H 3 0 42 y
    simp only [Jc] at f21
    cases h
    simp only [Qi, e2]
    rw [Jm]
    simp [*]
   ·cases h
    simp only [Qi, e2]
    rw [Jm]
    simp [*]
  ·cases h
   simp only [Qi, js, e2]
   rw [Jm]
   simp [*]) bigN s r h
def zr (p0 : (FS Jb)) : Option (FS Jb) := (J6 (Kn (jv p0 (flen p0)) bigN ((FS.nil : (FS Jb)), 0)) fun v12 => some v12)
theorem Jdu {p0} {r} (h : zr p0 = some r) : FC env 48 [encF Jc p0] none = some (encF Jc r, fun _ => none) := by
 unfold zr at h
 obtain ⟨v24, h23, h⟩ := oS h
 have f25 := Jhw h23
 simp only [Qi, js, J5, Ka] at f25
 cases e28 : v24 with
 | nil =>
  try simp only [e28, Jx] at h
  simp only [e28, Jx, Jg, Jh] at f25
  cases h
  refine J0 (lf := lf48) rfl rfl rfl ?_
  simp only [lf48, lc48]
  simp [*]
 | lst l27 =>
  try simp only [e28] at h
  simp only [e28, Jx, Jg, Jh] at f25
  cases h
  refine J0 (lf := lf48) rfl rfl rfl ?_
  simp only [lf48, lc48]
  simp [*, Kq (e := Jc) (el := 42) (fz := false)]
attribute [simp] c77_0 c77_1 c77_2 c77_3 c77_4 c77_5 c77_6 c77_7 c77_9
theorem c77_L0_u : EC Γ ps 0 J9v σ = EC Γ ps 0 (.seq (.seq (.reg false c77_5) (.cond (.t 19) .skip (.seq (.trim [2, 3]) (.exit 0)))) (.seq (.blk 1 (.reg true c77_6)) (.reg false c77_7))) σ := rfl
attribute [simp ↓] c77_L0_u
def Zx (k0 : Jb) (k1 : Jb) (s : (Jb × Int)) : Option (LR (Jb × Int) Jb) := match s with
 | (s0, s1) => (if (ige s1 0) = true then (J6 (fget k0.Cells s1) fun v8 => (if fits 16 ((flen s0.Cells) + 1) = true then some (.nx ((⟨s0.Role, s0.Closed, (Yy s0.Cells v8)⟩ : Jb), (isub L s1 1))) else none))
 else some (.dn (⟨s0.Role, s0.Closed, s0.Cells⟩ : Jb)))
def Q9 (k0 : Jb) (k1 : Jb) (s : (Jb × Int)) : St := match s with
 | (s0, s1) => (Jat s0.Cells (⟨fr [(1, .ptr 1 0 0), (2, .ptr 2 0 0), (3, .ptr 3 0 0), (4, I L s1)], hl [(1, .box 0 [I L k0.Role, .bool k0.Closed, encF Jf k0.Cells]), (2, .box 0 [I L k1.Role, .bool k1.Closed, .nils]), (3, .box 0 [I L s0.Role, .bool s0.Closed, .nils])]⟩)
  (fun l0 => ⟨fr [(1, .ptr 1 0 0), (2, .ptr 2 0 0), (3, .ptr 3 0 0), (4, I L s1)], hl [(1, .box 0 [I L k0.Role, .bool k0.Closed, encF Jf k0.Cells]), (2, .box 0 [I L k1.Role, .bool k1.Closed, .nils]), (3, .box 0 [I L s0.Role, .bool s0.Closed, .arr 1003002 0 0 l0.l.length]), (1003002, .arr 0 2 27 (Jn Jf l0.l) false)]⟩))
def Zr (k0 : Jb) (k1 : Jb) (x : Jb) : LE × St := (Jat x.Cells (.exit 0, ⟨fr [(2, .ptr 2 0 0), (3, .ptr 3 0 0)], hl [(2, .box 0 [I L k1.Role, .bool k1.Closed, .nils]), (3, .box 0 [I L x.Role, .bool x.Closed, .nils])]⟩)
  (fun l0 => (.exit 0, ⟨fr [(2, .ptr 2 0 0), (3, .ptr 3 0 0)], hl [(2, .box 0 [I L k1.Role, .bool k1.Closed, .nils]), (3, .box 0 [I L x.Role, .bool x.Closed, .arr 1003002 0 0 l0.l.length]), (1003002, .arr 0 2 27 (Jn Jf l0.l) false)]⟩)))
theorem Jg2 {k0} {k1} {s} {r} (h : Kn (Zx k0 k1) bigN s = some r) : LK env [] 0 [1, 2, 3, 4] J9v (some (Q9 k0 k1 s)) = some (Zr k0 k1 r) ∧ (Lst s.1.Cells → Lst r.Cells) := Jjy (P := fun s => Lst s.1.Cells) (Q := fun r => Lst r.Cells) (st := Q9 k0 k1) (out := Zr k0 k1) (by
 clear h s r
 rintro ⟨s0, s1⟩ x h
 simp only [Zx] at h
 cases e7 : s0.Cells with
 | nil =>
  try simp only [e7, Jx] at h
  rcases ifC h with ⟨c8, h⟩ | ⟨c8, h⟩
  ·obtain ⟨v11, h10, h⟩ := oS h
   have f9 := Kf (e := Jf) h10
   obtain ⟨h13, h⟩ := ifS h
   have f12 := fun H g0 hg y => @Jdk _ _ Jf _ v11 16 h13 (by decide) H g0 27 y hg
   simp only [Jf] at f12
   cases h
   refine ⟨?_, fun k => ?_⟩
   ·simp only [Q9, e7]
    rw [Jm]
    simp [*]
   ·obtain ⟨_, k⟩ := k
    first | exact (Jja k).elim | exact (Jja (e7.symm.trans k)).elim
  ·cases h
   refine ⟨?_, fun k => ?_⟩
   ·simp only [Q9, Zr, e7]
    rw [Jm]
    simp [*]
   ·obtain ⟨_, k⟩ := k
    first | exact (Jja k).elim | exact (Jja (e7.symm.trans k)).elim
 | lst l6 =>
  try simp only [e7] at h
  rcases ifC h with ⟨c14, h⟩ | ⟨c14, h⟩
  ·obtain ⟨v17, h16, h⟩ := oS h
   have f15 := Kf (e := Jf) h16
   obtain ⟨h19, h⟩ := ifS h
   have f18 := fun g0 H y => @Y3 _ _ Jf _ (FS.lst l6) v17 16 h19 (by decide) g0 H 1003002 0 27 y
   simp only [Jf] at f18
   cases h
   refine ⟨?_, fun k => ?_⟩
   ·simp only [Q9, e7]
    rw [Jm]
    simp [*]
   ·first | exact ⟨_, rfl⟩ | exact ⟨_, by assumption⟩
  ·cases h
   refine ⟨?_, fun k => ?_⟩
   ·simp only [Q9, Zr, e7]
    rw [Jm]
    simp [*]
   ·first | exact ⟨_, rfl⟩ | exact ⟨_, by assumption⟩) bigN s r h
def z4 (p0 : Jb) : Option Jb := (J6 (Xi p0) fun v3 => (if (bnot v3) = true then some (⟨0, false, (FS.nil : (FS Ja))⟩ : Jb)
 else (J6 (Kn (Zx p0 (⟨0, false, (FS.nil : (FS Ja))⟩ : Jb)) bigN ((⟨p0.Role, p0.Closed, (FS.nil : (FS Ja))⟩ : Jb), (isub L (flen p0.Cells) 1))) fun v12 => some (⟨v12.Role, v12.Closed, v12.Cells⟩ : Jb))))
theorem Je4 {p0} {r} (h : z4 p0 = some r) : FC env 77 [.agg [I L p0.Role, .bool p0.Closed, encF Jf p0.Cells]] none = some (.agg [I L r.Role, .bool r.Closed, encF Jf r.Cells], fun _ => none) := by
 unfold z4 at h
 obtain ⟨v3, h2, h⟩ := oS h
 have f1 := Ja4 h2
 rcases ifC h with ⟨c4, h⟩ | ⟨c4, h⟩
 ·cases h
  refine J0 (lf := lf77) rfl rfl rfl ?_
  simp only [lf77, lc77]
  rcases tof v3 with a5 | a5
  ·simp [a5] at c4
  ·simp [*]
 ·obtain ⟨v21, h20, h⟩ := oS h
  obtain ⟨f22, f22k⟩ := Jg2 h20
  simp only [Q9, Zr, J5, Ka] at f22
  cases e25 : v21.Cells with
  | nil =>
   try simp only [e25, Jx] at h
   simp only [e25, Jx, Jg, Jh] at f22
   cases h
   refine J0 (lf := lf77) rfl rfl rfl ?_
   simp only [lf77, lc77]
   rcases tof v3 with a26 | a26
   ·try simp only [a26] at f22
    simp [*]
   ·simp [a26] at c4
  | lst l24 =>
   try simp only [e25] at h
   simp only [e25, Jx, Jg, Jh] at f22
   cases h
   refine J0 (lf := lf77) rfl rfl rfl ?_
   simp only [lf77, lc77]
   rcases tof v3 with a27 | a27
   ·try simp only [a27] at f22
    simp [*, Jnj, Jm7, Qm, K5, Qo, K4, Qq, Jfd (e := Jf) (el := 27) (fz := false)]
   ·simp [a27] at c4
attribute [simp] c78_0 c78_1 c78_2 c78_3 c78_4 c78_5 c78_6 c78_7 c78_8 c78_9 J9y J0u c78_13
theorem c78_L0_u : EC Γ ps 0 J5r σ = EC Γ ps 0 (.seq (.reg false c78_8) (.seq (.cond (.t 34) .skip (.seq (.trim [4, 7]) (.exit 0))) (.seq (.blk 1 (.seq (.reg false c78_9) (.reg true J9y))) (.reg false J0u)))) σ := rfl
attribute [simp ↓] c78_L0_u
def Yl (k0 : Jb) (k1 : Jb) (k2 : Int) (k3 : Int) (k4 : Int) (s : (Jb × Int)) : Option (LR (Jb × Int) Jb) := match s with
 | (s0, s1) => (if (ilt s1 k4) = true then (if ieq k3 0 = true then none else (J6 (fget k0.Cells (irem (iadd L k2 s1) k3)) fun v12 => (if fits 16 ((flen s0.Cells) + 1) = true then some (.nx ((⟨s0.Role, s0.Closed, (Yy s0.Cells v12)⟩ : Jb), (iadd L s1 1))) else none)))
 else some (.dn (⟨s0.Role, s0.Closed, s0.Cells⟩ : Jb)))
def Qs (k0 : Jb) (k1 : Jb) (k2 : Int) (k3 : Int) (k4 : Int) (s : (Jb × Int)) : St := match s with
 | (s0, s1) => (Jat s0.Cells (⟨fr [(2, .ptr 2 0 0), (4, .ptr 4 0 0), (5, I L k2), (6, I L k3), (7, .ptr 7 0 0), (32, I L k4), (33, I L s1)], hl [(2, .box 0 [I L k0.Role, .bool k0.Closed, encF Jf k0.Cells]), (4, .box 0 [I L k1.Role, .bool k1.Closed, .nils]), (7, .box 0 [I L s0.Role, .bool s0.Closed, .nils])]⟩)
  (fun l0 => ⟨fr [(2, .ptr 2 0 0), (4, .ptr 4 0 0), (5, I L k2), (6, I L k3), (7, .ptr 7 0 0), (32, I L k4), (33, I L s1)], hl [(2, .box 0 [I L k0.Role, .bool k0.Closed, encF Jf k0.Cells]), (4, .box 0 [I L k1.Role, .bool k1.Closed, .nils]), (7, .box 0 [I L s0.Role, .bool s0.Closed, .arr 1007002 0 0 l0.l.length]), (1007002, .arr 0 2 27 (Jn Jf l0.l) false)]⟩))
def Yd (k0 : Jb) (k1 : Jb) (k2 : Int) (k3 : Int) (k4 : Int) (x : Jb) : LE × St := (Jat x.Cells (.exit 0, ⟨fr [(4, .ptr 4 0 0), (7, .ptr 7 0 0)], hl [(4, .box 0 [I L k1.Role, .bool k1.Closed, .nils]), (7, .box 0 [I L x.Role, .bool x.Closed, .nils])]⟩)
  (fun l0 => (.exit 0, ⟨fr [(4, .ptr 4 0 0), (7, .ptr 7 0 0)], hl [(4, .box 0 [I L k1.Role, .bool k1.Closed, .nils]), (7, .box 0 [I L x.Role, .bool x.Closed, .arr 1007002 0 0 l0.l.length]), (1007002, .arr 0 2 27 (Jn Jf l0.l) false)]⟩)))
theorem Jee {k0} {k1} {k2} {k3} {k4} {s} {r} (h : Kn (Yl k0 k1 k2 k3 k4) bigN s = some r) : LK env [] 0 [2, 4, 5, 6, 7, 32, 33] J5r (some (Qs k0 k1 k2 k3 k4 s)) = some (Yd k0 k1 k2 k3 k4 r) ∧ (Lst s.1.Cells → Lst r.Cells) := Jjy (P := fun s => Lst s.1.Cells) (Q := fun r => Lst r.Cells) (st := Qs k0 k1 k2 k3 k4) (out := Yd k0 k1 k2 k3 k4) (by
 clear h s r
 rintro ⟨s0, s1⟩ x h
 simp only [Yl] at h
 cases e10 : s0.Cells with
 | nil =>
  try simp only [e10, Jx] at h
  rcases ifC h with ⟨c11, h⟩ | ⟨c11, h⟩
  ·obtain ⟨h12, h⟩ := ifN h
   obtain ⟨v15, h14, h⟩ := oS h
   have f13 := Kf (e := Jf) h14
   obtain ⟨h17, h⟩ := ifS h
   have f16 := fun H g0 hg y => @Jdk _ _ Jf _ v15 16 h17 (by decide) H g0 27 y hg
   simp only [Jf] at f16
   cases h
   refine ⟨?_, fun k => ?_⟩
   ·simp only [Qs, e10]
    rw [Jm]
    simp [*]
   ·obtain ⟨_, k⟩ := k
    first | exact (Jja k).elim | exact (Jja (e10.symm.trans k)).elim
  ·cases h
   refine ⟨?_, fun k => ?_⟩
   ·simp only [Qs, Yd, e10]
    rw [Jm]
    simp [*]
   ·obtain ⟨_, k⟩ := k
    first | exact (Jja k).elim | exact (Jja (e10.symm.trans k)).elim
 | lst l9 =>
  try simp only [e10] at h
  rcases ifC h with ⟨c18, h⟩ | ⟨c18, h⟩
  ·obtain ⟨h19, h⟩ := ifN h
   obtain ⟨v22, h21, h⟩ := oS h
   have f20 := Kf (e := Jf) h21
   obtain ⟨h24, h⟩ := ifS h
   have f23 := fun g0 H y => @Y3 _ _ Jf _ (FS.lst l9) v22 16 h24 (by decide) g0 H 1007002 0 27 y
   simp only [Jf] at f23
   cases h
   refine ⟨?_, fun k => ?_⟩
   ·simp only [Qs, e10]
    rw [Jm]
    simp [*]
   ·first | exact ⟨_, rfl⟩ | exact ⟨_, by assumption⟩
  ·cases h
   refine ⟨?_, fun k => ?_⟩
   ·simp only [Qs, Yd, e10]
    rw [Jm]
    simp [*]
   ·first | exact ⟨_, rfl⟩ | exact ⟨_, by assumption⟩) bigN s r h
def Jb1 (p0 : Jb) (p1 : Int) : Option Jb := (J6 (Xi p0) fun v3 => (if (bnot v3) = true then some (⟨0, false, (FS.nil : (FS Ja))⟩ : Jb)
 else (if p0.Closed = true then (if ieq (flen p0.Cells) 0 = true then none else (if ieq (flen p0.Cells) 0 = true then none else (J6 (Kn (Yl p0 (⟨0, false, (FS.nil : (FS Ja))⟩ : Jb) (irem (iadd L (irem p1 (flen p0.Cells)) (flen p0.Cells)) (flen p0.Cells)) (flen p0.Cells) (flen p0.Cells)) bigN ((⟨p0.Role, p0.Closed, (FS.nil : (FS Ja))⟩ : Jb), 0)) fun v16 => some (⟨v16.Role, v16.Closed, v16.Cells⟩ : Jb))))
 else (J6 (Kn (Yl p0 (⟨0, false, (FS.nil : (FS Ja))⟩ : Jb) 0 (flen p0.Cells) (flen p0.Cells)) bigN ((⟨p0.Role, p0.Closed, (FS.nil : (FS Ja))⟩ : Jb), 0)) fun v19 => some (⟨v19.Role, v19.Closed, v19.Cells⟩ : Jb)))))
theorem Jfg {p0} {p1} {r} (h : Jb1 p0 p1 = some r) : FC env 78 [.agg [I L p0.Role, .bool p0.Closed, encF Jf p0.Cells], I L p1] none = some (.agg [I L r.Role, .bool r.Closed, encF Jf r.Cells], fun _ => none) := by
 unfold Jb1 at h
 obtain ⟨v3, h2, h⟩ := oS h
 have f1 := Ja4 h2
 rcases ifC h with ⟨c4, h⟩ | ⟨c4, h⟩
 ·cases h
  refine J0 (lf := lf78) rfl rfl rfl ?_
  simp only [lf78, lc78]
  rcases tof v3 with a5 | a5
  ·simp [a5] at c4
  ·simp [*]
 ·rcases ifC h with ⟨c6, h⟩ | ⟨c6, h⟩
  ·obtain ⟨h7, h⟩ := ifN h
   obtain ⟨h8, h⟩ := ifN h
   obtain ⟨v26, h25, h⟩ := oS h
   obtain ⟨f27, f27k⟩ := Jee h25
   simp only [Qs, Yd, J5, Ka] at f27
   cases e30 : v26.Cells with
   | nil =>
    try simp only [e30, Jx] at h
    simp only [e30, Jx, Jg, Jh] at f27
    cases h
    refine J0 (lf := lf78) rfl rfl rfl ?_
    simp only [lf78, lc78]
    rcases tof v3 with a31 | a31
    ·try simp only [c6] at f1 f27
     try simp only [a31, c6] at f27
     simp [*]
    ·simp [a31] at c4
   | lst l29 =>
    try simp only [e30] at h
    simp only [e30, Jx, Jg, Jh] at f27
    cases h
    refine J0 (lf := lf78) rfl rfl rfl ?_
    simp only [lf78, lc78]
    rcases tof v3 with a32 | a32
    ·try simp only [c6] at f1 f27
     try simp only [a32, c6] at f27
     simp [*, Jnj, Jm7, Qm, K5, Qo, K4, Qq, Jfd (e := Jf) (el := 27) (fz := false)]
    ·simp [a32] at c4
  ·obtain ⟨v34, h33, h⟩ := oS h
   obtain ⟨f35, f35k⟩ := Jee h33
   simp only [Qs, Yd, J5, Ka] at f35
   cases e38 : v34.Cells with
   | nil =>
    try simp only [e38, Jx] at h
    simp only [e38, Jx, Jg, Jh] at f35
    cases h
    refine J0 (lf := lf78) rfl rfl rfl ?_
    simp only [lf78, lc78]
    rcases tof v3 with a39 | a39
    ·try simp only [c6] at f1 f35
     try simp only [a39, c6] at f35
     simp [*]
    ·simp [a39] at c4
   | lst l37 =>
    try simp only [e38] at h
    simp only [e38, Jx, Jg, Jh] at f35
    cases h
    refine J0 (lf := lf78) rfl rfl rfl ?_
    simp only [lf78, lc78]
    rcases tof v3 with a40 | a40
    ·try simp only [c6] at f1 f35
     try simp only [a40, c6] at f35
     simp [*, Jnj, Jm7, Qm, K5, Qo, K4, Qq, Jfd (e := Jf) (el := 27) (fz := false)]
    ·simp [a40] at c4
attribute [simp] c50_0 c50_1 c50_2 c50_3 c50_4 c50_5 c50_6 c50_7 c50_8 c50_10
theorem c50_L0_u : EC Γ ps 0 J82 σ = EC Γ ps 0 (.seq (.reg false c50_5) (.seq (.cond (.t 16) .skip (.seq (.trim [3]) (.exit 0))) (.seq (.blk 1 (.seq (.reg false c50_6) (.reg false c50_7))) (.reg false c50_8)))) σ := rfl
attribute [simp ↓] c50_L0_u
def Zg (k0 : Jb) (k1 : Int) (s : ((FS Jb) × Int)) : Option (LR ((FS Jb) × Int) (FS Jb)) := match s with
 | (s0, s1) => (if (ilt s1 k1) = true then (J6 (Jb1 k0 s1) fun v9 => (if fits 40 ((flen s0) + 1) = true then some (.nx ((Yy s0 v9), (iadd L s1 1))) else none))
 else some (.dn s0))
def Qz (k0 : Jb) (k1 : Int) (s : ((FS Jb) × Int)) : St := match s with
 | (s0, s1) => (Jat s0 (⟨fr [(1, .ptr 1 0 0), (3, .nils), (14, I L k1), (15, I L s1)], hl [(1, .box 0 [I L k0.Role, .bool k0.Closed, encF Jf k0.Cells])]⟩)
  (fun l0 => ⟨fr [(1, .ptr 1 0 0), (3, .arr 3 0 0 l0.l.length), (14, I L k1), (15, I L s1)], hl [(1, .box 0 [I L k0.Role, .bool k0.Closed, encF Jf k0.Cells]), (3, .arr 0 3 42 (Jn Jc l0.l) false)]⟩))
def Zd (k0 : Jb) (k1 : Int) (x : (FS Jb)) : LE × St := (Jat x (.exit 0, ⟨fr [(3, .nils)], hl []⟩)
  (fun l0 => (.exit 0, ⟨fr [(3, .arr 3 0 0 l0.l.length)], hl [(3, .arr 0 3 42 (Jn Jc l0.l) false)]⟩)))
theorem Jgn {k0} {k1} {s} {r} (h : Kn (Zg k0 k1) bigN s = some r) : LK env [] 0 [1, 3, 14, 15] J82 (some (Qz k0 k1 s)) = some (Zd k0 k1 r) := Kh (st := Qz k0 k1) (out := Zd k0 k1) (by
 clear h s r
 rintro ⟨s0, s1⟩ x h
 simp only [Zg] at h
 cases e8 : s0 with
 | nil =>
  try simp only [e8, Jx] at h
  rcases ifC h with ⟨c9, h⟩ | ⟨c9, h⟩
  ·obtain ⟨v12, h11, h⟩ := oS h
   have f10 := Jfg h11
   obtain ⟨h14, h⟩ := ifS h
   have f13 := fun H g0 hg y => @Jdk _ _ Jc _ v12 40 h14 (by decide) H g0 42 y hg
   simp only [Jc] at f13
   cases h
   simp only [Qz, e8]
   rw [Jm]
   simp [*]
  ·cases h
   simp only [Qz, Zd, e8]
   rw [Jm]
   simp [*]
 | lst l7 =>
  try simp only [e8] at h
  rcases ifC h with ⟨c15, h⟩ | ⟨c15, h⟩
  ·obtain ⟨v18, h17, h⟩ := oS h
   have f16 := Jfg h17
   obtain ⟨h20, h⟩ := ifS h
   have f19 := fun g0 H y => @Y3 _ _ Jc _ (FS.lst l7) v18 40 h20 (by decide) g0 H 3 0 42 y
   simp only [Jc] at f19
   cases h
   simp only [Qz, e8]
   rw [Jm]
   simp [*]
  ·cases h
   simp only [Qz, Zd, e8]
   rw [Jm]
   simp [*]) bigN s r h
def j8 (p0 : Jb) : Option (FS Jb) := (if (bnot p0.Closed) = true then (J6 (z4 p0) fun v4 => some (flit ([p0, v4] : List Jb)))
 else (J6 (Kn (Zg p0 (flen p0.Cells)) bigN ((FS.nil : (FS Jb)), 0)) fun v13 => some v13))
theorem Jex {p0} {r} (h : j8 p0 = some r) : FC env 50 [.agg [I L p0.Role, .bool p0.Closed, encF Jf p0.Cells]] none = some (encF Jc r, fun _ => none) := by
 unfold j8 at h
 rcases ifC h with ⟨c1, h⟩ | ⟨c1, h⟩
 ·obtain ⟨v4, h3, h⟩ := oS h
  have f2 := Je4 h3
  have f5 : ∀ (H : Heap) (g0 : Nat), bslV H g0 2 3 42 (some [I L p0.Role, .bool p0.Closed, encF Jf p0.Cells, I L v4.Role, .bool v4.Closed, encF Jf v4.Cells]) = some (.arr g0 (Kj H g0) 0 (flit ([p0, v4] : List Jb)).l.length, upd H g0 (some (.arr (Kj H g0) 3 42 (Jn Jc (flit ([p0, v4] : List Jb)).l) false))) := fun H g0 => rfl
  cases h
  refine J0 (lf := lf50) rfl rfl rfl ?_
  simp only [lf50, lc50]
  rcases tof p0.Closed with a6 | a6
  ·simp [a6] at c1
  ·try simp only [a6] at f2 f5
   simp [*, Kq (e := Jc) (el := 42) (fz := false)]
 ·obtain ⟨v22, h21, h⟩ := oS h
  have f23 := Jgn h21
  simp only [Qz, Zd, J5, Ka] at f23
  cases e26 : v22 with
  | nil =>
   try simp only [e26, Jx] at h
   simp only [e26, Jx, Jg, Jh] at f23
   cases h
   refine J0 (lf := lf50) rfl rfl rfl ?_
   simp only [lf50, lc50]
   rcases tof p0.Closed with a27 | a27
   ·try simp only [a27] at f23
    try simp only [a27] at f23
    simp [*]
   ·simp [a27] at c1
  | lst l25 =>
   try simp only [e26] at h
   simp only [e26, Jx, Jg, Jh] at f23
   cases h
   refine J0 (lf := lf50) rfl rfl rfl ?_
   simp only [lf50, lc50]
   rcases tof p0.Closed with a28 | a28
   ·try simp only [a28] at f23
    try simp only [a28] at f23
    simp [*, Kq (e := Jc) (el := 42) (fz := false)]
   ·simp [a28] at c1
attribute [simp] c79_0 c79_1
def Jae (p0 : Int) : Int := (imax p0 (ineg L p0))
def Ju1 (p0 : Int) : Option Int := some (Jae p0)
theorem Jf1 (p0 : Int) : FC env 79 [I L p0] none = some (I L (Jae p0), fun _ => none) := by
 unfold Jae
 refine J0 (lf := lf79) rfl rfl rfl ?_
 simp only [lf79, lc79]
 simp
attribute [simp] c51_0 c51_1
def Kr (p0 : Ja) (p1 : Ja) : Int := (iadd L (Jae (isub L p0.X p1.X)) (Jae (isub L p0.Y p1.Y)))
def Jrm (p0 : Ja) (p1 : Ja) : Option Int := some (Kr p0 p1)
theorem Jc3 (p0 : Ja) (p1 : Ja) : FC env 51 [.agg [I L p0.X, I L p0.Y], .agg [I L p1.X, I L p1.Y]] none = some (I L (Kr p0 p1), fun _ => none) := by
 unfold Kr
 have f1 := Jf1 (isub L p0.X p1.X)
 have f2 := Jf1 (isub L p0.Y p1.Y)
 refine J0 (lf := lf51) rfl rfl rfl ?_
 simp only [lf51, lc51]
 simp [*]
attribute [simp] c27_0 c27_1 c27_2 c27_3 c27_4 c27_5 c27_6 c27_7 c27_8 c27_9 J14 J5p J8q J6r J2d J3z J47 J5y J09 J60 J2x c27_24
theorem c27_L0_u : EC Γ ps 0 Jw7 σ = EC Γ ps 0 (.seq (.reg false J5p) (.seq (.cond (.t 35) .skip (.seq (.trim [2, 5, 6, 7, 8, 9, 24, 25, 26]) (.exit 4))) (.seq (.blk 5 (.seq (.reg false J8q) (.seq (.reg true J6r) (.seq (.reg false J2d) (.cond (.t 50) (.reg false J3z) .skip))))) (.reg false J47)))) σ := rfl
theorem c27_L1_u : EC Γ ps 0 Jx4 σ = EC Γ ps 0 (.seq (.reg false c27_8) (.seq (.cond (.t 27) .skip (.seq (.trim [2, 5, 6, 7, 8]) (.exit 2))) (.seq (.blk 3 (.seq (.reg false c27_9) (.seq (.reg false J14) (.blk 4 (.loop [2, 5, 6, 7, 8, 9, 10, 24, 25, 26, 32, 33, 34] Jw7))))) (.reg false J5y)))) σ := rfl
theorem c27_L2_u : EC Γ ps 0 J3j σ = EC Γ ps 0 (.seq (.seq (.reg false c27_5) (.cond (.t 22) .skip (.seq (.trim [6]) (.exit 0)))) (.blk 1 (.seq (.reg false c27_6) (.seq (.seq (.reg false c27_7) (.blk 2 (.loop [2, 5, 6, 7, 8, 9, 24, 25, 26] Jx4))) (.seq (.reg false J09) (.seq (.reg false J60) (.reg true J2x))))))) σ := rfl
attribute [simp ↓] c27_L0_u c27_L1_u c27_L2_u
def Qg (k0 : Ja) (k1 : (FS Jb)) (k2 : Int) (k3 : (FS Jb)) (k4 : Int) (k5 : Int) (k6 : (FS Jb)) (k7 : Int) (s : ((FS Jb) × Jb × Int × Int × Int)) : Option (LR ((FS Jb) × Jb × Int × Int × Int) (Jb × (FS Jb) × Int × Int)) := match s with
 | (s0, s1, s2, s3, s4) => (if (ilt s4 k7) = true then (J6 (fget k6 s4) fun v17 => (J6 (fget v17.Cells 0) fun v20 => (if (bor (ilt s2 0) (ilt (Kr k0 v20) s3)) = true then some (.nx (s0, v17, k2, (Kr k0 v20), (iadd L s4 1)))
 else some (.nx (s0, s1, s2, s3, (iadd L s4 1))))))
 else some (.dn (s1, s0, s2, s3)))
def K1 (k0 : Ja) (k1 : (FS Jb)) (k2 : Int) (k3 : (FS Jb)) (k4 : Int) (k5 : Int) (k6 : (FS Jb)) (k7 : Int) (s : ((FS Jb) × Jb × Int × Int × Int)) : St := match s with
 | (s0, s1, s2, s3, s4) => (Jat s0 (⟨fr [(2, .ptr 2 0 0), (5, encF Jc k1), (6, .nils), (7, .ptr 7 0 0), (8, I L s2), (9, I L s3), (10, I L k2), (24, encF Jc k3), (25, I L k4), (26, I L k5), (32, encF Jc k6), (33, I L k7), (34, I L s4)], hl [(2, .box 0 [I L k0.X, I L k0.Y]), (7, .box 0 [I L s1.Role, .bool s1.Closed, encF Jf s1.Cells])]⟩)
  (fun l0 => ⟨fr [(2, .ptr 2 0 0), (5, encF Jc k1), (6, .arr 6 0 0 l0.l.length), (7, .ptr 7 0 0), (8, I L s2), (9, I L s3), (10, I L k2), (24, encF Jc k3), (25, I L k4), (26, I L k5), (32, encF Jc k6), (33, I L k7), (34, I L s4)], hl [(2, .box 0 [I L k0.X, I L k0.Y]), (6, .arr 0 3 42 (Jn Jc l0.l) false), (7, .box 0 [I L s1.Role, .bool s1.Closed, encF Jf s1.Cells])]⟩))
def Yb (k0 : Ja) (k1 : (FS Jb)) (k2 : Int) (k3 : (FS Jb)) (k4 : Int) (k5 : Int) (k6 : (FS Jb)) (k7 : Int) (x : (Jb × (FS Jb) × Int × Int)) : LE × St := (Jat x.2.1 (.exit 4, ⟨fr [(2, .ptr 2 0 0), (5, encF Jc k1), (6, .nils), (7, .ptr 7 0 0), (8, I L x.2.2.1), (9, I L x.2.2.2), (24, encF Jc k3), (25, I L k4), (26, I L k5)], hl [(2, .box 0 [I L k0.X, I L k0.Y]), (7, .box 0 [I L x.1.Role, .bool x.1.Closed, encF Jf x.1.Cells])]⟩)
  (fun l0 => (.exit 4, ⟨fr [(2, .ptr 2 0 0), (5, encF Jc k1), (6, .arr 6 0 0 l0.l.length), (7, .ptr 7 0 0), (8, I L x.2.2.1), (9, I L x.2.2.2), (24, encF Jc k3), (25, I L k4), (26, I L k5)], hl [(2, .box 0 [I L k0.X, I L k0.Y]), (6, .arr 0 3 42 (Jn Jc l0.l) false), (7, .box 0 [I L x.1.Role, .bool x.1.Closed, encF Jf x.1.Cells])]⟩)))
theorem Jeh {k0} {k1} {k2} {k3} {k4} {k5} {k6} {k7} {s} {r} (h : Kn (Qg k0 k1 k2 k3 k4 k5 k6 k7) bigN s = some r) : LK env [] 0 [2, 5, 6, 7, 8, 9, 10, 24, 25, 26, 32, 33, 34] Jw7 (some (K1 k0 k1 k2 k3 k4 k5 k6 k7 s)) = some (Yb k0 k1 k2 k3 k4 k5 k6 k7 r) := Kh (st := K1 k0 k1 k2 k3 k4 k5 k6 k7) (out := Yb k0 k1 k2 k3 k4 k5 k6 k7) (by
 clear h s r
 rintro ⟨s0, s1, s2, s3, s4⟩ x h
 simp only [Qg] at h
 cases e20 : s0 with
 | nil =>
  try simp only [e20, Jx] at h
  rcases ifC h with ⟨c21, h⟩ | ⟨c21, h⟩
  ·obtain ⟨v24, h23, h⟩ := oS h
   have f22 := Kf (e := Jc) h23
   obtain ⟨v27, h26, h⟩ := oS h
   have f25 := Kf (e := Jf) h26
   have f28 := Jc3 k0 v27
   rcases ifC h with ⟨c29, h⟩ | ⟨c29, h⟩
   ·cases h
    simp only [K1, e20]
    rw [Jm]
    rcases tof (ilt s2 0) with a30 | a30 <;> rcases tof (ilt (Kr k0 v27) s3) with a31 | a31 <;> (try (simp [c21, a30, a31] at c29; done)) <;> simp [*]
   ·cases h
    simp only [K1, e20]
    rw [Jm]
    rcases tof (ilt s2 0) with a32 | a32 <;> rcases tof (ilt (Kr k0 v27) s3) with a33 | a33 <;> (try (simp [c21, a32, a33] at c29; done)) <;> simp [*]
  ·cases h
   simp only [K1, Yb, e20]
   rw [Jm]
   simp [*]
 | lst l19 =>
  try simp only [e20] at h
  rcases ifC h with ⟨c34, h⟩ | ⟨c34, h⟩
  ·obtain ⟨v37, h36, h⟩ := oS h
   have f35 := Kf (e := Jc) h36
   obtain ⟨v40, h39, h⟩ := oS h
   have f38 := Kf (e := Jf) h39
   have f41 := Jc3 k0 v40
   rcases ifC h with ⟨c42, h⟩ | ⟨c42, h⟩
   ·cases h
    simp only [K1, e20]
    rw [Jm]
    rcases tof (ilt s2 0) with a43 | a43 <;> rcases tof (ilt (Kr k0 v40) s3) with a44 | a44 <;> (try (simp [c34, a43, a44] at c42; done)) <;> simp [*]
   ·cases h
    simp only [K1, e20]
    rw [Jm]
    rcases tof (ilt s2 0) with a45 | a45 <;> rcases tof (ilt (Kr k0 v40) s3) with a46 | a46 <;> (try (simp [c34, a45, a46] at c42; done)) <;> simp [*]
  ·cases h
   simp only [K1, Yb, e20]
   rw [Jm]
   simp [*]) bigN s r h
def Xk (k0 : Ja) (k1 : (FS Jb)) (k2 : (FS Jb)) (k3 : Int) (s : ((FS Jb) × Jb × Int × Int × Int)) : Option (LR ((FS Jb) × Jb × Int × Int × Int) (Jb × (FS Jb) × Int)) := match s with
 | (s0, s1, s2, s3, s4) => (if (ilt s4 k3) = true then (J6 (fget k2 s4) fun v10 => (J6 (j8 v10) fun v13 => (J6 (Kn (Qg k0 k1 s4 k2 k3 s4 v13 (flen v13)) bigN (s0, s1, s2, s3, 0)) fun v24 => some (.nx (v24.2.1, v24.1, v24.2.2.1, v24.2.2.2, (iadd L s4 1))))))
 else some (.dn (s1, s0, s2)))
def K2 (k0 : Ja) (k1 : (FS Jb)) (k2 : (FS Jb)) (k3 : Int) (s : ((FS Jb) × Jb × Int × Int × Int)) : St := match s with
 | (s0, s1, s2, s3, s4) => (Jat s0 (⟨fr [(2, .ptr 2 0 0), (5, encF Jc k1), (6, .nils), (7, .ptr 7 0 0), (8, I L s2), (9, I L s3), (24, encF Jc k2), (25, I L k3), (26, I L s4)], hl [(2, .box 0 [I L k0.X, I L k0.Y]), (7, .box 0 [I L s1.Role, .bool s1.Closed, encF Jf s1.Cells])]⟩)
  (fun l0 => ⟨fr [(2, .ptr 2 0 0), (5, encF Jc k1), (6, .arr 6 0 0 l0.l.length), (7, .ptr 7 0 0), (8, I L s2), (9, I L s3), (24, encF Jc k2), (25, I L k3), (26, I L s4)], hl [(2, .box 0 [I L k0.X, I L k0.Y]), (6, .arr 0 3 42 (Jn Jc l0.l) false), (7, .box 0 [I L s1.Role, .bool s1.Closed, encF Jf s1.Cells])]⟩))
def Ya (k0 : Ja) (k1 : (FS Jb)) (k2 : (FS Jb)) (k3 : Int) (x : (Jb × (FS Jb) × Int)) : LE × St := (Jat x.2.1 (.exit 2, ⟨fr [(2, .ptr 2 0 0), (5, encF Jc k1), (6, .nils), (7, .ptr 7 0 0), (8, I L x.2.2)], hl [(2, .box 0 [I L k0.X, I L k0.Y]), (7, .box 0 [I L x.1.Role, .bool x.1.Closed, encF Jf x.1.Cells])]⟩)
  (fun l0 => (.exit 2, ⟨fr [(2, .ptr 2 0 0), (5, encF Jc k1), (6, .arr 6 0 0 l0.l.length), (7, .ptr 7 0 0), (8, I L x.2.2)], hl [(2, .box 0 [I L k0.X, I L k0.Y]), (6, .arr 0 3 42 (Jn Jc l0.l) false), (7, .box 0 [I L x.1.Role, .bool x.1.Closed, encF Jf x.1.Cells])]⟩)))
theorem Jec {k0} {k1} {k2} {k3} {s} {r} (h : Kn (Xk k0 k1 k2 k3) bigN s = some r) : LK env [] 0 [2, 5, 6, 7, 8, 9, 24, 25, 26] Jx4 (some (K2 k0 k1 k2 k3 s)) = some (Ya k0 k1 k2 k3 r) := Kh (st := K2 k0 k1 k2 k3) (out := Ya k0 k1 k2 k3) (by
 clear h s r
 rintro ⟨s0, s1, s2, s3, s4⟩ x h
 simp only [Xk] at h
 cases e11 : s0 with
 | nil =>
  try simp only [e11, Jx] at h
  rcases ifC h with ⟨c12, h⟩ | ⟨c12, h⟩
  ·obtain ⟨v15, h14, h⟩ := oS h
   have f13 := Kf (e := Jc) h14
   obtain ⟨v18, h17, h⟩ := oS h
   have f16 := Jex h17
   obtain ⟨v48, h47, h⟩ := oS h
   have f49 := Jeh h47
   simp only [K1, Yb, J5, Ka] at f49
   cases e52 : v48.2.1 with
   | nil =>
    try simp only [e52, Jx] at h
    simp only [e52, Jx, Jg, Jh] at f49
    cases h
    simp only [K2, e11]
    rw [Jm]
    try simp only [c12] at f49
    simp [*]
   | lst l51 =>
    try simp only [e52] at h
    simp only [e52, Jx, Jg, Jh] at f49
    cases h
    simp only [K2, e11]
    rw [Jm]
    try simp only [c12] at f49
    simp [*]
  ·cases h
   simp only [K2, Ya, e11]
   rw [Jm]
   simp [*]
 | lst l10 =>
  try simp only [e11] at h
  rcases ifC h with ⟨c53, h⟩ | ⟨c53, h⟩
  ·obtain ⟨v56, h55, h⟩ := oS h
   have f54 := Kf (e := Jc) h55
   obtain ⟨v59, h58, h⟩ := oS h
   have f57 := Jex h58
   obtain ⟨v61, h60, h⟩ := oS h
   have f62 := Jeh h60
   simp only [K1, Yb, J5, Ka] at f62
   cases e65 : v61.2.1 with
   | nil =>
    try simp only [e65, Jx] at h
    simp only [e65, Jx, Jg, Jh] at f62
    cases h
    simp only [K2, e11]
    rw [Jm]
    try simp only [c53] at f62
    simp [*]
   | lst l64 =>
    try simp only [e65] at h
    simp only [e65, Jx, Jg, Jh] at f62
    cases h
    simp only [K2, e11]
    rw [Jm]
    try simp only [c53] at f62
    simp [*]
  ·cases h
   simp only [K2, Ya, e11]
   rw [Jm]
   simp [*]) bigN s r h
def jh  (s : (Ja × (FS Jb) × (FS Jb))) : Option (LR (Ja × (FS Jb) × (FS Jb)) (FS Jb)) := match s with
 | (s0, s1, s2) => (if (igt (flen s1) 0) = true then (J6 (Kn (Xk s0 s1 s1 (flen s1)) bigN (s2, (⟨0, false, (FS.nil : (FS Ja))⟩ : Jb), (-1), 0, 0)) fun v27 => (if fits 40 ((flen v27.2.1) + 1) = true then (J6 (fget v27.1.Cells (isub L (flen v27.1.Cells) 1)) fun v33 => (J6 (fsl s1 0 v27.2.2) fun v36 => (J6 (fsl s1 (iadd L v27.2.2 1) (flen s1)) fun v39 => (if fits 40 ((flen (flit ([] : List Jb))) + (flen v36)) = true then (if fits 40 ((flen (fapp (flit ([] : List Jb)) v36)) + (flen v39)) = true then some (.nx (v33, (fapp (fapp (flit ([] : List Jb)) v36) v39), (Yy v27.2.1 v27.1))) else none) else none)))) else none))
 else some (.dn s2))
def K9  (s : (Ja × (FS Jb) × (FS Jb))) : St := match s with
 | (s0, s1, s2) => (Jat s2 (⟨fr [(2, .ptr 2 0 0), (5, encF Jc s1), (6, .nils)], hl [(2, .box 0 [I L s0.X, I L s0.Y])]⟩)
  (fun l0 => ⟨fr [(2, .ptr 2 0 0), (5, encF Jc s1), (6, .arr 6 0 0 l0.l.length)], hl [(2, .box 0 [I L s0.X, I L s0.Y]), (6, .arr 0 3 42 (Jn Jc l0.l) false)]⟩))
def jf  (x : (FS Jb)) : LE × St := (Jat x (.exit 0, ⟨fr [(6, .nils)], hl []⟩)
  (fun l0 => (.exit 0, ⟨fr [(6, .arr 6 0 0 l0.l.length)], hl [(6, .arr 0 3 42 (Jn Jc l0.l) false)]⟩)))
theorem Jhn  {s} {r} (h : Kn (jh ) bigN s = some r) : LK env [] 0 [2, 5, 6] J3j (some (K9  s)) = some (jf  r) := Kh (st := K9 ) (out := jf ) (by
 clear h s r
 rintro ⟨s0, s1, s2⟩ x h
 simp only [jh] at h
 cases e8 : s2 with
 | nil =>
  try simp only [e8, Jx] at h
  rcases ifC h with ⟨c9, h⟩ | ⟨c9, h⟩
  ·obtain ⟨v67, h66, h⟩ := oS h
   have f68 := Jec h66
   simp only [K2, Ya, J5, Ka] at f68
   cases e71 : v67.2.1 with
   | nil =>
    try simp only [e71, Jx] at h
    simp only [e71, Jx, Jg, Jh] at f68
    obtain ⟨h73, h⟩ := ifS h
    have f72 := fun H g0 hg y => @Jdk _ _ Jc _ v67.1 40 h73 (by decide) H g0 42 y hg
    simp only [Jc] at f72
    obtain ⟨v76, h75, h⟩ := oS h
    have f74 := Kf (e := Jf) h75
    obtain ⟨v79, h78, h⟩ := oS h
    have f77 := Jk8 (e := Jc) h78
    obtain ⟨v82, h81, h⟩ := oS h
    have f80 := Jer (e := Jc) h81
    have f83 : ∀ (H : Heap) (g0 : Nat), bslV H g0 0 3 42 (some []) = some (.arr g0 (Kj H g0) 0 (flit ([] : List Jb)).l.length, upd H g0 (some (.arr (Kj H g0) 3 42 (Jn Jc (flit ([] : List Jb)).l) false))) := fun H g0 => rfl
    obtain ⟨h85, h⟩ := ifS h
    have f84 := fun g0 H => @Jar _ _ Jc _ (flit ([] : List Jb)) v79 40 h85 (by decide) g0 H 68 0 42
    obtain ⟨h87, h⟩ := ifS h
    have f86 := fun g0 H => @Jar _ _ Jc _ (fapp (flit ([] : List Jb)) v79) v82 40 h87 (by decide) g0 H 68 (bump 0 (flen v79)) 42
    cases h
    simp only [K9, e8]
    rw [Jm]
    try simp only [c9] at f68
    simp [*, Kq (e := Jc) (el := 42) (fz := false)]
   | lst l70 =>
    try simp only [e71] at h
    simp only [e71, Jx, Jg, Jh] at f68
    obtain ⟨h89, h⟩ := ifS h
    have f88 := fun g0 H y => @Y3 _ _ Jc _ (FS.lst l70) v67.1 40 h89 (by decide) g0 H 6 0 42 y
    simp only [Jc] at f88
    obtain ⟨v92, h91, h⟩ := oS h
    have f90 := Kf (e := Jf) h91
    obtain ⟨v95, h94, h⟩ := oS h
    have f93 := Jk8 (e := Jc) h94
    obtain ⟨v98, h97, h⟩ := oS h
    have f96 := Jer (e := Jc) h97
    have f99 : ∀ (H : Heap) (g0 : Nat), bslV H g0 0 3 42 (some []) = some (.arr g0 (Kj H g0) 0 (flit ([] : List Jb)).l.length, upd H g0 (some (.arr (Kj H g0) 3 42 (Jn Jc (flit ([] : List Jb)).l) false))) := fun H g0 => rfl
    obtain ⟨h101, h⟩ := ifS h
    have f100 := fun g0 H => @Jar _ _ Jc _ (flit ([] : List Jb)) v95 40 h101 (by decide) g0 H 68 0 42
    obtain ⟨h103, h⟩ := ifS h
    have f102 := fun g0 H => @Jar _ _ Jc _ (fapp (flit ([] : List Jb)) v95) v98 40 h103 (by decide) g0 H 68 (bump 0 (flen v95)) 42
    cases h
    simp only [K9, e8]
    rw [Jm]
    try simp only [c9] at f68
    simp [*, Kq (e := Jc) (el := 42) (fz := false)]
  ·cases h
   simp only [K9, jf, e8]
   rw [Jm]
   simp [*]
 | lst l7 =>
  try simp only [e8] at h
  rcases ifC h with ⟨c104, h⟩ | ⟨c104, h⟩
  ·obtain ⟨v106, h105, h⟩ := oS h
   have f107 := Jec h105
   simp only [K2, Ya, J5, Ka] at f107
   cases e110 : v106.2.1 with
   | nil =>
    try simp only [e110, Jx] at h
    simp only [e110, Jx, Jg, Jh] at f107
    obtain ⟨h112, h⟩ := ifS h
    have f111 := fun H g0 hg y => @Jdk _ _ Jc _ v106.1 40 h112 (by decide) H g0 42 y hg
    simp only [Jc] at f111
    obtain ⟨v115, h114, h⟩ := oS h
    have f113 := Kf (e := Jf) h114
    obtain ⟨v118, h117, h⟩ := oS h
    have f116 := Jk8 (e := Jc) h117
    obtain ⟨v121, h120, h⟩ := oS h
    have f119 := Jer (e := Jc) h120
    have f122 : ∀ (H : Heap) (g0 : Nat), bslV H g0 0 3 42 (some []) = some (.arr g0 (Kj H g0) 0 (flit ([] : List Jb)).l.length, upd H g0 (some (.arr (Kj H g0) 3 42 (Jn Jc (flit ([] : List Jb)).l) false))) := fun H g0 => rfl
    obtain ⟨h124, h⟩ := ifS h
    have f123 := fun g0 H => @Jar _ _ Jc _ (flit ([] : List Jb)) v118 40 h124 (by decide) g0 H 68 0 42
    obtain ⟨h126, h⟩ := ifS h
    have f125 := fun g0 H => @Jar _ _ Jc _ (fapp (flit ([] : List Jb)) v118) v121 40 h126 (by decide) g0 H 68 (bump 0 (flen v118)) 42
    cases h
    simp only [K9, e8]
    rw [Jm]
    try simp only [c104] at f107
    simp [*, Kq (e := Jc) (el := 42) (fz := false)]
   | lst l109 =>
    try simp only [e110] at h
    simp only [e110, Jx, Jg, Jh] at f107
    obtain ⟨h128, h⟩ := ifS h
    have f127 := fun g0 H y => @Y3 _ _ Jc _ (FS.lst l109) v106.1 40 h128 (by decide) g0 H 6 0 42 y
    simp only [Jc] at f127
    obtain ⟨v131, h130, h⟩ := oS h
    have f129 := Kf (e := Jf) h130
    obtain ⟨v134, h133, h⟩ := oS h
    have f132 := Jk8 (e := Jc) h133
    obtain ⟨v137, h136, h⟩ := oS h
    have f135 := Jer (e := Jc) h136
    have f138 : ∀ (H : Heap) (g0 : Nat), bslV H g0 0 3 42 (some []) = some (.arr g0 (Kj H g0) 0 (flit ([] : List Jb)).l.length, upd H g0 (some (.arr (Kj H g0) 3 42 (Jn Jc (flit ([] : List Jb)).l) false))) := fun H g0 => rfl
    obtain ⟨h140, h⟩ := ifS h
    have f139 := fun g0 H => @Jar _ _ Jc _ (flit ([] : List Jb)) v134 40 h140 (by decide) g0 H 68 0 42
    obtain ⟨h142, h⟩ := ifS h
    have f141 := fun g0 H => @Jar _ _ Jc _ (fapp (flit ([] : List Jb)) v134) v137 40 h142 (by decide) g0 H 68 (bump 0 (flen v134)) 42
    cases h
    simp only [K9, e8]
    rw [Jm]
    try simp only [c104] at f107
    simp [*, Kq (e := Jc) (el := 42) (fz := false)]
  ·cases h
   simp only [K9, jf, e8]
   rw [Jm]
   simp [*]) bigN s r h
def Jbx (p0 : Ja) (p1 : (FS Jb)) : Option (FS Jb) := (if (bnot (Kb p0)) = true then some (FS.nil : (FS Jb))
 else (J6 (zr p1) fun v5 => (J6 (Kn (jh) bigN (p0, v5, (FS.nil : (FS Jb)))) fun v46 => some v46)))
theorem Jjh {p0} {p1} {r} (h : Jbx p0 p1 = some r) : FC env 27 [.agg [I L p0.X, I L p0.Y], encF Jc p1] none = some (encF Jc r, fun _ => none) := by
 unfold Jbx at h
 have f1 := Jcd p0
 rcases ifC h with ⟨c2, h⟩ | ⟨c2, h⟩
 ·cases h
  refine J0 (lf := lf27) rfl rfl rfl ?_
  simp only [lf27, lc27]
  rcases tof (Kb p0) with a3 | a3
  ·simp [a3] at c2
  ·simp [*]
 ·obtain ⟨v6, h5, h⟩ := oS h
  have f4 := Jdu h5
  obtain ⟨v144, h143, h⟩ := oS h
  have f145 := Jhn h143
  simp only [K9, jf, J5, Ka] at f145
  cases e148 : v144 with
  | nil =>
   try simp only [e148, Jx] at h
   simp only [e148, Jx, Jg, Jh] at f145
   cases h
   refine J0 (lf := lf27) rfl rfl rfl ?_
   simp only [lf27, lc27]
   rcases tof (Kb p0) with a149 | a149
   ·try simp only [a149] at f145
    simp [*]
   ·simp [a149] at c2
  | lst l147 =>
   try simp only [e148] at h
   simp only [e148, Jx, Jg, Jh] at f145
   cases h
   refine J0 (lf := lf27) rfl rfl rfl ?_
   simp only [lf27, lc27]
   rcases tof (Kb p0) with a150 | a150
   ·try simp only [a150] at f145
    simp [*, Kq (e := Jc) (el := 42) (fz := false)]
   ·simp [a150] at c2
attribute [simp] c75_0 c75_1 c75_2 c75_3 c75_4 c75_5 c75_6 c75_7 c75_8 c75_9 c75_11
theorem c75_L0_u : EC Γ ps 0 J4w σ = EC Γ ps 0 (.seq (.reg false c75_5) (.seq (.cond (.t 15) .skip (.seq (.trim [5]) (.exit 0))) (.seq (.blk 1 (.seq (.reg false c75_6) (.seq (.reg true c75_7) (.reg false c75_8)))) (.reg false c75_9)))) σ := rfl
attribute [simp ↓] c75_L0_u
def zy (k0 : (FS Jb)) (k1 : Int) (s : (Ja × Int × Int)) : Option (LR (Ja × Int × Int) Int) := match s with
 | (s0, s1, s2) => (if (ilt s2 k1) = true then (J6 (fget k0 s2) fun v9 => (J6 (fget v9.Cells 0) fun v12 => (J6 (fget v9.Cells (isub L (flen v9.Cells) 1)) fun v16 => some (.nx (v16, (iadd L s1 (Kr s0 v12)), (iadd L s2 1))))))
 else some (.dn s1))
def Jad (k0 : (FS Jb)) (k1 : Int) (s : (Ja × Int × Int)) : St := match s with
 | (s0, s1, s2) => ⟨fr [(2, .ptr 2 0 0), (5, I L s1), (12, encF Jc k0), (13, I L k1), (14, I L s2)], hl [(2, .box 0 [I L s0.X, I L s0.Y])]⟩
def Jbl (k0 : (FS Jb)) (k1 : Int) (x : Int) : LE × St := (.exit 0, ⟨fr [(5, I L x)], hl []⟩)
theorem Jis {k0} {k1} {s} {r} (h : Kn (zy k0 k1) bigN s = some r) : LK env [] 0 [2, 5, 12, 13, 14] J4w (some (Jad k0 k1 s)) = some (Jbl k0 k1 r) := Kh (st := Jad k0 k1) (out := Jbl k0 k1) (by
 clear h s r
 rintro ⟨s0, s1, s2⟩ x h
 simp only [zy] at h
 rcases ifC h with ⟨c7, h⟩ | ⟨c7, h⟩
 ·obtain ⟨v10, h9, h⟩ := oS h
  have f8 := Kf (e := Jc) h9
  obtain ⟨v13, h12, h⟩ := oS h
  have f11 := Kf (e := Jf) h12
  have f14 := Jc3 s0 v13
  obtain ⟨v17, h16, h⟩ := oS h
  have f15 := Kf (e := Jf) h16
  cases h
  simp only [Jad]
  rw [Jm]
  simp [*]
 ·cases h
  simp only [Jad, Jbl]
  rw [Jm]
  simp [*]) bigN s r h
def Jbt (p0 : Ja) (p1 : (FS Jb)) : Option Int := (if (bnot (Kb p0)) = true then some 0
 else (J6 (zr p1) fun v5 => (J6 (Kn (zy v5 (flen v5)) bigN (p0, 0, 0)) fun v18 => some v18)))
theorem Jfv {p0} {p1} {r} (h : Jbt p0 p1 = some r) : FC env 75 [.agg [I L p0.X, I L p0.Y], encF Jc p1] none = some (I L r, fun _ => none) := by
 unfold Jbt at h
 have f1 := Jcd p0
 rcases ifC h with ⟨c2, h⟩ | ⟨c2, h⟩
 ·cases h
  refine J0 (lf := lf75) rfl rfl rfl ?_
  simp only [lf75, lc75]
  rcases tof (Kb p0) with a3 | a3
  ·simp [a3] at c2
  ·simp [*]
 ·obtain ⟨v6, h5, h⟩ := oS h
  have f4 := Jdu h5
  obtain ⟨v19, h18, h⟩ := oS h
  have f20 := Jis h18
  simp only [Jad, Jbl, J5, Ka] at f20
  try simp only [Jg, Jh, Jk, Jr, Ju, Jt, Js, Jv] at f20
  cases h
  refine J0 (lf := lf75) rfl rfl rfl ?_
  simp only [lf75, lc75]
  rcases tof (Kb p0) with a22 | a22
  ·try simp only [a22] at f20
   simp [*]
  ·simp [a22] at c2
attribute [simp] c76_0 c76_1 c76_2 c76_3 c76_4 c76_5 c76_6 c76_7 c76_8 c76_10
theorem c76_L0_u : EC Γ ps 0 J3y σ = EC Γ ps 0 (.seq (.seq (.reg false c76_3) (.cond (.t 16) .skip (.seq (.trim [7]) (.exit 0)))) (.seq (.blk 1 (.seq (.reg false c76_4) (.seq (.seq (.reg false c76_5) (.cond (.t 29) (.reg false c76_6) .skip)) (.reg false c76_7)))) (.reg false c76_8))) σ := rfl
attribute [simp ↓] c76_L0_u
def Xp (k0 : (FS Jb)) (k1 : Int) (k2 : Int) (s : ((FS Jb) × Int)) : Option (LR ((FS Jb) × Int) (FS Jb)) := match s with
 | (s0, s1) => (if (ile s1 k2) = true then (J6 (fget k0 (isub L (iadd L k1 k2) s1)) fun v7 => (if (bnot v7.Closed) = true then (J6 (z4 v7) fun v11 => (J6 (fget s0 s1) fun v15 => some (.nx ((fset s0 s1 v11), (iadd L s1 1)))))
 else (J6 (fget s0 s1) fun v21 => some (.nx ((fset s0 s1 v7), (iadd L s1 1))))))
 else some (.dn s0))
def X1 (k0 : (FS Jb)) (k1 : Int) (k2 : Int) (s : ((FS Jb) × Int)) : St := match s with
 | (s0, s1) => ⟨fr [(0, encF Jc k0), (1, I L k1), (2, I L k2), (7, .arr 7 0 0 s0.l.length), (8, I L s1)], hl [(7, .arr 0 3 42 (Jn Jc s0.l) false)]⟩
def z6 (k0 : (FS Jb)) (k1 : Int) (k2 : Int) (x : (FS Jb)) : LE × St := (.exit 0, ⟨fr [(7, .arr 7 0 0 x.l.length)], hl [(7, .arr 0 3 42 (Jn Jc x.l) false)]⟩)
theorem Jgl {k0} {k1} {k2} {s} {r} (h : Kn (Xp k0 k1 k2) bigN s = some r) : LK env [] 0 [0, 1, 2, 7, 8] J3y (some (X1 k0 k1 k2 s)) = some (z6 k0 k1 k2 r) := Kh (st := X1 k0 k1 k2) (out := z6 k0 k1 k2) (by
 clear h s r
 rintro ⟨s0, s1⟩ x h
 simp only [Xp] at h
 rcases ifC h with ⟨c4, h⟩ | ⟨c4, h⟩
 ·obtain ⟨v7, h6, h⟩ := oS h
  have f5 := Kf (e := Jc) h6
  rcases ifC h with ⟨c8, h⟩ | ⟨c8, h⟩
  ·obtain ⟨v11, h10, h⟩ := oS h
   have f9 := Je4 h10
   obtain ⟨v15, h14, h⟩ := oS h
   have f12 := Xm (w := 3) h14
   have f13 := h14
   have f16 := @Jf9 _ _ Jc _ s0 s1 v15 v11 f13 [I L v11.Role, .bool v11.Closed, encF Jf v11.Cells] (by simp) (by simp [Jc])
   have f17 := Jmp (w := 3) f13 3 (by decide)
   try simp at f17
   cases h
   simp only [X1]
   rw [Jm]
   rcases tof v7.Closed with a18 | a18
   ·simp [c4, a18] at c8
   ·try simp only [a18] at f5 f9 f12 f16 f17
    simp [*]
  ·obtain ⟨v22, h21, h⟩ := oS h
   have f19 := Xm (w := 3) h21
   have f20 := h21
   have f23 := @Jf9 _ _ Jc _ s0 s1 v22 v7 f20 [I L v7.Role, .bool v7.Closed, encF Jf v7.Cells] (by simp) (by simp [Jc])
   have f24 := Jmp (w := 3) f20 3 (by decide)
   try simp at f24
   cases h
   simp only [X1]
   rw [Jm]
   rcases tof v7.Closed with a25 | a25
   ·try simp only [a25] at f5 f19 f23 f24
    simp [*]
   ·simp [c4, a25] at c8
 ·cases h
  simp only [X1, z6]
  rw [Jm]
  simp [*]) bigN s r h
def Ja3 (p0 : (FS Jb)) (p1 : Int) (p2 : Int) : Option (FS Jb) := (if fits 40 ((flen (flit ([] : List Jb))) + (flen p0)) = true then (J6 (Kn (Xp p0 p1 p2) bigN ((fapp (flit ([] : List Jb)) p0), p1)) fun v25 => some (flst v25)) else none)
theorem Jid {p0} {p1} {p2} {r} (h : Ja3 p0 p1 p2 = some r) : FC env 76 [encF Jc p0, I L p1, I L p2] none = some (encF Jc r, fun _ => none) := by
 unfold Ja3 at h
 have f1 : ∀ (H : Heap) (g0 : Nat), bslV H g0 0 3 42 (some []) = some (.arr g0 (Kj H g0) 0 (flit ([] : List Jb)).l.length, upd H g0 (some (.arr (Kj H g0) 3 42 (Jn Jc (flit ([] : List Jb)).l) false))) := fun H g0 => rfl
 obtain ⟨h3, h⟩ := ifS h
 have f2 := fun g0 H => @Jar _ _ Jc _ (flit ([] : List Jb)) p0 40 h3 (by decide) g0 H 10 0 42
 obtain ⟨v27, h26, h⟩ := oS h
 have f28 := Jgl h26
 simp only [X1, z6, J5, Ka] at f28
 try simp only [Jg, Jh, Jk, Jr, Ju, Jt, Js, Jv] at f28
 cases h
 refine J0 (lf := lf76) rfl rfl rfl ?_
 simp only [lf76, lc76]
 simp [*, Kq (e := Jc) (el := 42) (fz := false)]
attribute [simp] c49_0 c49_1 c49_2 c49_3 c49_4 c49_5 c49_6 c49_7 c49_8 c49_9 J4h J5z c49_14
theorem c49_L0_u : EC Γ ps 0 Jwo σ = EC Γ ps 0 (.seq (.seq (.reg false c49_6) (.cond (.t 22) .skip (.seq (.trim [1, 2, 6, 14, 15]) (.exit 2)))) (.seq (.blk 3 (.seq (.reg false c49_7) (.seq (.reg false c49_8) (.cond (.t 33) (.seq (.reg false c49_9) (.seq (.trim [4, 5]) .ret)) .skip)))) (.reg false J4h))) σ := rfl
theorem c49_L1_u : EC Γ ps 0 J9g σ = EC Γ ps 0 (.seq (.reg false c49_3) (.seq (.cond (.t 16) .skip (.seq (.trim [1]) (.exit 0))) (.seq (.blk 1 (.seq (.reg false c49_4) (.seq (.reg false c49_5) (.blk 2 (.loop [1, 2, 6, 7, 8, 14, 15] Jwo))))) (.reg false J5z)))) σ := rfl
attribute [simp ↓] c49_L0_u c49_L1_u
def X3 (k0 : (FS Jb)) (k1 : Ja) (k2 : Int) (k3 : Int) (k4 : Int) (k5 : Int) (s : Int) : Option (LR Int (((FS Jb) × Bool) ⊕ Unit)) := match s with
 | s0 => (if (ilt s0 (flen k0)) = true then (J6 (Ja3 k0 k3 s0) fun v8 => (J6 (Jbt k1 v8) fun v11 => (if (ilt v11 k2) = true then some (.dn (.inl (v8, true)))
 else some (.nx (iadd L s0 1)))))
 else some (.dn (.inr ())))
def Xt (k0 : (FS Jb)) (k1 : Ja) (k2 : Int) (k3 : Int) (k4 : Int) (k5 : Int) (s : Int) : St := match s with
 | s0 => ⟨fr [(1, encF Jc k0), (2, .ptr 2 0 0), (6, I L k2), (7, I L k3), (8, I L s0), (14, I L k4), (15, I L k5)], hl [(2, .box 0 [I L k1.X, I L k1.Y])]⟩
def Yv (k0 : (FS Jb)) (k1 : Ja) (k2 : Int) (k3 : Int) (k4 : Int) (k5 : Int) (x : (((FS Jb) × Bool) ⊕ Unit)) : LE × St := match x with
 | .inl x => (.ret, ⟨fr [(4, encF Jc x.1), (5, .bool x.2)], hl []⟩)
 | .inr x => (.exit 2, ⟨fr [(1, encF Jc k0), (2, .ptr 2 0 0), (6, I L k2), (14, I L k4), (15, I L k5)], hl [(2, .box 0 [I L k1.X, I L k1.Y])]⟩)
theorem Jh9 {k0} {k1} {k2} {k3} {k4} {k5} {s} {r} (h : Kn (X3 k0 k1 k2 k3 k4 k5) bigN s = some r) : LK env [] 0 [1, 2, 6, 7, 8, 14, 15] Jwo (some (Xt k0 k1 k2 k3 k4 k5 s)) = some (Yv k0 k1 k2 k3 k4 k5 r) := Kh (st := Xt k0 k1 k2 k3 k4 k5) (out := Yv k0 k1 k2 k3 k4 k5) (by
 clear h s r
 rintro s0 x h
 simp only [X3] at h
 rcases ifC h with ⟨c5, h⟩ | ⟨c5, h⟩
 ·obtain ⟨v8, h7, h⟩ := oS h
  have f6 := Jid h7
  obtain ⟨v11, h10, h⟩ := oS h
  have f9 := Jfv h10
  rcases ifC h with ⟨c12, h⟩ | ⟨c12, h⟩
  ·cases h
   simp only [Xt, Yv]
   rw [Jm]
   simp [*]
  ·cases h
   simp only [Xt]
   rw [Jm]
   simp [*]
 ·cases h
  simp only [Xt, Yv]
  rw [Jm]
  simp [*]) bigN s r h
def Zj (k0 : (FS Jb)) (k1 : Ja) (k2 : Int) (k3 : Int) (s : Int) : Option (LR Int (((FS Jb) × Bool) ⊕ Unit)) := match s with
 | s0 => (if (ilt s0 k3) = true then (J6 (Kn (X3 k0 k1 k2 s0 k3 s0) bigN s0) fun v14 => (match v14 with
 | .inl v14x => some (.dn (.inl (v14x.1, v14x.2)))
 | .inr v14x => some (.nx (iadd L s0 1))))
 else some (.dn (.inr ())))
def Xq (k0 : (FS Jb)) (k1 : Ja) (k2 : Int) (k3 : Int) (s : Int) : St := match s with
 | s0 => ⟨fr [(1, encF Jc k0), (2, .ptr 2 0 0), (6, I L k2), (14, I L k3), (15, I L s0)], hl [(2, .box 0 [I L k1.X, I L k1.Y])]⟩
def Yq (k0 : (FS Jb)) (k1 : Ja) (k2 : Int) (k3 : Int) (x : (((FS Jb) × Bool) ⊕ Unit)) : LE × St := match x with
 | .inl x => (.ret, ⟨fr [(4, encF Jc x.1), (5, .bool x.2)], hl []⟩)
 | .inr x => (.exit 0, ⟨fr [(1, encF Jc k0)], hl []⟩)
theorem Jhv {k0} {k1} {k2} {k3} {s} {r} (h : Kn (Zj k0 k1 k2 k3) bigN s = some r) : LK env [] 0 [1, 2, 6, 14, 15] J9g (some (Xq k0 k1 k2 k3 s)) = some (Yq k0 k1 k2 k3 r) := Kh (st := Xq k0 k1 k2 k3) (out := Yq k0 k1 k2 k3) (by
 clear h s r
 rintro s0 x h
 simp only [Zj] at h
 rcases ifC h with ⟨c4, h⟩ | ⟨c4, h⟩
 ·obtain ⟨v14, h13, h⟩ := oS h
  have f15 := Jh9 h13
  cases v14 with
  | inl v14x =>
   try simp only at h
   simp only [Xt, Yv, J5, Ka] at f15
   try simp only [Jg, Jh, Jk, Jr, Ju, Jt, Js, Jv] at f15
   cases h
   simp only [Xq, Yq]
   rw [Jm]
   try simp only [c4] at f15
   simp [*]
  | inr v14x =>
   try simp only at h
   simp only [Xt, Yv, J5, Ka] at f15
   try simp only [Jg, Jh, Jk, Jr, Ju, Jt, Js, Jv] at f15
   cases h
   simp only [Xq]
   rw [Jm]
   try simp only [c4] at f15
   simp [*]
 ·cases h
  simp only [Xq, Yq]
  rw [Jm]
  simp [*]) bigN s r h
def zm (p0 : Ja) (p1 : (FS Jb)) : Option ((FS Jb) × Bool) := (J6 (Jbt p0 p1) fun v3 => (J6 (Kn (Zj p1 p0 v3 (flen p1)) bigN 0) fun v17 => (match v17 with
 | .inl v17x => some (v17x.1, v17x.2)
 | .inr v17x => some (p1, false))))
theorem Jj2 {p0} {p1} {r} (h : zm p0 p1 = some r) : FC env 49 [.agg [I L p0.X, I L p0.Y], encF Jc p1] none = some (.tup [encF Jc r.1, .bool r.2], fun _ => none) := by
 unfold zm at h
 obtain ⟨v3, h2, h⟩ := oS h
 have f1 := Jfv h2
 obtain ⟨v19, h18, h⟩ := oS h
 have f20 := Jhv h18
 cases v19 with
 | inl v19x =>
  try simp only at h
  simp only [Xq, Yq, J5, Ka] at f20
  try simp only [Jg, Jh, Jk, Jr, Ju, Jt, Js, Jv] at f20
  cases h
  refine J0 (lf := lf49) rfl rfl rfl ?_
  simp only [lf49, lc49]
  simp [*, Q4, tupS, Qm, K5, Qo, K4, Qq]
 | inr v19x =>
  try simp only at h
  simp only [Xq, Yq, J5, Ka] at f20
  try simp only [Jg, Jh, Jk, Jr, Ju, Jt, Js, Jv] at f20
  cases h
  refine J0 (lf := lf49) rfl rfl rfl ?_
  simp only [lf49, lc49]
  simp [*, Q4, tupS, Qm, K5, Qo, K4, Qq]
attribute [simp] c26_0 c26_1 c26_2 c26_3 c26_4 c26_5 c26_6 c26_7 c26_9
theorem c26_L0_u : EC Γ ps 0 J18 σ = EC Γ ps 0 (.seq (.seq (.reg false c26_5) (.cond (.t 21) .skip (.seq (.trim [7]) (.exit 0)))) (.seq (.blk 1 (.reg false c26_6)) (.reg false c26_7))) σ := rfl
attribute [simp ↓] c26_L0_u
def Xb (k0 : Int) (k1 : Ja) (s : ((FS Jb) × Bool × Int)) : Option (LR ((FS Jb) × Bool × Int) (FS Jb)) := match s with
 | (s0, s1, s2) => (if (band (ilt s2 (imin k0 64)) s1) = true then (J6 (zm k1 s0) fun v9 => some (.nx (v9.1, v9.2, (iadd L s2 1))))
 else some (.dn s0))
def je (k0 : Int) (k1 : Ja) (s : ((FS Jb) × Bool × Int)) : St := match s with
 | (s0, s1, s2) => ⟨fr [(2, I L k0), (3, .ptr 3 0 0), (7, encF Jc s0), (8, .bool s1), (9, I L s2)], hl [(3, .box 0 [I L k1.X, I L k1.Y])]⟩
def Jak (k0 : Int) (k1 : Ja) (x : (FS Jb)) : LE × St := (.exit 0, ⟨fr [(7, encF Jc x)], hl []⟩)
theorem Jgs {k0} {k1} {s} {r} (h : Kn (Xb k0 k1) bigN s = some r) : LK env [] 0 [2, 3, 7, 8, 9] J18 (some (je k0 k1 s)) = some (Jak k0 k1 r) := Kh (st := je k0 k1) (out := Jak k0 k1) (by
 clear h s r
 rintro ⟨s0, s1, s2⟩ x h
 simp only [Xb] at h
 rcases ifC h with ⟨c7, h⟩ | ⟨c7, h⟩
 ·obtain ⟨v10, h9, h⟩ := oS h
  have f8 := Jj2 h9
  cases h
  simp only [je]
  rw [Jm]
  rcases tof (ilt s2 (imin k0 64)) with a11 | a11 <;> rcases tof s1 with a12 | a12 <;> (try (simp [a11, a12] at c7; done)) <;> simp [*]
 ·cases h
  simp only [je, Jak]
  rw [Jm]
  rcases tof (ilt s2 (imin k0 64)) with a13 | a13 <;> rcases tof s1 with a14 | a14 <;> (try (simp [a13, a14] at c7; done)) <;> simp [*]) bigN s r h
def z7 (p0 : Ja) (p1 : (FS Jb)) (p2 : Int) : Option (FS Jb) := (if (bnot (Kb p0)) = true then some (FS.nil : (FS Jb))
 else (J6 (zr p1) fun v5 => (J6 (Kn (Xb p2 p0) bigN (v5, true, 0)) fun v11 => some v11)))
theorem Jil {p0} {p1} {p2} {r} (h : z7 p0 p1 p2 = some r) : FC env 26 [.agg [I L p0.X, I L p0.Y], encF Jc p1, I L p2] none = some (encF Jc r, fun _ => none) := by
 unfold z7 at h
 have f1 := Jcd p0
 rcases ifC h with ⟨c2, h⟩ | ⟨c2, h⟩
 ·cases h
  refine J0 (lf := lf26) rfl rfl rfl ?_
  simp only [lf26, lc26]
  rcases tof (Kb p0) with a3 | a3
  ·simp [a3] at c2
  ·simp [*]
 ·obtain ⟨v6, h5, h⟩ := oS h
  have f4 := Jdu h5
  obtain ⟨v16, h15, h⟩ := oS h
  have f17 := Jgs h15
  simp only [je, Jak, J5, Ka] at f17
  try simp only [Jg, Jh, Jk, Jr, Ju, Jt, Js, Jv] at f17
  cases h
  refine J0 (lf := lf26) rfl rfl rfl ?_
  simp only [lf26, lc26]
  rcases tof (Kb p0) with a19 | a19
  ·try simp only [a19] at f17
   simp [*]
  ·simp [a19] at c2
attribute [simp] c93_0 c93_1 c93_2 c93_3 c93_4 c93_5 c93_7
theorem c93_L0_u : EC Γ ps 0 J1c σ = EC Γ ps 0 (.seq (.seq (.reg false c93_2) (.cond (.t 10) .skip (.seq (.trim []) (.exit 0)))) (.seq (.blk 1 (.seq (.reg false c93_3) (.cond (.t 20) (.seq (.reg false c93_4) (.seq (.trim [4]) .ret)) .skip))) (.reg false c93_5))) σ := rfl
attribute [simp ↓] c93_L0_u
def Jao (k0 : Int) (k1 : Jl) (s : Int) : Option (LR Int ((FS Kk) ⊕ Unit)) := match s with
 | s0 => (if (ilt s0 (flen k1.Rows)) = true then (J6 (fget k1.Rows s0) fun v4 => (if (ieq v4.Y k0) = true then some (.dn (.inl v4.Runs))
 else some (.nx (iadd L s0 1))))
 else some (.dn (.inr ())))
def Yn (k0 : Int) (k1 : Jl) (s : Int) : St := match s with
 | s0 => ⟨fr [(1, I L k0), (2, .ptr 2 0 0), (5, I L s0)], hl [(2, .box 0 [encF Jq k1.Rows])]⟩
def Zz (k0 : Int) (k1 : Jl) (x : ((FS Kk) ⊕ Unit)) : LE × St := match x with
 | .inl x => (.ret, ⟨fr [(4, encF Xn x)], hl []⟩)
 | .inr x => (.exit 0, ⟨fr [], hl []⟩)
theorem Ji5 {k0} {k1} {s} {r} (h : Kn (Jao k0 k1) bigN s = some r) : LK env [] 0 [1, 2, 5] J1c (some (Yn k0 k1 s)) = some (Zz k0 k1 r) := Kh (st := Yn k0 k1) (out := Zz k0 k1) (by
 clear h s r
 rintro s0 x h
 simp only [Jao] at h
 rcases ifC h with ⟨c1, h⟩ | ⟨c1, h⟩
 ·obtain ⟨v4, h3, h⟩ := oS h
  have f2 := Kf (e := Jq) h3
  rcases ifC h with ⟨c5, h⟩ | ⟨c5, h⟩
  ·cases h
   simp only [Yn, Zz]
   rw [Jm]
   simp [*]
  ·cases h
   simp only [Yn]
   rw [Jm]
   simp [*]
 ·cases h
  simp only [Yn, Zz]
  rw [Jm]
  simp [*]) bigN s r h
def Jc2 (p0 : Jl) (p1 : Int) : Option (FS Kk) := (J6 (Kn (Jao p1 p0) bigN 0) fun v8 => (match v8 with
 | .inl v8x => some v8x
 | .inr v8x => some (FS.nil : (FS Kk))))
theorem Jkx {p0} {p1} {r} (h : Jc2 p0 p1 = some r) : FC env 93 [.agg [encF Jq p0.Rows], I L p1] none = some (encF Xn r, fun _ => none) := by
 unfold Jc2 at h
 obtain ⟨v8, h7, h⟩ := oS h
 have f9 := Ji5 h7
 cases v8 with
 | inl v8x =>
  try simp only at h
  simp only [Yn, Zz, J5, Ka] at f9
  try simp only [Jg, Jh, Jk, Jr, Ju, Jt, Js, Jv] at f9
  cases h
  refine J0 (lf := lf93) rfl rfl rfl ?_
  simp only [lf93, lc93]
  simp [*]
 | inr v8x =>
  try simp only at h
  simp only [Yn, Zz, J5, Ka] at f9
  try simp only [Jg, Jh, Jk, Jr, Ju, Jt, Js, Jv] at f9
  cases h
  refine J0 (lf := lf93) rfl rfl rfl ?_
  simp only [lf93, lc93]
  simp [*]
attribute [simp] c92_0 c92_1 c92_2 c92_3 c92_4 c92_5 c92_7
theorem c92_L0_u : EC Γ ps 0 J7b σ = EC Γ ps 0 (.seq (.seq (.reg false c92_2) (.cond (.t 9) .skip (.seq (.trim []) (.exit 0)))) (.seq (.blk 1 (.seq (.reg false c92_3) (.cond (.t 27) (.seq (.reg false c92_4) (.seq (.trim [4]) .ret)) .skip))) (.reg false c92_5))) σ := rfl
attribute [simp ↓] c92_L0_u
def ji (k0 : (FS Kk)) (k1 : Int) (s : Int) : Option (LR Int (Bool ⊕ Unit)) := match s with
 | s0 => (if (ilt s0 (flen k0)) = true then (J6 (fget k0 s0) fun v4 => (if (band (ile v4.From k1) (ilt k1 v4.To)) = true then some (.dn (.inl true))
 else some (.nx (iadd L s0 1))))
 else some (.dn (.inr ())))
def Xh (k0 : (FS Kk)) (k1 : Int) (s : Int) : St := match s with
 | s0 => ⟨fr [(0, encF Xn k0), (1, I L k1), (5, I L s0)], hl []⟩
def Yc (k0 : (FS Kk)) (k1 : Int) (x : (Bool ⊕ Unit)) : LE × St := match x with
 | .inl x => (.ret, ⟨fr [(4, .bool x)], hl []⟩)
 | .inr x => (.exit 0, ⟨fr [], hl []⟩)
theorem Jhd {k0} {k1} {s} {r} (h : Kn (ji k0 k1) bigN s = some r) : LK env [] 0 [0, 1, 5] J7b (some (Xh k0 k1 s)) = some (Yc k0 k1 r) := Kh (st := Xh k0 k1) (out := Yc k0 k1) (by
 clear h s r
 rintro s0 x h
 simp only [ji] at h
 rcases ifC h with ⟨c1, h⟩ | ⟨c1, h⟩
 ·obtain ⟨v4, h3, h⟩ := oS h
  have f2 := Kf (e := Xn) h3
  rcases ifC h with ⟨c6, h⟩ | ⟨c6, h⟩
  ·cases h
   simp only [Xh, Yc]
   rw [Jm]
   rcases tof (ile v4.From k1) with a7 | a7 <;> rcases tof (ilt k1 v4.To) with a8 | a8 <;> (try (simp [c1, a7, a8] at c6; done)) <;> simp [*]
  ·cases h
   simp only [Xh]
   rw [Jm]
   rcases tof (ile v4.From k1) with a9 | a9 <;> rcases tof (ilt k1 v4.To) with a10 | a10 <;> (try (simp [c1, a9, a10] at c6; done)) <;> simp [*]
 ·cases h
  simp only [Xh, Yc]
  rw [Jm]
  simp [*]) bigN s r h
def Jb2 (p0 : (FS Kk)) (p1 : Int) : Option Bool := (J6 (Kn (ji p0 p1) bigN 0) fun v8 => (match v8 with
 | .inl v8x => some v8x
 | .inr v8x => some false))
theorem Jjg {p0} {p1} {r} (h : Jb2 p0 p1 = some r) : FC env 92 [encF Xn p0, I L p1] none = some (.bool r, fun _ => none) := by
 unfold Jb2 at h
 obtain ⟨v12, h11, h⟩ := oS h
 have f13 := Jhd h11
 cases v12 with
 | inl v12x =>
  try simp only at h
  simp only [Xh, Yc, J5, Ka] at f13
  try simp only [Jg, Jh, Jk, Jr, Ju, Jt, Js, Jv] at f13
  cases h
  refine J0 (lf := lf92) rfl rfl rfl ?_
  simp only [lf92, lc92]
  simp [*]
 | inr v12x =>
  try simp only at h
  simp only [Xh, Yc, J5, Ka] at f13
  try simp only [Jg, Jh, Jk, Jr, Ju, Jt, Js, Jv] at f13
  cases h
  refine J0 (lf := lf92) rfl rfl rfl ?_
  simp only [lf92, lc92]
  simp [*]
attribute [simp] c80_0 c80_1
def X0 (p0 : Jl) (p1 : Ja) : Option Bool := (J6 (Zm p0) fun v3 => (J6 (gOpt v3 (Jc2 p0 p1.Y)) fun v6 => (J6 (gOpt v3 (Jb2 (v6.getD (FS.nil : (FS Kk))) p1.X)) fun v9 => some (band v3 (v9.getD false)))))
theorem Jc0 {p0} {p1} {r} (h : X0 p0 p1 = some r) : FC env 80 [.agg [encF Jq p0.Rows], .agg [I L p1.X, I L p1.Y]] none = some (.bool r, fun _ => none) := by
 unfold X0 at h
 obtain ⟨v3, h2, h⟩ := oS h
 have f1 := Jds h2
 obtain ⟨v6, h5, h⟩ := oS h
 have f4 := fun (q0 : v3 = true) => Jkx (Qp (FS.nil : (FS Kk)) h5 q0)
 obtain ⟨v9, h8, h⟩ := oS h
 have f7 := fun (q0 : v3 = true) => Jjg (Qp false h8 q0)
 cases h
 refine J0 (lf := lf80) rfl rfl rfl ?_
 simp only [lf80, lc80]
 rcases tof v3 with a10 | a10
 ·simp [*]
 ·simp [*]
attribute [simp] c94_0 c94_1 c94_2 c94_3 c94_4 c94_5 c94_7
theorem c94_L0_u : EC Γ ps 0 J9r σ = EC Γ ps 0 (.seq (.seq (.reg false c94_2) (.cond (.t 9) .skip (.seq (.trim []) (.exit 0)))) (.seq (.blk 1 (.seq (.reg true c94_3) (.cond (.t 18) (.seq (.reg false c94_4) (.seq (.trim [4]) .ret)) .skip))) (.reg false c94_5))) σ := rfl
attribute [simp ↓] c94_L0_u
def jz (k0 : (FS J2)) (k1 : Ja) (s : Int) : Option (LR Int (Bool ⊕ Unit)) := match s with
 | s0 => (if (ilt s0 (flen k0)) = true then (J6 (fget k0 s0) fun v4 => (if (band (ieq v4.cell.X k1.X) (band (ieq v4.cell.Y k1.Y) true)) = true then some (.dn (.inl true))
 else some (.nx (iadd L s0 1))))
 else some (.dn (.inr ())))
def Xu (k0 : (FS J2)) (k1 : Ja) (s : Int) : St := match s with
 | s0 => ⟨fr [(0, encF J7 k0), (3, .ptr 3 0 0), (5, I L s0)], hl [(3, .box 0 [I L k1.X, I L k1.Y])]⟩
def Yw (k0 : (FS J2)) (k1 : Ja) (x : (Bool ⊕ Unit)) : LE × St := match x with
 | .inl x => (.ret, ⟨fr [(4, .bool x)], hl []⟩)
 | .inr x => (.exit 0, ⟨fr [], hl []⟩)
theorem Jh5 {k0} {k1} {s} {r} (h : Kn (jz k0 k1) bigN s = some r) : LK env [] 0 [0, 3, 5] J9r (some (Xu k0 k1 s)) = some (Yw k0 k1 r) := Kh (st := Xu k0 k1) (out := Yw k0 k1) (by
 clear h s r
 rintro s0 x h
 simp only [jz] at h
 rcases ifC h with ⟨c1, h⟩ | ⟨c1, h⟩
 ·obtain ⟨v4, h3, h⟩ := oS h
  have f2 := Kf (e := J7) h3
  rcases ifC h with ⟨c5, h⟩ | ⟨c5, h⟩
  ·cases h
   simp only [Xu, Yw]
   rw [Jm]
   rcases tof (ieq v4.cell.X k1.X) with a6 | a6 <;> rcases tof (ieq v4.cell.Y k1.Y) with a7 | a7 <;> (try (simp [c1, a6, a7] at c5; done)) <;> simp [*]
  ·cases h
   simp only [Xu]
   rw [Jm]
   rcases tof (ieq v4.cell.X k1.X) with a8 | a8 <;> rcases tof (ieq v4.cell.Y k1.Y) with a9 | a9 <;> (try (simp [c1, a8, a9] at c5; done)) <;> simp [*]
 ·cases h
  simp only [Xu, Yw]
  rw [Jm]
  simp [*]) bigN s r h
def Jcf (p0 : (FS J2)) (p1 : Ja) : Option Bool := (J6 (Kn (jz p0 p1) bigN 0) fun v7 => (match v7 with
 | .inl v7x => some v7x
 | .inr v7x => some false))
theorem Jjr {p0} {p1} {r} (h : Jcf p0 p1 = some r) : FC env 94 [encF J7 p0, .agg [I L p1.X, I L p1.Y]] none = some (.bool r, fun _ => none) := by
 unfold Jcf at h
 obtain ⟨v11, h10, h⟩ := oS h
 have f12 := Jh5 h10
 cases v11 with
 | inl v11x =>
  try simp only at h
  simp only [Xu, Yw, J5, Ka] at f12
  try simp only [Jg, Jh, Jk, Jr, Ju, Jt, Js, Jv] at f12
  cases h
  refine J0 (lf := lf94) rfl rfl rfl ?_
  simp only [lf94, lc94]
  simp [*]
 | inr v11x =>
  try simp only at h
  simp only [Xu, Yw, J5, Ka] at f12
  try simp only [Jg, Jh, Jk, Jr, Ju, Jt, Js, Jv] at f12
  cases h
  refine J0 (lf := lf94) rfl rfl rfl ?_
  simp only [lf94, lc94]
  simp [*]
attribute [simp] c81_0 c81_1 c81_2 c81_3 c81_4 c81_5 c81_6 c81_7 c81_8 c81_9 J88 J76 c81_14
theorem c81_L0_u : EC Γ ps 0 Jxx σ = EC Γ ps 0 (.seq (.seq (.reg true c81_7) (.cond (.t 74) .skip (.seq (.trim [3, 5, 7, 8]) (.exit 2)))) (.seq (.blk 3 (.seq (.reg true c81_8) (.cond (.t 91) (.reg false c81_9) .skip))) (.reg false J88))) σ := rfl
theorem c81_L1_u : EC Γ ps 0 J59 σ = EC Γ ps 0 (.seq (.seq (.reg true c81_3) (.cond (.t 29) .skip (.seq (.trim [7]) (.exit 0)))) (.seq (.blk 1 (.seq (.reg false c81_4) (.seq (.reg false c81_5) (.seq (.reg false c81_6) (.blk 2 (.loop [3, 5, 7, 8, 10, 11] Jxx)))))) (.reg false J76))) σ := rfl
attribute [simp ↓] c81_L0_u c81_L1_u
def Qh (k0 : Jl) (k1 : Ja) (k2 : Int) (k3 : (FS Ja)) (s : ((FS J2) × Int)) : Option (LR ((FS J2) × Int) (FS J2)) := match s with
 | (s0, s1) => (J6 (gOpt (ilt s1 4) (fget s0 (isub L (flen s0) 1))) fun v17 => (if (band (ilt s1 4) (bnot (band (ieq ((((v17.getD (⟨(⟨0, 0⟩ : Ja), 0⟩ : J2))).cell).X) k1.X) (band (ieq ((((v17.getD (⟨(⟨0, 0⟩ : Ja), 0⟩ : J2))).cell).Y) k1.Y) true)))) = true then (J6 (fget k3 s1) fun v23 => (J6 (X0 k0 v23) fun v27 => (J6 (gOpt v27 (Jcf (flst s0) v23)) fun v33 => (if (band v27 (bnot (v33.getD false))) = true then (if fits 24 ((flen s0) + 1) = true then some (.nx ((Yy s0 (⟨v23, k2⟩ : J2)), (iadd L s1 1))) else none)
 else some (.nx (s0, (iadd L s1 1)))))))
 else some (.dn s0)))
def Yu (k0 : Jl) (k1 : Ja) (k2 : Int) (k3 : (FS Ja)) (s : ((FS J2) × Int)) : St := match s with
 | (s0, s1) => ⟨fr [(3, .ptr 3 0 0), (5, .ptr 5 0 0), (7, .arr 7 0 0 s0.l.length), (8, I L k2), (10, .arr 10 0 0 k3.l.length), (11, I L s1)], hl [(3, .box 0 [encF Jq k0.Rows]), (5, .box 0 [I L k1.X, I L k1.Y]), (7, .arr 0 3 118 (Jn J7 s0.l) false), (10, .arr 0 2 27 (Jn Jf k3.l) false)]⟩
def Jax (k0 : Jl) (k1 : Ja) (k2 : Int) (k3 : (FS Ja)) (x : (FS J2)) : LE × St := (.exit 2, ⟨fr [(3, .ptr 3 0 0), (5, .ptr 5 0 0), (7, .arr 7 0 0 x.l.length), (8, I L k2)], hl [(3, .box 0 [encF Jq k0.Rows]), (5, .box 0 [I L k1.X, I L k1.Y]), (7, .arr 0 3 118 (Jn J7 x.l) false)]⟩)
theorem Jhm {k0} {k1} {k2} {k3} {s} {r} (h : Kn (Qh k0 k1 k2 k3) bigN s = some r) : LK env [] 0 [3, 5, 7, 8, 10, 11] Jxx (some (Yu k0 k1 k2 k3 s)) = some (Jax k0 k1 k2 k3 r) := Kh (st := Yu k0 k1 k2 k3) (out := Jax k0 k1 k2 k3) (by
 clear h s r
 rintro ⟨s0, s1⟩ x h
 simp only [Qh] at h
 obtain ⟨v17, h16, h⟩ := oS h
 have f14 := fun (q0 : (ilt s1 4) = true) => Xm (w := 3) (Qp (⟨(⟨0, 0⟩ : Ja), 0⟩ : J2) h16 q0)
 have f15 := fun (q0 : (ilt s1 4) = true) => (Qp (⟨(⟨0, 0⟩ : Ja), 0⟩ : J2) h16 q0)
 have f18 := fun (q0 : (ilt s1 4) = true) => (Zb (e := J7) (f15 q0) true 2 (by decide) (by decide))
 simp only [J7] at f18
 rcases ifC h with ⟨c19, h⟩ | ⟨c19, h⟩
 ·obtain ⟨v23, h22, h⟩ := oS h
  have f20 := Xm (w := 2) h22
  have f21 := h22
  have f24 := (Zb (e := Jf) f21 true 2 (by decide) (by decide))
  simp only [Jf] at f24
  obtain ⟨v27, h26, h⟩ := oS h
  have f25 := Jc0 h26
  have f30 := (Zb (e := Jf) f21 true 2 (by decide) (by decide))
  simp only [Jf] at f30
  obtain ⟨v33, h32, h⟩ := oS h
  have f31 := fun (q0 : v27 = true) => Jjr (Qp false h32 q0)
  try simp only [Ka] at f31
  rcases ifC h with ⟨c34, h⟩ | ⟨c34, h⟩
  ·have f37 := (Zb (e := Jf) f21 true 2 (by decide) (by decide))
   simp only [Jf] at f37
   obtain ⟨h39, h⟩ := ifS h
   have f38 := fun g0 H y => @Y3 _ _ J7 _ s0 (⟨v23, k2⟩ : J2) 24 h39 (by decide) g0 H 7 0 118 y
   simp only [J7] at f38
   cases h
   simp only [Yu]
   rw [Jm]
   rcases tof (ilt s1 4) with a40 | a40
   ·rcases tof (ieq ((((v17.getD (⟨(⟨0, 0⟩ : Ja), 0⟩ : J2))).cell).X) k1.X) with a41 | a41
    ·rcases tof (ieq ((((v17.getD (⟨(⟨0, 0⟩ : Ja), 0⟩ : J2))).cell).Y) k1.Y) with a42 | a42
     ·simp [a40, a41, a42] at c19
     ·rcases tof v27 with a43 | a43
      ·rcases tof (v33.getD false) with a44 | a44
       ·simp [a40, a41, a42, a43, a44] at c34
       ·simp [*, Kq (e := J7) (el := 118) (fz := false)]
      ·simp [a40, a41, a42, a43] at c34
    ·rcases tof v27 with a45 | a45
     ·rcases tof (v33.getD false) with a46 | a46
      ·simp [a40, a41, a45, a46] at c34
      ·simp [*, Kq (e := J7) (el := 118) (fz := false)]
     ·simp [a40, a41, a45] at c34
   ·simp [a40] at c19
  ·cases h
   simp only [Yu]
   rw [Jm]
   rcases tof (ilt s1 4) with a47 | a47
   ·rcases tof (ieq ((((v17.getD (⟨(⟨0, 0⟩ : Ja), 0⟩ : J2))).cell).X) k1.X) with a48 | a48
    ·rcases tof (ieq ((((v17.getD (⟨(⟨0, 0⟩ : Ja), 0⟩ : J2))).cell).Y) k1.Y) with a49 | a49
     ·simp [a47, a48, a49] at c19
     ·rcases tof v27 with a50 | a50
      ·rcases tof (v33.getD false) with a51 | a51
       ·simp [*, Kq (e := J7) (el := 118) (fz := false)]
       ·simp [a47, a48, a49, a50, a51] at c34
      ·simp [*, Kq (e := J7) (el := 118) (fz := false)]
    ·rcases tof v27 with a52 | a52
     ·rcases tof (v33.getD false) with a53 | a53
      ·simp [*, Kq (e := J7) (el := 118) (fz := false)]
      ·simp [a47, a48, a52, a53] at c34
     ·simp [*, Kq (e := J7) (el := 118) (fz := false)]
   ·simp [a47] at c19
 ·cases h
  simp only [Yu, Jax]
  rw [Jm]
  rcases tof (ilt s1 4) with a54 | a54 <;> rcases tof (ieq ((((v17.getD (⟨(⟨0, 0⟩ : Ja), 0⟩ : J2))).cell).X) k1.X) with a55 | a55 <;> rcases tof (ieq ((((v17.getD (⟨(⟨0, 0⟩ : Ja), 0⟩ : J2))).cell).Y) k1.Y) with a56 | a56 <;> (try (simp [a54, a55, a56] at c19; done)) <;> simp [*]) bigN s r h
def Yh (k0 : Jl) (k1 : Ja) (s : ((FS J2) × Int)) : Option (LR ((FS J2) × Int) (FS J2)) := match s with
 | (s0, s1) => (J6 (gOpt (ilt s1 (flen s0)) (fget s0 (isub L (flen s0) 1))) fun v5 => (if (band (ilt s1 (flen s0)) (bnot (band (ieq ((((v5.getD (⟨(⟨0, 0⟩ : Ja), 0⟩ : J2))).cell).X) k1.X) (band (ieq ((((v5.getD (⟨(⟨0, 0⟩ : Ja), 0⟩ : J2))).cell).Y) k1.Y) true)))) = true then (J6 (fget s0 s1) fun v11 => (J6 (Kn (Qh k0 k1 s1 (flit ([(⟨(iadd L v11.cell.X 1), v11.cell.Y⟩ : Ja), (⟨(isub L v11.cell.X 1), v11.cell.Y⟩ : Ja), (⟨v11.cell.X, (iadd L v11.cell.Y 1)⟩ : Ja), (⟨v11.cell.X, (isub L v11.cell.Y 1)⟩ : Ja)] : List Ja))) bigN (s0, 0)) fun v41 => some (.nx (v41, (iadd L s1 1)))))
 else some (.dn s0)))
def jq (k0 : Jl) (k1 : Ja) (s : ((FS J2) × Int)) : St := match s with
 | (s0, s1) => ⟨fr [(3, .ptr 3 0 0), (5, .ptr 5 0 0), (7, .arr 7 0 0 s0.l.length), (8, I L s1)], hl [(3, .box 0 [encF Jq k0.Rows]), (5, .box 0 [I L k1.X, I L k1.Y]), (7, .arr 0 3 118 (Jn J7 s0.l) false)]⟩
def Jas (k0 : Jl) (k1 : Ja) (x : (FS J2)) : LE × St := (.exit 0, ⟨fr [(7, .arr 7 0 0 x.l.length)], hl [(7, .arr 0 3 118 (Jn J7 x.l) false)]⟩)
theorem Jhp {k0} {k1} {s} {r} (h : Kn (Yh k0 k1) bigN s = some r) : LK env [] 0 [3, 5, 7, 8] J59 (some (jq k0 k1 s)) = some (Jas k0 k1 r) := Kh (st := jq k0 k1) (out := Jas k0 k1) (by
 clear h s r
 rintro ⟨s0, s1⟩ x h
 simp only [Yh] at h
 obtain ⟨v5, h4, h⟩ := oS h
 have f2 := fun (q0 : (ilt s1 (flen s0)) = true) => Xm (w := 3) (Qp (⟨(⟨0, 0⟩ : Ja), 0⟩ : J2) h4 q0)
 have f3 := fun (q0 : (ilt s1 (flen s0)) = true) => (Qp (⟨(⟨0, 0⟩ : Ja), 0⟩ : J2) h4 q0)
 have f6 := fun (q0 : (ilt s1 (flen s0)) = true) => (Zb (e := J7) (f3 q0) true 2 (by decide) (by decide))
 simp only [J7] at f6
 rcases ifC h with ⟨c7, h⟩ | ⟨c7, h⟩
 ·obtain ⟨v11, h10, h⟩ := oS h
  have f8 := Xm (w := 3) h10
  have f9 := h10
  have f12 := (Zb (e := J7) f9 true 2 (by decide) (by decide))
  simp only [J7] at f12
  have f13 : ∀ (H : Heap) (g0 : Nat), bslV H g0 4 2 27 (some [I L (iadd L v11.cell.X 1), I L v11.cell.Y, I L (isub L v11.cell.X 1), I L v11.cell.Y, I L v11.cell.X, I L (iadd L v11.cell.Y 1), I L v11.cell.X, I L (isub L v11.cell.Y 1)]) = some (.arr g0 (Kj H g0) 0 (flit ([(⟨(iadd L v11.cell.X 1), v11.cell.Y⟩ : Ja), (⟨(isub L v11.cell.X 1), v11.cell.Y⟩ : Ja), (⟨v11.cell.X, (iadd L v11.cell.Y 1)⟩ : Ja), (⟨v11.cell.X, (isub L v11.cell.Y 1)⟩ : Ja)] : List Ja)).l.length, upd H g0 (some (.arr (Kj H g0) 2 27 (Jn Jf (flit ([(⟨(iadd L v11.cell.X 1), v11.cell.Y⟩ : Ja), (⟨(isub L v11.cell.X 1), v11.cell.Y⟩ : Ja), (⟨v11.cell.X, (iadd L v11.cell.Y 1)⟩ : Ja), (⟨v11.cell.X, (isub L v11.cell.Y 1)⟩ : Ja)] : List Ja)).l) false))) := fun H g0 => rfl
  obtain ⟨v58, h57, h⟩ := oS h
  have f59 := Jhm h57
  simp only [Yu, Jax, J5, Ka] at f59
  try simp only [Jg, Jh, Jk, Jr, Ju, Jt, Js, Jv] at f59
  cases h
  simp only [jq]
  rw [Jm]
  rcases tof (ilt s1 (flen s0)) with a61 | a61 <;> rcases tof (ieq ((((v5.getD (⟨(⟨0, 0⟩ : Ja), 0⟩ : J2))).cell).X) k1.X) with a62 | a62 <;> rcases tof (ieq ((((v5.getD (⟨(⟨0, 0⟩ : Ja), 0⟩ : J2))).cell).Y) k1.Y) with a63 | a63 <;> (try (simp [a61, a62, a63] at c7; done)) <;> (try simp only [a61, a62, a63] at f59) <;> simp [*]
 ·cases h
  simp only [jq, Jas]
  rw [Jm]
  rcases tof (ilt s1 (flen s0)) with a64 | a64 <;> rcases tof (ieq ((((v5.getD (⟨(⟨0, 0⟩ : Ja), 0⟩ : J2))).cell).X) k1.X) with a65 | a65 <;> rcases tof (ieq ((((v5.getD (⟨(⟨0, 0⟩ : Ja), 0⟩ : J2))).cell).Y) k1.Y) with a66 | a66 <;> (try (simp [a64, a65, a66] at c7; done)) <;> simp [*]) bigN s r h
def Jby (p0 : Jl) (p1 : Ja) (p2 : Ja) : Option (FS J2) := (J6 (Kn (Yh p0 p2) bigN ((flit ([(⟨p1, (-1)⟩ : J2)] : List J2)), 0)) fun v44 => some (flst v44))
theorem Ji4 {p0} {p1} {p2} {r} (h : Jby p0 p1 p2 = some r) : FC env 81 [.agg [encF Jq p0.Rows], .agg [I L p1.X, I L p1.Y], .agg [I L p2.X, I L p2.Y]] none = some (encF J7 r, fun _ => none) := by
 unfold Jby at h
 have f1 : ∀ (H : Heap) (g0 : Nat), bslV H g0 1 3 118 (some [I L p1.X, I L p1.Y, I L (-1)]) = some (.arr g0 (Kj H g0) 0 (flit ([(⟨p1, (-1)⟩ : J2)] : List J2)).l.length, upd H g0 (some (.arr (Kj H g0) 3 118 (Jn J7 (flit ([(⟨p1, (-1)⟩ : J2)] : List J2)).l) false))) := fun H g0 => rfl
 obtain ⟨v68, h67, h⟩ := oS h
 have f69 := Jhp h67
 simp only [jq, Jas, J5, Ka] at f69
 try simp only [Jg, Jh, Jk, Jr, Ju, Jt, Js, Jv] at f69
 cases h
 refine J0 (lf := lf81) rfl rfl rfl ?_
 simp only [lf81, lc81]
 simp [*, -Jpr, Kq (e := J7) (el := 118) (fz := false)]
attribute [simp] c52_0 c52_1 c52_2 c52_3 c52_4 c52_5 c52_6 c52_7 c52_8 c52_9 J7y c52_12 c52_13 J9f J4i J93 c52_18
theorem c52_L0_u : EC Γ ps 0 J3k σ = EC Γ ps 0 (.seq (.seq (.reg false c52_8) (.cond (.t 40) .skip (.seq (.trim [9]) (.exit 0)))) (.seq (.blk 1 (.reg false c52_9)) (.reg false J7y))) σ := rfl
theorem c52_L1_u : EC Γ ps 0 J9o σ = EC Γ ps 0 (.seq (.seq (.reg false J9f) (.cond (.t 58) .skip (.seq (.trim [11]) (.exit 2)))) (.seq (.blk 3 (.reg false J4i)) (.reg false J93))) σ := rfl
attribute [simp ↓] c52_L0_u c52_L1_u
def Yg (k0 : (FS J2)) (s : ((FS Ja) × Int)) : Option (LR ((FS Ja) × Int) (FS Ja)) := match s with
 | (s0, s1) => (if (ige s1 0) = true then (J6 (fget k0 s1) fun v18 => (if fits 16 ((flen s0) + 1) = true then some (.nx ((Yy s0 v18.cell), v18.before)) else none))
 else some (.dn s0))
def X5 (k0 : (FS J2)) (s : ((FS Ja) × Int)) : St := match s with
 | (s0, s1) => (Jat s0 (⟨fr [(8, encF J7 k0), (9, .nils), (10, I L s1)], hl []⟩)
  (fun l0 => ⟨fr [(8, encF J7 k0), (9, .arr 9 0 0 l0.l.length), (10, I L s1)], hl [(9, .arr 0 2 27 (Jn Jf l0.l) false)]⟩))
def zo (k0 : (FS J2)) (x : (FS Ja)) : LE × St := (Jat x (.exit 0, ⟨fr [(9, .nils)], hl []⟩)
  (fun l0 => (.exit 0, ⟨fr [(9, .arr 9 0 0 l0.l.length)], hl [(9, .arr 0 2 27 (Jn Jf l0.l) false)]⟩)))
theorem Jip {k0} {s} {r} (h : Kn (Yg k0) bigN s = some r) : LK env [] 0 [8, 9, 10] J3k (some (X5 k0 s)) = some (zo k0 r) := Kh (st := X5 k0) (out := zo k0) (by
 clear h s r
 rintro ⟨s0, s1⟩ x h
 simp only [Yg] at h
 cases e22 : s0 with
 | nil =>
  try simp only [e22, Jx] at h
  rcases ifC h with ⟨c23, h⟩ | ⟨c23, h⟩
  ·obtain ⟨v26, h25, h⟩ := oS h
   have f24 := Kf (e := J7) h25
   obtain ⟨h28, h⟩ := ifS h
   have f27 := fun H g0 hg y => @Jdk _ _ Jf _ v26.cell 16 h28 (by decide) H g0 27 y hg
   simp only [Jf] at f27
   cases h
   simp only [X5, e22]
   rw [Jm]
   simp [*]
  ·cases h
   simp only [X5, zo, e22]
   rw [Jm]
   simp [*]
 | lst l21 =>
  try simp only [e22] at h
  rcases ifC h with ⟨c30, h⟩ | ⟨c30, h⟩
  ·obtain ⟨v33, h32, h⟩ := oS h
   have f31 := Kf (e := J7) h32
   obtain ⟨h35, h⟩ := ifS h
   have f34 := fun g0 H y => @Y3 _ _ Jf _ (FS.lst l21) v33.cell 16 h35 (by decide) g0 H 9 0 27 y
   simp only [Jf] at f34
   cases h
   simp only [X5, e22]
   rw [Jm]
   simp [*]
  ·cases h
   simp only [X5, zo, e22]
   rw [Jm]
   simp [*]) bigN s r h
def Z7 (k0 : (FS Ja)) (s : ((FS Ja) × Int)) : Option (LR ((FS Ja) × Int) (FS Ja)) := match s with
 | (s0, s1) => (if (ige s1 0) = true then (J6 (fget k0 s1) fun v28 => (if fits 16 ((flen s0) + 1) = true then some (.nx ((Yy s0 v28), (isub L s1 1))) else none))
 else some (.dn s0))
def K8 (k0 : (FS Ja)) (s : ((FS Ja) × Int)) : St := match s with
 | (s0, s1) => (Jat k0 (Jat s0 (⟨fr [(9, .nils), (11, .nils), (12, I L s1)], hl []⟩)
  (fun l1 => ⟨fr [(9, .nils), (11, .arr 11 0 0 l1.l.length), (12, I L s1)], hl [(11, .arr 0 2 27 (Jn Jf l1.l) false)]⟩))
  (fun l0 => (Jat s0 (⟨fr [(9, .arr 9 0 0 l0.l.length), (11, .nils), (12, I L s1)], hl [(9, .arr 0 2 27 (Jn Jf l0.l) false)]⟩)
  (fun l1 => ⟨fr [(9, .arr 9 0 0 l0.l.length), (11, .arr 11 0 0 l1.l.length), (12, I L s1)], hl [(9, .arr 0 2 27 (Jn Jf l0.l) false), (11, .arr 0 2 27 (Jn Jf l1.l) false)]⟩))))
def Q1 (k0 : (FS Ja)) (x : (FS Ja)) : LE × St := (Jat x (.exit 2, ⟨fr [(11, .nils)], hl []⟩)
  (fun l0 => (.exit 2, ⟨fr [(11, .arr 11 0 0 l0.l.length)], hl [(11, .arr 0 2 27 (Jn Jf l0.l) false)]⟩)))
theorem Je2 {k0} {s} {r} (h : Kn (Z7 k0) bigN s = some r) : LK env [] 0 [9, 11, 12] J9o (some (K8 k0 s)) = some (Q1 k0 r) := Kh (st := K8 k0) (out := Q1 k0) (by
 clear h s r
 rintro ⟨s0, s1⟩ x h
 simp only [Z7] at h
 cases e44 : k0 with
 | nil =>
  try simp only [e44, Jx] at h
  cases e46 : s0 with
  | nil =>
   try simp only [e46, Jx] at h
   rcases ifC h with ⟨c47, h⟩ | ⟨c47, h⟩
   ·exact absurd h (by simp [Jez])
   ·cases h
    simp only [K8, Q1, e44, e46]
    rw [Jm]
    simp [*]
  | lst l45 =>
   try simp only [e46] at h
   rcases ifC h with ⟨c48, h⟩ | ⟨c48, h⟩
   ·exact absurd h (by simp [Jez])
   ·cases h
    simp only [K8, Q1, e44, e46]
    rw [Jm]
    simp [*]
 | lst l43 =>
  try simp only [e44] at h
  cases e50 : s0 with
  | nil =>
   try simp only [e50, Jx] at h
   rcases ifC h with ⟨c51, h⟩ | ⟨c51, h⟩
   ·obtain ⟨v55, h54, h⟩ := oS h
    have f52 := Xm (w := 2) h54
    have f53 := h54
    have f56 := (Zb (e := Jf) f53 true 2 (by decide) (by decide))
    simp only [Jf] at f56
    obtain ⟨h58, h⟩ := ifS h
    have f57 := fun H g0 hg y => @Jdk _ _ Jf _ v55 16 h58 (by decide) H g0 27 y hg
    simp only [Jf] at f57
    cases h
    simp only [K8, e44, e50]
    rw [Jm]
    simp [*]
   ·cases h
    simp only [K8, Q1, e44, e50]
    rw [Jm]
    simp [*]
  | lst l49 =>
   try simp only [e50] at h
   rcases ifC h with ⟨c59, h⟩ | ⟨c59, h⟩
   ·obtain ⟨v63, h62, h⟩ := oS h
    have f60 := Xm (w := 2) h62
    have f61 := h62
    have f64 := (Zb (e := Jf) f61 true 2 (by decide) (by decide))
    simp only [Jf] at f64
    obtain ⟨h66, h⟩ := ifS h
    have f65 := fun g0 H y => @Y3 _ _ Jf _ (FS.lst l49) v63 16 h66 (by decide) g0 H 11 0 27 y
    simp only [Jf] at f65
    cases h
    simp only [K8, e44, e50]
    rw [Jm]
    simp [*]
   ·cases h
    simp only [K8, Q1, e44, e50]
    rw [Jm]
    simp [*]) bigN s r h
def Jcp (p0 : Jl) (p1 : Ja) (p2 : Ja) : Option ((FS Ja) × Bool) := (J6 (X0 p0 p1) fun v3 => (J6 (gOpt (bnot (bnot v3)) (X0 p0 p2)) fun v6 => (if (bor (bnot v3) (bnot (v6.getD false))) = true then some ((FS.nil : (FS Ja)), false)
 else (J6 (Jby p0 p1 p2) fun v10 => (J6 (fget v10 (isub L (flen v10) 1)) fun v13 => (if (bnot (band (ieq v13.cell.X p2.X) (band (ieq v13.cell.Y p2.Y) true))) = true then some ((FS.nil : (FS Ja)), false)
 else (J6 (Kn (Yg v10) bigN ((FS.nil : (FS Ja)), (isub L (flen v10) 1))) fun v23 => (J6 (Kn (Z7 v23) bigN ((FS.nil : (FS Ja)), (isub L (flen v23) 1))) fun v33 => some (v33, true)))))))))
theorem Jkk {p0} {p1} {p2} {r} (h : Jcp p0 p1 p2 = some r) : FC env 52 [.agg [encF Jq p0.Rows], .agg [I L p1.X, I L p1.Y], .agg [I L p2.X, I L p2.Y]] none = some (.tup [encF Jf r.1, .bool r.2], fun _ => none) := by
 unfold Jcp at h
 obtain ⟨v3, h2, h⟩ := oS h
 have f1 := Jc0 h2
 obtain ⟨v6, h5, h⟩ := oS h
 have f4 := fun (q0 : (bnot v3) = false) => Jc0 (Qp false h5 (Jeb q0))
 rcases ifC h with ⟨c7, h⟩ | ⟨c7, h⟩
 ·cases h
  refine J0 (lf := lf52) rfl rfl rfl ?_
  simp only [lf52, lc52]
  rcases tof v3 with a8 | a8 <;> rcases tof (v6.getD false) with a9 | a9 <;> (try (simp [a8, a9] at c7; done)) <;> simp [*, Q4, tupS, Qm, K5, Qo, K4, Qq]
 ·obtain ⟨v12, h11, h⟩ := oS h
  have f10 := Ji4 h11
  obtain ⟨v15, h14, h⟩ := oS h
  have f13 := Kf (e := J7) h14
  rcases ifC h with ⟨c16, h⟩ | ⟨c16, h⟩
  ·cases h
   refine J0 (lf := lf52) rfl rfl rfl ?_
   simp only [lf52, lc52]
   rcases tof v3 with a17 | a17 <;> rcases tof (v6.getD false) with a18 | a18 <;> rcases tof (ieq v15.cell.X p2.X) with a19 | a19 <;> rcases tof (ieq v15.cell.Y p2.Y) with a20 | a20 <;> (try (simp [a17, a18, a19, a20] at c16 c7; done)) <;> simp [*, Q4, tupS, Qm, K5, Qo, K4, Qq]
  ·obtain ⟨v38, h37, h⟩ := oS h
   have f39 := Jip h37
   simp only [X5, zo, J5, Ka] at f39
   cases e42 : v38 with
   | nil =>
    try simp only [e42, Jx] at h
    simp only [e42, Jx, Jg, Jh] at f39
    obtain ⟨v68, h67, h⟩ := oS h
    have f69 := Je2 h67
    simp only [K8, Q1, J5, Ka] at f69
    cases e72 : v68 with
    | nil =>
     try simp only [e72, Jx] at h
     simp only [e72, Jx, Jg, Jh] at f69
     cases h
     refine J0 (lf := lf52) rfl rfl rfl ?_
     simp only [lf52, lc52]
     rcases tof v3 with a73 | a73 <;> rcases tof (v6.getD false) with a74 | a74 <;> rcases tof (ieq v15.cell.X p2.X) with a75 | a75 <;> rcases tof (ieq v15.cell.Y p2.Y) with a76 | a76 <;> (try (simp [a73, a74, a75, a76] at c16 c7; done)) <;> (try simp only [a73, a74, a75, a76] at f39 f69) <;> simp [*, Q4, tupS, Qm, K5, Qo, K4, Qq]
    | lst l71 =>
     try simp only [e72] at h
     simp only [e72, Jx, Jg, Jh] at f69
     cases h
     refine J0 (lf := lf52) rfl rfl rfl ?_
     simp only [lf52, lc52]
     rcases tof v3 with a77 | a77 <;> rcases tof (v6.getD false) with a78 | a78 <;> rcases tof (ieq v15.cell.X p2.X) with a79 | a79 <;> rcases tof (ieq v15.cell.Y p2.Y) with a80 | a80 <;> (try (simp [a77, a78, a79, a80] at c16 c7; done)) <;> (try simp only [a77, a78, a79, a80] at f39 f69) <;> simp [*, Jfd (e := Jf) (el := 27) (fz := false), Q4, tupS, Qm, K5, Qo, K4, Qq]
   | lst l41 =>
    try simp only [e42] at h
    simp only [e42, Jx, Jg, Jh] at f39
    obtain ⟨v82, h81, h⟩ := oS h
    have f83 := Je2 h81
    simp only [K8, Q1, J5, Ka] at f83
    cases e86 : v82 with
    | nil =>
     try simp only [e86, Jx] at h
     simp only [e86, Jx, Jg, Jh] at f83
     cases h
     refine J0 (lf := lf52) rfl rfl rfl ?_
     simp only [lf52, lc52]
     rcases tof v3 with a87 | a87 <;> rcases tof (v6.getD false) with a88 | a88 <;> rcases tof (ieq v15.cell.X p2.X) with a89 | a89 <;> rcases tof (ieq v15.cell.Y p2.Y) with a90 | a90 <;> (try (simp [a87, a88, a89, a90] at c16 c7; done)) <;> (try simp only [a87, a88, a89, a90] at f39 f83) <;> simp [*, Q4, tupS, Qm, K5, Qo, K4, Qq]
    | lst l85 =>
     try simp only [e86] at h
     simp only [e86, Jx, Jg, Jh] at f83
     cases h
     refine J0 (lf := lf52) rfl rfl rfl ?_
     simp only [lf52, lc52]
     rcases tof v3 with a91 | a91 <;> rcases tof (v6.getD false) with a92 | a92 <;> rcases tof (ieq v15.cell.X p2.X) with a93 | a93 <;> rcases tof (ieq v15.cell.Y p2.Y) with a94 | a94 <;> (try (simp [a91, a92, a93, a94] at c16 c7; done)) <;> (try simp only [a91, a92, a93, a94] at f39 f83) <;> simp [*, Jfd (e := Jf) (el := 27) (fz := false), Q4, tupS, Qm, K5, Qo, K4, Qq]
attribute [simp] c82_0 c82_1
def Kz (p0 : Ja) : Bool := (band (band (band (ige p0.X (-4096)) (ilt p0.X 4096)) (ige p0.Y (-4096))) (ilt p0.Y 4096))
def Jsu (p0 : Ja) : Option Bool := some (Kz p0)
theorem Je5 (p0 : Ja) : FC env 82 [.agg [I L p0.X, I L p0.Y]] none = some (.bool (Kz p0), fun _ => none) := by
 unfold Kz
 refine J0 (lf := lf82) rfl rfl rfl ?_
 simp only [lf82, lc82]
 rcases tof (ige p0.X (-4096)) with a1 | a1 <;> rcases tof (ilt p0.X 4096) with a2 | a2 <;> rcases tof (ige p0.Y (-4096)) with a3 | a3 <;> simp [*]
attribute [simp] c83_0 c83_1 c83_2 c83_3
def Jap (p0 : Int) (p1 : Int) : Option Int := (if (ilt p0 p1) = true then some (iadd L p0 1)
 else some (isub L p0 1))
theorem Jfe {p0} {p1} {r} (h : Jap p0 p1 = some r) : FC env 83 [I L p0, I L p1] none = some (I L r, fun _ => none) := by
 unfold Jap at h
 rcases ifC h with ⟨c1, h⟩ | ⟨c1, h⟩
 ·cases h
  refine J0 (lf := lf83) rfl rfl rfl ?_
  simp only [lf83, lc83]
  simp [*]
 ·cases h
  refine J0 (lf := lf83) rfl rfl rfl ?_
  simp only [lf83, lc83]
  simp [*]
attribute [simp] c53_0 c53_1 c53_2 c53_3 c53_4 c53_5 c53_6 c53_7 c53_9 J2q J2f c53_13
theorem c53_L0_u : EC Γ ps 0 J2v σ = EC Γ ps 0 (.seq (.seq (.reg false c53_5) (.cond (.t 23) .skip (.seq (.trim [2, 3, 5]) (.exit 0)))) (.blk 1 (.seq (.reg false c53_6) (.reg false c53_7)))) σ := rfl
theorem c53_L1_u : EC Γ ps 0 J8l σ = EC Γ ps 0 (.seq (.seq (.reg false c53_9) (.cond (.t 38) .skip (.seq (.trim [5]) (.exit 2)))) (.blk 3 (.seq (.reg false J2q) (.reg false J2f)))) σ := rfl
attribute [simp ↓] c53_L0_u c53_L1_u
def Zc (k0 : Ja) (s : (Ja × (FS Ja))) : Option (LR (Ja × (FS Ja)) (Ja × (FS Ja))) := match s with
 | (s0, s1) => (if (ine s0.X k0.X) = true then (J6 (Jap s0.X k0.X) fun v9 => (if fits 16 ((flen s1) + 1) = true then some (.nx ((⟨v9, s0.Y⟩ : Ja), (Yy s1 (⟨v9, s0.Y⟩ : Ja)))) else none))
 else some (.dn (s0, s1)))
def Zu (k0 : Ja) (s : (Ja × (FS Ja))) : St := match s with
 | (s0, s1) => ⟨fr [(2, .ptr 2 0 0), (3, .ptr 3 0 0), (5, .arr 5 0 0 s1.l.length)], hl [(2, .box 0 [I L s0.X, I L s0.Y]), (3, .box 0 [I L k0.X, I L k0.Y]), (5, .arr 0 2 27 (Jn Jf s1.l) false)]⟩
def z1 (k0 : Ja) (x : (Ja × (FS Ja))) : LE × St := (.exit 0, ⟨fr [(2, .ptr 2 0 0), (3, .ptr 3 0 0), (5, .arr 5 0 0 x.2.l.length)], hl [(2, .box 0 [I L x.1.X, I L x.1.Y]), (3, .box 0 [I L k0.X, I L k0.Y]), (5, .arr 0 2 27 (Jn Jf x.2.l) false)]⟩)
theorem Jgk {k0} {s} {r} (h : Kn (Zc k0) bigN s = some r) : LK env [] 0 [2, 3, 5] J2v (some (Zu k0 s)) = some (z1 k0 r) := Kh (st := Zu k0) (out := z1 k0) (by
 clear h s r
 rintro ⟨s0, s1⟩ x h
 simp only [Zc] at h
 rcases ifC h with ⟨c8, h⟩ | ⟨c8, h⟩
 ·obtain ⟨v11, h10, h⟩ := oS h
  have f9 := Jfe h10
  obtain ⟨h13, h⟩ := ifS h
  have f12 := fun g0 H y => @Y3 _ _ Jf _ s1 (⟨v11, s0.Y⟩ : Ja) 16 h13 (by decide) g0 H 5 0 27 y
  simp only [Jf] at f12
  cases h
  simp only [Zu]
  rw [Jm]
  simp [*]
 ·cases h
  simp only [Zu, z1]
  rw [Jm]
  simp [*]) bigN s r h
def Ze (k0 : Ja) (s : (Ja × (FS Ja))) : Option (LR (Ja × (FS Ja)) (FS Ja)) := match s with
 | (s0, s1) => (if (ine s0.Y k0.Y) = true then (J6 (Jap s0.Y k0.Y) fun v18 => (if fits 16 ((flen s1) + 1) = true then some (.nx ((⟨s0.X, v18⟩ : Ja), (Yy s1 (⟨s0.X, v18⟩ : Ja)))) else none))
 else some (.dn s1))
def Zq (k0 : Ja) (s : (Ja × (FS Ja))) : St := match s with
 | (s0, s1) => ⟨fr [(2, .ptr 2 0 0), (3, .ptr 3 0 0), (5, .arr 5 0 0 s1.l.length)], hl [(2, .box 0 [I L s0.X, I L s0.Y]), (3, .box 0 [I L k0.X, I L k0.Y]), (5, .arr 0 2 27 (Jn Jf s1.l) false)]⟩
def Jab (k0 : Ja) (x : (FS Ja)) : LE × St := (.exit 2, ⟨fr [(5, .arr 5 0 0 x.l.length)], hl [(5, .arr 0 2 27 (Jn Jf x.l) false)]⟩)
theorem Jgm {k0} {s} {r} (h : Kn (Ze k0) bigN s = some r) : LK env [] 0 [2, 3, 5] J8l (some (Zq k0 s)) = some (Jab k0 r) := Kh (st := Zq k0) (out := Jab k0) (by
 clear h s r
 rintro ⟨s0, s1⟩ x h
 simp only [Ze] at h
 rcases ifC h with ⟨c18, h⟩ | ⟨c18, h⟩
 ·obtain ⟨v21, h20, h⟩ := oS h
  have f19 := Jfe h20
  obtain ⟨h23, h⟩ := ifS h
  have f22 := fun g0 H y => @Y3 _ _ Jf _ s1 (⟨s0.X, v21⟩ : Ja) 16 h23 (by decide) g0 H 5 0 27 y
  simp only [Jf] at f22
  cases h
  simp only [Zq]
  rw [Jm]
  simp [*]
 ·cases h
  simp only [Zq, Jab]
  rw [Jm]
  simp [*]) bigN s r h
def Ja0 (p0 : Ja) (p1 : Ja) : Option (FS Ja) := (if (bor (bnot (Kz p0)) (bnot (Kz p1))) = true then some (FS.nil : (FS Ja))
 else (if fits 16 (0 + 1) = true then (J6 (Kn (Zc p1) bigN (p0, (Yy (FS.nil : (FS Ja)) p0))) fun v13 => (J6 (Kn (Ze p1) bigN (v13.1, v13.2)) fun v22 => some (flst v22))) else none))
theorem Jh8 {p0} {p1} {r} (h : Ja0 p0 p1 = some r) : FC env 53 [.agg [I L p0.X, I L p0.Y], .agg [I L p1.X, I L p1.Y]] none = some (encF Jf r, fun _ => none) := by
 unfold Ja0 at h
 have f1 := Je5 p0
 have f2 := Je5 p1
 rcases ifC h with ⟨c3, h⟩ | ⟨c3, h⟩
 ·cases h
  refine J0 (lf := lf53) rfl rfl rfl ?_
  simp only [lf53, lc53]
  rcases tof (Kz p0) with a4 | a4 <;> rcases tof (Kz p1) with a5 | a5 <;> (try (simp [a4, a5] at c3; done)) <;> simp [*]
 ·obtain ⟨h7, h⟩ := ifS h
  have f6 := fun H g0 hg y => @Jdk _ _ Jf _ p0 16 h7 (by decide) H g0 27 y hg
  simp only [Jf] at f6
  obtain ⟨v15, h14, h⟩ := oS h
  have f16 := Jgk h14
  simp only [Zu, z1, J5, Ka] at f16
  try simp only [Jg, Jh, Jk, Jr, Ju, Jt, Js, Jv] at f16
  obtain ⟨v25, h24, h⟩ := oS h
  have f26 := Jgm h24
  simp only [Zq, Jab, J5, Ka] at f26
  try simp only [Jg, Jh, Jk, Jr, Ju, Jt, Js, Jv] at f26
  cases h
  refine J0 (lf := lf53) rfl rfl rfl ?_
  simp only [lf53, lc53]
  rcases tof (Kz p0) with a28 | a28 <;> rcases tof (Kz p1) with a29 | a29 <;> (try (simp [a28, a29] at c3; done)) <;> (try simp only [a28, a29] at f16 f26) <;> simp [*, Kq (e := Jf) (el := 27) (fz := false)]
attribute [simp] c28_0 c28_1 c28_2 c28_3 c28_4 c28_5 c28_6 c28_7 c28_8 c28_9 c28_10
def Jbz (p0 : Jl) (p1 : Ja) (p2 : Ja) (p3 : Jy) : Option (FS J1) := (if ieq p3.Pitch 0 = true then none else (if (band (ieq p1.X p2.X) (band (ieq p1.Y p2.Y) true)) = true then some (FS.nil : (FS J1))
 else (J6 (Jcp p0 p1 p2) fun v5 => (if v5.2 = true then (J6 (fsl v5.1 1 (flen v5.1)) fun v9 => some (flit ([(⟨2, 0, 0, 0, (imax 1 (iquo L p3.Travel p3.Pitch)), v9⟩ : J1)] : List J1)))
 else (J6 (Ja0 p1 p2) fun v13 => (J6 (fsl v13 1 (flen v13)) fun v16 => (if (ieq p3.Retract 0) = true then some (flit ([(⟨2, 0, 0, 0, (imax 1 (iquo L p3.Travel p3.Pitch)), v16⟩ : J1)] : List J1))
 else some (flit ([(⟨4, 0, 0, 0, 0, (FS.nil : (FS Ja))⟩ : J1), (⟨2, 0, 0, 0, (imax 1 (iquo L p3.Travel p3.Pitch)), v16⟩ : J1), (⟨5, 0, 0, 0, 0, (FS.nil : (FS Ja))⟩ : J1)] : List J1)))))))))
theorem Jjc {p0} {p1} {p2} {p3} {r} (h : Jbz p0 p1 p2 p3 = some r) : FC env 28 [.agg [encF Jq p0.Rows], .agg [I L p1.X, I L p1.Y], .agg [I L p2.X, I L p2.Y], .agg [I L p3.Pitch, I L p3.Height, I L p3.Walls, I L p3.Top, I L p3.Bottom, I L p3.Pattern, I L p3.Spacing, .bool p3.Support, I L p3.Reach, I L p3.Gap, I L p3.Brim, I L p3.Skirt, I L p3.Drop, I L p3.Feed, I L p3.Travel, I L p3.Retract, I L p3.MinTime, I L p3.MinFeed, I L p3.Nozzle, I L p3.Bed]] none = some (encF Jw r, fun _ => none) := by
 unfold Jbz at h
 obtain ⟨h1, h⟩ := ifN h
 rcases ifC h with ⟨c2, h⟩ | ⟨c2, h⟩
 ·cases h
  refine J0 (lf := lf28) rfl rfl rfl ?_
  simp only [lf28, lc28]
  rcases tof (ieq p1.X p2.X) with a3 | a3 <;> rcases tof (ieq p1.Y p2.Y) with a4 | a4 <;> (try (simp [a3, a4] at c2; done)) <;> simp [*]
 ·obtain ⟨v7, h6, h⟩ := oS h
  have f5 := Jkk h6
  rcases ifC h with ⟨c8, h⟩ | ⟨c8, h⟩
  ·obtain ⟨v11, h10, h⟩ := oS h
   have f9 := Jer (e := Jf) h10
   have f12 : ∀ (H : Heap) (g0 : Nat), bslV H g0 1 6 52 (some [I L 2, I L 0, I L 0, I L 0, I L (imax 1 (iquo L p3.Travel p3.Pitch)), encF Jf v11]) = some (.arr g0 (Kj H g0) 0 (flit ([(⟨2, 0, 0, 0, (imax 1 (iquo L p3.Travel p3.Pitch)), v11⟩ : J1)] : List J1)).l.length, upd H g0 (some (.arr (Kj H g0) 6 52 (Jn Jw (flit ([(⟨2, 0, 0, 0, (imax 1 (iquo L p3.Travel p3.Pitch)), v11⟩ : J1)] : List J1)).l) false))) := fun H g0 => rfl
   cases h
   refine J0 (lf := lf28) rfl rfl rfl ?_
   simp only [lf28, lc28]
   rcases tof (ieq p1.X p2.X) with a13 | a13 <;> rcases tof (ieq p1.Y p2.Y) with a14 | a14 <;> (try (simp [c8, a13, a14] at c2; done)) <;> simp [*, -Jpr, Kq (e := Jw) (el := 52) (fz := false)]
  ·obtain ⟨v17, h16, h⟩ := oS h
   have f15 := Jh8 h16
   obtain ⟨v20, h19, h⟩ := oS h
   have f18 := Jer (e := Jf) h19
   rcases ifC h with ⟨c21, h⟩ | ⟨c21, h⟩
   ·have f22 : ∀ (H : Heap) (g0 : Nat), bslV H g0 1 6 52 (some [I L 2, I L 0, I L 0, I L 0, I L (imax 1 (iquo L p3.Travel p3.Pitch)), encF Jf v20]) = some (.arr g0 (Kj H g0) 0 (flit ([(⟨2, 0, 0, 0, (imax 1 (iquo L p3.Travel p3.Pitch)), v20⟩ : J1)] : List J1)).l.length, upd H g0 (some (.arr (Kj H g0) 6 52 (Jn Jw (flit ([(⟨2, 0, 0, 0, (imax 1 (iquo L p3.Travel p3.Pitch)), v20⟩ : J1)] : List J1)).l) false))) := fun H g0 => rfl
    cases h
    refine J0 (lf := lf28) rfl rfl rfl ?_
    simp only [lf28, lc28]
    rcases tof (ieq p1.X p2.X) with a23 | a23 <;> rcases tof (ieq p1.Y p2.Y) with a24 | a24 <;> (try (simp [c8, c21, a23, a24] at c2; done)) <;> simp [*, -Jpr, Kq (e := Jw) (el := 52) (fz := false)]
   ·have f25 : ∀ (H : Heap) (g0 : Nat), bslV H g0 3 6 52 (some [I L 4, I L 0, I L 0, I L 0, I L 0, .nils, I L 2, I L 0, I L 0, I L 0, I L (imax 1 (iquo L p3.Travel p3.Pitch)), encF Jf v20, I L 5, I L 0, I L 0, I L 0, I L 0, .nils]) = some (.arr g0 (Kj H g0) 0 (flit ([(⟨4, 0, 0, 0, 0, (FS.nil : (FS Ja))⟩ : J1), (⟨2, 0, 0, 0, (imax 1 (iquo L p3.Travel p3.Pitch)), v20⟩ : J1), (⟨5, 0, 0, 0, 0, (FS.nil : (FS Ja))⟩ : J1)] : List J1)).l.length, upd H g0 (some (.arr (Kj H g0) 6 52 (Jn Jw (flit ([(⟨4, 0, 0, 0, 0, (FS.nil : (FS Ja))⟩ : J1), (⟨2, 0, 0, 0, (imax 1 (iquo L p3.Travel p3.Pitch)), v20⟩ : J1), (⟨5, 0, 0, 0, 0, (FS.nil : (FS Ja))⟩ : J1)] : List J1)).l) false))) := fun H g0 => rfl
    cases h
    refine J0 (lf := lf28) rfl rfl rfl ?_
    simp only [lf28, lc28]
    rcases tof (ieq p1.X p2.X) with a26 | a26 <;> rcases tof (ieq p1.Y p2.Y) with a27 | a27 <;> (try (simp [c8, c21, a26, a27] at c2; done)) <;> simp [*, Kq (e := Jw) (el := 52) (fz := false)]
attribute [simp] c54_0 c54_1
def Jc5 (p0 : Jy) : Option (Int × Int) := (if ieq p0.Pitch 0 = true then none else (if ieq p0.Pitch 0 = true then none else some ((imax 1 (iquo L p0.MinFeed p0.Pitch)), (imax 1 (iquo L p0.Feed p0.Pitch)))))
theorem Jjd {p0} {r} (h : Jc5 p0 = some r) : FC env 54 [.agg [I L p0.Pitch, I L p0.Height, I L p0.Walls, I L p0.Top, I L p0.Bottom, I L p0.Pattern, I L p0.Spacing, .bool p0.Support, I L p0.Reach, I L p0.Gap, I L p0.Brim, I L p0.Skirt, I L p0.Drop, I L p0.Feed, I L p0.Travel, I L p0.Retract, I L p0.MinTime, I L p0.MinFeed, I L p0.Nozzle, I L p0.Bed]] none = some (.tup [I L r.1, I L r.2], fun _ => none) := by
 unfold Jc5 at h
 obtain ⟨h1, h⟩ := ifN h
 obtain ⟨h2, h⟩ := ifN h
 cases h
 refine J0 (lf := lf54) rfl rfl rfl ?_
 simp only [lf54, lc54]
 simp [*, Q4, tupS, Qm, K5, Qo, K4, Qq]
attribute [simp] c56_0 c56_1 c56_2 c56_3 c56_4 c56_5 c56_6 c56_7 c56_8 c56_9 c56_11
theorem c56_L0_u : EC Γ ps 0 J06 σ = EC Γ ps 0 (.seq (.reg false c56_3) (.seq (.cond (.t 11) .skip (.seq (.trim [5]) (.exit 0))) (.seq (.blk 1 (.seq (.reg false c56_4) (.seq (.reg false c56_5) (.seq (.seq (.reg false c56_6) (.cond (.t 27) (.reg false c56_7) .skip)) (.reg false c56_8))))) (.reg false c56_9)))) σ := rfl
attribute [simp ↓] c56_L0_u
def Z1 (k0 : Int) (k1 : (FS J1)) (k2 : Int) (s : ((FS J1) × Int)) : Option (LR ((FS J1) × Int) (FS J1)) := match s with
 | (s0, s1) => (if (ilt s1 k2) = true then (J6 (fget k1 s1) fun v4 => (if fits 16 ((flen (flit ([] : List Ja))) + (flen v4.Cells)) = true then (if (band (ieq v4.Kind 3) (igt v4.Speed k0)) = true then (if fits 64 ((flen s0) + 1) = true then some (.nx ((Yy s0 (⟨v4.Kind, v4.Role, v4.Layer, v4.Z, k0, (fapp (flit ([] : List Ja)) v4.Cells)⟩ : J1)), (iadd L s1 1))) else none)
 else (if fits 64 ((flen s0) + 1) = true then some (.nx ((Yy s0 (⟨v4.Kind, v4.Role, v4.Layer, v4.Z, v4.Speed, (fapp (flit ([] : List Ja)) v4.Cells)⟩ : J1)), (iadd L s1 1))) else none)) else none))
 else some (.dn s0))
def K6 (k0 : Int) (k1 : (FS J1)) (k2 : Int) (s : ((FS J1) × Int)) : St := match s with
 | (s0, s1) => (Jat s0 (⟨fr [(1, I L k0), (5, .nils), (8, encF Jw k1), (9, I L k2), (10, I L s1)], hl []⟩)
  (fun l0 => ⟨fr [(1, I L k0), (5, .arr 5 0 0 l0.l.length), (8, encF Jw k1), (9, I L k2), (10, I L s1)], hl [(5, .arr 0 6 52 (Jn Jw l0.l) false)]⟩))
def Zp (k0 : Int) (k1 : (FS J1)) (k2 : Int) (x : (FS J1)) : LE × St := (Jat x (.exit 0, ⟨fr [(5, .nils)], hl []⟩)
  (fun l0 => (.exit 0, ⟨fr [(5, .arr 5 0 0 l0.l.length)], hl [(5, .arr 0 6 52 (Jn Jw l0.l) false)]⟩)))
theorem Jgr {k0} {k1} {k2} {s} {r} (h : Kn (Z1 k0 k1 k2) bigN s = some r) : LK env [] 0 [1, 5, 8, 9, 10] J06 (some (K6 k0 k1 k2 s)) = some (Zp k0 k1 k2 r) := Kh (st := K6 k0 k1 k2) (out := Zp k0 k1 k2) (by
 clear h s r
 rintro ⟨s0, s1⟩ x h
 simp only [Z1] at h
 cases e2 : s0 with
 | nil =>
  try simp only [e2, Jx] at h
  rcases ifC h with ⟨c3, h⟩ | ⟨c3, h⟩
  ·obtain ⟨v6, h5, h⟩ := oS h
   have f4 := Kf (e := Jw) h5
   have f7 : ∀ (H : Heap) (g0 : Nat), bslV H g0 0 2 27 (some []) = some (.arr g0 (Kj H g0) 0 (flit ([] : List Ja)).l.length, upd H g0 (some (.arr (Kj H g0) 2 27 (Jn Jf (flit ([] : List Ja)).l) false))) := fun H g0 => rfl
   obtain ⟨h9, h⟩ := ifS h
   have f8 := fun g0 H => @Jar _ _ Jf _ (flit ([] : List Ja)) v6.Cells 16 h9 (by decide) g0 H 14 0 27
   rcases ifC h with ⟨c10, h⟩ | ⟨c10, h⟩
   ·obtain ⟨h12, h⟩ := ifS h
    have f11 := fun H g0 hg y => @Jdk _ _ Jw _ (⟨v6.Kind, v6.Role, v6.Layer, v6.Z, k0, (fapp (flit ([] : List Ja)) v6.Cells)⟩ : J1) 64 h12 (by decide) H g0 52 y hg
    simp only [Jw] at f11
    cases h
    simp only [K6, e2]
    rw [Jm]
    rcases tof (ieq v6.Kind 3) with a13 | a13 <;> rcases tof (igt v6.Speed k0) with a14 | a14 <;> (try (simp [c3, a13, a14] at c10; done)) <;> simp [*, Kq (e := Jf) (el := 27) (fz := false)]
   ·obtain ⟨h16, h⟩ := ifS h
    have f15 := fun H g0 hg y => @Jdk _ _ Jw _ (⟨v6.Kind, v6.Role, v6.Layer, v6.Z, v6.Speed, (fapp (flit ([] : List Ja)) v6.Cells)⟩ : J1) 64 h16 (by decide) H g0 52 y hg
    simp only [Jw] at f15
    cases h
    simp only [K6, e2]
    rw [Jm]
    rcases tof (ieq v6.Kind 3) with a17 | a17 <;> rcases tof (igt v6.Speed k0) with a18 | a18 <;> (try (simp [c3, a17, a18] at c10; done)) <;> simp [*, Kq (e := Jf) (el := 27) (fz := false)]
  ·cases h
   simp only [K6, Zp, e2]
   rw [Jm]
   simp [*]
 | lst l1 =>
  try simp only [e2] at h
  rcases ifC h with ⟨c19, h⟩ | ⟨c19, h⟩
  ·obtain ⟨v22, h21, h⟩ := oS h
   have f20 := Kf (e := Jw) h21
   have f23 : ∀ (H : Heap) (g0 : Nat), bslV H g0 0 2 27 (some []) = some (.arr g0 (Kj H g0) 0 (flit ([] : List Ja)).l.length, upd H g0 (some (.arr (Kj H g0) 2 27 (Jn Jf (flit ([] : List Ja)).l) false))) := fun H g0 => rfl
   obtain ⟨h25, h⟩ := ifS h
   have f24 := fun g0 H => @Jar _ _ Jf _ (flit ([] : List Ja)) v22.Cells 16 h25 (by decide) g0 H 14 0 27
   rcases ifC h with ⟨c26, h⟩ | ⟨c26, h⟩
   ·obtain ⟨h28, h⟩ := ifS h
    have f27 := fun g0 H y => @Y3 _ _ Jw _ (FS.lst l1) (⟨v22.Kind, v22.Role, v22.Layer, v22.Z, k0, (fapp (flit ([] : List Ja)) v22.Cells)⟩ : J1) 64 h28 (by decide) g0 H 5 0 52 y
    simp only [Jw] at f27
    cases h
    simp only [K6, e2]
    rw [Jm]
    rcases tof (ieq v22.Kind 3) with a29 | a29 <;> rcases tof (igt v22.Speed k0) with a30 | a30 <;> (try (simp [c19, a29, a30] at c26; done)) <;> simp [*, Kq (e := Jf) (el := 27) (fz := false)]
   ·obtain ⟨h32, h⟩ := ifS h
    have f31 := fun g0 H y => @Y3 _ _ Jw _ (FS.lst l1) (⟨v22.Kind, v22.Role, v22.Layer, v22.Z, v22.Speed, (fapp (flit ([] : List Ja)) v22.Cells)⟩ : J1) 64 h32 (by decide) g0 H 5 0 52 y
    simp only [Jw] at f31
    cases h
    simp only [K6, e2]
    rw [Jm]
    rcases tof (ieq v22.Kind 3) with a33 | a33 <;> rcases tof (igt v22.Speed k0) with a34 | a34 <;> (try (simp [c19, a33, a34] at c26; done)) <;> simp [*, Kq (e := Jf) (el := 27) (fz := false)]
  ·cases h
   simp only [K6, Zp, e2]
   rw [Jm]
   simp [*]) bigN s r h
def Z9 (p0 : (FS J1)) (p1 : Int) : Option (FS J1) := (J6 (Kn (Z1 p1 p0 (flen p0)) bigN ((FS.nil : (FS J1)), 0)) fun v14 => some v14)
theorem Je3 {p0} {p1} {r} (h : Z9 p0 p1 = some r) : FC env 56 [encF Jw p0, I L p1] none = some (encF Jw r, fun _ => none) := by
 unfold Z9 at h
 obtain ⟨v36, h35, h⟩ := oS h
 have f37 := Jgr h35
 simp only [K6, Zp, J5, Ka] at f37
 cases e40 : v36 with
 | nil =>
  try simp only [e40, Jx] at h
  simp only [e40, Jx, Jg, Jh] at f37
  cases h
  refine J0 (lf := lf56) rfl rfl rfl ?_
  simp only [lf56, lc56]
  simp [*]
 | lst l39 =>
  try simp only [e40] at h
  simp only [e40, Jx, Jg, Jh] at f37
  cases h
  refine J0 (lf := lf56) rfl rfl rfl ?_
  simp only [lf56, lc56]
  simp [*, Kq (e := Jw) (el := 52) (fz := false)]
attribute [simp] c55_0 c55_1 c55_2 c55_3 c55_4 c55_5 c55_6 c55_7 c55_8 c55_9 J4y c55_12
theorem c55_L0_u : EC Γ ps 0 J27 σ = EC Γ ps 0 (.seq (.reg false c55_3) (.seq (.cond (.t 10) .skip (.seq (.trim [3]) (.exit 0))) (.seq (.blk 1 (.seq (.reg false c55_4) (.seq (.reg false c55_5) (.cond (.t 25) (.seq (.reg false c55_6) (.seq (.reg false c55_7) (.seq (.reg false c55_8) (.cond (.t 40) (.reg false c55_9) .skip)))) .skip)))) (.reg false J4y)))) σ := rfl
attribute [simp ↓] c55_L0_u
def z8 (k0 : (FS J1)) (k1 : Int) (s : (Int × Int)) : Option (LR (Int × Int) Int) := match s with
 | (s0, s1) => (if (ilt s1 k1) = true then (J6 (fget k0 s1) fun v4 => (if (band (bor (ieq v4.Kind 2) (ieq v4.Kind 3)) (igt v4.Speed 0)) = true then (if ieq v4.Speed 0 = true then none else (if ieq v4.Speed 0 = true then none else (if (ine (irem (imul L (flen v4.Cells) 1000) v4.Speed) 0) = true then some (.nx ((iadd L (iadd L s0 (iquo L (imul L (flen v4.Cells) 1000) v4.Speed)) 1), (iadd L s1 1)))
 else some (.nx ((iadd L s0 (iquo L (imul L (flen v4.Cells) 1000) v4.Speed)), (iadd L s1 1))))))
 else some (.nx (s0, (iadd L s1 1)))))
 else some (.dn s0))
def X8 (k0 : (FS J1)) (k1 : Int) (s : (Int × Int)) : St := match s with
 | (s0, s1) => ⟨fr [(3, I L s0), (7, encF Jw k0), (8, I L k1), (9, I L s1)], hl []⟩
def Jbm (k0 : (FS J1)) (k1 : Int) (x : Int) : LE × St := (.exit 0, ⟨fr [(3, I L x)], hl []⟩)
theorem Jit {k0} {k1} {s} {r} (h : Kn (z8 k0 k1) bigN s = some r) : LK env [] 0 [3, 7, 8, 9] J27 (some (X8 k0 k1 s)) = some (Jbm k0 k1 r) := Kh (st := X8 k0 k1) (out := Jbm k0 k1) (by
 clear h s r
 rintro ⟨s0, s1⟩ x h
 simp only [z8] at h
 rcases ifC h with ⟨c1, h⟩ | ⟨c1, h⟩
 ·obtain ⟨v4, h3, h⟩ := oS h
  have f2 := Kf (e := Jw) h3
  rcases ifC h with ⟨c5, h⟩ | ⟨c5, h⟩
  ·obtain ⟨h6, h⟩ := ifN h
   obtain ⟨h7, h⟩ := ifN h
   rcases ifC h with ⟨c8, h⟩ | ⟨c8, h⟩
   ·cases h
    simp only [X8]
    rw [Jm]
    rcases tof (ieq v4.Kind 2) with a9 | a9 <;> rcases tof (igt v4.Speed 0) with a10 | a10 <;> rcases tof (ieq v4.Kind 3) with a11 | a11 <;> (try (simp [c1, c8, a9, a10, a11] at c5; done)) <;> simp [*]
   ·cases h
    simp only [X8]
    rw [Jm]
    rcases tof (ieq v4.Kind 2) with a12 | a12 <;> rcases tof (igt v4.Speed 0) with a13 | a13 <;> rcases tof (ieq v4.Kind 3) with a14 | a14 <;> (try (simp [c1, c8, a12, a13, a14] at c5; done)) <;> simp [*]
  ·cases h
   simp only [X8]
   rw [Jm]
   rcases tof (ieq v4.Kind 2) with a15 | a15 <;> rcases tof (igt v4.Speed 0) with a16 | a16 <;> rcases tof (ieq v4.Kind 3) with a17 | a17 <;> (try (simp [c1, a15, a16, a17] at c5; done)) <;> simp [*]
 ·cases h
  simp only [X8, Jbm]
  rw [Jm]
  simp [*]) bigN s r h
def Jbo (p0 : (FS J1)) : Option Int := (J6 (Kn (z8 p0 (flen p0)) bigN (0, 0)) fun v10 => some v10)
theorem Jkm {p0} {r} (h : Jbo p0 = some r) : FC env 55 [encF Jw p0] none = some (I L r, fun _ => none) := by
 unfold Jbo at h
 obtain ⟨v19, h18, h⟩ := oS h
 have f20 := Jit h18
 simp only [X8, Jbm, J5, Ka] at f20
 try simp only [Jg, Jh, Jk, Jr, Ju, Jt, Js, Jv] at f20
 cases h
 refine J0 (lf := lf55) rfl rfl rfl ?_
 simp only [lf55, lc55]
 simp [*]
attribute [simp] c29_0 c29_1 c29_2 c29_3 c29_4 c29_5 c29_6 c29_7 c29_8 c29_10
theorem c29_L0_u : EC Γ ps 0 J1r σ = EC Γ ps 0 (.seq (.seq (.reg false c29_4) (.cond (.t 21) .skip (.seq (.trim [0, 5]) (.exit 0)))) (.blk 1 (.seq (.reg false c29_5) (.seq (.reg true c29_6) (.cond (.t 33) (.reg false c29_7) (.reg false c29_8)))))) σ := rfl
attribute [simp ↓] c29_L0_u
def Jbk (k0 : (FS J1)) (k1 : Jy) (s : (Int × Int)) : Option (LR (Int × Int) Int) := match s with
 | (s0, s1) => (if (ilt s0 s1) = true then (J6 (Z9 k0 (iquo L (iadd L (iadd L s0 s1) 1) 2)) fun v14 => (J6 (Jbo v14) fun v17 => (if (ige v17 k1.MinTime) = true then some (.nx ((iquo L (iadd L (iadd L s0 s1) 1) 2), s1))
 else some (.nx (s0, (isub L (iquo L (iadd L (iadd L s0 s1) 1) 2) 1))))))
 else some (.dn s0))
def Z0 (k0 : (FS J1)) (k1 : Jy) (s : (Int × Int)) : St := match s with
 | (s0, s1) => ⟨fr [(0, encF Jw k0), (3, .ptr 3 0 0), (5, I L s0), (6, I L s1)], hl [(3, .box 0 [I L k1.Pitch, I L k1.Height, I L k1.Walls, I L k1.Top, I L k1.Bottom, I L k1.Pattern, I L k1.Spacing, .bool k1.Support, I L k1.Reach, I L k1.Gap, I L k1.Brim, I L k1.Skirt, I L k1.Drop, I L k1.Feed, I L k1.Travel, I L k1.Retract, I L k1.MinTime, I L k1.MinFeed, I L k1.Nozzle, I L k1.Bed])]⟩
def Jbc (k0 : (FS J1)) (k1 : Jy) (x : Int) : LE × St := (.exit 0, ⟨fr [(0, encF Jw k0), (5, I L x)], hl []⟩)
theorem Jiq {k0} {k1} {s} {r} (h : Kn (Jbk k0 k1) bigN s = some r) : LK env [] 0 [0, 3, 5, 6] J1r (some (Z0 k0 k1 s)) = some (Jbc k0 k1 r) := Kh (st := Z0 k0 k1) (out := Jbc k0 k1) (by
 clear h s r
 rintro ⟨s0, s1⟩ x h
 simp only [Jbk] at h
 rcases ifC h with ⟨c12, h⟩ | ⟨c12, h⟩
 ·obtain ⟨v15, h14, h⟩ := oS h
  have f13 := Je3 h14
  obtain ⟨v18, h17, h⟩ := oS h
  have f16 := Jkm h17
  rcases ifC h with ⟨c19, h⟩ | ⟨c19, h⟩
  ·cases h
   simp only [Z0]
   rw [Jm]
   simp [*, (show ieq 2 0 = false from rfl)]
  ·cases h
   simp only [Z0]
   rw [Jm]
   simp [*, (show ieq 2 0 = false from rfl)]
 ·cases h
  simp only [Z0, Jbc]
  rw [Jm]
  simp [*]) bigN s r h
def Jag (p0 : (FS J1)) (p1 : Jy) : Option (FS J1) := (J6 (Zo p1) fun v3 => (if (bnot v3) = true then (if fits 64 ((flen (flit ([] : List J1))) + (flen p0)) = true then some (fapp (flit ([] : List J1)) p0) else none)
 else (J6 (Jc5 p1) fun v10 => (J6 (Kn (Jbk p0 p1) bigN (v10.1, v10.2)) fun v20 => (J6 (Z9 p0 v20) fun v24 => some v24)))))
theorem Jf0 {p0} {p1} {r} (h : Jag p0 p1 = some r) : FC env 29 [encF Jw p0, .agg [I L p1.Pitch, I L p1.Height, I L p1.Walls, I L p1.Top, I L p1.Bottom, I L p1.Pattern, I L p1.Spacing, .bool p1.Support, I L p1.Reach, I L p1.Gap, I L p1.Brim, I L p1.Skirt, I L p1.Drop, I L p1.Feed, I L p1.Travel, I L p1.Retract, I L p1.MinTime, I L p1.MinFeed, I L p1.Nozzle, I L p1.Bed]] none = some (encF Jw r, fun _ => none) := by
 unfold Jag at h
 obtain ⟨v3, h2, h⟩ := oS h
 have f1 := Jfm h2
 rcases ifC h with ⟨c4, h⟩ | ⟨c4, h⟩
 ·have f5 : ∀ (H : Heap) (g0 : Nat), bslV H g0 0 6 52 (some []) = some (.arr g0 (Kj H g0) 0 (flit ([] : List J1)).l.length, upd H g0 (some (.arr (Kj H g0) 6 52 (Jn Jw (flit ([] : List J1)).l) false))) := fun H g0 => rfl
  obtain ⟨h7, h⟩ := ifS h
  have f6 := fun g0 H => @Jar _ _ Jw _ (flit ([] : List J1)) p0 64 h7 (by decide) g0 H 11 0 52
  cases h
  refine J0 (lf := lf29) rfl rfl rfl ?_
  simp only [lf29, lc29]
  rcases tof v3 with a8 | a8
  ·simp [a8] at c4
  ·simp [*, Kq (e := Jw) (el := 52) (fz := false)]
 ·obtain ⟨v11, h10, h⟩ := oS h
  have f9 := Jjd h10
  obtain ⟨v21, h20, h⟩ := oS h
  have f22 := Jiq h20
  simp only [Z0, Jbc, J5, Ka] at f22
  try simp only [Jg, Jh, Jk, Jr, Ju, Jt, Js, Jv] at f22
  obtain ⟨v26, h25, h⟩ := oS h
  have f24 := Je3 h25
  cases h
  refine J0 (lf := lf29) rfl rfl rfl ?_
  simp only [lf29, lc29]
  rcases tof v3 with a27 | a27
  ·try simp only [a27] at f22
   simp [*]
  ·simp [a27] at c4
attribute [simp] c7_0 c7_1 c7_2 c7_3 c7_4 c7_5 c7_6 c7_7 c7_9 c7_10 c7_11 c7_12 c7_13 c7_14 c7_15 c7_16 c7_17 c7_18 c7_19 c7_20 c7_21 c7_22 c7_24 c7_26
theorem c7_L0_u : EC Γ ps 0 c7_L0 σ = EC Γ ps 0 (.seq (.seq (.reg false c7_4) (.cond (.t 45) .skip (.seq (.trim [0, 2, 6, 8, 9, 11]) (.exit 0)))) (.seq (.blk 1 (.seq (.reg false c7_5) (.cond (.t 53) (.seq (.reg false c7_6) (.seq (.trim [10, 11, 12]) .ret)) .skip))) (.reg false c7_7))) σ := rfl
theorem c7_L1_u : EC Γ ps 0 c7_L1 σ = EC Γ ps 0 (.seq (.seq (.reg false c7_18) (.cond (.t 88) .skip (.seq (.trim [0, 6, 9, 11, 15, 16, 17]) (.exit 4)))) (.seq (.blk 5 (.seq (.reg true c7_19) (.seq (.reg true c7_20) (.reg true c7_21)))) (.reg false c7_22))) σ := rfl
theorem c7_L2_u : EC Γ ps 0 c7_L2 σ = EC Γ ps 0 (.seq (.seq (.reg false c7_15) (.cond (.t 71) .skip (.seq (.trim [9, 11, 15, 16]) (.exit 2)))) (.seq (.blk 3 (.seq (.reg true c7_16) (.seq (.reg false c7_17) (.blk 4 (.loop [0, 6, 9, 11, 15, 16, 17, 18, 19] c7_L1))))) (.reg false c7_24))) σ := rfl
attribute [simp ↓] c7_L0_u c7_L1_u c7_L2_u
def Q8 (k0 : (FS Jb)) (k1 : Int) (k2 : Jl) (k3 : Ja) (k4 : Jy) (s : (Ja × Int)) : Option (LR (Ja × Int) ((Ja × (FS J1) × Int) ⊕ Ja)) := match s with
 | (s0, s1) => (if (ilt s1 (flen k0)) = true then (J6 (fget k0 s1) fun v12 => (J6 (Xi v12) fun v15 => (if (bnot v15) = true then some (.dn (.inl ((⟨0, 0⟩ : Ja), (FS.nil : (FS J1)), 1)))
 else some (.nx (s0, (iadd L s1 1))))))
 else some (.dn (.inr s0)))
def Xs (k0 : (FS Jb)) (k1 : Int) (k2 : Jl) (k3 : Ja) (k4 : Jy) (s : (Ja × Int)) : St := match s with
 | (s0, s1) => ⟨fr [(0, encF Jc k0), (2, I L k1), (6, .ptr 6 0 0), (8, .ptr 8 0 0), (9, .ptr 9 0 0), (11, .ptr 11 0 0), (13, I L s1)], hl [(6, .box 0 [encF Jq k2.Rows]), (8, .box 0 [I L k3.X, I L k3.Y]), (9, .box 0 [I L k4.Pitch, I L k4.Height, I L k4.Walls, I L k4.Top, I L k4.Bottom, I L k4.Pattern, I L k4.Spacing, .bool k4.Support, I L k4.Reach, I L k4.Gap, I L k4.Brim, I L k4.Skirt, I L k4.Drop, I L k4.Feed, I L k4.Travel, I L k4.Retract, I L k4.MinTime, I L k4.MinFeed, I L k4.Nozzle, I L k4.Bed]), (11, .box 0 [I L s0.X, I L s0.Y])]⟩
def Yp (k0 : (FS Jb)) (k1 : Int) (k2 : Jl) (k3 : Ja) (k4 : Jy) (x : ((Ja × (FS J1) × Int) ⊕ Ja)) : LE × St := match x with
 | .inl x => (.ret, ⟨fr [(10, .nils), (11, .ptr 11 0 0), (12, I L x.2.2)], hl [(11, .box 0 [I L x.1.X, I L x.1.Y])]⟩)
 | .inr x => (.exit 0, ⟨fr [(0, encF Jc k0), (2, I L k1), (6, .ptr 6 0 0), (8, .ptr 8 0 0), (9, .ptr 9 0 0), (11, .ptr 11 0 0)], hl [(6, .box 0 [encF Jq k2.Rows]), (8, .box 0 [I L k3.X, I L k3.Y]), (9, .box 0 [I L k4.Pitch, I L k4.Height, I L k4.Walls, I L k4.Top, I L k4.Bottom, I L k4.Pattern, I L k4.Spacing, .bool k4.Support, I L k4.Reach, I L k4.Gap, I L k4.Brim, I L k4.Skirt, I L k4.Drop, I L k4.Feed, I L k4.Travel, I L k4.Retract, I L k4.MinTime, I L k4.MinFeed, I L k4.Nozzle, I L k4.Bed]), (11, .box 0 [I L x.X, I L x.Y])]⟩)
theorem Jht {k0} {k1} {k2} {k3} {k4} {s} {r} (h : Kn (Q8 k0 k1 k2 k3 k4) bigN s = some r) : LK env [] 0 [0, 2, 6, 8, 9, 11, 13] c7_L0 (some (Xs k0 k1 k2 k3 k4 s)) = some (Yp k0 k1 k2 k3 k4 r) := Kh (st := Xs k0 k1 k2 k3 k4) (out := Yp k0 k1 k2 k3 k4) (by
 clear h s r
 rintro ⟨s0, s1⟩ x h
 simp only [Q8] at h
 rcases ifC h with ⟨c14, h⟩ | ⟨c14, h⟩
 ·obtain ⟨v17, h16, h⟩ := oS h
  have f15 := Kf (e := Jc) h16
  obtain ⟨v20, h19, h⟩ := oS h
  have f18 := Ja4 h19
  rcases ifC h with ⟨c21, h⟩ | ⟨c21, h⟩
  ·cases h
   simp only [Xs, Yp]
   rw [Jm]
   rcases tof v20 with a22 | a22
   ·simp [c14, a22] at c21
   ·simp [*]
  ·cases h
   simp only [Xs]
   rw [Jm]
   rcases tof v20 with a23 | a23
   ·simp [*]
   ·simp [c14, a23] at c21
 ·cases h
  simp only [Xs, Yp]
  rw [Jm]
  simp [*]) bigN s r h
def Zi (k0 : (FS Jb)) (k1 : Jl) (k2 : Jy) (k3 : Ja) (k4 : Int) (k5 : (FS Jb)) (s : ((FS J1) × Ja × Int)) : Option (LR ((FS J1) × Ja × Int) (Ja × (FS J1))) := match s with
 | (s0, s1, s2) => (if (ilt s2 (flen k5)) = true then (J6 (fget k5 s2) fun v38 => (J6 (fget v38.Cells 0) fun v41 => (J6 (Jbz k1 s1 v41 k2) fun v44 => (if fits 64 ((flen s0) + (flen v44)) = true then (if ieq k2.Pitch 0 = true then none else (if fits 64 ((flen (fapp s0 v44)) + 1) = true then (J6 (fget v38.Cells (isub L (flen v38.Cells) 1)) fun v56 => some (.nx ((Yy (fapp s0 v44) (⟨3, v38.Role, 0, 0, (imax 1 (iquo L k2.Feed k2.Pitch)), v38.Cells⟩ : J1)), v56, (iadd L s2 1)))) else none)) else none))))
 else some (.dn (s1, s0)))
def zg (k0 : (FS Jb)) (k1 : Jl) (k2 : Jy) (k3 : Ja) (k4 : Int) (k5 : (FS Jb)) (s : ((FS J1) × Ja × Int)) : St := match s with
 | (s0, s1, s2) => ⟨fr [(0, encF Jc k0), (6, .ptr 6 0 0), (9, .ptr 9 0 0), (11, .ptr 11 0 0), (15, .arr 15 0 0 s0.l.length), (16, .ptr 16 0 0), (17, I L k4), (18, encF Jc k5), (19, I L s2)], hl [(6, .box 0 [encF Jq k1.Rows]), (9, .box 0 [I L k2.Pitch, I L k2.Height, I L k2.Walls, I L k2.Top, I L k2.Bottom, I L k2.Pattern, I L k2.Spacing, .bool k2.Support, I L k2.Reach, I L k2.Gap, I L k2.Brim, I L k2.Skirt, I L k2.Drop, I L k2.Feed, I L k2.Travel, I L k2.Retract, I L k2.MinTime, I L k2.MinFeed, I L k2.Nozzle, I L k2.Bed]), (11, .box 0 [I L k3.X, I L k3.Y]), (15, .arr 0 6 52 (Jn Jw s0.l) false), (16, .box 0 [I L s1.X, I L s1.Y])]⟩
def Ja9 (k0 : (FS Jb)) (k1 : Jl) (k2 : Jy) (k3 : Ja) (k4 : Int) (k5 : (FS Jb)) (x : (Ja × (FS J1))) : LE × St := (.exit 4, ⟨fr [(0, encF Jc k0), (6, .ptr 6 0 0), (9, .ptr 9 0 0), (11, .ptr 11 0 0), (15, .arr 15 0 0 x.2.l.length), (16, .ptr 16 0 0), (17, I L k4)], hl [(6, .box 0 [encF Jq k1.Rows]), (9, .box 0 [I L k2.Pitch, I L k2.Height, I L k2.Walls, I L k2.Top, I L k2.Bottom, I L k2.Pattern, I L k2.Spacing, .bool k2.Support, I L k2.Reach, I L k2.Gap, I L k2.Brim, I L k2.Skirt, I L k2.Drop, I L k2.Feed, I L k2.Travel, I L k2.Retract, I L k2.MinTime, I L k2.MinFeed, I L k2.Nozzle, I L k2.Bed]), (11, .box 0 [I L k3.X, I L k3.Y]), (15, .arr 0 6 52 (Jn Jw x.2.l) false), (16, .box 0 [I L x.1.X, I L x.1.Y])]⟩)
theorem Jh4 {k0} {k1} {k2} {k3} {k4} {k5} {s} {r} (h : Kn (Zi k0 k1 k2 k3 k4 k5) bigN s = some r) : LK env [] 0 [0, 6, 9, 11, 15, 16, 17, 18, 19] c7_L1 (some (zg k0 k1 k2 k3 k4 k5 s)) = some (Ja9 k0 k1 k2 k3 k4 k5 r) := Kh (st := zg k0 k1 k2 k3 k4 k5) (out := Ja9 k0 k1 k2 k3 k4 k5) (by
 clear h s r
 rintro ⟨s0, s1, s2⟩ x h
 simp only [Zi] at h
 rcases ifC h with ⟨c49, h⟩ | ⟨c49, h⟩
 ·obtain ⟨v52, h51, h⟩ := oS h
  have f50 := Kf (e := Jc) h51
  obtain ⟨v55, h54, h⟩ := oS h
  have f53 := Kf (e := Jf) h54
  obtain ⟨v58, h57, h⟩ := oS h
  have f56 := Jjc h57
  obtain ⟨h60, h⟩ := ifS h
  have f59 := fun g0 H => @Jar _ _ Jw _ s0 v58 64 h60 (by decide) g0 H 15 0 52
  obtain ⟨h62, h⟩ := ifN h
  obtain ⟨h65, h⟩ := ifS h
  have f64 := fun g0 H y => @Y3 _ _ Jw _ (fapp s0 v58) (⟨3, v52.Role, 0, 0, (imax 1 (iquo L k2.Feed k2.Pitch)), v52.Cells⟩ : J1) 64 h65 (by decide) g0 H 15 (bump 0 (flen v58)) 52 y
  simp only [Jw] at f64
  obtain ⟨v70, h69, h⟩ := oS h
  have f68 := Kf (e := Jf) h69
  cases h
  simp only [zg]
  rw [Jm]
  simp [*]
 ·cases h
  simp only [zg, Ja9]
  rw [Jm]
  simp [*]) bigN s r h
def Q7 (k0 : (FS Jb)) (k1 : Jl) (k2 : Jy) (k3 : Ja) (s : ((FS J1) × Ja × Int)) : Option (LR ((FS J1) × Ja × Int) (Ja × (FS J1))) := match s with
 | (s0, s1, s2) => (if (ilt s2 (flen k0)) = true then (J6 (Ja2 k0 s2) fun v25 => (J6 (fsl k0 s2 v25) fun v28 => (J6 (Jbx s1 v28) fun v31 => (J6 (z7 s1 v31 8) fun v34 => (J6 (Kn (Zi k0 k1 k2 k3 s2 v34) bigN (s0, s1, 0)) fun v58 => some (.nx (v58.2, v58.1, v25)))))))
 else some (.dn (s1, s0)))
def Zf (k0 : (FS Jb)) (k1 : Jl) (k2 : Jy) (k3 : Ja) (s : ((FS J1) × Ja × Int)) : St := match s with
 | (s0, s1, s2) => ⟨fr [(0, encF Jc k0), (6, .ptr 6 0 0), (9, .ptr 9 0 0), (11, .ptr 11 0 0), (15, .arr 15 0 0 s0.l.length), (16, .ptr 16 0 0), (17, I L s2)], hl [(6, .box 0 [encF Jq k1.Rows]), (9, .box 0 [I L k2.Pitch, I L k2.Height, I L k2.Walls, I L k2.Top, I L k2.Bottom, I L k2.Pattern, I L k2.Spacing, .bool k2.Support, I L k2.Reach, I L k2.Gap, I L k2.Brim, I L k2.Skirt, I L k2.Drop, I L k2.Feed, I L k2.Travel, I L k2.Retract, I L k2.MinTime, I L k2.MinFeed, I L k2.Nozzle, I L k2.Bed]), (11, .box 0 [I L k3.X, I L k3.Y]), (15, .arr 0 6 52 (Jn Jw s0.l) false), (16, .box 0 [I L s1.X, I L s1.Y])]⟩
def jr (k0 : (FS Jb)) (k1 : Jl) (k2 : Jy) (k3 : Ja) (x : (Ja × (FS J1))) : LE × St := (.exit 2, ⟨fr [(9, .ptr 9 0 0), (11, .ptr 11 0 0), (15, .arr 15 0 0 x.2.l.length), (16, .ptr 16 0 0)], hl [(9, .box 0 [I L k2.Pitch, I L k2.Height, I L k2.Walls, I L k2.Top, I L k2.Bottom, I L k2.Pattern, I L k2.Spacing, .bool k2.Support, I L k2.Reach, I L k2.Gap, I L k2.Brim, I L k2.Skirt, I L k2.Drop, I L k2.Feed, I L k2.Travel, I L k2.Retract, I L k2.MinTime, I L k2.MinFeed, I L k2.Nozzle, I L k2.Bed]), (11, .box 0 [I L k3.X, I L k3.Y]), (15, .arr 0 6 52 (Jn Jw x.2.l) false), (16, .box 0 [I L x.1.X, I L x.1.Y])]⟩)
theorem Jen {k0} {k1} {k2} {k3} {s} {r} (h : Kn (Q7 k0 k1 k2 k3) bigN s = some r) : LK env [] 0 [0, 6, 9, 11, 15, 16, 17] c7_L2 (some (Zf k0 k1 k2 k3 s)) = some (jr k0 k1 k2 k3 r) := Kh (st := Zf k0 k1 k2 k3) (out := jr k0 k1 k2 k3) (by
 clear h s r
 rintro ⟨s0, s1, s2⟩ x h
 simp only [Q7] at h
 rcases ifC h with ⟨c36, h⟩ | ⟨c36, h⟩
 ·obtain ⟨v39, h38, h⟩ := oS h
  have f37 := Jjw h38
  obtain ⟨v42, h41, h⟩ := oS h
  have f40 := Jpe (e := Jc) h41
  obtain ⟨v45, h44, h⟩ := oS h
  have f43 := Jjh h44
  obtain ⟨v48, h47, h⟩ := oS h
  have f46 := Jil h47
  obtain ⟨v72, h71, h⟩ := oS h
  have f73 := Jh4 h71
  simp only [zg, Ja9, J5, Ka] at f73
  try simp only [Jg, Jh, Jk, Jr, Ju, Jt, Js, Jv] at f73
  cases h
  simp only [Zf]
  rw [Jm]
  try simp only [c36] at f73
  simp [*]
 ·cases h
  simp only [Zf, jr]
  rw [Jm]
  simp [*]) bigN s r h
def zj (p0 : (FS Jb)) (p1 : Jl) (p2 : Int) (p3 : Ja) (p4 : Jy) : Option ((FS J1) × Ja × Int) := (J6 (Zo p4) fun v3 => (J6 (gOpt (bnot (bnot v3)) (Zm p1)) fun v6 => (if (bor (bor (bor (bor (bnot v3) (bnot (v6.getD false))) (ilt p2 0)) (ige p2 256)) (bnot (Qr p3))) = true then some ((FS.nil : (FS J1)), (⟨0, 0⟩ : Ja), 1)
 else (J6 (Kn (Q8 p0 p2 p1 p3 p4) bigN ((⟨0, 0⟩ : Ja), 0)) fun v18 => (match v18 with
 | .inl v18x => some ((FS.nil : (FS J1)), v18x.1, v18x.2.2)
 | .inr v18x => (if (ieq p2 0) = true then (J6 (Kn (Q7 p0 p1 p4 v18x) bigN ((flit ([(⟨1, 0, p2, (imul L (iadd L p2 1) p4.Height), 0, (FS.nil : (FS Ja))⟩ : J1), (⟨6, 0, 0, 0, 0, (FS.nil : (FS Ja))⟩ : J1)] : List J1)), p3, 0)) fun v62 => (J6 (Jag (flst v62.2) p4) fun v66 => some (v66, v62.1, 0)))
 else (J6 (Kn (Q7 p0 p1 p4 v18x) bigN ((flit ([(⟨1, 0, p2, (imul L (iadd L p2 1) p4.Height), 0, (FS.nil : (FS Ja))⟩ : J1), (⟨6, 0, 0, 0, 255, (FS.nil : (FS Ja))⟩ : J1)] : List J1)), p3, 0)) fun v69 => (J6 (Jag (flst v69.2) p4) fun v73 => some (v73, v69.1, 0)))))))))
theorem Jj5 {p0} {p1} {p2} {p3} {p4} {r} (h : zj p0 p1 p2 p3 p4 = some r) : FC env 7 [encF Jc p0, .agg [encF Jq p1.Rows], I L p2, .agg [I L p3.X, I L p3.Y], .agg [I L p4.Pitch, I L p4.Height, I L p4.Walls, I L p4.Top, I L p4.Bottom, I L p4.Pattern, I L p4.Spacing, .bool p4.Support, I L p4.Reach, I L p4.Gap, I L p4.Brim, I L p4.Skirt, I L p4.Drop, I L p4.Feed, I L p4.Travel, I L p4.Retract, I L p4.MinTime, I L p4.MinFeed, I L p4.Nozzle, I L p4.Bed]] none = some (.tup [encF Jw r.1, .agg [I L r.2.1.X, I L r.2.1.Y], I L r.2.2], fun _ => none) := by
 unfold zj at h
 obtain ⟨v3, h2, h⟩ := oS h
 have f1 := Jfm h2
 obtain ⟨v6, h5, h⟩ := oS h
 have f4 := fun (q0 : (bnot v3) = false) => Jds (Qp false h5 (Jeb q0))
 have f7 := Jj3 p3
 rcases ifC h with ⟨c8, h⟩ | ⟨c8, h⟩
 ·cases h
  refine J0 (lf := lf7) rfl rfl rfl ?_
  simp only [lf7, lc7]
  rcases tof v3 with a9 | a9
  ·rcases tof (v6.getD false) with a10 | a10
   ·rcases tof (ilt p2 0) with a11 | a11
    ·simp [*, Q4, tupS, Qm, K5, Qo, K4, Qq]
    ·rcases tof (ige p2 256) with a12 | a12
     ·simp [*, Q4, tupS, Qm, K5, Qo, K4, Qq]
     ·rcases tof (Qr p3) with a13 | a13
      ·simp [a9, a10, a11, a12, a13] at c8
      ·simp [*, Q4, tupS, Qm, K5, Qo, K4, Qq]
   ·simp [*, Q4, tupS, Qm, K5, Qo, K4, Qq]
  ·simp [*, Q4, tupS, Qm, K5, Qo, K4, Qq]
 ·obtain ⟨v25, h24, h⟩ := oS h
  have f26 := Jht h24
  cases v25 with
  | inl v25x =>
   try simp only at h
   simp only [Xs, Yp, J5, Ka] at f26
   try simp only [Jg, Jh, Jk, Jr, Ju, Jt, Js, Jv] at f26
   cases h
   refine J0 (lf := lf7) rfl rfl rfl ?_
   simp only [lf7, lc7]
   rcases tof v3 with a28 | a28
   ·rcases tof (v6.getD false) with a29 | a29
    ·rcases tof (ilt p2 0) with a30 | a30
     ·simp [a28, a29, a30] at c8
     ·rcases tof (ige p2 256) with a31 | a31
      ·simp [a28, a29, a30, a31] at c8
      ·rcases tof (Qr p3) with a32 | a32
       ·try simp only [a28, a29, a30, a31, a32] at f26
        simp [*, Q4, tupS, Qm, K5, Qo, K4, Qq]
       ·simp [a28, a29, a30, a31, a32] at c8
    ·simp [a28, a29] at c8
   ·simp [a28] at c8
  | inr v25x =>
   try simp only at h
   simp only [Xs, Yp, J5, Ka] at f26
   try simp only [Jg, Jh, Jk, Jr, Ju, Jt, Js, Jv] at f26
   rcases ifC h with ⟨c34, h⟩ | ⟨c34, h⟩
   ·have f35 : ∀ (H : Heap) (g0 : Nat), bslV H g0 2 6 52 (some [I L 1, I L 0, I L p2, I L (imul L (iadd L p2 1) p4.Height), I L 0, .nils, I L 6, I L 0, I L 0, I L 0, I L 0, .nils]) = some (.arr g0 (Kj H g0) 0 (flit ([(⟨1, 0, p2, (imul L (iadd L p2 1) p4.Height), 0, (FS.nil : (FS Ja))⟩ : J1), (⟨6, 0, 0, 0, 0, (FS.nil : (FS Ja))⟩ : J1)] : List J1)).l.length, upd H g0 (some (.arr (Kj H g0) 6 52 (Jn Jw (flit ([(⟨1, 0, p2, (imul L (iadd L p2 1) p4.Height), 0, (FS.nil : (FS Ja))⟩ : J1), (⟨6, 0, 0, 0, 0, (FS.nil : (FS Ja))⟩ : J1)] : List J1)).l) false))) := fun H g0 => rfl
    obtain ⟨v77, h76, h⟩ := oS h
    have f78 := Jen h76
    simp only [Zf, jr, J5, Ka] at f78
    try simp only [Jg, Jh, Jk, Jr, Ju, Jt, Js, Jv] at f78
    obtain ⟨v82, h81, h⟩ := oS h
    have f80 := Jf0 h81
    try simp only [Ka] at f80
    cases h
    refine J0 (lf := lf7) rfl rfl rfl ?_
    simp only [lf7, lc7]
    rcases tof v3 with a83 | a83
    ·rcases tof (v6.getD false) with a84 | a84
     ·rcases tof (ilt p2 0) with a85 | a85
      ·simp [a83, a84, a85] at c8
      ·rcases tof (ige p2 256) with a86 | a86
       ·simp [a83, a84, a85, a86] at c8
       ·rcases tof (Qr p3) with a87 | a87
        ·try simp only [a83, a84, a85, a86, a87, c34] at f26 f78
         simp [*, Kq (e := Jw) (el := 52) (fz := false), Q4, tupS, Qm, K5, Qo, K4, Qq]
        ·simp [a83, a84, a85, a86, a87] at c8
     ·simp [a83, a84] at c8
    ·simp [a83] at c8
   ·have f88 : ∀ (H : Heap) (g0 : Nat), bslV H g0 2 6 52 (some [I L 1, I L 0, I L p2, I L (imul L (iadd L p2 1) p4.Height), I L 0, .nils, I L 6, I L 0, I L 0, I L 0, I L 255, .nils]) = some (.arr g0 (Kj H g0) 0 (flit ([(⟨1, 0, p2, (imul L (iadd L p2 1) p4.Height), 0, (FS.nil : (FS Ja))⟩ : J1), (⟨6, 0, 0, 0, 255, (FS.nil : (FS Ja))⟩ : J1)] : List J1)).l.length, upd H g0 (some (.arr (Kj H g0) 6 52 (Jn Jw (flit ([(⟨1, 0, p2, (imul L (iadd L p2 1) p4.Height), 0, (FS.nil : (FS Ja))⟩ : J1), (⟨6, 0, 0, 0, 255, (FS.nil : (FS Ja))⟩ : J1)] : List J1)).l) false))) := fun H g0 => rfl
    obtain ⟨v90, h89, h⟩ := oS h
    have f91 := Jen h89
    simp only [Zf, jr, J5, Ka] at f91
    try simp only [Jg, Jh, Jk, Jr, Ju, Jt, Js, Jv] at f91
    obtain ⟨v95, h94, h⟩ := oS h
    have f93 := Jf0 h94
    try simp only [Ka] at f93
    cases h
    refine J0 (lf := lf7) rfl rfl rfl ?_
    simp only [lf7, lc7]
    rcases tof v3 with a96 | a96
    ·rcases tof (v6.getD false) with a97 | a97
     ·rcases tof (ilt p2 0) with a98 | a98
      ·simp [a96, a97, a98] at c8
      ·rcases tof (ige p2 256) with a99 | a99
       ·simp [a96, a97, a98, a99] at c8
       ·rcases tof (Qr p3) with a100 | a100
        ·try simp only [a96, a97, a98, a99, a100, c34] at f26 f91
         simp [*, Kq (e := Jw) (el := 52) (fz := false), Q4, tupS, Qm, K5, Qo, K4, Qq]
        ·simp [a96, a97, a98, a99, a100] at c8
     ·simp [a96, a97] at c8
    ·simp [a96] at c8
end Go.Proofs.YtemehoioeoohmaaGreat
