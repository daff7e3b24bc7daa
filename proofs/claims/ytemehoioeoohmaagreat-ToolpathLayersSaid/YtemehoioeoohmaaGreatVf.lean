/- The operations of the evaluator that make or change memory are right of the model. Conditions: none. -/
import Derived.Test.YtemehoioeoohmaaGreatVe
import Derived.Great.BuildSlice
namespace Go.Vv
open Go
open List renaming getElem?_append_right → Aa, getElem?_append_left → Ab, getElem?_eq_some_iff → Ac
open Nat renaming le_refl → Ad, mul_le_mul_right → Ae
theorem Jrt (cs : Array Value) (i j : Nat) (v : Value) : (cs.setIfInBounds i v).getD j undef = if i = j ∧ i < cs.size then v else cs.getD j undef := by
 by_cases hij : i = j
 ·subst hij
  by_cases hi : i < cs.size
  ·simp [hi]
  ·simp [hi]
 ·simp [hij, Array.getElem?_setIfInBounds_ne]
theorem J43 (off : Nat) : ∀ (l : List Value) (k : Nat) (cs : Array Value), off + k + l.length ≤ cs.size →
  ((l.zipIdx k).foldl (fun cs (p : Value × Nat) => cs.setIfInBounds (off + p.2) p.1) cs).size = cs.size ∧
  ∀ i, ((l.zipIdx k).foldl (fun cs (p : Value × Nat) => cs.setIfInBounds (off + p.2) p.1) cs).getD i undef = if off + k ≤ i ∧ i < off + k + l.length then l.getD (i - (off + k)) undef else cs.getD i undef
 | [], k, cs, _ => ⟨rfl, fun i => by simp; omega⟩
 | v :: l, k, cs, h => by
  simp only [List.length_cons] at h
  simp only [List.zipIdx_cons, List.foldl_cons]
  obtain ⟨h1, h2⟩ := J43 off l (k + 1) (cs.setIfInBounds (off + k) v) (by simp; omega)
  refine ⟨by rw [h1]; simp, fun i => ?_⟩
  rw [h2 i, Jrt]
  simp only [List.length_cons]
  by_cases hi : i = off + k
  ·subst hi
   rw [if_neg (by omega), if_pos ⟨rfl, by omega⟩, if_pos (by omega)]
   simp
  ·by_cases h3 : off + (k + 1) ≤ i ∧ i < off + (k + 1) + l.length
   ·rw [if_pos h3, if_pos (by omega), show i - (off + k) = (i - (off + (k + 1))) + 1 by omega]
    simp
   ·rw [if_neg h3, if_neg (by omega), if_neg (by omega)]
theorem Jqm {l new : List AV} {off : Nat} (h : off + new.length ≤ l.length) : (paste l off new).length = l.length := by
 simp [paste]; omega
theorem Jud {l new : List AV} {off : Nat} (h : off + new.length ≤ l.length) (i : Nat) : (paste l off new)[i]? = if off ≤ i ∧ i < off + new.length then new[i - off]? else l[i]? := by
 unfold paste
 by_cases h1 : i < off
 ·rw [if_neg (by omega), List.append_assoc, Ab (by simp; omega), List.getElem?_take, if_pos h1]
 ·by_cases h2 : i < off + new.length
  ·rw [if_pos (by omega), List.append_assoc, Aa (by simp; omega), Ab (by simp; omega)]
   congr 1
   simp; omega
  ·rw [if_neg (by omega), Aa (by simp; omega), List.getElem?_drop]
   congr 1
   simp; omega
section
variable {w : World} {S : Nat → Prop} {h : Heap} {μ : Gh} {P : Program}
theorem Holds.paste {l new : List AV} {cs vs r : Array Value} {off : Nat} (hl : Holds w S h μ l cs) (hn : Holds w S h μ new vs) (hvs : vs.size = new.length) (hle : off + new.length ≤ l.length)
  (hr : ∀ i, r.getD i undef = if off ≤ i ∧ i < off + vs.size then vs.getD (i - off) undef else cs.getD i undef) : Holds w S h μ (paste l off new) r := by
 intro i x hi
 rw [Jud hle] at hi
 rw [hr i, hvs]
 split
 ·rename_i hc; rw [if_pos hc] at hi; exact hn _ x hi
 ·rename_i hc; rw [if_neg hc] at hi; exact hl _ x hi
def Jkg (ev : LO → AV) (w : World) (S : Nat → Prop) (h : Heap) (μ : Gh) (place : Nat → Option (Nat × Nat)) : List (Nat × Nat × LO) → List (Nat × Value) → Prop
 | [], [] => True
 | (off, n, x) :: r, (i, v) :: r' => place i = some (off, n) ∧ Rep w S h μ (ev x) v ∧ Jkg ev w S h μ place r r'
 | _, _ => False
theorem Jkj {ev : LO → AV} {place : Nat → Option (Nat × Nat)} : ∀ {ps : List (Nat × Nat × LO)} {cp : List (Nat × Value)} {z l : List AV} {cs : Array Value}, Jkg ev w S h μ place ps cp →
  Holds w S h μ z cs → z.length = cs.size → Jm5 ev z ps = some l → ∃ r, Instr.fill place cs cp = some r ∧ Holds w S h μ l r ∧ l.length = r.size ∧ r.size = cs.size
 | [], [], z, l, cs, _, hz, hl, hf => by
  simp [Jm5] at hf
  subst hf
  exact ⟨cs, rfl, hz, hl, rfl⟩
 | (off, n, x) :: r, (i, v) :: r', z, l, cs, hp, hz, hl, hf => by
  obtain ⟨h1, h2, h3⟩ := hp
  unfold Jm5 at hf
  split at hf
  ·rename_i c hc
   split at hf
   ·rename_i hcn
    obtain ⟨hn, hle⟩ := hcn
    obtain ⟨hs, hh⟩ := h2.cells hc
    have hfs := J43 off v.cells.toList 0 cs (by simp; omega)
    have hfold : v.cells.zipIdx.foldl (fun cs (p : Value × Nat) => cs.setIfInBounds (off + p.2) p.1) cs = (v.cells.toList.zipIdx 0).foldl (fun cs (p : Value × Nat) => cs.setIfInBounds (off + p.2) p.1) cs := by
     rw [← Array.foldl_toList]; simp
    rw [← hfold] at hfs
    obtain ⟨f1, f2⟩ := hfs
    have hcell := hz.paste hh hs (off := off) (by omega) (r := v.cells.zipIdx.foldl (fun cs (p : Value × Nat) => cs.setIfInBounds (off + p.2) p.1) cs) (fun j => by rw [f2 j]; simp)
    obtain ⟨rr, g1, g2, g3, g4⟩ := Jkj h3 hcell (by rw [Jqm (by omega), f1]; exact hl) hf
    refine ⟨rr, ?_, g2, g3, g4.trans f1⟩
    unfold Instr.fill
    rw [h1]
    simp only
    rw [if_neg (by simp; omega)]
    exact g1
   ·cases hf
  ·cases hf
 | [], _ :: _, _, _, _, hp, _, _, _ => hp.elim
 | _ :: _, [], _, _, _, hp, _, _, _ => by simp [Jkg] at hp
theorem Jq9 {t : TypeId} {z : List AV} (hz : zc P t = some z) : ∃ i v, P.info? t = some i ∧ i.zero = some v ∧ cOfL v.cells.toList = some z ∧ z.length = i.size ∧ v.cells.size = i.size := by
 unfold zc at hz
 split at hz
 ·rename_i i hi
  split at hz
  ·rename_i v hv
   split at hz
   ·rename_i l hl
    split at hz
    ·rename_i he
     injection hz with hz
     subst hz
     have := (Jo7 (w := default) (S := fun _ => False) hl).1
     exact ⟨i, v, hi, hv, hl, he, by rw [← he, this]; simp⟩
    ·cases hz
   ·cases hz
  ·cases hz
 ·cases hz
theorem Jii {g : Nat} {o : AObj} {cells : List AV} {cs : Array Value} {el : TypeId} (hp : RepH w S h μ) (hver : o.ver = Kj h g ∨ Kj h g < o.ver)
  (hh : Holds w S h μ cells cs) (ho : (∃ v, o = .box v cells ∧ cs.size = cells.length) ∨ (∃ v esz, o = .arr v esz el cells false ∧ cells.length ≤ cs.size)) :
  RepH (w.alloc (.cells cs el)) S (upd h g (some o)) (μ.set g w.heap.size 0) ∧ Evo w S h μ (w.alloc (.cells cs el)) S (upd h g (some o)) (μ.set g w.heap.size 0) ∧ EvoV h μ (upd h g (some o)) (μ.set g w.heap.size 0) := by
 obtain ⟨ev, vv⟩ := Jv4 (w := w) (S := S) (h := h) (μ := μ) g o (.cells cs el) hver
 refine ⟨Jxs hp hver ?_, ev, vv⟩
 have hnew := heap_alloc_new w (.cells cs el)
 have hh' := (hh.evo hp ev vv).at0
 rcases ho with ⟨v, rfl, hs⟩ | ⟨v, esz, rfl, hs⟩
 ·exact ⟨cs, el, hnew, by omega, hh'⟩
 ·exact ⟨cs, hnew, by omega, hh', fun e => by cases e⟩
theorem Jqq {g : Nat} {cells : List AV} {w' : World} : Rep w' S (upd h g (some (.box (Kj h g) cells))) (μ.set g w.heap.size 0) (.ptr g (Kj h g) 0) (.pointer (some ⟨w.heap.size, 0, none⟩)) :=
 .ptr _ _ _ _ _ (Yf _ _ _) (Ad _) rfl fun _ => by simp [Gh.set, Yf]
theorem Jj7 {g v esz n cap : Nat} {el : TypeId} {cells : List AV} {cs : Array Value} (hn : n ≤ cap) (hc : cap * esz ≤ cs.size) :
  Rep (w.alloc (.cells cs el)) S (upd h g (some (.arr v esz el cells false))) (μ.set g w.heap.size 0) (.arr g v 0 n) (.slice (some ⟨w.heap.size, 0, none⟩) n cap) :=
 .arr _ _ _ _ _ _ (Yf _ _ _) (Ad _) rfl fun _ => ⟨esz, el, cells, false, rfl, _, _, cs, el, (0, 0), rfl, hn, by simp only [Gh.set, Yf]; exact heap_alloc_new w _, by simpa [Gh.set, Yf] using hc, fun _ => by simp [Gh.set, Yf]⟩
def Ran (w : World) (S : Nat → Prop) (h : Heap) (μ : Gh) (v : AV) (h' : Heap) (cv : Value) (w' : World) : Prop :=
 ∃ S' μ', Rep w' S' h' μ' v cv ∧ RepH w' S' h' μ' ∧ Evo w S h μ w' S' h' μ' ∧ EvoV h μ h' μ'
theorem Ran.same {v : AV} {cv : Value} (hp : RepH w S h μ) (hr : Rep w S h μ v cv) : Ran w S h μ v h cv w := ⟨S, μ, hr, hp, .refl, .refl h μ⟩
theorem Ju4 (hp : RepH w S h μ) {e : TypeId} {z : List AV} (hz : zc P e = some z) (g : Nat) :
  ∃ cv w', (Instr.alloc e true (.tuple #[])).run P w = .ok cv w' ∧ Ran w S h μ (.ptr g (Kj h g) 0) (upd h g (some (.box (Kj h g) z))) cv w' := by
 obtain ⟨i, v, hi, hv, hl, hn, hs⟩ := Jq9 hz
 have hh := Jhq (w := w) (S := S) (h := h) (μ := μ) hl
 obtain ⟨h1, h2, h3⟩ := Jii (el := e) (g := g) (o := .box (Kj h g) z) (cs := v.cells) hp (.inl rfl) (by simpa using hh) (.inl ⟨_, rfl, by omega⟩)
 exact ⟨.pointer (some ⟨w.heap.size, 0, none⟩), w.alloc (.cells v.cells e), by simp [Instr.alloc, zeroValue, typeInfo, hi, hv, newVar, newRow], S, _, Jqq, h1, h2, h3⟩
theorem J1b (hp : RepH w S h μ) {e : TypeId} {x : AV} {cx : Value} {c : List AV} (hr : Rep w S h μ x cx) (hc : x.cells = some c) (g : Nat) :
  ∃ cv w', (Instr.box e cx).run P w = .ok cv w' ∧ Ran w S h μ (.ptr g (Kj h g) 0) (upd h g (some (.box (Kj h g) c))) cv w' := by
 obtain ⟨hs, hh⟩ := hr.cells hc
 obtain ⟨h1, h2, h3⟩ := Jii (el := e) (g := g) (o := .box (Kj h g) c) (cs := cx.cells) hp (.inl rfl) hh (.inl ⟨_, rfl, hs⟩)
 exact ⟨.pointer (some ⟨w.heap.size, 0, none⟩), w.alloc (.cells cx.cells e), by simp [Instr.box, newVar, newRow], S, _, Jqq, h1, h2, h3⟩
theorem Jh7 {nt : Nat} {σ : St} {a : Act} (hs : RepS nt w S σ μ a) {place : Nat → Option (Nat × Nat)} : ∀ {ps : List (Nat × Operand)} {l : List (Nat × Nat × LO)}, Jld place ps = some l →
  Jkg σ.ev w S σ.h μ place l (ps.map fun (i, x) => (i, a.eval x))
 | [], l, hl => by simp [Jld] at hl; subst hl; trivial
 | (i, x) :: r, l, hl => by
  unfold Jld at hl
  split at hl
  ·rename_i off n y l' h1 h2 h3
   injection hl with hl
   subst hl
   exact ⟨h1, K7 hs h2, Jh7 hs h3⟩
  ·cases hl
theorem Jpl {t : TypeId} {z l : List AV} {ev : LO → AV} {ps : List (Nat × Nat × LO)} {cp : Array (Nat × Value)} (hz : zc P t = some z)
  (hd : (∃ fs pl, P.underlying t = some (.struct fs) ∧ fs.toList.mapM (fun f => (P.info? f.type).map fun i => (f.offset, i.size)) = some pl ∧ Jkg ev w S h μ (fun i => pl[i]?) ps cp.toList) ∨
   (∃ n e i, P.underlying t = some (.array n e) ∧ P.info? e = some i ∧ Jkg ev w S h μ (fun k => some (k * i.size, i.size)) ps cp.toList))
  (hf : Jm5 ev z ps = some l) : ∃ cv, (Instr.build t cp).run P w = .ok cv w ∧ Rep w S h μ (.agg l) cv := by
 obtain ⟨i, v, hi, hv, hl, hn, hs⟩ := Jq9 hz
 have hh := Jhq (w := w) (S := S) (h := h) (μ := μ) hl
 have fin : ∀ {r : Array Value}, Holds w S h μ l r → l.length = r.size → Rep w S h μ (.agg l) (.agg r) := fun hh hl => .agg _ _ hl (fun i x hi => (hh i x hi).2) (fun i x hi => (hh i x hi).1)
 rcases hd with ⟨fs, pl, hu, hpl, hrel⟩ | ⟨n, e, ie, hu, hie, hrel⟩
 ·obtain ⟨r, g1, g2, g3, _⟩ := Jkj hrel (by simpa using hh) (by omega) hf
  refine ⟨.agg r, run_build w t cp r ?_, fin g2 g3⟩
  simp only [Program.built, hi, hu, hv, hpl]
  simpa using g1
 ·obtain ⟨r, g1, g2, g3, _⟩ := Jkj hrel (by simpa using hh) (by omega) hf
  refine ⟨.agg r, run_build w t cp r ?_, fin g2 g3⟩
  simp only [Program.built, hi, hu, hv, hie]
  exact g1
theorem Jhs (z : List AV) : ∀ n, (Jc8 z n).length = n * z.length
 | 0 => by simp [Jc8]
 | n + 1 => by simp [Jc8, Jhs z n, Nat.add_mul, Nat.add_comm]
theorem Jkh {z : List AV} (hz : 0 < z.length) : ∀ (n i : Nat), i < n * z.length → (Jc8 z n)[i]? = z[i % z.length]?
 | 0, i, h => by simp at h
 | n + 1, i, h => by
  unfold Jc8
  by_cases hi : i < z.length
  ·rw [Ab hi, Nat.mod_eq_of_lt hi]
  ·rw [Aa (by omega), Jkh hz n _ (by rw [Nat.add_mul] at h; omega)]
   congr 1
   rw [← Nat.mod_eq_sub_mod (by omega)]
theorem Jri {z : List AV} {zv : Array Value} (hh : Holds w S h μ z zv) (hs : zv.size = z.length) (hz : 0 < z.length) (n : Nat) :
  Holds w S h μ (Jc8 z n) ((Array.range (n * z.length)).map (zv[· % zv.size]!)) := by
 intro i x hi
 have hlt : i < n * z.length := by have := (Ac.1 hi).1; rwa [Jhs] at this
 rw [Jkh hz n i hlt] at hi
 have := hh _ x hi
 have hm : i % z.length < zv.size := by rw [hs]; exact Nat.mod_lt _ hz
 have e : ((Array.range (n * z.length)).map (zv[· % zv.size]!)).getD i undef = zv.getD (i % z.length) undef := by
  have hb : zv[i % z.length]! = zv[i % z.length]?.getD undef := by rw [getElem!_pos zv _ hm]; simp [hm]
  simp [hlt, hs, hb]
 rw [e]
 exact this
theorem Jop (hp : RepH w S h μ) {t e : TypeId} {n : Nat} {i : TypeInfo} {z l : List AV} {ev : LO → AV} {ps : List (Nat × Nat × LO)} {cp : Array (Nat × Value)} (hu : P.underlying t = some (.slice e)) (hi : P.info? e = some i) (hz : zc P e = some z)
  (hsm : n * i.size ≤ 16777216) (hi0 : 0 < i.size) (hrel : Jkg ev w S h μ (fun k => some (k * i.size, i.size)) ps cp.toList) (hf : Jm5 ev (Jc8 z n) ps = some l) (g : Nat) :
  ∃ cv w', (Instr.buildSlice t n cp).run P w = .ok cv w' ∧ Ran w S h μ (.arr g (Kj h g) 0 n) (upd h g (some (.arr (Kj h g) i.size e l false))) cv w' := by
 obtain ⟨i', v, hi', hv, hl, hn, hs⟩ := Jq9 hz
 rw [hi] at hi'
 injection hi' with hi'
 subst hi'
 have hh := Jhq (w := w) (S := S) (h := h) (μ := μ) hl
 have hmade := Jri (zv := v.cells) (by simpa using hh) (by omega) (by omega) n
 obtain ⟨r, g1, g2, g3, g4⟩ := Jkj hrel hmade (by simp [Jhs]) hf
 have hrun : (Instr.buildSlice t n cp).run P w = .ok (.slice (some ⟨w.heap.size, 0, none⟩) n n) (w.alloc (.cells r e)) := by
  rcases Nat.eq_zero_or_pos n with hn0 | hn0
  ·subst hn0
   have hg : Instr.fill (fun k => some (k * i.size, i.size)) #[] cp.toList = some r := by simpa [Array.range_zero'] using g1
   simp [Instr.buildSlice, run_underlying hu, sizeOf, typeInfo, hi, newRow, hg, Array.range_zero']
  ·exact run_buildSlice w t e n cp r i v hu hi hv (by omega) (by have := Nat.mul_pos hn0 hi0; omega) (by rw [← hn]; rw [← hn] at g1; exact g1)
 have hr : r.size = n * i.size := by rw [g4]; simp [hn]
 obtain ⟨h1, h2, h3⟩ := Jii (el := e) (g := g) (o := .arr (Kj h g) i.size e l false) (cs := r) hp (.inl rfl) g2 (.inr ⟨_, _, rfl, by omega⟩)
 exact ⟨_, _, hrun, S, _, Jj7 (Ad _) (by omega), h1, h2, h3⟩
theorem J2e (hp : RepH w S h μ) {t e : TypeId} {i : TypeInfo} {z : List AV} (hu : P.underlying t = some (.slice e)) (hi : P.info? e = some i) (hz : zc P e = some z) (hi0 : 0 < i.size) {k k' : IntKind} {n m : Int}
  (h0 : 0 ≤ n) (hnm : n ≤ m) (hb : m * i.bytes ≤ room) (hm : m ≤ 9223372036854775807) (g : Nat) :
  ∃ cv w', (Instr.makeSlice t (.int k n) (.int k' m)).run P w = .ok cv w' ∧ Ran w S h μ (.arr g (Kj h g) 0 n.toNat) (upd h g (some (.arr (Kj h g) i.size e (Jc8 z n.toNat) false))) cv w' := by
 obtain ⟨i', v, hi', hv, hl, hn, hs⟩ := Jq9 hz
 rw [hi] at hi'
 injection hi' with hi'
 subst hi'
 have hh := Jhq (w := w) (S := S) (h := h) (μ := μ) hl
 have hmade := Jri (zv := v.cells) (by simpa using hh) (by omega) (by omega) m.toNat
 have hrun := run_make (P := P) w t e i v hu hi hv k k' n m h0 hnm (by rw [Int.mul_comm]; unfold room at hb; omega) hm
 have hle : n.toNat ≤ m.toNat := by omega
 have hpre : Holds w S h μ (Jc8 z n.toNat) (madeCells v.cells (m.toNat * i.size)) := by
  intro j x hj
  have hlt : j < n.toNat * z.length := by have := (Ac.1 hj).1; rwa [Jhs] at this
  have hlt2 : j < m.toNat * z.length := Nat.lt_of_lt_of_le hlt (Ae _ hle)
  rw [Jkh (by omega) _ _ hlt] at hj
  have := hmade j x (by rw [Jkh (by omega) _ _ hlt2]; exact hj)
  rw [hn] at this
  exact this
 obtain ⟨h1, h2, h3⟩ := Jii (el := e) (g := g) (o := .arr (Kj h g) i.size e (Jc8 z n.toNat) false) (cs := madeCells v.cells (m.toNat * i.size)) hp (.inl rfl) hpre
  (.inr ⟨_, _, rfl, by rw [Jhs, size_madeCells, hn]; exact Ae _ hle⟩)
 exact ⟨_, _, hrun, S, _, Jj7 hle (by rw [size_madeCells]; exact Ad _), h1, h2, h3⟩
end
end Go.Vv
