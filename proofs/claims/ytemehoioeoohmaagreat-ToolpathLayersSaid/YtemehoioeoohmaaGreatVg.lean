/- Stores and appends of the evaluator are right of the model. Conditions: none. -/
import Derived.Test.YtemehoioeoohmaaGreatVf
namespace Go.Vv
open Go
open List renaming getElem?_eq_some_iff → Aa, getElem?_append_right → Ac, getElem?_append_left → Ad, getElem?_drop → Ag, getElem?_eq_getElem → Aj
open Nat renaming add_mul → Ab, eq_zero_or_pos → Ae, mul_le_mul_right → Af, add_assoc → Ak
open Prod.mk renaming injEq → Ah
open Int renaming toNat_natCast → Ai
theorem Jp4 (cur : Array Value) (vs : List Value) (o : Nat) (h : o + vs.length ≤ cur.size) (i : Nat) :
  (cur.toList.take o ++ vs ++ cur.toList.drop (o + vs.length)).toArray.getD i undef = if o ≤ i ∧ i < o + vs.length then vs.getD (i - o) undef else cur.getD i undef := by
 have hl : o + vs.length ≤ cur.toList.length := by simpa using h
 have e : ((cur.toList.take o ++ vs ++ cur.toList.drop (o + vs.length)).toArray.getD i undef) = (cur.toList.take o ++ vs ++ cur.toList.drop (o + vs.length))[i]?.getD undef := by simp
 rw [e]
 by_cases h1 : i < o
 ·rw [if_neg (by omega), List.append_assoc, Ad (by simp; omega), List.getElem?_take, if_pos h1]
  simp
 ·by_cases h2 : i < o + vs.length
  ·rw [if_pos (by omega), List.append_assoc, Ac (by simp; omega), Ad (by simp; omega)]
   simp only [List.getD_eq_getElem?_getD]
   congr 2
   simp; omega
  ·rw [if_neg (by omega), Ac (by simp; omega), Ag]
   have e2 : (o + vs.length + (i - (cur.toList.take o ++ vs).length)) = i := by simp; omega
   rw [e2]
   simp
section
variable {w : World} {S : Nat → Prop} {h : Heap} {μ : Gh} {P : Program}
theorem HoldsAt.paste {l new : List AV} {cs vs r : Array Value} {o off : Nat} (hl : HoldsAt w S h μ o l cs) (hn : Holds w S h μ new vs) (hvs : vs.size = new.length) (hle : off + new.length ≤ l.length)
  (hr : ∀ i, r.getD i undef = if o + off ≤ i ∧ i < o + off + vs.size then vs.getD (i - (o + off)) undef else cs.getD i undef) : HoldsAt w S h μ o (paste l off new) r := by
 intro i x hi
 rw [Jud hle] at hi
 rw [hr (o + i), hvs]
 split at hi
 ·rename_i hc
  rw [if_pos (by omega), show o + i - (o + off) = i - off by omega]
  exact hn _ x hi
 ·rename_i hc
  rw [if_neg (by omega)]
  exact hl _ x hi
theorem Jxy {c : List AV} {vs : Array Value} (hh : Holds w S h μ c vs) (hs : vs.size = c.length) : ∀ v ∈ vs.toList, v.oneCell' = true := by
 intro v hv
 obtain ⟨i, hi, e⟩ := List.getElem_of_mem hv
 have hi' : i < vs.size := by simpa using hi
 have := (hh i c[i] (Aj (by omega))).2
 rw [show vs.getD i undef = v by simp [hi']; simpa using e] at this
 exact this
theorem Jvo (hp : RepH w S h μ) {t : TypeId} {n : Nat} (hn : szT P t = some n) {x y : AV} {cx cy : Value} {h' : Heap} (hx : Rep w S h μ x cx) (hy : Rep w S h μ y cy) (hv : Jl3 h n x y = some h') :
  ∃ w', (Instr.storeAt t cx cy).run P w = .ok () w' ∧ Ran w S h μ .any h' undef w' := by
 unfold Jl3 at hv
 split at hv
 ·rename_i g ver off c hc
  obtain ⟨hs, hh⟩ := hy.cells hc
  split at hv
  ·rename_i hcn
   subst hcn
   have go : ∀ (o o' : AObj) (cells : List AV) (cs : Array Value) (el : TypeId), h g = some o → o.fz = false → o'.ver = o.ver → o.like o' → ver = o.ver → w.heap[μ.b g]? = some (.cells cs el (0, 0)) → μ.o g + cells.length ≤ cs.size → HoldsAt w S h μ (μ.o g) cells cs →
     off + c.length ≤ cells.length →
     (∀ r : Array Value, r.size = cs.size → ∀ S' h' μ' w', w'.heap[μ.b g]? = some (.cells r el (0, 0)) → HoldsAt w' S' h' μ' (μ.o g) (paste cells off c) r → RepObj w' S' h' μ' (μ.b g) (μ.o g) o') →
     ∃ w', (Instr.storeAt t cx cy).run P w = .ok () w' ∧ Ran w S h μ .any (upd h g (some o')) undef w' := by
    intro o o' cells cs el ho hfz hov hlike hver hb hsz hcells hle hobj
    have hx' := hx.ptr_inv (by simp [cur, ho, hver])
    subst hx'
    have hst := run_storeCells_at P (μ.b g) (μ.o g + off) el cy.cells.toList 0 cs w hb (by simp; omega) (Jxy hh hs)
    simp only [Nat.add_zero] at hst
    have hspl := Jp4 cs cy.cells.toList (μ.o g + off) (by simp; omega)
    generalize hr : (cs.toList.take (μ.o g + off) ++ cy.cells.toList ++ cs.toList.drop (μ.o g + off + cy.cells.toList.length)).toArray = r at hst hspl
    have hrs : r.size = cs.size := by rw [← hr]; simp; omega
    have hcs' : ∀ old el' z, w.heap[μ.b g]? = some (.cells old el' z) → r.size = old.size := fun old el' z e => by
     rw [hb] at e; injection e with e; injection e with e; subst e; exact hrs
    have hvv : o.ver < o'.ver ∨ o.ver = o'.ver ∧ μ.o g = μ.o g ∧ o.like o' := .inr ⟨hov.symm, rfl, hlike⟩
    obtain ⟨ev, vv⟩ := Ju3 (S := S) ho hfz hvv hcs'
    have hpaste := (hcells.evo hp ev vv).paste (hh.evo hp ev vv) hs hle (r := r) (fun i => by rw [hspl i]; simp)
    have hb' := setRow_heap w (μ.b g) cs r el (0, 0) hb
    refine ⟨w.setRow (μ.b g) r, ?_, S, _, .any _, Jxh hp ho hfz hvv hcs' (hobj r hrs _ _ _ _ hb' hpaste), ev, vv⟩
    simp [Instr.storeAt, Instr.sureAddr, storeVar, Jb9 hn, hs, hst]
   split at hv
   ·rename_i ver' cells ho
    split at hv
    ·rename_i hc2
     obtain ⟨rfl, hle⟩ := hc2
     injection hv with hv
     subst hv
     obtain ⟨cs, el, hb, hsz, hcells⟩ := hp.ob g _ ho
     exact go _ (.box ver _) cells cs el ho rfl rfl rfl rfl hb hsz hcells hle (fun r hr S' h' μ' w' hb' hh' => ⟨r, el, hb', by rw [Jqm hle]; omega, hh'⟩)
    ·cases hv
   ·rename_i ver' esz el cells ho
    split at hv
    ·rename_i hc2
     obtain ⟨rfl, hle⟩ := hc2
     injection hv with hv
     subst hv
     obtain ⟨cs, hb, hsz, hcells, _⟩ := hp.ob g _ ho
     exact go _ (.arr ver esz el _ false) cells cs el ho rfl rfl ⟨rfl, rfl⟩ rfl hb hsz hcells hle (fun r hr S' h' μ' w' hb' hh' => ⟨r, hb', by rw [Jqm hle]; omega, hh', fun e => by cases e⟩)
    ·cases hv
   ·cases hv
  ·cases hv
 ·cases hv
theorem Jvn (hp : RepH w S h μ) {esz : Nat} {y : AV} {cy : Value} {m : Int} {new : List AV} (hy : Rep w S h μ y cy) (hm : lenV h y = some m) (he : Jfr h esz y = some new) :
  ∃ (n : Nat) (A : Option Addr) (c : Nat), m = n ∧ cy = .slice A n c ∧ new.length = n * esz ∧ (A = none → n = 0 ∧ c = 0) ∧ ∀ a, A = some a → ∀ i x, new[i]? = some x → ∃ v, w.cell? (a.add i) = some v ∧ v.oneCell' = true ∧ Rep w S h μ x v := by
 unfold Jfr at he
 split at he
 ·simp [lenV] at hm
  injection he with he
  subst he hm
  exact ⟨0, none, 0, rfl, hy.nils_inv, by simp, fun _ => ⟨rfl, rfl⟩, fun a ha => by cases ha⟩
 ·rename_i n l
  simp [lenV] at hm
  split at he
  ·rename_i hl
   injection he with he
   subst he hm
   cases hy with
   | pure hp' =>
    cases hp' with
    | lst0 => exact ⟨0, none, 0, rfl, rfl, by simp, fun _ => ⟨rfl, rfl⟩, fun a ha => by cases ha⟩
    | lst _ _ a cap cv hs hn hc h1 hr => exact ⟨n, some a, cap, rfl, rfl, hl, (fun e => by cases e), fun a' ha i x hi => by injection ha with ha; subst ha; exact ⟨cv i, hc i x hi, h1 i x hi, .pure (hr i x hi)⟩⟩
  ·cases he
 ·rename_i g ver off len
  split at he
  ·rename_i ver' esz' el cells fz ho
   split at he
   ·rename_i hc
    obtain ⟨rfl, rfl, hle⟩ := hc
    injection he with he
    subst he
    simp [lenV, Jek, ho] at hm
    subst hm
    obtain ⟨a, cap, cs, el', z, rfl, hl, hb, hsz, ha⟩ := hy.arr_inv ho
    obtain ⟨cs', hb', hsz', hcells, _⟩ := hp.ob g _ ho
    refine ⟨len, some a, cap, rfl, rfl, by simp [cut]; rw [Ab] at hle; omega, (fun e => by cases e), fun a' ha' i x hi => ?_⟩
    injection ha' with ha'
    subst ha'
    simp only [cut, List.getElem?_take, Ag] at hi
    split at hi
    ·rename_i hlt
     have hpos : 0 < cap := by
      rcases Ae len with h0 | h0
      ·subst h0; simp at hlt
      ·omega
     have hlt2 : μ.o g + (off * esz + i) < cs'.size := by have := (Aa.1 hi).1; omega
     refine ⟨cs'.getD (μ.o g + (off * esz + i)) undef, ?_, (hcells _ x hi).2, (hcells _ x hi).1⟩
     rw [ha hpos, Jnl hb', Ak, getD_some hlt2]
    ·cases hi
   ·cases he
  ·cases he
 ·cases he
def Jes (w : World) (a : Addr) (n : Nat) : List Value := (List.range n).map fun i => (w.cell? (a.add i)).getD undef
theorem J0f {a : Addr} {n i : Nat} {v : Value} (h : (Jes w a n)[i]? = some v) (hc : ∃ u, w.cell? (a.add i) = some u) : w.cell? (a.add i) = some v := by
 obtain ⟨u, hu⟩ := hc
 simp only [Jes, List.getElem?_map] at h
 cases hr : (List.range n)[i]? with
 | none => rw [hr] at h; cases h
 | some j =>
  rw [hr] at h
  have : j = i := by have := Aa.1 hr; obtain ⟨h1, h2⟩ := this; simpa using h2.symm
  subst this
  simp [hu] at h
  rw [hu, h]
theorem Jlk {a : Addr} {l : List AV} (hc : ∀ (i : Nat) (x : AV), l[i]? = some x → ∃ v, w.cell? (a.add i) = some v ∧ v.oneCell' = true ∧ Rep w S h μ x v) : Holds w S h μ l (Jes w a l.length).toArray := by
 intro i x hi
 obtain ⟨v, h1, h2, h3⟩ := hc i x hi
 have hlt := (Aa.1 hi).1
 have e : (Jes w a l.length).toArray.getD i undef = v := by simp [Jes, hlt, h1]
 rw [e]
 exact ⟨h3, h2⟩
theorem Jlc {a : Addr} {l : List AV} (hc : ∀ (i : Nat) (x : AV), l[i]? = some x → ∃ v, w.cell? (a.add i) = some v ∧ v.oneCell' = true ∧ Rep w S h μ x v) :
  (Jes w a l.length).length = l.length ∧ ∀ j v, (Jes w a l.length)[j]? = some v → w.cell? (a.add j) = some v := by
 refine ⟨by simp [Jes], fun j v hv => J0f hv ?_⟩
 have hlt : j < l.length := by have := (Aa.1 hv).1; simpa [Jes] using this
 obtain ⟨v, h1, _⟩ := hc j l[j] (Aj hlt)
 exact ⟨v, h1⟩
theorem Holds.append {l m : List AV} {a b : Array Value} (hl : Holds w S h μ l a) (hs : a.size = l.length) (hm : Holds w S h μ m b) (hs2 : b.size = m.length) (c : Array Value) : Holds w S h μ (l ++ m) (a ++ b ++ c) := by
 intro i x hi
 by_cases h1 : i < l.length
 ·rw [Ad h1] at hi
  have := hl i x hi
  have e : (a ++ b ++ c).getD i undef = a.getD i undef := by
   simp only [Array.getD_eq_getD_getElem?]
   rw [Array.getElem?_append_left (by simp; omega), Array.getElem?_append_left (by omega)]
  rw [e]; exact this
 ·rw [Ac (by omega)] at hi
  have h2 := (Aa.1 hi).1
  have := hm _ x hi
  have e : (a ++ b ++ c).getD i undef = b.getD (i - l.length) undef := by
   simp only [Array.getD_eq_getD_getElem?]
   rw [Array.getElem?_append_left (by simp; omega), Array.getElem?_append_right (by omega), hs]
  rw [e]; exact this
theorem Holds.front {m : List AV} {b : Array Value} (hm : Holds w S h μ m b) (hs : b.size = m.length) (c : Array Value) : Holds w S h μ m (b ++ c) := by
 intro i x hi
 have h2 := (Aa.1 hi).1
 have e : (b ++ c).getD i undef = b.getD i undef := by
  simp only [Array.getD_eq_getD_getElem?]
  rw [Array.getElem?_append_left (by omega)]
 rw [e]
 exact hm i x hi
theorem Jdl {a : Addr} {n : Nat} : (Jes w a n).toArray.size = n := by simp [Jes]
theorem Jw0 {n b : Nat} (h : (n : Int) * (b : Int) ≤ (room : Nat)) : n * b ≤ 140737488355328 := by
 unfold room at h
 exact_mod_cast h
theorem Jtw (hp : RepH w S h μ) {t ty e : TypeId} {i : TypeInfo} {z : List AV} (hu : P.underlying t = some (.slice e)) (hi : P.info? e = some i) (hz : zc P e = some z) (hi0 : 0 < i.size) {x y v : AV} {cx cy : Value} {g0 : Nat} {h' : Heap}
  (hx : Rep w S h μ x cx) (hy : Rep w S h μ y cy) (hv : appV h g0 i.size i.bytes e x y = some (v, h')) : ∃ cv w', (Builtin.append_ #[t, t] ty #[cx, cy]).run P w = .ok cv w' ∧ Ran w S h μ v h' cv w' := by
 obtain ⟨i', zv, hi', hzv, hzl, hzn, hzs⟩ := Jq9 hz
 rw [hi] at hi'
 injection hi' with hi'
 subst hi'
 unfold appV at hv
 split at hv
 ·rename_i m new hm he
  obtain ⟨n, A, c, rfl, rfl, hnl, hA, hcells⟩ := Jvn hp hy hm he
  have hzero : new = [] → n = 0 := fun h0 => by
   subst h0
   rcases Nat.mul_eq_zero.1 hnl.symm with h1 | h1
   ·exact h1
   ·omega
  split at hv
  ·-- nil
   rw [hx.nils_inv]
   split at hv
   ·rename_i hne
    injection hv with hv
    simp only [Ah] at hv
    obtain ⟨rfl, rfl⟩ := hv
    have hn := hzero hne
    subst hn
    refine ⟨.slice none 0 0, w, ?_, Ran.same hp (.pure .nils)⟩
    cases A with
    | none => simp [Builtin.append_, run_underlying hu, sizeOf, typeInfo, hi, Builtin.lenOf, Builtin.firstCells]
    | some a => simp [Builtin.append_, run_underlying hu, sizeOf, typeInfo, hi, Builtin.lenOf, Builtin.firstCells, loadCells, loadCellsFrom]
   ·rename_i hne
    split at hv
    ·rename_i hb
     injection hv with hv
     simp only [Ah] at hv
     obtain ⟨rfl, rfl⟩ := hv
     have hn0 : 0 < n := by
      rcases Ae n with h0 | h0
      ·subst h0; simp at hnl; exact absurd hnl hne
      ·exact h0
     cases A with
     | none => have := (hA rfl).1; omega
     | some a =>
      have hcl := hcells a rfl
      obtain ⟨v1, v2⟩ := Jlc hcl
      have hh := Jlk hcl
      have hrun := run_append_nil (P := P) w t ty e i zv hu hi hzv a n c (Jes w a new.length) (by rw [v1, hnl]) v2 hn0 hb.2 (by have := Jw0 hb.1; omega)
      have hge := grownCap_ge w n 0 e
      obtain ⟨h1, h2, h3⟩ := Jii (w := w.drew) (el := e) (g := g0) (o := .arr (Kj h g0 + 1) i.size e new false) (cs := (Jes w a new.length).toArray ++ Builtin.zeroCells zv.cells (grownCap w n 0 e - n))
       (hp.of_same (w' := w.drew) rfl rfl rfl rfl) (.inr (by simp [AObj.ver])) (fun j x hj => ⟨((hh.front Jdl _) j x hj).1.evo hp Jls (.refl h μ), ((hh.front Jdl _) j x hj).2⟩) (.inr ⟨_, _, rfl, by rw [Array.size_append, Jdl]; omega⟩)
      refine ⟨_, _, hrun, S, _, ?_, h1, Jls.trans h2, h3⟩
      simp only [Ai]
      refine Jj7 hge ?_
      simp only [Array.size_append, Jdl, hnl, size_zeroCells, hzs, ← Ab]
      exact Af _ (by omega)
    ·cases hv
  ·rename_i g ver off len
   split at hv
   ·rename_i ver' esz' el' cells ho
    have key : ver = ver' ∧ i.size = esz' ∧ e = el' ∧ (off + len) * i.size ≤ cells.length ∧ (if new = [] then some (AV.arr g ver off len, h) else if ((len : Int) + (n : Int)) * i.bytes ≤ room ∧ ((len : Int) + (n : Int)) ≤ 9223372036854775807 then some (AV.arr g (ver + 1) 0 (len + (n : Int).toNat), upd h g (some (AObj.arr (ver + 1) i.size e (cut cells (off * i.size) (len * i.size) ++ new) false))) else none) = some (v, h') := by
     split at hv
     ·rename_i hc
      obtain ⟨e1, e2, e3, e4⟩ := hc
      have ed : List.drop (off * i.size) cells = cut cells (off * i.size) (len * i.size) := by
       unfold cut
       rw [List.take_of_length_le]
       rw [List.length_drop, ← e4, Ab]
       omega
      rw [ed] at hv
      exact ⟨e1, e2, e3, by omega, hv⟩
     ·split at hv
      ·rename_i hc
       obtain ⟨e1, e2, e3, e4⟩ := hc
       exact ⟨e1, e2, e3, e4, hv⟩
      ·cases hv
    clear hv
    obtain ⟨e1, e2, e3, hend, hv⟩ := key
    have cutg : ∀ (j : Nat) (x : AV), (cut cells (off * i.size) (len * i.size))[j]? = some x → j < len * i.size ∧ cells[off * i.size + j]? = some x := fun j x hj => by
     unfold cut at hj
     have hlt := (Aa.1 hj).1
     rw [List.length_take] at hlt
     have hlt' : j < len * i.size := by omega
     rw [List.getElem?_take_of_lt hlt', Ag] at hj
     exact ⟨hlt', hj⟩
    ·subst e1 e2 e3
     obtain ⟨a, cap, cs0, el0, z0, rfl, hlc, hb0, hsz0, ha⟩ := hx.arr_inv ho
     obtain ⟨cs, hb, hsz, hh, _⟩ := hp.ob g _ ho
     rw [hb] at hb0
     injection hb0 with hb0
     injection hb0 with e1 e2 e3
     subst e1 e2 e3
     split at hv
     ·rename_i hne
      injection hv with hv
      simp only [Ah] at hv
      obtain ⟨rfl, rfl⟩ := hv
      have hn := hzero hne
      subst hn
      refine ⟨.slice (some a) len cap, w, ?_, Ran.same hp hx⟩
      cases A with
      | none => simp [Builtin.append_, run_underlying hu, sizeOf, typeInfo, hi, Builtin.lenOf, Builtin.firstCells, hlc, storeCells]
      | some a => simp [Builtin.append_, run_underlying hu, sizeOf, typeInfo, hi, Builtin.lenOf, Builtin.firstCells, loadCells, loadCellsFrom, hlc, storeCells]
     ·rename_i hne
      split at hv
      ·rename_i hbnd
       injection hv with hv
       simp only [Ah] at hv
       obtain ⟨rfl, rfl⟩ := hv
       have hn0 : 0 < n := by
        rcases Ae n with h0 | h0
        ·subst h0; simp at hnl; exact absurd hnl hne
        ·exact h0
       cases A with
       | none => have := (hA rfl).1; omega
       | some ay =>
        have hcl := hcells ay rfl
        obtain ⟨v1, v2⟩ := Jlc hcl
        have hhn := Jlk hcl
        have hlen : (cut cells (off * i.size) (len * i.size)).length = len * i.size := by unfold cut; rw [List.length_take, List.length_drop]; rw [Ab] at hend; omega
        by_cases hroom : len + n ≤ cap
        ·-- in place
         have hpos : 0 < cap := by omega
         rw [ha hpos]
         have hfit : μ.o g + (off + len) * i.size + new.length ≤ cs.size := by
          have h5 : (len + n) * i.size ≤ cap * i.size := Af _ hroom
          rw [Ab] at hsz0 h5
          rw [hnl, Ab]
          omega
         have hone : ∀ u ∈ Jes w ay new.length, u.oneCell' = true := by
          have := Jxy hhn Jdl
          simpa using this
         have hst := run_storeCells_at P (μ.b g) (μ.o g + (off + len) * i.size) e (Jes w ay new.length) 0 cs w hb (by rw [v1]; omega) hone
         simp only [Nat.add_zero] at hst
         have hspl := Jp4 cs (Jes w ay new.length) (μ.o g + (off + len) * i.size) (by rw [v1]; omega)
         generalize hr : (cs.toList.take (μ.o g + (off + len) * i.size) ++ Jes w ay new.length ++ cs.toList.drop (μ.o g + (off + len) * i.size + (Jes w ay new.length).length)).toArray = r at hst hspl
         have hrs : r.size = cs.size := by rw [← hr]; simp [v1]; omega
         have hcs' : ∀ old el' z, w.heap[μ.b g]? = some (.cells old el' z) → r.size = old.size := fun old el' z e => by
          rw [hb] at e; injection e with e; injection e with e; subst e; exact hrs
         have hvv : (AObj.arr ver i.size e cells false).ver < (AObj.arr (ver + 1) i.size e (cut cells (off * i.size) (len * i.size) ++ new) false).ver ∨ (AObj.arr ver i.size e cells false).ver = (AObj.arr (ver + 1) i.size e (cut cells (off * i.size) (len * i.size) ++ new) false).ver ∧ μ.o g + off * i.size = μ.o g ∧
           (AObj.arr ver i.size e cells false).like (AObj.arr (ver + 1) i.size e (cut cells (off * i.size) (len * i.size) ++ new) false) := .inl (by simp [AObj.ver])
         obtain ⟨ev, vv⟩ := Ju3 (S := S) ho rfl hvv hcs'
         have hb' := setRow_heap w (μ.b g) cs r e (0, 0) hb
         have hcont : HoldsAt (w.setRow (μ.b g) r) S (upd h g (some (.arr (ver + 1) i.size e (cut cells (off * i.size) (len * i.size) ++ new) false))) (μ.set g (μ.b g) (μ.o g + off * i.size)) (μ.o g + off * i.size) (cut cells (off * i.size) (len * i.size) ++ new) r := by
          intro j x hj
          rw [hspl]
          by_cases hj1 : j < len * i.size
          ·rw [Ad (by omega)] at hj
           have hj := (cutg j x hj).2
           have hlt := (Aa.1 hj).1
           rw [if_neg (by rw [Ab]; omega)]
           have := (hh.evo hp ev vv) _ x hj
           rwa [← Ak] at this
          ·rw [Ac (by omega)] at hj
           have hlt := (Aa.1 hj).1
           have hcl2 : (off + len) * i.size = off * i.size + len * i.size := by rw [Ab]
           rw [if_pos (by rw [v1]; omega)]
           have := (hhn.evo hp ev vv) _ x hj
           have e5 : μ.o g + off * i.size + j - (μ.o g + (off + len) * i.size) = j - (cut cells (off * i.size) (len * i.size)).length := by omega
           rw [e5]
           simpa using this
         have hcl2 : (off + len) * i.size = off * i.size + len * i.size := by rw [Ab]
         refine ⟨.slice (some ⟨μ.b g, μ.o g + off * i.size, none⟩) (len + n) cap, w.setRow (μ.b g) r, ?_, S, _, ?_, Jxh hp ho rfl hvv hcs' ⟨r, hb', by simp [hlen]; omega, hcont, fun e => by cases e⟩, ev, vv⟩
         ·have hf := run_firstCells_some (P := P) w i.size n ay n c (Jes w ay new.length) (by rw [v1, hnl]) v2
          have e6 : μ.o g + off * i.size + len * i.size = μ.o g + (off + len) * i.size := by omega
          simp [Builtin.append_, run_underlying hu, sizeOf, typeInfo, hi, Builtin.lenOf, hroom, hf, Addr.add_lit, e6, hst]
         ·simp only [Ai]
          refine .arr _ _ _ _ _ _ (Yf _ _ _) (Nat.le_refl _) rfl fun _ => ⟨i.size, e, _, false, rfl, _, cap, r, e, (0, 0), rfl, hroom, ?_, ?_, fun _ => ?_⟩
          ·simpa [Gh.set, Yf] using hb'
          ·simp only [Gh.set, Yf]; rw [hrs]; rw [Ab] at hsz0; simp; omega
          ·simp [Gh.set, Yf]
        ·-- a new row
         have hold : ∀ (j : Nat) (x : AV), (cut cells (off * i.size) (len * i.size))[j]? = some x → ∃ v, w.cell? (a.add j) = some v ∧ v.oneCell' = true ∧ Rep w S h μ x v := by
          intro j x hj
          have hlt := (Aa.1 hj).1
          have hpos : 0 < cap := by
           rcases Ae len with h0 | h0
           ·have h5 := (cutg j x hj).1
            rw [h0, Nat.zero_mul] at h5; omega
           ·omega
          have hj := (cutg j x hj).2
          have hlt2 : μ.o g + (off * i.size + j) < cs.size := by have := (Aa.1 hj).1; omega
          refine ⟨cs.getD (μ.o g + (off * i.size + j)) undef, ?_, (hh _ x hj).2, (hh _ x hj).1⟩
          rw [ha hpos, Jnl hb, Ak, getD_some hlt2]
         obtain ⟨u1, u2⟩ := Jlc hold
         have hho := Jlk hold
         have hbd : (len + n) * i.bytes ≤ 140737488355328 := Jw0 (by simpa using hbnd.1)
         have hrun := run_append_grow (P := P) w t ty e i zv hu hi hzv a len cap (Jes w a (cut cells (off * i.size) (len * i.size)).length) (by rw [u1, hlen]) u2 ay n c (Jes w ay new.length) (by rw [v1, hnl]) v2 (by omega) (by have := hbnd.2; omega) (growslice_fits (by omega) hbd)
         have hge := grownCap_ge w (len + n) cap e
         obtain ⟨h1, h2, h3⟩ := Jii (w := w.drew) (el := e) (g := g) (o := .arr (ver + 1) i.size e (cut cells (off * i.size) (len * i.size) ++ new) false)
          (cs := (Jes w a (cut cells (off * i.size) (len * i.size)).length).toArray ++ (Jes w ay new.length).toArray ++ Builtin.zeroCells zv.cells (grownCap w (len + n) cap e - (len + n)))
          (hp.of_same (w' := w.drew) rfl rfl rfl rfl) (.inl (by simp [AObj.ver, Kj, ho])) (fun j x hj => by
           have h0 := Holds.append hho Jdl hhn Jdl (Builtin.zeroCells zv.cells (grownCap w (len + n) cap e - (len + n))) j x hj
           exact ⟨h0.1.evo hp Jls (.refl h μ), h0.2⟩) (.inr ⟨_, _, rfl, by rw [Array.size_append, Array.size_append, Jdl, Jdl, List.length_append]; omega⟩)
         refine ⟨_, _, hrun, S, _, ?_, h1, Jls.trans h2, h3⟩
         simp only [Ai]
         refine Jj7 hge ?_
         simp only [Array.size_append, Jdl, hlen, hnl, size_zeroCells, hzs, ← Ab]
         exact Af _ (by omega)
      ·cases hv
   ·cases hv
  ·cases hv
 ·cases hv
end
end Go.Vv
