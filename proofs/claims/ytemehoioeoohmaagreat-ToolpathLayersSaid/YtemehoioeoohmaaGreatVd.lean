/- Each operation of the evaluator that only reads is right of the model. Conditions: none. -/
import Derived.Test.YtemehoioeoohmaaGreatVc
import Derived.Laws.Cells
namespace Go.Vv
open Go
open Nat renaming add_assoc → Aa
open List renaming getElem?_eq_some_iff → Ab
open Prod.mk renaming injEq → Ac
theorem Jwk (a : Addr) (m n : Nat) : (a.add m).add n = a.add (m + n) := by
 unfold Addr.add
 by_cases hm : m = 0 <;> by_cases hn : n = 0 <;> simp_all [Aa]
theorem Jnl {w : World} {b o i : Nat} {cs : Array Value} {t : TypeId} {z : Nat × Nat} (hg : w.heap[b]? = some (.cells cs t z)) : w.cell? ((⟨b, o, none⟩ : Addr).add i) = cs[o + i]? := by
 rw [Addr.add_lit, cell_of_row w b (o + i) cs t z hg]
theorem getD_some {cs : Array Value} {i : Nat} (h : i < cs.size) : cs[i]? = some (cs.getD i undef) := by
 simp [h]
theorem Js4 {h : Heap} {g ver : Nat} (hc : cur h g ver = true) : ∃ o, h g = some o ∧ ver = o.ver := by
 unfold cur at hc
 split at hc
 ·rename_i o ho; exact ⟨o, ho, by simpa using (beq_iff_eq.1 hc).symm⟩
 ·cases hc
theorem Jsh {h : Heap} {g ver esz : Nat} (hc : curA h g ver esz = true) : ∃ el cells fz, h g = some (.arr ver esz el cells fz) := by
 unfold curA at hc
 split at hc
 ·rename_i v e t c z ho; simp at hc; obtain ⟨rfl, rfl⟩ := hc; exact ⟨t, c, z, ho⟩
 ·cases hc
theorem Jnz {h : Heap} {g ver : Nat} (hc : Jek h g ver = true) : ∃ esz el cells fz, h g = some (.arr ver esz el cells fz) := by
 unfold Jek at hc
 split at hc
 ·rename_i v e t c z ho; simp at hc; obtain rfl := hc; exact ⟨e, t, c, z, ho⟩
 ·cases hc
theorem Jx0 {h : Heap} {g ver : Nat} {es : List (AV × AV)} (hc : curM h g ver = some es) : h g = some (.map ver es false) := by
 unfold curM at hc
 split at hc
 ·rename_i v es' ho; split at hc
  ·rename_i e; subst e; injection hc with hc; subst hc; exact ho
  ·cases hc
 ·cases hc
section
variable {w : World} {S : Nat → Prop} {h : Heap} {μ : Gh} {P : Program}
theorem Rep.ptr_inv {g ver off : Nat} {v : Value} (hr : Rep w S h μ (.ptr g ver off) v) (hc : cur h g ver = true) : v = .pointer (some ⟨μ.b g, μ.o g + off, none⟩) := by
 obtain ⟨o, ho, e⟩ := Js4 hc
 cases hr with
 | pure hp => cases hp
 | ptr _ _ _ _ o' ho' _ _ hr => rw [ho] at ho'; injection ho' with ho'; subst ho'; exact hr e
theorem Rep.arr_inv {g ver off len esz : Nat} {v : Value} {el : TypeId} {cells : List AV} {fz : Bool} (hr : Rep w S h μ (.arr g ver off len) v) (ho : h g = some (.arr ver esz el cells fz)) : ArrOK w (μ.b g) (μ.o g) esz off len v := by
 cases hr with
 | pure hp => cases hp
 | arr _ _ _ _ _ o' ho' _ _ hr =>
  rw [ho] at ho'
  injection ho' with ho'
  subst ho'
  obtain ⟨esz', el', cells', fz', e, hk⟩ := hr rfl
  injection e with _ e2
  subst e2
  exact hk
theorem Rep.map_inv {g ver : Nat} {v : Value} {es : List (AV × AV)} (hr : Rep w S h μ (.map g ver) v) {fz : Bool} (ho : h g = some (.map ver es fz)) : v = .map (some (μ.b g)) := by
 cases hr with
 | pure hp => cases hp
 | map _ _ _ o' ho' _ _ hr => rw [ho] at ho'; injection ho' with ho'; subst ho'; exact hr rfl
theorem Jpf (hp : RepH w S h μ) {x : AV} {cx : Value} (hr : Rep w S h μ x cx) {l : List AV} {off : Nat} (hd : Jl4 h x = some (l, off)) :
  ∃ a, cx = .pointer (some a) ∧ ∀ i y, l[off + i]? = some y → ∃ c, w.cell? (a.add i) = some c ∧ c.oneCell' = true ∧ Rep w S h μ y c := by
 unfold Jl4 at hd
 split at hd
 ·injection hd with hd
  simp only [Ac] at hd
  obtain ⟨rfl, rfl⟩ := hd
  cases hr with
  | pure hp' =>
   cases hp' with
   | rptr _ a cv hs hc h1 hr => exact ⟨a, rfl, fun i y hi => ⟨cv i, by simpa using hc i y (by simpa using hi), h1 i y (by simpa using hi), .pure (hr i y (by simpa using hi))⟩⟩
 ·rename_i g ver off'
  split at hd
  ·rename_i ver' cells ho
   split at hd
   ·rename_i e
    subst e
    injection hd with hd
    simp only [Ac] at hd
    obtain ⟨rfl, rfl⟩ := hd
    obtain ⟨cs, el, hb, hsz, hh⟩ := hp.ob g _ ho
    refine ⟨⟨μ.b g, μ.o g + off', none⟩, hr.ptr_inv (by simp [cur, ho, AObj.ver]), fun i y hi => ?_⟩
    have hlt : μ.o g + (off' + i) < cs.size := by have := (Ab.1 hi).1; omega
    exact ⟨cs.getD (μ.o g + (off' + i)) undef, by rw [Jnl hb, Aa, getD_some hlt], (hh _ _ hi).2, (hh _ _ hi).1⟩
   ·cases hd
  ·rename_i ver' esz el cells fz ho
   split at hd
   ·rename_i e
    subst e
    injection hd with hd
    simp only [Ac] at hd
    obtain ⟨rfl, rfl⟩ := hd
    obtain ⟨cs, hb, hsz, hh, _⟩ := hp.ob g _ ho
    refine ⟨⟨μ.b g, μ.o g + off', none⟩, hr.ptr_inv (by simp [cur, ho, AObj.ver]), fun i y hi => ?_⟩
    have hlt : μ.o g + (off' + i) < cs.size := by have := (Ab.1 hi).1; omega
    exact ⟨cs.getD (μ.o g + (off' + i)) undef, by rw [Jnl hb, Aa, getD_some hlt], (hh _ _ hi).2, (hh _ _ hi).1⟩
   ·cases hd
  ·cases hd
 ·cases hd
theorem Jna {t : TypeId} {b : Bool} (hb : aggT P t = some b) (w : World) : (isAgg t).run P w = .ok b w := by
 unfold aggT at hb
 split at hb
 ·rename_i fs hu; injection hb with hb; subst hb; simp [isAgg, run_underlying hu]
 ·rename_i n e hu; injection hb with hb; subst hb; simp [isAgg, run_underlying hu]
 ·rename_i d h1 h2 hu
  injection hb with hb; subst hb
  cases hd : P.underlying t with
  | none => simp_all
  | some d' =>
   simp only [isAgg, Sem.run_bind, run_underlying hd, Result.andThen_ok]
   cases d' <;> simp_all
   all_goals first | exact h1 _ hu.symm | exact h2 _ _ hu.symm
 ·cases hb
theorem Jb9 {t : TypeId} {n : Nat} (hn : szT P t = some n) (w : World) : (sizeOf t).run P w = .ok n w := by
 unfold szT at hn
 cases hi : P.info? t with
 | none => rw [hi] at hn; cases hn
 | some i => rw [hi] at hn; simp at hn; subst hn; simp [sizeOf, typeInfo, hi]
theorem Jr3 {l : List AV} {off n : Nat} {ag : Bool} {v : AV} (hv : pack ag l off n = some v) {f : Nat → Value}
  (hf : ∀ i y, i < n → l[off + i]? = some y → (f i).oneCell' = true ∧ Rep w S h μ y (f i)) (hn : ag ∨ n = 1) :
  Rep w S h μ v (if ag then .agg ((List.range n).map f).toArray else f 0) := by
 unfold pack at hv
 split at hv
 ·rename_i hle
  cases ag with
  | true =>
   simp at hv
   subst hv
   have key : ∀ i x, (cut l off n)[i]? = some x → i < n ∧ l[off + i]? = some x := fun i x hi => by
    simp only [cut, List.getElem?_take, List.getElem?_drop] at hi
    split at hi
    ·rename_i hlt; exact ⟨hlt, hi⟩
    ·cases hi
   simp only [if_true]
   refine .agg _ _ (by simp [cut]; omega) (fun i x hi => ?_) (fun i x hi => ?_)
   ·obtain ⟨h1, h2⟩ := key i x hi
    simpa [h1] using (hf i x h1 h2).1
   ·obtain ⟨h1, h2⟩ := key i x hi
    simpa [h1] using (hf i x h1 h2).2
  | false =>
   simp at hv
   simp only [Bool.false_eq_true, if_false]
   have h1 : n = 1 := by simpa using hn
   exact (hf 0 v (by omega) (by simpa using hv)).2
 ·cases hv
theorem Jrb (hp : RepH w S h μ) {t : TypeId} {n : Nat} {ag : Bool} (hag : aggT P t = some ag) (hsz : szT P t = some n) (hn : ag ∨ n = 1) {x v : AV} {cx : Value} (hr : Rep w S h μ x cx)
  (hl : Jql h ag n x = some v) : ∃ cv, (Instr.loadAt t cx).run P w = .ok cv w ∧ Rep w S h μ v cv := by
 unfold Jql at hl
 split at hl
 ·rename_i l off hd
  obtain ⟨a, rfl, hc⟩ := Jpf hp hr hd
  have hle : off + n ≤ l.length := by
   unfold pack at hl
   split at hl
   ·assumption
   ·cases hl
  have hcell : ∀ j, j < n → w.cell? (a.add j) = some ((w.cell? (a.add j)).getD undef) := fun j hj => by
   obtain ⟨c, h1, _⟩ := hc j (l[off + j]'(by omega)) (List.getElem?_eq_getElem (by omega))
   rw [h1]; rfl
  have hrep := Jr3 (w := w) (S := S) (h := h) (μ := μ) hl (f := fun j => (w.cell? (a.add j)).getD undef) (fun i y _ hi => by
   obtain ⟨c, h1, h2, h3⟩ := hc i y hi
   rw [h1]; exact ⟨h2, h3⟩) hn
  refine ⟨_, ?_, hrep⟩
  cases ag with
  | true => simp [Instr.loadAt, Instr.sureAddr, loadVar, Jna hag, Jb9 hsz, run_loadCells w a n _ hcell]
  | false =>
   have h1 : n = 1 := by simpa using hn
   have h0 := hcell 0 (by omega)
   simp only [Addr.add_zero'] at h0 ⊢
   simp [Instr.loadAt, Instr.sureAddr, loadVar, Jna hag, load, Sem.run]
   cases hcc : w.cell? a with
   | none => rw [hcc] at h0; cases h0
   | some c => simp
 ·cases hl
theorem RepP.drop {l : List AV} {a : Addr} {cv : Nat → Value} {k : Nat} (hs : l ≠ [] → S a.block) (hc : ∀ i x, l[i]? = some x → w.cell? (a.add i) = some (cv i))
  (h1 : ∀ i x, l[i]? = some x → (cv i).oneCell' = true) (hr : ∀ i x, l[i]? = some x → RepP w S x (cv i)) : RepP w S (.rptr (l.drop k)) (.pointer (some (a.add k))) := by
 have hb : (a.add k).block = a.block := by unfold Addr.add; split <;> rfl
 exact .rptr _ _ (fun i => cv (k + i)) (fun h0 => by rw [hb]; exact hs (by rintro rfl; simp at h0)) (fun i x hi => by rw [Jwk]; exact hc _ x (by simpa using hi)) (fun i x hi => h1 _ x (by simpa using hi)) (fun i x hi => hr _ x (by simpa using hi))
theorem Jwd {s : TypeId} {fs : Array Field} {f : Nat} {fd : Field} {n : Nat} (hs : P.underlying s = some (.struct fs)) (hf : fs[f]? = some fd) (hn : szT P fd.type = some n) (hn0 : n ≠ 0)
  {x v : AV} {cx : Value} (hr : Rep w S h μ x cx) (hv : Jk5 h fd.offset x = some v) : ∃ cv, (Instr.fieldAt s cx f).run P w = .ok cv w ∧ Rep w S h μ v cv := by
 unfold Jk5 at hv
 split at hv
 ·rename_i g ver o
  split at hv
  ·rename_i hc
   injection hv with hv
   subst hv
   obtain ⟨ob, ho, e⟩ := Js4 hc
   have hx := hr.ptr_inv hc
   subst hx
   refine ⟨.pointer (some ⟨μ.b g, μ.o g + (o + fd.offset), none⟩), ?_, .ptr _ _ _ _ ob ho (by omega) rfl fun _ => rfl⟩
   simp [Instr.fieldAt, run_underlying hs, hf, Instr.sureAddr, fieldPlace, Jb9 hn, hn0, Addr.add_lit, Aa]
  ·cases hv
 ·injection hv with hv
  subst hv
  cases hr with
  | pure hp =>
   cases hp with
   | rptr _ a cv hs' hc h1 hr =>
    refine ⟨.pointer (some (a.add fd.offset)), ?_, .pure (RepP.drop hs' hc h1 hr)⟩
    simp [Instr.fieldAt, run_underlying hs, hf, Instr.sureAddr, fieldPlace, Jb9 hn, hn0]
 ·cases hv
theorem Jvs {t e : TypeId} {n : Nat} (ht : P.underlying t = some (.slice e)) (hn : szT P e = some n) {x i v : AV} {cx ci : Value} (hr : Rep w S h μ x cx) (hi : Rep w S h μ i ci)
  (hv : Jij h n x i = some v) : ∃ cv, (Instr.indexAt t cx ci).run P w = .ok cv w ∧ Rep w S h μ v cv := by
 unfold Jij at hv
 split at hv
 ·rename_i m l k j
  split at hv
  ·rename_i hlt
   injection hv with hv
   subst hv
   rw [hi.int_inv]
   cases hr with
   | pure hp =>
    cases hp with
    | lst0 => omega
    | lst _ _ a cap cv hs hn' hc h1 hr =>
     refine ⟨.pointer (some (a.add (j.toNat * n))), ?_, .pure (RepP.drop hs hc h1 hr)⟩
     simp [Instr.indexAt, run_underlying ht, asIntOf, hlt, Jb9 hn]
  ·cases hv
 ·rename_i g ver off len k j
  split at hv
  ·rename_i hlt
   obtain ⟨h0, h1, hc⟩ := hlt
   injection hv with hv
   subst hv
   rw [hi.int_inv]
   obtain ⟨el, cells, fz, ho⟩ := Jsh hc
   obtain ⟨a, cap, cs, el', z, rfl, hl, hb, hsz, ha⟩ := hr.arr_inv ho
   have hcap : 0 < cap := by omega
   rw [ha hcap]
   refine ⟨.pointer (some ⟨μ.b g, μ.o g + (off + j.toNat) * n, none⟩), ?_, .ptr _ _ _ _ _ ho (Nat.le_refl _) rfl fun _ => rfl⟩
   simp [Instr.indexAt, run_underlying ht, asIntOf, h0, h1, Jb9 hn, Addr.add_lit, Nat.add_mul, Aa]
  ·cases hv
 ·cases hv
theorem Jtf {t e : TypeId} {n len : Nat} (ht : P.underlying t = some (.array len e)) (hn : szT P e = some n) {x i v : AV} {cx ci : Value} (hr : Rep w S h μ x cx) (hi : Rep w S h μ i ci)
  (hv : Jgx h len n x i = some v) : ∃ cv, (Instr.indexAt t cx ci).run P w = .ok cv w ∧ Rep w S h μ v cv := by
 unfold Jgx at hv
 split at hv
 ·rename_i g ver o k j
  split at hv
  ·rename_i hlt
   obtain ⟨h0, h1, hc⟩ := hlt
   injection hv with hv
   subst hv
   rw [hi.int_inv, hr.ptr_inv hc]
   obtain ⟨ob, ho, e⟩ := Js4 hc
   refine ⟨.pointer (some ⟨μ.b g, μ.o g + (o + j.toNat * n), none⟩), ?_, .ptr _ _ _ _ ob ho (by omega) rfl fun _ => rfl⟩
   simp [Instr.indexAt, run_underlying ht, asIntOf, Instr.sureAddr, h0, h1, Jb9 hn, Addr.add_lit, Aa]
  ·cases hv
 ·rename_i l k j
  split at hv
  ·rename_i hlt
   injection hv with hv
   subst hv
   rw [hi.int_inv]
   cases hr with
   | pure hp =>
    cases hp with
    | rptr _ a cv hs hc h1 hr =>
     refine ⟨.pointer (some (a.add (j.toNat * n))), ?_, .pure (RepP.drop hs hc h1 hr)⟩
     simp [Instr.indexAt, run_underlying ht, asIntOf, Instr.sureAddr, hlt, Jb9 hn]
  ·cases hv
 ·cases hv
theorem Jjt {t : TypeId} {off n : Nat} {ag : Bool} (hag : aggT P t = some ag) (hsz : szT P t = some n) (hn : ag ∨ n = 1) {l : List AV} {cs : Array Value} (hl : l.length = cs.size) (hh : Holds w S h μ l cs)
  {v : AV} (hv : pack ag l off n = some v) : ∃ cv, (part t cs off).run P w = .ok cv w ∧ Rep w S h μ v cv := by
 have hle : off + n ≤ l.length := by
  unfold pack at hv
  split at hv
  ·assumption
  ·cases hv
 have hrep := Jr3 (w := w) (S := S) (h := h) (μ := μ) hv (f := fun j => cs.getD (off + j) undef) (fun i y _ hi => ⟨(hh _ y hi).2, (hh _ y hi).1⟩) hn
 refine ⟨_, ?_, hrep⟩
 cases ag with
 | true =>
  simp only [part, Sem.run_bind, Jna hag, Result.andThen_ok, if_true, Jb9 hsz]
  simp only [Sem.run_pure]
  congr 2
  apply Array.ext
  ·simp; omega
  ·intro i h1 h2
   simp at h1 h2 ⊢
   rw [Array.getElem?_eq_getElem (by omega)]
   rfl
 | false =>
  have h1 : n = 1 := by simpa using hn
  simp only [part, Sem.run_bind, Jna hag, Result.andThen_ok, Bool.false_eq_true, if_false]
  rw [getD_some (cs := cs) (i := off) (by omega)]
  rfl
theorem J8d {s : TypeId} {fs : Array Field} {f : Nat} {fd : Field} {n : Nat} {ag : Bool} (hs : P.underlying s = some (.struct fs)) (hf : fs[f]? = some fd) (hag : aggT P fd.type = some ag) (hsz : szT P fd.type = some n) (hn : ag ∨ n = 1)
  {l : List AV} {v : AV} {cx : Value} (hr : Rep w S h μ (.agg l) cx) (hv : pack ag l fd.offset n = some v) : ∃ cv, (Instr.field s cx f).run P w = .ok cv w ∧ Rep w S h μ v cv := by
 obtain ⟨cs, rfl, hl, hh⟩ := hr.agg_inv
 obtain ⟨cv, h1, h2⟩ := Jjt (P := P) hag hsz hn hl hh hv
 exact ⟨cv, by simp [Instr.field, run_underlying hs, hf, asAgg, h1], h2⟩
theorem J0q {t e : TypeId} {len n : Nat} {ag : Bool} (ht : P.underlying t = some (.array len e)) (hag : aggT P e = some ag) (hsz : szT P e = some n) (hn : ag ∨ n = 1) {x i v : AV} {cx ci : Value}
  (hr : Rep w S h μ x cx) (hi : Rep w S h μ i ci) (hv : idxV len n ag x i = some v) : ∃ cv, (Instr.index t cx ci).run P w = .ok cv w ∧ Rep w S h μ v cv := by
 unfold idxV at hv
 split at hv
 ·rename_i l k j
  split at hv
  ·rename_i hlt
   obtain ⟨cs, rfl, hl, hh⟩ := hr.agg_inv
   rw [hi.int_inv]
   obtain ⟨cv, h1, h2⟩ := Jjt (P := P) hag hsz hn hl hh hv
   exact ⟨cv, by simp [Instr.index, asIntOf, run_underlying ht, hlt, Jb9 hsz, h1], h2⟩
  ·cases hv
 ·cases hv
theorem J81 {l : List AV} {i : Nat} {v : AV} {cx : Value} (hr : Rep w S h μ (.tup l) cx) (hv : l[i]? = some v) : ∃ cv, (Instr.extract cx i).run P w = .ok cv w ∧ Rep w S h μ v cv := by
 obtain ⟨cs, rfl, hl, hh⟩ := hr.tup_inv
 have hlt : i < cs.size := by have := (Ab.1 hv).1; omega
 exact ⟨cs.getD i undef, by simp only [Instr.extract]; rw [getD_some hlt]; rfl, hh i v hv⟩
theorem J3o {t e ty : TypeId} (ht : P.underlying t = some (.slice e)) {x : AV} {cx : Value} {n : Int} (hr : Rep w S h μ x cx) (hv : lenV h x = some n) : (Builtin.len_ #[t] ty #[cx]).run P w = .ok (.int .i64 n) w := by
 unfold lenV at hv
 split at hv
 ·injection hv with hv; subst hv
  rw [hr.nils_inv]; simp [Builtin.len_, run_underlying ht, goInt]
 ·injection hv with hv; subst hv
  cases hr with
  | pure hp => cases hp <;> simp [Builtin.len_, run_underlying ht, goInt]
 ·split at hv
  ·rename_i hc
   injection hv with hv; subst hv
   obtain ⟨esz, el, cells, fz, ho⟩ := Jnz hc
   obtain ⟨a, cap, cs, el', z, rfl, _⟩ := hr.arr_inv ho
   simp [Builtin.len_, run_underlying ht, goInt]
  ·cases hv
 ·cases hv
theorem Jym {t k e ty : TypeId} (ht : P.underlying t = some (.map k e)) (hp : RepH w S h μ) {x : AV} {cx : Value} {n : Int} (hr : Rep w S h μ x cx) (hv : lenM h x = some n) : (Builtin.len_ #[t] ty #[cx]).run P w = .ok (.int .i64 n) w := by
 unfold lenM at hv
 split at hv
 ·injection hv with hv; subst hv
  rw [hr.nilm_inv]; simp [Builtin.len_, run_underlying ht, goInt]
 ·injection hv with hv; subst hv
  obtain ⟨b, es, clock, rfl, -, hb, hk, -⟩ := hr.mpr_inv
  simp [Builtin.len_, run_underlying ht, goInt, getObj, Sem.run, hb, hk]
 ·split at hv
  ·rename_i es hc
   injection hv with hv; subst hv
   have ho := Jx0 hc
   obtain ⟨es', clock, hb, hsz, _⟩ := hp.ob _ _ ho
   rw [hr.map_inv ho]
   simp [Builtin.len_, run_underlying ht, goInt, getObj, Sem.run, hb, hsz]
  ·cases hv
 ·cases hv
theorem Jyx {t ty : TypeId} (ht : P.underlying t = some .string) {x : AV} {cx : Value} {n : Int} (hr : Rep w S h μ x cx) (hv : lenS x = some n) : (Builtin.len_ #[t] ty #[cx]).run P w = .ok (.int .i64 n) w := by
 unfold lenS at hv
 split at hv
 ·injection hv with hv; subst hv
  rw [hr.str_inv]; simp [Builtin.len_, run_underlying ht, goInt]
 ·cases hv
end
end Go.Vv
