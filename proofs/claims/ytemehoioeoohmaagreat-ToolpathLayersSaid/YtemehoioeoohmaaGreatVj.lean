/- The evaluator's step is right of the model's operation. Conditions: none. -/
import Derived.Test.YtemehoioeoohmaaGreatVi
namespace Go.Vv
open Go
open Prod.mk renaming injEq → Aa
open List renaming getElem?_append_right → Ab, getElem?_append_left → Ac
open Nat renaming le_refl → Ad
section
variable {P : Program} {w : World} {S : Nat → Prop} {σ : St} {μ : Gh} {a : Act} {nt : Nat}
theorem Jdp {α β : Type} {x : Option α} {f : α → β} {r : β} (h : x.map f = some r) : ∃ y, x = some y ∧ r = f y := by
 cases x with
 | none => cases h
 | some y => injection h with h; exact ⟨y, rfl, h.symm⟩
theorem hOut {x : Option AV} {h0 : Heap} {r : AV × Heap} (h : (match x with | some v => some (v, h0) | none => none) = some r) : x = some r.1 ∧ h0 = r.2 := by
 cases x with
 | none => cases h
 | some y => injection h with h; subst h; exact ⟨rfl, rfl⟩
theorem snap_fn {h : Heap} : ∀ {k : Nat} {v : AV} {f : FuncId} {caps : List AV} {ns : List Nat}, snap h k v = some (.fn f caps, ns) → ∃ l, v = .fn f l
 | 0, _, _, _, _, hs => by simp [snap] at hs
 | k + 1, v, f, caps, ns, hs => by
  unfold snap at hs
  split at hs
  ·cases hs
  ·cases hs
  ·split at hs
   ·split at hs <;> cases hs
   ·cases hs
  ·split at hs
   ·split at hs
    ·simp only at hs
     split at hs
     ·cases hs
     ·split at hs <;> cases hs
    ·cases hs
   ·cases hs
  ·split at hs
   ·injection hs with hs; simp only [Aa] at hs; obtain ⟨e, _⟩ := hs; injection e with e1 _; subst e1; exact ⟨_, rfl⟩
   ·cases hs
  ·split at hs
   ·cases hs
   ·split at hs <;> cases hs
  ·split at hs <;> cases hs
  ·rename_i x1 x2 x3 x4 x5 x6 x7
   injection hs with hs
   simp only [Aa] at hs
   exact ⟨caps, hs.1⟩
theorem Ju7 {k : Nat} {x u : AV} {ns : List Nat} (hs : snap σ.h k x = some (u, ns)) : ∀ g ∈ ns, ∃ o, σ.h g = some o ∧ o.freeze.fz = true := fun g hg => Jea k hs g hg
theorem Jsw (hp : RepH w S σ.h μ) {x u : AV} {ns : List Nat} {cv : Value} (hsn : snap σ.h depth x = some (u, ns)) (hr : Rep w S σ.h μ x cv) : Ran w S σ.h μ u (Kg σ.h ns) cv w := by
 obtain ⟨f1, f2, f3⟩ := Jk6 hp (Ju7 hsn)
 exact ⟨_, μ, .pure (Je0 hp (S' := fun b => S b ∨ ∃ g ∈ ns, μ.b g = b) (fun b hb => .inl hb) depth hsn hr (fun g hg => .inr ⟨g, hg, rfl⟩)), f1, f2, f3⟩
theorem bslz_ran {g v n esz : Nat} {el : TypeId} {l : List AV} {h : Heap} {cv : Value} {w' : World} (hf : l.all AV.flat = true) (hl : l.length = n * esz)
  (hr : Ran w S h μ (.arr g v 0 n) (upd h g (some (.arr v esz el l false))) cv w') : Ran w S h μ (.lst n l) (upd h g (some (.arr v esz el l true))) cv w' := by
 obtain ⟨S1, μ1, r1, p1, e1, v1⟩ := hr
 have hsn : snap (upd h g (some (.arr v esz el l false))) depth (.arr g v 0 n) = some (.lst n l, [g]) := by
  have hcut : cut l 0 (n * esz) = l := by unfold cut; rw [List.drop_zero, List.take_of_length_le (by omega)]
  show snap _ (7 + 1) _ = _
  simp only [snap, Yf, Nat.zero_add, Nat.zero_mul, true_and, hcut]
  rw [if_pos (by omega), if_pos hf]
 have hz := Jsw (σ := ⟨fun _ => .any, upd h g (some (.arr v esz el l false))⟩) p1 hsn r1
 have hh : Kg (upd h g (some (.arr v esz el l false))) [g] = upd h g (some (.arr v esz el l true)) := by
  funext k
  unfold Kg upd
  by_cases hk : k = g
  ·simp [hk, AObj.freeze]
  ·simp [hk]
 simp only [hh] at hz
 obtain ⟨S2, μ2, r2, p2, e2, v2⟩ := hz
 exact ⟨S2, μ2, r2, p2, e1.trans e2, v1.trans v2⟩
theorem Jwn {t e : TypeId} (hu : P.underlying t = some (.slice e)) {x : AV} {cx cy : Value} {X Y : Operand} {b ne : Bool} (hr : Rep w S σ.h μ x cx) (hy : Rep w S σ.h μ .nils cy) (hv : Jkq σ.h x = some b) :
  (eqGuard (if ne then .neq else .eql) t X Y cx cy).run P w = .ok () w ∧ (binOp (if ne then .neq else .eql) t cx cy).run P w = .ok (.bool (if ne then !b else b)) w := by
 have hcy : cy = .slice none 0 0 := by
  cases hy with
  | pure hp => cases hp; rfl
 subst hcy
 have key : (b = true ∧ cx = .slice none 0 0) ∨ (b = false ∧ ∃ a n c, cx = .slice (some a) n c) := by
  unfold Jkq at hv
  split at hv
  ·injection hv with hv
   subst hv
   cases hr with
   | pure hp => cases hp; exact .inl ⟨rfl, rfl⟩
  ·cases hv
  ·rename_i hne
   injection hv with hv
   subst hv
   cases hr with
   | pure hp =>
    cases hp with
    | lst0 => exact (hne rfl rfl).elim
    | lst n l a cap cv => exact .inr ⟨rfl, a, _, cap, rfl⟩
  ·split at hv
   ·rename_i hc
    injection hv with hv
    subst hv
    obtain ⟨esz, el, cells, fz, ho⟩ := Jnz hc
    obtain ⟨a, cap, cs, el', z, hcx, _⟩ := hr.arr_inv ho
    exact .inr ⟨rfl, a, _, cap, hcx⟩
   ·cases hv
  ·cases hv
 have hq : (Op.equal t cx (.slice none 0 0)).run P w = .ok b w := by
  have hd : ∀ d, (Op.equalIn (d + 1) t cx (.slice none 0 0)).run P w = .ok b w := fun d => by
   rcases key with ⟨rfl, rfl⟩ | ⟨rfl, a, n, c, rfl⟩
   ·simp [Op.equalIn, run_underlying hu]
   ·simp [Op.equalIn, run_underlying hu]
  exact hd 9999
 have hg : ∃ q n c, cx = .slice q n c := by
  rcases key with ⟨rfl, rfl⟩ | ⟨rfl, a, n, c, rfl⟩
  ·exact ⟨_, _, _, rfl⟩
  ·exact ⟨_, _, _, rfl⟩
 obtain ⟨q, n, c, rfl⟩ := hg
 cases ne with
 | true => exact ⟨by simp [eqGuard], by simp only [if_true, binOp, Sem.run_bind, hq]; rfl⟩
 | false => exact ⟨by simp [eqGuard], by simp only [Bool.false_eq_true, if_false, binOp, Sem.run_bind, hq]; rfl⟩
theorem Jtz (hp : RepH w S σ.h μ) {e : TypeId} {z : List AV} (hz : zc P e = some z) (esz g : Nat) :
  ∃ cv w', (Instr.alloc e true (.tuple #[])).run P w = .ok cv w' ∧ Ran w S σ.h μ (.ptr g (Kj σ.h g) 0) (upd σ.h g (some (.arr (Kj σ.h g) esz e z false))) cv w' := by
 obtain ⟨i, v, hi, hv, hl, hn, hs⟩ := Jq9 hz
 have hh := Jhq (w := w) (S := S) (h := σ.h) (μ := μ) hl
 obtain ⟨h1, h2, h3⟩ := Jii (el := e) (g := g) (o := .arr (Kj σ.h g) esz e z false) (cs := v.cells) hp (.inl rfl) (by simpa using hh) (.inr ⟨_, _, rfl, by omega⟩)
 exact ⟨.pointer (some ⟨w.heap.size, 0, none⟩), w.alloc (.cells v.cells e), by simp [Instr.alloc, zeroValue, typeInfo, hi, hv, newVar, newRow], S, _,
  .ptr _ _ _ _ _ (Yf _ _ _) (Ad _) rfl (fun _ => by simp [Gh.set, Yf]), h1, h2, h3⟩
theorem Jz9 (hp : RepH w S σ.h μ) {t el : TypeId} {n sz : Nat} (hu : P.underlying t = some (.array n el)) (hz : szT P el = some sz) {x v : AV} {cx : Value} (hr : Rep w S σ.h μ x cx)
  (hv : Jpo σ.h n sz x = some v) : ∃ cv, (Instr.sliceAt t cx none none none).run P w = .ok cv w ∧ Rep w S σ.h μ v cv := by
 unfold Jpo at hv
 split at hv
 ·rename_i g ver
  unfold Jyh at hv
  split at hv
  ·rename_i ver' esz' el' cells fz ho
   split at hv
   ·rename_i hc
    obtain ⟨rfl, rfl, hlen⟩ := hc
    injection hv with hv
    subst hv
    have hcx := hr.ptr_inv (by simp [cur, ho, AObj.ver])
    subst hcx
    obtain ⟨cs, hb, hsz, hh, _⟩ := hp.ob g _ ho
    have hadd : ∀ a : Addr, (if n = 0 then a else a.add 0) = a := fun a => by split <;> simp [Addr.add]
    refine ⟨.slice (some ⟨μ.b g, μ.o g, none⟩) n n, ?_, ?_⟩
    ·simp [Instr.sliceAt, run_underlying hu, Jb9 hz, Instr.sureAddr, Instr.sliceBounds, hadd]
    ·exact .arr g ver 0 n _ _ ho (Ad _) rfl fun _ => ⟨sz, el', cells, fz, rfl, _, n, cs, el', (0, 0), rfl, Ad _, hb, by simp only [Nat.zero_add]; omega, fun _ => by simp⟩
   ·cases hv
  ·cases hv
 ·cases hv
theorem op_wp {call : Call} {cm : List (Nat × CM)} {o : Oper} {lop : LOp} {base g0 : Nat} {v : AV} {h' : Heap} {next : Act → World → Prop} {Q : Exit → Act → World → Prop} (hcall : Jjx P call) (hs : RepS nt w S σ μ a)
  (hc : J50 P cm o.dst o.op = some lop) (he : Jz call base σ g0 lop = some (v, h')) (K : ∀ cv w', Ran w S σ.h μ v h' cv w' → next (a.put o.dst cv) w') : o.wp P a w next Q := by
 have V : ∀ {s : Sem Value} {cv : Value} {w' : World}, execOp a.eval o = (do pure (.value (← s))) → s.run P w = .ok cv w' → Ran w S σ.h μ v h' cv w' → o.wp P a w next Q := fun {s cv w'} h1 h2 h3 => Jc6 (by rw [h1]; simp [h2]) (K _ _ h3)
 have V0 : ∀ {s : Sem Value} {cv : Value}, execOp a.eval o = (do pure (.value (← s))) → s.run P w = .ok cv w → Rep w S σ.h μ v cv → σ.h = h' → o.wp P a w next Q := fun {s cv} h1 h2 h3 h4 => V h1 h2 (by subst h4; exact Ran.same hs.hp h3)
 cases hop : o.op <;> rw [hop] at hc <;> simp only [J50] at hc <;> try (cases hc; done)
 case move x =>
  split at hc
  ·obtain ⟨y, hy, rfl⟩ := Jdp hc
   simp only [Jz] at he
   split at he
   ·rename_i u ns hsn
    cases he
    exact Jc6 (cv := a.eval x) (w' := w) (by simp [execOp, hop]) (K _ _ (Jsw hs.hp hsn (K7 hs hy)))
   ·cases he
  ·obtain ⟨y, hy, rfl⟩ := Jdp hc
   simp only [Jz] at he
   injection he with he
   simp only [Aa] at he
   obtain ⟨rfl, rfl⟩ := he
   exact Jc6 (cv := a.eval x) (w' := w) (by simp [execOp, hop]) (K _ _ (Ran.same hs.hp (K7 hs hy)))
 case assign x =>
  split at hc
  ·obtain ⟨y, hy, rfl⟩ := Jdp hc
   simp only [Jz] at he
   split at he
   ·rename_i u ns hsn
    cases he
    exact Jc6 (cv := a.eval x) (w' := w) (by simp [execOp, hop]) (K _ _ (Jsw hs.hp hsn (K7 hs hy)))
   ·cases he
  ·obtain ⟨y, hy, rfl⟩ := Jdp hc
   simp only [Jz] at he
   injection he with he
   simp only [Aa] at he
   obtain ⟨rfl, rfl⟩ := he
   exact Jc6 (cv := a.eval x) (w' := w) (by simp [execOp, hop]) (K _ _ (Ran.same hs.hp (K7 hs hy)))
 case pick c x y =>
  split at hc
  ·rename_i c' x' y' h1 h2 h3
   injection hc with hc
   subst hc
   simp only [Jz] at he
   split at he
   ·rename_i t ht
    injection he with he
    simp only [Aa] at he
    obtain ⟨rfl, rfl⟩ := he
    have hb := K7 hs h1
    rw [ht] at hb
    refine Jc6 (cv := if t then a.eval x else a.eval y) (w' := w) (by simp [execOp, hop, hb.bool_inv, asBool]) (K _ _ (Ran.same hs.hp ?_))
    cases t with
    | true => exact K7 hs h2
    | false => exact K7 hs h3
   ·cases he
  ·cases hc
 case alloc e =>
  split at hc
  ·split at hc
   ·rename_i len el hu
    split at hc
    ·rename_i n z hn hz
     injection hc with hc
     subst hc
     simp only [Jz] at he
     injection he with he
     simp only [Aa] at he
     obtain ⟨rfl, rfl⟩ := he
     obtain ⟨cv, w', h1, h2⟩ := Jtz hs.hp hz n g0
     exact V (by simp only [execOp, hop] <;> rfl) h1 h2
    ·cases hc
   ·cases hc
  ·obtain ⟨z, hz, rfl⟩ := Jdp hc
   simp only [Jz] at he
   injection he with he
   simp only [Aa] at he
   obtain ⟨rfl, rfl⟩ := he
   obtain ⟨cv, w', h1, h2⟩ := Ju4 hs.hp hz g0
   exact V (by simp only [execOp, hop] <;> rfl) h1 h2
 case box e x =>
  obtain ⟨y, hy, rfl⟩ := Jdp hc
  simp only [Jz] at he
  split at he
  ·rename_i c hcc
   injection he with he
   simp only [Aa] at he
   obtain ⟨rfl, rfl⟩ := he
   obtain ⟨cv, w', h1, h2⟩ := J1b (P := P) (e := e) hs.hp (K7 hs hy) hcc g0
   exact V (by simp only [execOp, hop] <;> rfl) h1 h2
  ·cases he
 case build t ps =>
  split at hc
  ·rename_i z fs hz hu
   split at hc
   ·rename_i pl hpl
    obtain ⟨l, hl, rfl⟩ := Jdp hc
    simp only [Jz] at he
    split at he
    ·rename_i r hr
     injection he with he
     simp only [Aa] at he
     obtain ⟨rfl, rfl⟩ := he
     obtain ⟨cv, h1, h2⟩ := Jpl (cp := ps.map fun (i, x) => (i, a.eval x)) hz (.inl ⟨fs, pl, hu, hpl, by simpa using Jh7 hs hl⟩) hr
     exact V0 (by simp only [execOp, hop] <;> rfl) h1 h2 rfl
    ·cases he
   ·cases hc
  ·rename_i z n e hz hu
   split at hc
   ·rename_i i hi
    obtain ⟨l, hl, rfl⟩ := Jdp hc
    simp only [Jz] at he
    split at he
    ·rename_i r hr
     injection he with he
     simp only [Aa] at he
     obtain ⟨rfl, rfl⟩ := he
     obtain ⟨cv, h1, h2⟩ := Jpl (cp := ps.map fun (i, x) => (i, a.eval x)) hz (.inr ⟨n, e, i, hu, hi, by simpa using Jh7 hs hl⟩) hr
     exact V0 (by simp only [execOp, hop] <;> rfl) h1 h2 rfl
    ·cases he
   ·cases hc
  ·cases hc
 case buildSlice t n ps =>
  split at hc
  ·rename_i e hu
   split at hc
   ·rename_i i z hi hz
    split at hc
    ·rename_i hb
     obtain ⟨b1, b3⟩ := hb
     split at hc
     ·obtain ⟨l, hl, rfl⟩ := Jdp hc
      simp only [Jz] at he
      split at he
      ·rename_i r hr
       split at he
       ·rename_i hfl
        injection he with he
        simp only [Aa] at he
        obtain ⟨rfl, rfl⟩ := he
        obtain ⟨cv, w', h1, h2⟩ := Jop (cp := ps.map fun (i, x) => (i, a.eval x)) hs.hp hu hi hz b1 b3 (by simpa using Jh7 hs hl) hr g0
        exact V (by simp only [execOp, hop] <;> rfl) h1 (bslz_ran hfl.1 hfl.2 h2)
       ·cases he
      ·cases he
     ·obtain ⟨l, hl, rfl⟩ := Jdp hc
      simp only [Jz] at he
      split at he
      ·rename_i r hr
       injection he with he
       simp only [Aa] at he
       obtain ⟨rfl, rfl⟩ := he
       obtain ⟨cv, w', h1, h2⟩ := Jop (cp := ps.map fun (i, x) => (i, a.eval x)) hs.hp hu hi hz b1 b3 (by simpa using Jh7 hs hl) hr g0
       exact V (by simp only [execOp, hop] <;> rfl) h1 h2
      ·cases he
    ·cases hc
   ·cases hc
  ·cases hc
 case load t x =>
  split at hc
  ·rename_i ag n y h1 h2 h3
   split at hc
   ·rename_i hn
    injection hc with hc
    subst hc
    simp only [Jz] at he
    obtain ⟨e1, e2⟩ := hOut he
    obtain ⟨cv, r1, r2⟩ := Jrb (P := P) hs.hp h1 h2 hn (K7 hs h3) e1
    exact V0 (by simp only [execOp, hop] <;> rfl) r1 r2 e2
   ·cases hc
  ·cases hc
 case makeMap t r =>
  cases r with
  | some x => simp at hc
  | none =>
   simp only at hc
   split at hc
   ·rename_i kt et hu
    injection hc with hc
    subst hc
    simp only [Jz] at he
    injection he with he
    simp only [Aa] at he
    obtain ⟨rfl, rfl⟩ := he
    obtain ⟨cv, w', r1, r2⟩ := J9e (P := P) hs.hp hu g0
    exact Jc6 (cv := cv) (w' := w') (by simp [execOp, hop, r1]) (K _ _ r2)
   ·cases hc
 case lookup t x k ok =>
  split at hc
  ·rename_i kt et hu
   split at hc
   ·rename_i sh ag z h1 h2 h3
    split at hc
    ·rename_i x' k' h4 h5
     injection hc with hc
     subst hc
     simp only [Jz] at he
     obtain ⟨e1, e2⟩ := hOut he
     obtain ⟨cv, r1, r2⟩ := Jzi (P := P) hs.hp hu h1 h2 h3 (K7 hs h4) (K7 hs h5) e1
     exact V0 (cv := cv) (by simp only [execOp, hop] <;> rfl) r1 r2 e2
    ·cases hc
   ·cases hc
  ·cases hc
 case mapUpdate t x k v' =>
  split at hc
  ·rename_i kt et hu
   split at hc
   ·rename_i sh ag h1 h2
    split at hc
    ·rename_i x' k' v'' h4 h5 h6
     injection hc with hc
     subst hc
     simp only [Jz] at he
     split at he
     ·rename_i hh hst
      injection he with he
      simp only [Aa] at he
      obtain ⟨rfl, rfl⟩ := he
      obtain ⟨w', r1, S', μ', -, r2⟩ := Jrr (P := P) hs.hp hu h1 h2 (K7 hs h4) (K7 hs h5) (K7 hs h6) hst
      exact wp_skip (by simp [execOp, hop, r1]) (K _ _ ⟨S', μ', .any _, r2⟩)
     ·cases he
    ·cases hc
   ·cases hc
  ·cases hc
 case insert t x k v' =>
  split at hc
  ·rename_i kt et hu
   split at hc
   ·rename_i sh ag h1 h2
    split at hc
    ·rename_i x' k' v'' h4 h5 h6
     injection hc with hc
     subst hc
     simp only [Jz] at he
     split at he
     ·rename_i hh hst
      injection he with he
      simp only [Aa] at he
      obtain ⟨rfl, rfl⟩ := he
      obtain ⟨w', r1, S', μ', -, r2⟩ := Jrr (P := P) hs.hp hu h1 h2 (K7 hs h4) (K7 hs h5) (K7 hs h6) hst
      exact wp_skip (by simp [execOp, hop, r1]) (K _ _ ⟨S', μ', .any _, r2⟩)
     ·cases he
    ·cases hc
   ·cases hc
  ·cases hc
 case store t x y =>
  split at hc
  ·rename_i n x' y' h1 h2 h3
   injection hc with hc
   subst hc
   simp only [Jz] at he
   split at he
   ·rename_i hh hst
    injection he with he
    simp only [Aa] at he
    obtain ⟨rfl, rfl⟩ := he
    obtain ⟨w', r1, r2⟩ := Jvo (P := P) hs.hp h1 (K7 hs h2) (K7 hs h3) hst
    exact wp_skip (by simp [execOp, hop, r1]) (K _ _ r2)
   ·cases he
  ·cases hc
 case nilCheck x =>
  obtain ⟨y, hy, rfl⟩ := Jdp hc
  have hr := K7 hs hy
  simp only [Jz] at he
  split at he
  ·rename_i g ver off hx
   split at he
   ·rename_i hcur
    injection he with he
    simp only [Aa] at he
    obtain ⟨rfl, rfl⟩ := he
    rw [hx] at hr
    have e := hr.ptr_inv hcur
    exact Jc6 (cv := a.eval x) (w' := w) (by simp [execOp, hop, e]) (K _ _ (Ran.same hs.hp hr))
   ·cases he
  ·rename_i l hx
   injection he with he
   simp only [Aa] at he
   obtain ⟨rfl, rfl⟩ := he
   rw [hx] at hr
   have : ∃ ad, a.eval x = .pointer (some ad) := by
    generalize a.eval x = c at hr
    cases hr with | pure hp => cases hp; exact ⟨_, rfl⟩
   obtain ⟨ad, e⟩ := this
   exact Jc6 (cv := a.eval x) (w' := w) (by simp [execOp, hop, e]) (K _ _ (Ran.same hs.hp hr))
  ·rename_i f caps hx
   injection he with he
   simp only [Aa] at he
   obtain ⟨rfl, rfl⟩ := he
   rw [hx] at hr
   obtain ⟨cs, e, _⟩ := hr.fn_inv
   exact Jc6 (cv := a.eval x) (w' := w) (by simp [execOp, hop, e]) (K _ _ (Ran.same hs.hp hr))
  ·cases he
 case binOp op t x y yt =>
  split at hc
  ·rename_i k x' y' hu h1 h2
   have fin : lop = .ibin op x' y' → o.wp P a w next Q := by
    rintro rfl
    simp only [Jz] at he
    split at he
    ·rename_i k1 n1 k2 n2 hx hy
     split at he
     ·rename_i hk
      subst hk
      obtain ⟨e1, e2⟩ := hOut he
      obtain ⟨cv, r1, r2⟩ := Jzq (w := w) (S := S) (h := σ.h) (μ := μ) (P := P) (t := t) e1
      have hx' := K7 hs h1
      have hy' := K7 hs h2
      rw [hx] at hx'
      rw [hy] at hy'
      refine V0 (cv := cv) (by simp only [execOp, hop] <;> rfl) ?_ r2 e2
      rw [hx'.int_inv, hy'.int_inv]
      simp [Jpy, r1]
     ·cases he
    ·cases he
   have finS : ∀ b, op = b → (∃ q, P.underlying yt = some (.int q)) → lop = .shf b x' y' → o.wp P a w next Q := by
    rintro b rfl hyt rfl
    simp only [Jz] at he
    split at he
    ·rename_i k1 n1 k2 n2 hx hy
     obtain ⟨e1, e2⟩ := hOut he
     have hx' := K7 hs h1
     have hy' := K7 hs h2
     rw [hx] at hx'
     rw [hy] at hy'
     obtain ⟨cv, r1, r2⟩ : ∃ cv, (binOp op t (.int k1 n1) (.int k2 n2)).run P w = .ok cv w ∧ Rep w S σ.h μ v cv := by
      unfold shfV at e1
      split at e1
      ·cases e1
      ·rename_i hb
       split at e1
       ·injection e1 with e1
        have e1' : v = .int k1 (k1.wrap (n1 * 2 ^ min n2.toNat k1.bits)) := e1.symm
        exact ⟨.int k1 (k1.wrap (n1 * 2 ^ min n2.toNat k1.bits)), by simp [binOp_shl, Op.shift, hb], by rw [e1']; exact .pure (.int _ _)⟩
       ·injection e1 with e1
        have e1' : v = .int k1 (n1.fdiv (2 ^ min n2.toNat k1.bits)) := e1.symm
        exact ⟨.int k1 (n1.fdiv (2 ^ min n2.toNat k1.bits)), by simp [binOp_shr, Op.shift, hb], by rw [e1']; exact .pure (.int _ _)⟩
       ·cases e1
     refine V0 (cv := cv) (by simp only [execOp, hop] <;> rfl) ?_ r2 e2
     rw [hx'.int_inv, hy'.int_inv]
     simp [Jpy, r1]
    ·cases he
   split at hc
   ·split at hc
    ·rename_i q hq; injection hc with hc; exact finS .shl rfl ⟨q, hq⟩ hc.symm
    ·cases hc
   ·split at hc
    ·rename_i q hq; injection hc with hc; exact finS .shr rfl ⟨q, hq⟩ hc.symm
    ·cases hc
   ·injection hc with hc; exact fin hc.symm
  ·rename_i e x' hu h1 h2
   have fin : ∀ ne, op = (if ne then .neq else .eql) → lop = .isnil ne x' → o.wp P a w next Q := by
    rintro ne rfl rfl
    simp only [Jz] at he
    split at he
    ·rename_i b hb
     injection he with he
     simp only [Aa] at he
     obtain ⟨rfl, rfl⟩ := he
     obtain ⟨r1, r2⟩ := Jwn (X := x) (Y := y) (ne := ne) hu (K7 hs h1) (by simpa [St.ev] using K7 hs h2) hb
     refine V0 (cv := .bool (if ne then !b else b)) (by simp only [execOp, hop] <;> rfl) ?_ (.pure (.bool _)) rfl
     simp [r1, r2]
    ·cases he
   split at hc
   ·injection hc with hc; exact fin false rfl hc.symm
   ·injection hc with hc; exact fin true rfl hc.symm
   ·cases hc
  ·rename_i d x' y' hni hns hu h1 h2
   have hnk : ∀ k, P.underlying t ≠ some (.int k) := fun k e => by
    rw [hu] at e; injection e with e; exact hni k e
   have fin : ∀ ne ag sh, eqT P t = some (ag, sh) → op = (if ne then .neq else .eql) → lop = .eqv ne ag sh x' y' → o.wp P a w next Q := by
    rintro ne ag sh ht rfl rfl
    simp only [Jz] at he
    split at he
    ·rename_i b hb
     injection he with he
     simp only [Aa] at he
     obtain ⟨rfl, rfl⟩ := he
     obtain ⟨r1, r2⟩ := J7u (X := x) (Y := y) (ne := ne) ht hnk (K7 hs h1) (K7 hs h2) hb
     refine V0 (cv := .bool (if ne then !b else b)) (by simp only [execOp, hop] <;> rfl) ?_ (.pure (.bool _)) rfl
     simp [r1, r2]
    ·cases he
   split at hc
   ·split at hc
    ·rename_i ag sh ht; injection hc with hc; exact fin false ag sh ht rfl hc.symm
    ·cases hc
   ·split at hc
    ·rename_i ag sh ht; injection hc with hc; exact fin true ag sh ht rfl hc.symm
    ·cases hc
   ·cases hc
  ·cases hc
 case unOp op t x =>
  obtain ⟨y, hy, rfl⟩ := Jdp hc
  have hr := K7 hs hy
  simp only [Jz] at he
  split at he
  ·rename_i b hx
   injection he with he
   simp only [Aa] at he
   obtain ⟨rfl, rfl⟩ := he
   rw [hx] at hr
   refine V0 (cv := .bool !b) (by simp only [execOp, hop] <;> rfl) ?_ (.pure (.bool _)) rfl
   rw [hr.bool_inv]; rfl
  ·rename_i k n hx
   injection he with he
   simp only [Aa] at he
   obtain ⟨rfl, rfl⟩ := he
   rw [hx] at hr
   refine V0 (cv := .int k (k.wrap (0 - n))) (by simp only [execOp, hop] <;> rfl) ?_ (.pure (.int _ _)) rfl
   rw [hr.int_inv]; rfl
  ·cases he
 case convert s d x =>
  split at hc
  ·rename_i k1 k2 y h1 h2 h3
   injection hc with hc
   subst hc
   simp only [Jz] at he
   split at he
   ·rename_i k n hx
    injection he with he
    simp only [Aa] at he
    obtain ⟨rfl, rfl⟩ := he
    have hr := K7 hs h3
    rw [hx] at hr
    refine V0 (by simp only [execOp, hop] <;> rfl) ?_ (.pure (.int _ _)) rfl
    rw [hr.int_inv]
    exact Jyv ⟨_, h1⟩ h2
   ·cases he
  ·cases hc
 case makeFunc fn first caps =>
  cases fn with
  | func f =>
   simp only at hc
   split at hc
   ·rename_i h0
    obtain ⟨l, hl, rfl⟩ := Jdp hc
    simp only [Jz] at he
    injection he with he
    simp only [Aa] at he
    obtain ⟨rfl, rfl⟩ := he
    obtain ⟨r1, r2⟩ := Jm3 hs hl
    have hf : first = #[] := Array.eq_empty_of_size_eq_zero h0
    subst hf
    refine V0 (cv := .func (.func f) #[] (caps.map a.eval)) (by simp only [execOp, hop] <;> rfl) (by simp [Instr.makeFunc]) (.fn f _ _ r1.symm r2) rfl
   ·cases hc
  | _ => cases hc
 case makeSlice t l c =>
  split at hc
  ·rename_i e hu
   split at hc
   ·rename_i i z l' c' hi hz h1 h2
    split at hc
    ·rename_i hi0
     injection hc with hc
     subst hc
     simp only [Jz] at he
     split at he
     ·rename_i k n k' m hx hy
      split at he
      ·rename_i hb
       obtain ⟨b1, b2, b3, b4⟩ := hb
       injection he with he
       simp only [Aa] at he
       obtain ⟨rfl, rfl⟩ := he
       have hx' := K7 hs h1
       have hy' := K7 hs h2
       rw [hx] at hx'
       rw [hy] at hy'
       obtain ⟨cv, w', r1, r2⟩ := J2e (k := k) (k' := k') hs.hp hu hi hz hi0 b1 b2 b3 b4 g0
       refine V (by simp only [execOp, hop] <;> rfl) ?_ r2
       rw [hx'.int_inv, hy'.int_inv]
       exact r1
      ·cases he
     ·cases he
    ·cases hc
   ·cases hc
  ·cases hc
 case slice t x lo hi mx =>
  cases mx with
  | some _ => cases hc
  | none =>
   simp only at hc
   split at hc
   ·rename_i e hu
    split at hc
    ·rename_i n x' hn h1
     have fin : ∀ lo' hi', lop = .slc n x' lo' hi' → Jro w S σ.h μ (lo'.map σ.ev) (lo.map a.eval) → Jro w S σ.h μ (hi'.map σ.ev) (hi.map a.eval) → o.wp P a w next Q := by
      rintro lo' hi' rfl r1 r2
      simp only [Jz] at he
      obtain ⟨e1, e2⟩ := hOut he
      obtain ⟨cv, s1, s2⟩ := Jvr (P := P) hu hn (K7 hs h1) r1 r2 e1
      exact V0 (by simp only [execOp, hop] <;> rfl) s1 s2 e2
     split at hc
     ·injection hc with hc; exact fin none none hc.symm trivial trivial
     ·split at hc
      ·rename_i p q hp; injection hc with hc; exact fin (some q) none hc.symm (K7 hs hp) trivial
      ·cases hc
     ·split at hc
      ·rename_i p q hp; injection hc with hc; exact fin none (some q) hc.symm trivial (K7 hs hp)
      ·cases hc
     ·split at hc
      ·rename_i p q p' q' hp hq; injection hc with hc; exact fin (some p') (some q') hc.symm (K7 hs hp) (K7 hs hq)
      ·cases hc
    ·cases hc
   ·rename_i n el hu
    split at hc
    ·split at hc
     ·rename_i sz x' hz h1
      injection hc with hc
      subst hc
      simp only [Jz] at he
      obtain ⟨e1, e2⟩ := hOut he
      obtain ⟨cv, s1, s2⟩ := Jz9 (P := P) hs.hp hu hz (K7 hs h1) e1
      exact V0 (by simp only [execOp, hop] <;> rfl) s1 s2 e2
     ·cases hc
    ·cases hc
   ·cases hc
 case fieldAddr s x f =>
  split at hc
  ·rename_i fs hu
   split at hc
   ·rename_i fd x' hf h1
    split at hc
    ·rename_i n hn
     split at hc
     ·rename_i hn0
      injection hc with hc
      subst hc
      simp only [Jz] at he
      obtain ⟨e1, e2⟩ := hOut he
      obtain ⟨cv, r1, r2⟩ := Jwd (P := P) hu hf hn hn0 (K7 hs h1) e1
      exact V0 (by simp only [execOp, hop] <;> rfl) r1 r2 e2
     ·cases hc
    ·cases hc
   ·cases hc
  ·cases hc
 case field s x f =>
  split at hc
  ·rename_i fs hu
   split at hc
   ·rename_i fd x' hf h1
    split at hc
    ·rename_i ag n hag hn
     split at hc
     ·rename_i hn0
      injection hc with hc
      subst hc
      simp only [Jz] at he
      split at he
      ·rename_i l hx
       obtain ⟨e1, e2⟩ := hOut he
       have hr := K7 hs h1
       rw [hx] at hr
       obtain ⟨cv, r1, r2⟩ := J8d (P := P) hu hf hag hn hn0 hr e1
       exact V0 (by simp only [execOp, hop] <;> rfl) r1 r2 e2
      ·cases he
     ·cases hc
    ·cases hc
   ·cases hc
  ·cases hc
 case indexAddr t x i =>
  split at hc
  ·rename_i e x' i' hu h1 h2
   split at hc
   ·rename_i n hn
    injection hc with hc
    subst hc
    simp only [Jz] at he
    obtain ⟨e1, e2⟩ := hOut he
    obtain ⟨cv, r1, r2⟩ := Jvs (P := P) hu hn (K7 hs h1) (K7 hs h2) e1
    exact V0 (by simp only [execOp, hop] <;> rfl) r1 r2 e2
   ·cases hc
  ·rename_i len e x' i' hu h1 h2
   split at hc
   ·rename_i n hn
    injection hc with hc
    subst hc
    simp only [Jz] at he
    obtain ⟨e1, e2⟩ := hOut he
    obtain ⟨cv, r1, r2⟩ := Jtf (P := P) hu hn (K7 hs h1) (K7 hs h2) e1
    exact V0 (by simp only [execOp, hop] <;> rfl) r1 r2 e2
   ·cases hc
  ·cases hc
 case index t x i =>
  split at hc
  ·rename_i len e x' i' hu h1 h2
   split at hc
   ·rename_i ag n hag hn
    split at hc
    ·rename_i hn0
     injection hc with hc
     subst hc
     simp only [Jz] at he
     obtain ⟨e1, e2⟩ := hOut he
     obtain ⟨cv, r1, r2⟩ := J0q (P := P) hu hag hn hn0 (K7 hs h1) (K7 hs h2) e1
     exact V0 (by simp only [execOp, hop] <;> rfl) r1 r2 e2
    ·cases hc
   ·cases hc
  ·cases hc
 case extract x i =>
  obtain ⟨y, hy, rfl⟩ := Jdp hc
  simp only [Jz] at he
  split at he
  ·rename_i l hx
   obtain ⟨e1, e2⟩ := hOut he
   have hr := K7 hs hy
   rw [hx] at hr
   obtain ⟨cv, r1, r2⟩ := J81 (P := P) hr e1
   exact V0 (by simp only [execOp, hop] <;> rfl) r1 r2 e2
  ·cases he
 case call c =>
  obtain ⟨callee, args, argTypes⟩ := c
  simp only at hc
  split at hc
  ·-- len
   split at hc
   ·rename_i x t hargs htys
    have ha : args = #[x] := by rw [← Array.toList_inj]; exact hargs
    have ht : argTypes = #[t] := by rw [← Array.toList_inj]; exact htys
    subst ha ht
    split at hc
    ·rename_i e y hu h1
     injection hc with hc
     subst hc
     simp only [Jz] at he
     split at he
     ·rename_i n hn
      injection he with he
      simp only [Aa] at he
      obtain ⟨rfl, rfl⟩ := he
      have := J3o (P := P) (ty := o.type) hu (K7 hs h1) hn
      exact Jc6 (cv := .int .i64 n) (w' := w) (by simp [execOp, hop, resolve, invoke, builtin, this]) (K _ _ (Ran.same hs.hp (.pure (.int _ _))))
     ·cases he
    ·rename_i k e y hu h1
     injection hc with hc
     subst hc
     simp only [Jz] at he
     split at he
     ·rename_i n hn
      injection he with he
      simp only [Aa] at he
      obtain ⟨rfl, rfl⟩ := he
      have := Jym (P := P) (ty := o.type) hu hs.hp (K7 hs h1) hn
      exact Jc6 (cv := .int .i64 n) (w' := w) (by simp [execOp, hop, resolve, invoke, builtin, this]) (K _ _ (Ran.same hs.hp (.pure (.int _ _))))
     ·cases he
    ·rename_i y hu h1
     injection hc with hc
     subst hc
     simp only [Jz] at he
     split at he
     ·rename_i n hn
      injection he with he
      simp only [Aa] at he
      obtain ⟨rfl, rfl⟩ := he
      have := Jyx (P := P) (ty := o.type) hu (K7 hs h1) hn
      exact Jc6 (cv := .int .i64 n) (w' := w) (by simp [execOp, hop, resolve, invoke, builtin, this]) (K _ _ (Ran.same hs.hp (.pure (.int _ _))))
     ·cases he
    ·cases hc
   ·cases hc
  ·-- append
   split at hc
   ·rename_i x y t t' hargs htys
    have ha : args = #[x, y] := by rw [← Array.toList_inj]; exact hargs
    have ht : argTypes = #[t, t'] := by rw [← Array.toList_inj]; exact htys
    subst ha ht
    split at hc
    ·rename_i htt
     subst htt
     split at hc
     ·rename_i e x' y' hu h1 h2
      split at hc
      ·rename_i i z hi hz
       split at hc
       ·rename_i hi0
        split at hc
        ·injection hc with hc
         subst hc
         simp only [Jz] at he
         split at he
         ·rename_i v1 h1' ha
          split at he
          ·rename_i u ns hsn
           injection he with he
           simp only [Aa] at he
           obtain ⟨rfl, rfl⟩ := he
           obtain ⟨cv, w', r1, S1, μ1, p1, p2, p3, p4⟩ := Jtw (P := P) (ty := o.type) hs.hp hu hi hz hi0 (K7 hs h1) (K7 hs h2) ha
           obtain ⟨S2, μ2, q1, q2, q3, q4⟩ := Jsw (σ := ⟨fun _ => .any, h1'⟩) p2 hsn p1
           exact Jc6 (cv := cv) (w' := w') (by simp [execOp, hop, resolve, invoke, builtin, r1]) (K _ _ ⟨S2, μ2, q1, q2, p3.trans q3, p4.trans q4⟩)
          ·cases he
         ·cases he
        ·injection hc with hc
         subst hc
         simp only [Jz] at he
         obtain ⟨cv, w', r1, r2⟩ := Jtw (P := P) (ty := o.type) hs.hp hu hi hz hi0 (K7 hs h1) (K7 hs h2) he
         exact Jc6 (cv := cv) (w' := w') (by simp [execOp, hop, resolve, invoke, builtin, r1]) (K _ _ r2)
       ·cases hc
      ·cases hc
     ·cases hc
    ·cases hc
   ·cases hc
  ·-- delete
   split at hc
   ·rename_i x k t r hargs htys
    have ha : args = #[x, k] := by rw [← Array.toList_inj]; exact hargs
    have ht : argTypes[0]? = some t := by
     rw [← Array.getElem?_toList, htys]; rfl
    subst ha
    split at hc
    ·rename_i kt et hu
     split at hc
     ·rename_i sh ag h1 h2
      split at hc
      ·rename_i x' k' h4 h5
       injection hc with hc
       subst hc
       simp only [Jz] at he
       split at he
       ·rename_i hh hst
        injection he with he
        simp only [Aa] at he
        obtain ⟨rfl, rfl⟩ := he
        obtain ⟨w', r1, r2⟩ := Jy1 (P := P) (ty := o.type) hs.hp ht hu h1 h2 (K7 hs h4) (K7 hs h5) hst
        exact Jc6 (cv := .tuple #[]) (w' := w') (by simp [execOp, hop, resolve, invoke, builtin, r1]) (K _ _ r2)
       ·cases he
      ·cases hc
     ·cases hc
    ·cases hc
   ·cases hc
  ·-- max
   split at hc
   ·rename_i x y hargs
    have ha : args = #[x, y] := by rw [← Array.toList_inj]; exact hargs
    subst ha
    split at hc
    ·rename_i x' y' h1 h2
     injection hc with hc
     subst hc
     simp only [Jz] at he
     split at he
     ·rename_i k1 n1 k2 n2 hx hy
      injection he with he
      simp only [Aa] at he
      obtain ⟨rfl, rfl⟩ := he
      have hx' := K7 hs h1
      have hy' := K7 hs h2
      rw [hx] at hx'
      rw [hy] at hy'
      refine Jc6 (cv := .int k1 (if n2 > n1 then n2 else n1)) (w' := w) (by simp [execOp, hop, resolve, invoke, builtin, hx'.int_inv, hy'.int_inv, Builtin.max_, Builtin.max2]) (K _ _ (Ran.same hs.hp ?_))
      simp only [mmV, if_true]
      exact .pure (.int _ _)
     ·cases he
    ·cases hc
   ·cases hc
  ·-- min
   split at hc
   ·rename_i x y hargs
    have ha : args = #[x, y] := by rw [← Array.toList_inj]; exact hargs
    subst ha
    split at hc
    ·rename_i x' y' h1 h2
     injection hc with hc
     subst hc
     simp only [Jz] at he
     split at he
     ·rename_i k1 n1 k2 n2 hx hy
      injection he with he
      simp only [Aa] at he
      obtain ⟨rfl, rfl⟩ := he
      have hx' := K7 hs h1
      have hy' := K7 hs h2
      rw [hx] at hx'
      rw [hy] at hy'
      refine Jc6 (cv := .int k1 (if n2 < n1 then n2 else n1)) (w' := w) (by simp [execOp, hop, resolve, invoke, builtin, hx'.int_inv, hy'.int_inv, Builtin.min_, Builtin.min2]) (K _ _ (Ran.same hs.hp ?_))
      simp only [mmV, Bool.false_eq_true, if_false]
      exact .pure (.int _ _)
     ·cases he
    ·cases hc
   ·cases hc
  ·-- a call
   rename_i f
   split at hc
   ·rename_i l hl
    injection hc with hc
    obtain ⟨r1, r2⟩ := Jm3 hs hl
    have enter : FnOK P f → (execOp a.eval o).run P w = .ok (.enter f (args.map a.eval)) w := fun hf => by
     simp [execOp, hop, resolve, Act.eval, Deferred.ofValue, invoke, Jix hf]
    split at hc
    ·subst hc
     simp only [Jz] at he
     split at he
     ·rename_i vs ns hsn
      split at he
      ·rename_i u h0 hv
       split at he
       ·rename_i hcase
        injection he with he
        simp only [Aa] at he
        obtain ⟨rfl, rfl⟩ := he
        exact Jkl (enter (hcall.fn _ _ _ _ hv)) (Jtq hcall hs.hp hsn hv r1 r2) fun e w' ⟨cv, he, hr, _⟩ => ⟨cv, he, K _ _ (hr hcase)⟩
       ·cases he
      ·cases he
     ·cases he
    ·subst hc
     simp only [Jz] at he
     split at he
     ·rename_i vs ns hsn
      split at he
      ·rename_i u h0 hv
       injection he with he
       simp only [Aa] at he
       obtain ⟨rfl, rfl⟩ := he
       exact Jkl (enter (hcall.fn _ _ _ _ hv)) (Jtq hcall hs.hp hsn hv r1 r2) fun e w' ⟨cv, he, _, hr⟩ => ⟨cv, he, K _ _ hr⟩
      ·cases he
     ·cases he
    ·subst hc
     simp only [Jz] at he
     obtain ⟨c1, c2⟩ := Jxf hcall hs.hp he r1 r2
     exact Jkl (enter c1) c2 fun e w' ⟨cv, he, hr⟩ => ⟨cv, he, K _ _ hr⟩
    ·subst hc
     simp only [Jz] at he
     obtain ⟨c1, c2⟩ := call_q hcall hs.hp he r1 r2
     exact Jkl (enter c1) c2 fun e w' ⟨cv, he, hr⟩ => ⟨cv, he, K _ _ hr⟩
   ·cases hc
  ·-- a call of a value
   rename_i x
   split at hc
   ·obtain ⟨l, hl, rfl⟩ := Jdp hc
    simp only [Jz] at he
    split at he
    ·rename_i f caps hfn
     have hx := hs.fr x
     rw [show σ.f x = .fn f caps from hfn] at hx
     obtain ⟨cs, hcs, hcl, hcr⟩ := hx.fn_inv
     obtain ⟨r1, r2⟩ := Jm3 hs hl
     have hargs : ∀ i y, (l.map σ.ev ++ caps)[i]? = some y → Rep w S σ.h μ y ((args.map a.eval ++ cs).getD i undef) := by
      intro i y hi
      by_cases hlt : i < (l.map σ.ev).length
      ·rw [Ac hlt] at hi
       have e : (args.map a.eval ++ cs).getD i undef = (args.map a.eval).getD i undef := by
        simp only [Array.getD_eq_getD_getElem?]
        rw [Array.getElem?_append_left (by omega)]
       rw [e]
       exact r2 i y hi
      ·rw [Ab (by omega)] at hi
       have e : (args.map a.eval ++ cs).getD i undef = cs.getD (i - (l.map σ.ev).length) undef := by
        simp only [Array.getD_eq_getD_getElem?]
        rw [Array.getElem?_append_right (by omega), r1]
       rw [e]
       exact hcr _ y hi
     obtain ⟨c1, c2⟩ := Jxf hcall hs.hp he (cargs := args.map a.eval ++ cs) (by simp only [Array.size_append, List.length_append, r1, hcl]) hargs
     have hrun : (execOp a.eval o).run P w = .ok (.enter f (args.map a.eval ++ cs)) w := by
      have hev : a.eval (.tmp x) = .func (.func f) #[] cs := hcs
      simp [execOp, hop, resolve, hev, Deferred.ofValue, invoke, Jix c1]
     exact Jkl hrun c2 fun e w' ⟨cv, he, hr⟩ => ⟨cv, he, K _ _ hr⟩
    ·cases he
   ·obtain ⟨l, hl, rfl⟩ := Jdp hc
    simp only [Jz] at he
    split at he
    ·rename_i f caps hfn
     have hx := hs.fr x
     rw [show σ.f x = .fn f caps from hfn] at hx
     obtain ⟨cs, hcs, hcl, hcr⟩ := hx.fn_inv
     obtain ⟨r1, r2⟩ := Jm3 hs hl
     have hargs : ∀ i y, (l.map σ.ev ++ caps)[i]? = some y → Rep w S σ.h μ y ((args.map a.eval ++ cs).getD i undef) := by
      intro i y hi
      by_cases hlt : i < (l.map σ.ev).length
      ·rw [Ac hlt] at hi
       have e : (args.map a.eval ++ cs).getD i undef = (args.map a.eval).getD i undef := by
        simp only [Array.getD_eq_getD_getElem?]
        rw [Array.getElem?_append_left (by omega)]
       rw [e]
       exact r2 i y hi
      ·rw [Ab (by omega)] at hi
       have e : (args.map a.eval ++ cs).getD i undef = cs.getD (i - (l.map σ.ev).length) undef := by
        simp only [Array.getD_eq_getD_getElem?]
        rw [Array.getElem?_append_right (by omega), r1]
       rw [e]
       exact hcr _ y hi
     obtain ⟨c1, c2⟩ := call_q hcall hs.hp he (cargs := args.map a.eval ++ cs) (by simp only [Array.size_append, List.length_append, r1, hcl]) hargs
     have hrun : (execOp a.eval o).run P w = .ok (.enter f (args.map a.eval ++ cs)) w := by
      have hev : a.eval (.tmp x) = .func (.func f) #[] cs := hcs
      simp [execOp, hop, resolve, hev, Deferred.ofValue, invoke, Jix c1]
     exact Jkl hrun c2 fun e w' ⟨cv, he, hr⟩ => ⟨cv, he, K _ _ hr⟩
    ·cases he
   obtain ⟨l, hl, rfl⟩ := Jdp hc
   simp only [Jz] at he
   split at he
   ·rename_i f caps vs ns hsn
    split at he
    ·rename_i u h0 hv
     split at he
     ·rename_i hcase
      injection he with he
      simp only [Aa] at he
      obtain ⟨rfl, rfl⟩ := he
      have hx := hs.fr x
      obtain ⟨r1, r2⟩ := Jm3 hs hl
      have hsn' := hsn
      unfold Jjk at hsn'
      split at hsn'
      ·rename_i ps hps
       injection hsn' with hsn'
       simp only [Aa] at hsn'
       obtain ⟨e1, e2⟩ := hsn'
       obtain ⟨m1, m2⟩ := Jgd hps
       obtain ⟨p, hp1, hp2⟩ := m2 0 (σ.ev (.t x)) rfl
       have hp0 : p.1 = .fn f caps := by
        have : (ps.map (·.1))[0]? = some p.1 := by simp [List.getElem?_map, hp1]
        rw [e1] at this
        simpa using this.symm
       have hfn : ∃ cs : Array Value, a.tmps.getD x undef = .func (.func f) #[] cs := by
        obtain ⟨l', hl'⟩ := snap_fn (k := depth) (v := σ.f x) (f := f) (caps := caps) (ns := p.2) (h := σ.h) (by rw [← hp0]; exact hp2)
        rw [hl'] at hx
        obtain ⟨cs, e, _⟩ := hx.fn_inv
        exact ⟨cs, e⟩
       obtain ⟨cs, hcs⟩ := hfn
       obtain ⟨f1, f2, f3⟩ := Jk6 hs.hp (Jmh hsn)
       obtain ⟨n1, n2⟩ := Jqu hs.hp (S' := fun b => S b ∨ ∃ g ∈ ns, μ.b g = b) (fun b hb => .inl hb) hsn (fun g hg => .inr ⟨g, hg, rfl⟩)
       have hcap : RepP w (fun b => S b ∨ ∃ g ∈ ns, μ.b g = b) (.fn f caps) (.func (.func f) #[] cs) := by
        obtain ⟨x0, hx0, hxr⟩ := n2 0 (.fn f caps) rfl
        simp at hx0
        subst hx0
        refine hxr _ ?_
        have := hs.fr x
        rw [hcs] at this
        exact this
       have hargs : ∀ i y, (vs ++ caps)[i]? = some y → RepP w (fun b => S b ∨ ∃ g ∈ ns, μ.b g = b) y ((args.map a.eval ++ cs).getD i undef) := by
        intro i y hi
        have hvl : vs.length = (args.map a.eval).size := by simp at n1; rw [r1]; simp; omega
        by_cases hlt : i < vs.length
        ·rw [Ac hlt] at hi
         obtain ⟨x0, hx0, hxr⟩ := n2 (i + 1) y (by simpa using hi)
         have e : (args.map a.eval ++ cs).getD i undef = (args.map a.eval).getD i undef := by
          simp only [Array.getD_eq_getD_getElem?]
          rw [Array.getElem?_append_left (by omega)]
         rw [e]
         exact hxr _ (r2 i x0 (by simpa using hx0))
        ·rw [Ab (by omega)] at hi
         have e : (args.map a.eval ++ cs).getD i undef = cs.getD (i - vs.length) undef := by
          simp only [Array.getD_eq_getD_getElem?]
          rw [Array.getElem?_append_right (by omega), hvl]
         rw [e]
         cases hcap with
         | fn _ _ _ hl hr => exact hr _ y hi
       have hcl : caps.length = cs.size := by cases hcap with | fn _ _ _ hl hr => exact hl
       have hrun : (execOp a.eval o).run P w = .ok (.enter f (args.map a.eval ++ cs)) w := by
        have hev : a.eval (.tmp x) = .func (.func f) #[] cs := hcs
        simp [execOp, hop, resolve, hev, Deferred.ofValue, invoke, Jix (hcall.fn _ _ _ _ hv)]
       refine Jkl hrun (hcall.pure f (vs ++ caps) u h0 hv w _ _ f1.lt (by simp; simp at n1; rw [n1]; simp at r1; omega) hargs) fun e w' ⟨cv, he, hr, ho⟩ => ⟨cv, he, K _ _ ?_⟩
       rcases hcase with hcase | hcase
       ·subst hcase
        refine Job hs.hp ho (hr.mono (fun b hb => ?_) (fun _ _ => rfl))
        rcases hb with (hb | ⟨g, hg, _⟩) | hb
        ·exact .inl hb
        ·cases hg
        ·exact .inr hb
       ·exact Job hs.hp ho (hr.of_scalar hcase)
      ·cases hsn'
     ·cases he
    ·cases he
   ·cases he
  ·cases hc
end
end Go.Vv
