/- The evaluator without a bound on its depth: its equations. Conditions: none. -/
import Derived.Test.YtemehoioeoohmaaGreatVm
namespace Go.Vv
abbrev OL := List LOper
def LFunc.o (l : LFunc) : Option LFunc := some ⟨l.np, l.res.map RV.base, l.pm, l.body⟩
abbrev oM (d s : Nat) : LOper := ⟨some d, .mov (.t s), none⟩
abbrev oMg (d s g : Nat) (w : Bool) : LOper := ⟨some d, .mov (.t s), some (g, w)⟩
abbrev oL (d s : Nat) : LOper := ⟨some d, .load false 1 (.t s), none⟩
abbrev oLg (d s g : Nat) (w : Bool) : LOper := ⟨some d, .load false 1 (.t s), some (g, w)⟩
abbrev oA (d n s : Nat) : LOper := ⟨some d, .load true n (.t s), none⟩
abbrev oAg (d n s g : Nat) (w : Bool) : LOper := ⟨some d, .load true n (.t s), some (g, w)⟩
abbrev oF (d k s : Nat) : LOper := ⟨some d, .faddr k (.t s), none⟩
abbrev oFg (d k s g : Nat) (w : Bool) : LOper := ⟨some d, .faddr k (.t s), some (g, w)⟩
abbrev oI (d e x i : Nat) : LOper := ⟨some d, .iaddr e (.t x) (.t i), none⟩
abbrev oIg (d e x i g : Nat) (w : Bool) : LOper := ⟨some d, .iaddr e (.t x) (.t i), some (g, w)⟩
abbrev oO (d a b : Nat) : LOper := ⟨some d, .pick (.t a) (.c (.bool true)) (.t b), none⟩
abbrev oOg (d a b g : Nat) (w : Bool) : LOper := ⟨some d, .pick (.t a) (.c (.bool true)) (.t b), some (g, w)⟩
abbrev oP (d a b : Nat) : LOper := ⟨some d, .pick (.t a) (.t b) (.c (.bool false)), none⟩
abbrev oPg (d a b g : Nat) (w : Bool) : LOper := ⟨some d, .pick (.t a) (.t b) (.c (.bool false)), some (g, w)⟩
abbrev oE (d s : Nat) : LOper := ⟨some d, .len (.t s), none⟩
abbrev oEg (d s g : Nat) (w : Bool) : LOper := ⟨some d, .len (.t s), some (g, w)⟩
abbrev oU (d s : Nat) : LOper := ⟨some d, .un .not (.t s), none⟩
abbrev oUg (d s g : Nat) (w : Bool) : LOper := ⟨some d, .un .not (.t s), some (g, w)⟩
abbrev oC (d : Nat) (n : Int) : LOper := ⟨some d, .mov (.c (.int .i64 n)), none⟩
abbrev oCg (d : Nat) (n : Int) (g : Nat) (w : Bool) : LOper := ⟨some d, .mov (.c (.int .i64 n)), some (g, w)⟩
abbrev oB (d : Nat) (o : BinOp) (a b : Nat) : LOper := ⟨some d, .ibin o (.t a) (.t b), none⟩
abbrev oBg (d : Nat) (o : BinOp) (a b g : Nat) (w : Bool) : LOper := ⟨some d, .ibin o (.t a) (.t b), some (g, w)⟩
abbrev oN (d : Nat) (o : BinOp) (a : Nat) (n : Int) : LOper := ⟨some d, .ibin o (.t a) (.c (.int .i64 n)), none⟩
abbrev oNg (d : Nat) (o : BinOp) (a : Nat) (n : Int) (g : Nat) (w : Bool) : LOper := ⟨some d, .ibin o (.t a) (.c (.int .i64 n)), some (g, w)⟩
abbrev oT (n x y : Nat) : LOper := ⟨none, .store n (.t x) (.t y), none⟩
open Go
open Nat renaming le_max_right → Aa, le_max_left → Ab, le_succ → Ac
def Le {α : Type} (x y : Option α) : Prop := ∀ v, x = some v → y = some v
theorem Le.refl {α : Type} (x : Option α) : Le x x := fun _ h => h
def Jk3 (c d : Call) : Prop := ∀ f a m, Le (c f a m) (d f a m)
theorem Jrd {c d : Call} (h : Jk3 c d) {f : FuncId} {hp : Heap} {vs : List AV} : Le (Jcc c f hp vs) (Jcc d f hp vs) := by
 intro v hv
 unfold Jcc Jza at hv ⊢
 split at hv
 ·rename_i τ hτ
  unfold Jwm at hv ⊢
  split at hv
  ·rename_i u h1 hc
   rw [h _ _ _ _ hc]
   exact hv
  ·cases hv
 ·cases hv
theorem Jtt {c d : Call} (h : Jk3 c d) {base g0 : Nat} {σ : St} {op : LOp} (hm : ∀ ds o, op ≠ .msk ds o) : Le (Jz c base σ g0 op) (Jz d base σ g0 op) := by
 intro v hv
 cases op <;> simp only [Jz] at hv ⊢ <;> try (exact hv)
 case msk ds o => exact (hm ds o rfl).elim
 case callp f l =>
  split at hv
  ·split at hv
   ·rename_i u h0 hc
    rw [h _ _ _ _ hc]
    exact hv
   ·cases hv
  ·cases hv
 case callz f l =>
  split at hv
  ·split at hv
   ·rename_i u h0 hc
    rw [h _ _ _ _ hc]
    exact hv
   ·cases hv
  ·cases hv
 case callr f l => exact Jrd h v hv
 case callq f l =>
  unfold calQ at hv ⊢
  split at hv
  ·unfold retQ at hv
   split at hv
   ·rename_i u h0 hc
    rw [h _ _ _ _ hc]
    exact hv
   ·cases hv
  ·cases hv
 case callu x l =>
  split at hv
  ·unfold calQ at hv ⊢
   split at hv
   ·unfold retQ at hv
    split at hv
    ·rename_i u h0 hc
     rw [h _ _ _ _ hc]
     exact hv
    ·cases hv
   ·cases hv
  ·cases hv
 case callw x l =>
  split at hv
  ·exact Jrd h v hv
  ·cases hv
 case callv x l =>
  split at hv
  ·split at hv
   ·rename_i u h0 hc
    rw [h _ _ _ _ hc]
    exact hv
   ·cases hv
  ·cases hv
theorem Jqn {c d : Call} (h : Jk3 c d) {base g0 : Nat} {op : LOp} : ∀ {σ : St}, Le (Jz c base σ g0 op) (Jz d base σ g0 op) := by
 induction op with
 | msk ds op ih =>
  intro σ v hv
  simp only [Jz] at hv ⊢
  split at hv
  ·rename_i hc
   rw [if_pos hc]
   cases hr : Jz c base ⟨σ.f, Jdn base ds σ.h⟩ g0 op with
   | none => rw [hr] at hv; cases hv
   | some r => rw [hr] at hv; rw [ih r hr]; exact hv
  ·cases hv
 | _ => exact fun {σ} => Jtt h (by rintro _ _ ⟨⟩)
theorem Jme {c d : Call} (h : Jk3 c d) {base : Nat} {σ : St} {o : LOper} : Le (Jdh c base o σ) (Jdh d base o σ) := by
 intro v hv
 unfold Jdh at hv ⊢
 split at hv
 ·split at hv
  ·rename_i u k he; rw [Jqn h _ he]; exact hv
  ·cases hv
 ·split at hv
  ·split at hv
   ·rename_i hb
    split at hv
    ·rename_i u k he; rw [if_pos hb, Jqn h _ he]; exact hv
    ·cases hv
   ·rename_i hb; rw [if_neg hb]; exact hv
  ·exact hv
  ·cases hv
theorem Jol {c d : Call} (h : Jk3 c d) {base : Nat} {σ : St} {o : LOper} : Le (Jcs c base o σ) (Jcs d base o σ) := by
 intro v hv
 unfold Jcs at hv ⊢
 split at hv
 ·cases hv
 ·rename_i hn; rw [if_neg hn]; exact Jme h v hv
theorem Ji2 {c d : Call} (h : Jk3 c d) {base : Nat} : ∀ {l : List LOper} {σ : St}, Le (Jep c base l σ) (Jep d base l σ)
 | [], σ => .refl _
 | o :: l, σ => by
  intro v hv
  simp only [Jep] at hv ⊢
  split at hv
  ·rename_i σ1 h1; rw [Jme h _ h1]; exact Ji2 h v hv
  ·cases hv
theorem Jhl {c d : Call} (h : Jk3 c d) {base : Nat} : ∀ {l : List LOper} {σ : St}, Le (zb c base l σ) (zb d base l σ)
 | [], σ => .refl _
 | o :: l, σ => by
  intro v hv
  simp only [zb] at hv ⊢
  split at hv
  ·rename_i σ1 h1; rw [Jol h _ h1]; exact Jhl h v hv
  ·cases hv
theorem Jgh {x y : Option (LE × St)} {k k' : St → Option (LE × St)} (h : Le x y) (hk : ∀ σ, Le (k σ) (k' σ)) : Le (andThen x k) (andThen y k') := by
 intro v hv
 unfold andThen at hv ⊢
 split at hv
 ·rw [h _ rfl]; exact hk _ v hv
 ·rename_i hne
  rw [h v hv]
  obtain ⟨e, σ⟩ := v
  cases e
  ·exact (hne _ hv).elim
  ·rfl
  ·rfl
theorem Jr6 {x y : Option (LE × St)} {id : Nat} (h : Le x y) : Le (Jqp id x) (Jqp id y) := by
 intro v hv
 cases x with
 | none => cases hv
 | some p => rw [h p rfl]; exact hv
theorem Jlv {b b' : St → Option (LE × St)} (hb : ∀ σ, Le (b σ) (b' σ)) : ∀ {n m : Nat} {σ : St}, n ≤ m → Le (Jt0 b n σ) (Jt0 b' m σ)
 | 0, _, _, _ => fun v hv => by cases hv
 | n + 1, 0, _, h => by omega
 | n + 1, m + 1, σ, h => Jgh (hb σ) fun σ' => Jlv hb (by omega)
theorem Juh {α β : Type} {x : Option α} {k k' : α → Option β} (hk : ∀ a, Le (k a) (k' a)) : Le (x.bind k) (x.bind k') := by
 intro v hv
 cases x with
 | none => cases hv
 | some a => exact hk a v hv
theorem Jlq {c d : Call} (h : Jk3 c d) {n m : Nat} (hn : n ≤ m) {pins : List Nat} {base : Nat} : ∀ (lc : LC) (σ : St), Le (Jcx n c pins base lc σ) (Jcx m d pins base lc σ) := by
 intro lc
 induction lc with
 | skip => intro σ; exact .refl _
 | reg dr ops =>
  intro σ v hv
  cases dr with
  | false =>
   simp only [Jcx] at hv ⊢
   obtain ⟨σ', h1, h2⟩ := Jdp hv
   rw [Ji2 h _ h1]; exact congrArg some h2.symm
  | true =>
   simp only [Jcx] at hv ⊢
   obtain ⟨σ', h1, h2⟩ := Jdp hv
   rw [Jhl h _ h1]; exact congrArg some h2.symm
 | seq a b iha ihb => intro σ; simp only [Jcx]; exact Jgh (iha σ) ihb
 | cond x a b iha ihb =>
  intro σ
  simp only [Jcx]
  split
  ·split
   ·exact iha σ
   ·exact ihb σ
  ·exact .refl _
 | blk id b ih => intro σ; simp only [Jcx]; exact Jr6 (ih σ)
 | loop ks b ih => intro σ; simp only [Jcx]; exact Jlv (fun σ => Juh ih) hn
 | exit id => intro σ; exact .refl _
 | ret => intro σ; exact .refl _
 | trim ks => intro σ; exact .refl _
theorem Jph {lf : LFunc} {ps : List Nat} {x y : Option (LE × St)} (h : Le x y) : Le (Jhy lf ps x) (Jhy lf ps y) := by
 intro v hv
 cases x with
 | none => cases hv
 | some p => rw [h p rfl]; exact hv
theorem Jre {Γ : Env} : ∀ n, Jk3 (Jew Γ n) (Jew Γ (n + 1))
 | 0 => fun f a m v hv => by cases hv
 | n + 1 => by
  have ih := Jre (Γ := Γ) n
  intro f a m v hv
  rw [Jew] at hv ⊢
  split at hv
  ·exact hv
  ·split at hv
   ·rename_i hlen
    rw [if_pos hlen]
    split at hv
    ·exact Jph (Jlq ih (Ac _) _ _) v hv
    ·exact Jph (Jlq ih (Ac _) _ _) v hv
    ·cases hv
   ·cases hv
theorem Jga {Γ : Env} {n m : Nat} (h : n ≤ m) : Jk3 (Jew Γ n) (Jew Γ m) := by
 induction h with
 | refl => exact fun _ _ _ => .refl _
 | step _ ih => exact fun f a x v hv => Jre _ f a x v (ih f a x v hv)
open Classical in
noncomputable def lim {α : Type} (x : Nat → Option α) : Option α := if h : ∃ n v, x n = some v then x (Classical.choose h) else none
def Up {α : Type} (x : Nat → Option α) : Prop := ∀ n m, n ≤ m → Le (x n) (x m)
theorem Jmc {α : Type} {x : Nat → Option α} (hx : Up x) {v : α} : lim x = some v ↔ ∃ n, x n = some v := by
 unfold lim
 refine ⟨fun h => ?_, fun ⟨n, hn⟩ => ?_⟩
 ·split at h
  ·exact ⟨_, h⟩
  ·cases h
 ·have hex : ∃ n v, x n = some v := ⟨n, v, hn⟩
  rw [dif_pos hex]
  obtain ⟨u, hu⟩ := Classical.choose_spec hex
  have h1 := hx _ _ (Ab (Classical.choose hex) n) u hu
  have h2 := hx _ _ (Aa (Classical.choose hex) n) v hn
  rw [h1] at h2
  rw [hu, h2]
noncomputable def FC (Γ : Env) : Call := fun f a m => lim fun n => Jew Γ n f a m
noncomputable def EC (Γ : Env) (pins : List Nat) (base : Nat) (lc : LC) (σ : St) : Option (LE × St) := lim fun n => Jcx n (Jew Γ n) pins base lc σ
section
variable {Γ : Env} {pins : List Nat} {base : Nat}
theorem upF (f : FuncId) (a : List AV) (m : Option (Heap × Nat)) : Up fun n => Jew Γ n f a m := fun _ _ h => Jga h f a m
theorem upL (lc : LC) (σ : St) : Up fun n => Jcx n (Jew Γ n) pins base lc σ := fun _ _ h => Jlq (Jga h) h lc σ
theorem Ji1 {f : FuncId} {a : List AV} {m : Option (Heap × Nat)} {v : AV × Heap} : FC Γ f a m = some v ↔ ∃ n, Jew Γ n f a m = some v := Jmc (upF f a m)
theorem Jig {lc : LC} {σ : St} {v : LE × St} : EC Γ pins base lc σ = some v ↔ ∃ n, Jcx n (Jew Γ n) pins base lc σ = some v := Jmc (upL lc σ)
theorem le_FC (n : Nat) : Jk3 (Jew Γ n) (FC Γ) := fun _ _ _ _ hv => Ji1.2 ⟨n, hv⟩
theorem FC_ok {P : Program} (hΓ : J3u P Γ) : Jjx P (FC Γ) where
 fn f vs m r h := by obtain ⟨n, hn⟩ := Ji1.1 h; exact (Jo3 hΓ n).fn f vs m r hn
 pure f vs v h' h := by obtain ⟨n, hn⟩ := Ji1.1 h; exact (Jo3 hΓ n).pure f vs v h' hn
 byref f vs h0 b v h' h := by obtain ⟨n, hn⟩ := Ji1.1 h; exact (Jo3 hΓ n).byref f vs h0 b v h' hn
theorem Jpn {α : Type} {x y : Option α} (h : ∀ v, x = some v ↔ y = some v) : x = y := by
 cases x with
 | none =>
  cases y with
  | none => rfl
  | some b => exact ((h b).2 rfl)
 | some a => exact ((h a).1 rfl).symm
theorem Juz {f : FuncId} {hp : Heap} {vs : List AV} {v : AV × Heap} (h : Jcc (FC Γ) f hp vs = some v) : ∃ n, Jcc (Jew Γ n) f hp vs = some v := by
 unfold Jcc Jza at h ⊢
 split at h
 ·rename_i τ hτ
  unfold Jwm at h
  split at h
  ·rename_i u h1 hc
   obtain ⟨n, hn⟩ := Ji1.1 hc
   refine ⟨n, ?_⟩
   unfold Jwm
   simp only [hn]
   exact h
  ·cases h
 ·cases h
theorem Jv7 {σ : St} {g0 : Nat} {op : LOp} {v : AV × Heap} (hm : ∀ ds o, op ≠ .msk ds o) (h : Jz (FC Γ) base σ g0 op = some v) : ∃ n, Jz (Jew Γ n) base σ g0 op = some v := by
 cases op <;> simp only [Jz] at h ⊢ <;> try (exact ⟨0, h⟩)
 case msk ds o => exact (hm ds o rfl).elim
 case callp f l =>
  split at h
  ·split at h
   ·rename_i u h0 hc
    obtain ⟨n, hn⟩ := Ji1.1 hc
    exact ⟨n, by rw [hn]; exact h⟩
   ·cases h
  ·cases h
 case callz f l =>
  split at h
  ·split at h
   ·rename_i u h0 hc
    obtain ⟨n, hn⟩ := Ji1.1 hc
    exact ⟨n, by rw [hn]; exact h⟩
   ·cases h
  ·cases h
 case callr f l => exact Juz h
 case callq f l =>
  unfold calQ at h ⊢
  split at h
  ·unfold retQ at h
   split at h
   ·rename_i u h0 hc
    obtain ⟨n, hn⟩ := Ji1.1 hc
    exact ⟨n, by simp only [hn]; exact h⟩
   ·cases h
  ·cases h
 case callu x l =>
  split at h
  ·unfold calQ at h ⊢
   split at h
   ·unfold retQ at h
    split at h
    ·rename_i u h0 hc
     obtain ⟨n, hn⟩ := Ji1.1 hc
     exact ⟨n, by simp only [hn]; exact h⟩
    ·cases h
   ·cases h
  ·cases h
 case callw x l =>
  split at h
  ·exact Juz h
  ·exact ⟨0, by cases h⟩
 case callv x l =>
  split at h
  ·split at h
   ·rename_i u h0 hc
    obtain ⟨n, hn⟩ := Ji1.1 hc
    exact ⟨n, by rw [hn]; exact h⟩
   ·cases h
  ·cases h
theorem Jr5 {g0 : Nat} {op : LOp} : ∀ {σ : St} {v : AV × Heap}, Jz (FC Γ) base σ g0 op = some v → ∃ n, Jz (Jew Γ n) base σ g0 op = some v := by
 induction op with
 | msk ds op ih =>
  intro σ v h
  simp only [Jz] at h ⊢
  split at h
  ·rename_i hc
   simp only [if_pos hc]
   cases hr : Jz (FC Γ) base ⟨σ.f, Jdn base ds σ.h⟩ g0 op with
   | none => rw [hr] at h; cases h
   | some r =>
    obtain ⟨n, hn⟩ := ih hr
    exact ⟨n, by rw [hn]; rw [hr] at h; exact h⟩
  ·cases h
 | _ => exact fun {σ v} h => Jv7 (by rintro _ _ ⟨⟩) h
theorem Jr9 {σ : St} {o : LOper} {v : St} (h : Jdh (FC Γ) base o σ = some v) : ∃ n, Jdh (Jew Γ n) base o σ = some v := by
 unfold Jdh at h ⊢
 split at h
 ·split at h
  ·rename_i u k he
   obtain ⟨n, hn⟩ := Jr5 he
   exact ⟨n, by rw [hn]; exact h⟩
  ·cases h
 ·split at h
  ·split at h
   ·rename_i hb
    split at h
    ·rename_i u k he
     obtain ⟨n, hn⟩ := Jr5 he
     exact ⟨n, by rw [if_pos hb, hn]; exact h⟩
    ·cases h
   ·rename_i hb; exact ⟨0, by rw [if_neg hb]; exact h⟩
  ·exact ⟨0, h⟩
  ·cases h
theorem Jq0 : ∀ {l : List LOper} {σ v : St}, Jep (FC Γ) base l σ = some v → ∃ n, Jep (Jew Γ n) base l σ = some v
 | [], σ, v, h => ⟨0, h⟩
 | o :: l, σ, v, h => by
  simp only [Jep] at h ⊢
  split at h
  ·rename_i σ1 h1
   obtain ⟨n, hn⟩ := Jr9 h1
   obtain ⟨m, hm⟩ := Jq0 h
   refine ⟨max n m, ?_⟩
   rw [Jme (Jga (Ab n m)) _ hn]
   exact Ji2 (Jga (Aa n m)) _ hm
  ·cases h
theorem Jom : ∀ {l : List LOper} {σ v : St}, zb (FC Γ) base l σ = some v → ∃ n, zb (Jew Γ n) base l σ = some v
 | [], σ, v, h => ⟨0, h⟩
 | o :: l, σ, v, h => by
  simp only [zb] at h ⊢
  split at h
  ·rename_i σ1 h1
   have : ∃ n, Jcs (Jew Γ n) base o σ = some σ1 := by
    unfold Jcs at h1 ⊢
    split at h1
    ·cases h1
    ·rename_i hn
     obtain ⟨n, h2⟩ := Jr9 h1
     exact ⟨n, by rw [if_neg hn]; exact h2⟩
   obtain ⟨n, hn⟩ := this
   obtain ⟨m, hm⟩ := Jom h
   refine ⟨max n m, ?_⟩
   rw [Jol (Jga (Ab n m)) _ hn]
   exact Jhl (Jga (Aa n m)) _ hm
  ·cases h
theorem EC_skip (σ : St) : EC Γ pins base .skip σ = some (.normal, σ) := Jig.2 ⟨0, rfl⟩
theorem EC_exit (id : Nat) (σ : St) : EC Γ pins base (.exit id) σ = some (.exit id, σ) := Jig.2 ⟨0, rfl⟩
theorem EC_ret (σ : St) : EC Γ pins base .ret σ = some (.ret, σ) := Jig.2 ⟨0, rfl⟩
theorem EC_reg (ops : List LOper) (σ : St) : EC Γ pins base (.reg false ops) σ = (Jep (FC Γ) base ops σ).map fun σ' => (.normal, σ') := Jpn fun v => by
 rw [Jig]
 simp only [Jcx]
 refine ⟨fun ⟨n, hn⟩ => ?_, fun h => ?_⟩
 ·obtain ⟨σ', h1, h2⟩ := Jdp hn
  rw [Ji2 (le_FC n) _ h1]; exact congrArg some h2.symm
 ·obtain ⟨σ', h1, h2⟩ := Jdp h
  obtain ⟨n, hn⟩ := Jq0 h1
  exact ⟨n, by rw [hn]; exact congrArg some h2.symm⟩
theorem EC_regD (ops : List LOper) (σ : St) : EC Γ pins base (.reg true ops) σ = (zb (FC Γ) base ops σ).map fun σ' => (.normal, σ') := Jpn fun v => by
 rw [Jig]
 simp only [Jcx]
 refine ⟨fun ⟨n, hn⟩ => ?_, fun h => ?_⟩
 ·obtain ⟨σ', h1, h2⟩ := Jdp hn
  rw [Jhl (le_FC n) _ h1]; exact congrArg some h2.symm
 ·obtain ⟨σ', h1, h2⟩ := Jdp h
  obtain ⟨n, hn⟩ := Jom h1
  exact ⟨n, by rw [hn]; exact congrArg some h2.symm⟩
theorem Jqo {x : Nat → Option (LE × St)} {k : Nat → St → Option (LE × St)} (hx : Up x) (hk : ∀ σ, Up fun n => k n σ) {v : LE × St} :
  andThen (lim x) (fun σ => lim fun n => k n σ) = some v ↔ ∃ n, andThen (x n) (k n) = some v := by
 refine ⟨fun h => ?_, fun ⟨n, hn⟩ => ?_⟩
 ·unfold andThen at h
  split at h
  ·rename_i σ hl
   obtain ⟨n, hn⟩ := (Jmc hx).1 hl
   obtain ⟨m, hm⟩ := (Jmc (hk σ)).1 h
   refine ⟨max n m, ?_⟩
   unfold andThen
   rw [hx _ _ (Ab n m) _ hn]
   exact hk σ _ _ (Aa n m) _ hm
  ·rename_i hne
   obtain ⟨n, hn⟩ := (Jmc hx).1 h
   refine ⟨n, ?_⟩
   unfold andThen
   rw [hn]
   obtain ⟨e, σ⟩ := v
   cases e
   ·exact (hne _ h).elim
   ·rfl
   ·rfl
 ·exact Jgh (x := x n) (y := lim x) (fun u hu => (Jmc hx).2 ⟨n, hu⟩) (fun σ u hu => (Jmc (hk σ)).2 ⟨n, hu⟩) v hn
theorem EC_seq (a b : LC) (σ : St) : EC Γ pins base (.seq a b) σ = andThen (EC Γ pins base a σ) (EC Γ pins base b) := Jpn fun v => by
 rw [Jig]
 exact (Jqo (upL a σ) (fun σ => upL b σ)).symm
theorem EC_cond (c : LO) (a b : LC) (σ : St) : EC Γ pins base (.cond c a b) σ = match σ.ev c with | .bool t => if t then EC Γ pins base a σ else EC Γ pins base b σ | _ => none := Jpn fun v => by
 rw [Jig]
 simp only [Jcx]
 cases hc : σ.ev c with
 | bool t => cases t with
  | true => simp only [if_true]; exact Jig.symm
  | false => simp only [Bool.false_eq_true, if_false]; exact Jig.symm
 | _ => simp
theorem EC_blk (id : Nat) (b : LC) (σ : St) : EC Γ pins base (.blk id b) σ = Jqp id (EC Γ pins base b σ) := Jpn fun v => by
 rw [Jig]
 simp only [Jcx]
 refine ⟨fun ⟨n, hn⟩ => Jr6 (fun u hu => Jig.2 ⟨n, hu⟩) v hn, fun h => ?_⟩
 cases hx : EC Γ pins base b σ with
 | none => rw [hx] at h; cases h
 | some p =>
  obtain ⟨n, hn⟩ := Jig.1 hx
  exact ⟨n, by rw [hn]; rw [hx] at h; exact h⟩
theorem EC_trim (ks : List Nat) (σ : St) : EC Γ pins base (.trim ks) σ = (norm pins ks σ).map fun σ' => (.normal, σ') := Jpn fun v => by
 rw [Jig]
 simp only [Jcx]
 exact ⟨fun ⟨_, h⟩ => h, fun h => ⟨0, h⟩⟩
theorem EC_loop (ks : List Nat) (b : LC) (σ : St) : EC Γ pins base (.loop ks b) σ = andThen ((norm pins ks σ).bind (EC Γ pins base b)) (EC Γ pins base (.loop ks b)) := Jpn fun v => by
 have hb : ∀ σ, ((norm pins ks σ).bind (EC Γ pins base b)) = lim fun n => (norm pins ks σ).bind (Jcx n (Jew Γ n) pins base b) := fun σ => by
  cases norm pins ks σ with
  | none =>
   simp only [Option.bind_none]
   unfold lim
   split
   ·rename_i h; obtain ⟨n, v, hv⟩ := h; cases hv
   ·rfl
  | some σ0 => rfl
 have upb : ∀ σ, Up fun n => (norm pins ks σ).bind (Jcx n (Jew Γ n) pins base b) := fun σ n m h => Juh fun a => Jlq (Jga h) h b a
 rw [hb σ]
 have e := Jqo (upb σ) (fun σ => upL (Γ := Γ) (pins := pins) (base := base) (.loop ks b) σ) (v := v)
 refine Iff.trans ?_ e.symm
 rw [Jig]
 refine ⟨fun ⟨n, hn⟩ => ?_, fun ⟨n, hn⟩ => ⟨n + 1, ?_⟩⟩
 ·simp only [Jcx] at hn
  cases n with
  | zero => cases hn
  | succ n =>
   refine ⟨n + 1, Jgh (.refl _) (fun σ' => ?_) v hn⟩
   simp only [Jcx]
   exact Jlv (fun _ => .refl _) (Ac n)
 ·simp only [Jcx, Jt0]
  refine Jgh (upb σ n (n + 1) (Ac n)) (fun σ' => ?_) v hn
  simp only [Jcx]
  exact Jlv (upb · n (n + 1) (Ac n)) (Nat.le_refl n)
theorem Jr2 {lf : LFunc} {ps : List Nat} {lc : LC} {σ : St} {v : AV × Heap} (h : Jhy lf ps (EC Γ pins base lc σ) = some v) : ∃ n, Jhy lf ps (Jcx n (Jew Γ n) pins base lc σ) = some v := by
 cases hx : EC Γ pins base lc σ with
 | none => rw [hx] at h; cases h
 | some p =>
  obtain ⟨n, hn⟩ := Jig.1 hx
  exact ⟨n, by rw [hn]; rw [hx] at h; exact h⟩
theorem J0 {f : FuncId} {lf : LFunc} {args : List AV} (hf : Γ.code f = some lf) (hp : lf.pm = true) (hn : args.length = lf.np) {v : AV} {h : Heap}
  (he : Jhy lf [] (EC Γ [] 0 lf.body ⟨fr (Jg1 0 args), fun _ => none⟩) = some (v, h)) : FC Γ f args none = some (v, h) := by
 obtain ⟨n, hn'⟩ := Jr2 he
 refine Ji1.2 ⟨n + 1, ?_⟩
 simp only [Jew, hf, hn, if_true, hp]
 exact hn'
theorem Jav {f : FuncId} {lf : LFunc} {args : List AV} {h0 : Heap} (hf : Γ.code f = some lf) (hp : lf.pm = false) (hn : args.length = lf.np) {v : AV} {h : Heap}
  (he : Jhy lf (Jh3 0 args) (EC Γ (Jh3 0 args) 0 lf.body ⟨fr (Jg1 0 args), h0⟩) = some (v, h)) : FC Γ f args (some (h0, base)) = some (v, h) := by
 obtain ⟨n, hn'⟩ := Jr2 he
 refine Ji1.2 ⟨n + 1, ?_⟩
 simp only [Jew, hf, hn, if_true, hp]
 exact hn'
end
end Go.Vv
