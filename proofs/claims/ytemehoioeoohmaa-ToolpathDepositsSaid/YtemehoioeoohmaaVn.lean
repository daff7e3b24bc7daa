/- The evaluator without a bound on its depth: its equations. Conditions: none. -/
import Derived.Test.YtemehoioeoohmaaVm
namespace Go.Vv
abbrev OL := List LOper
def LFunc.o (l : LFunc) : Option LFunc := some ⟨l.np, l.res.map RV.base, l.pm, l.body⟩
abbrev oM (d s : Nat) : LOper := ⟨some d, .mov (.t s), none⟩
abbrev oMg (d s g : Nat) (w : Bool) : LOper := ⟨some d, .mov (.t s), some (g, w)⟩
abbrev oL (d s : Nat) : LOper := ⟨some d, .load false 1 (.t s), none⟩
abbrev oLg (d s g : Nat) (w : Bool) : LOper := ⟨some d, .load false 1 (.t s), some (g, w)⟩
abbrev oA (d n s : Nat) : LOper := ⟨some d, .load true n (.t s), none⟩
abbrev oAg (d n s g : Nat) (w : Bool) : LOper := ⟨some d, .load true n (.t s), some (g, w)⟩
abbrev oF (d k s : Nat) : LOper := ⟨some d, .faddr k (.t s), none⟩
abbrev oFg (d k s g : Nat) (w : Bool) : LOper := ⟨some d, .faddr k (.t s), some (g, w)⟩
abbrev oI (d e x i : Nat) : LOper := ⟨some d, .iaddr e (.t x) (.t i), none⟩
abbrev oIg (d e x i g : Nat) (w : Bool) : LOper := ⟨some d, .iaddr e (.t x) (.t i), some (g, w)⟩
abbrev oO (d a b : Nat) : LOper := ⟨some d, .pick (.t a) (.c (.bool true)) (.t b), none⟩
abbrev oOg (d a b g : Nat) (w : Bool) : LOper := ⟨some d, .pick (.t a) (.c (.bool true)) (.t b), some (g, w)⟩
abbrev oP (d a b : Nat) : LOper := ⟨some d, .pick (.t a) (.t b) (.c (.bool false)), none⟩
abbrev oPg (d a b g : Nat) (w : Bool) : LOper := ⟨some d, .pick (.t a) (.t b) (.c (.bool false)), some (g, w)⟩
abbrev oE (d s : Nat) : LOper := ⟨some d, .len (.t s), none⟩
abbrev oEg (d s g : Nat) (w : Bool) : LOper := ⟨some d, .len (.t s), some (g, w)⟩
abbrev oU (d s : Nat) : LOper := ⟨some d, .un .not (.t s), none⟩
abbrev oUg (d s g : Nat) (w : Bool) : LOper := ⟨some d, .un .not (.t s), some (g, w)⟩
abbrev oC (d : Nat) (n : Int) : LOper := ⟨some d, .mov (.c (.int .i64 n)), none⟩
abbrev oCg (d : Nat) (n : Int) (g : Nat) (w : Bool) : LOper := ⟨some d, .mov (.c (.int .i64 n)), some (g, w)⟩
abbrev oB (d : Nat) (o : BinOp) (a b : Nat) : LOper := ⟨some d, .ibin o (.t a) (.t b), none⟩
abbrev oBg (d : Nat) (o : BinOp) (a b g : Nat) (w : Bool) : LOper := ⟨some d, .ibin o (.t a) (.t b), some (g, w)⟩
abbrev oN (d : Nat) (o : BinOp) (a : Nat) (n : Int) : LOper := ⟨some d, .ibin o (.t a) (.c (.int .i64 n)), none⟩
abbrev oNg (d : Nat) (o : BinOp) (a : Nat) (n : Int) (g : Nat) (w : Bool) : LOper := ⟨some d, .ibin o (.t a) (.c (.int .i64 n)), some (g, w)⟩
abbrev oT (n x y : Nat) : LOper := ⟨none, .store n (.t x) (.t y), none⟩
open Go
def Le {α : Type} (x y : Option α) : Prop := ∀ v, x = some v → y = some v
theorem Le.refl {α : Type} (x : Option α) : Le x x := fun _ h => h
def Jir (c d : Call) : Prop := ∀ f a m, Le (c f a m) (d f a m)
theorem Jph {c d : Call} (h : Jir c d) {f : FuncId} {hp : Heap} {vs : List AV} : Le (Jak c f hp vs) (Jak d f hp vs) := by
 intro v hv
 unfold Jak Jv0 at hv ⊢
 split at hv
 ·rename_i τ hτ
  unfold Jsh at hv ⊢
  split at hv
  ·rename_i u h1 hc
   rw [h _ _ _ _ hc]
   exact hv
  ·cases hv
 ·cases hv
theorem Jqw {c d : Call} (h : Jir c d) {base g0 : Nat} {σ : St} {op : LOp} (hm : ∀ ds o, op ≠ .msk ds o) : Le (Jy c base σ g0 op) (Jy d base σ g0 op) := by
 intro v hv
 cases op <;> simp only [Jy] at hv ⊢ <;> try (exact hv)
 case msk ds o => exact (hm ds o rfl).elim
 case callp f l =>
  split at hv
  ·split at hv
   ·rename_i u h0 hc
    rw [h _ _ _ _ hc]
    exact hv
   ·cases hv
  ·cases hv
 case callz f l =>
  split at hv
  ·split at hv
   ·rename_i u h0 hc
    rw [h _ _ _ _ hc]
    exact hv
   ·cases hv
  ·cases hv
 case callr f l => exact Jph h v hv
 case callq f l =>
  unfold calQ at hv ⊢
  split at hv
  ·unfold retQ at hv
   split at hv
   ·rename_i u h0 hc
    rw [h _ _ _ _ hc]
    exact hv
   ·cases hv
  ·cases hv
 case callu x l =>
  split at hv
  ·unfold calQ at hv ⊢
   split at hv
   ·unfold retQ at hv
    split at hv
    ·rename_i u h0 hc
     rw [h _ _ _ _ hc]
     exact hv
    ·cases hv
   ·cases hv
  ·cases hv
 case callw x l =>
  split at hv
  ·exact Jph h v hv
  ·cases hv
 case callv x l =>
  split at hv
  ·split at hv
   ·rename_i u h0 hc
    rw [h _ _ _ _ hc]
    exact hv
   ·cases hv
  ·cases hv
theorem Jms {c d : Call} (h : Jir c d) {base g0 : Nat} {op : LOp} : ∀ {σ : St}, Le (Jy c base σ g0 op) (Jy d base σ g0 op) := by
 induction op with
 | msk ds op ih =>
  intro σ v hv
  simp only [Jy] at hv ⊢
  split at hv
  ·rename_i hc
   rw [if_pos hc]
   cases hr : Jy c base ⟨σ.f, Jbu base ds σ.h⟩ g0 op with
   | none => rw [hr] at hv; cases hv
   | some r => rw [hr] at hv; rw [ih r hr]; exact hv
  ·cases hv
 | _ => exact fun {σ} => Jqw h (by rintro _ _ ⟨⟩)
theorem Jju {c d : Call} (h : Jir c d) {base : Nat} {σ : St} {o : LOper} : Le (Jbq c base o σ) (Jbq d base o σ) := by
 intro v hv
 unfold Jbq at hv ⊢
 split at hv
 ·split at hv
  ·rename_i u k he; rw [Jms h _ he]; exact hv
  ·cases hv
 ·split at hv
  ·split at hv
   ·rename_i hb
    split at hv
    ·rename_i u k he; rw [if_pos hb, Jms h _ he]; exact hv
    ·cases hv
   ·rename_i hb; rw [if_neg hb]; exact hv
  ·exact hv
  ·cases hv
theorem Jlz {c d : Call} (h : Jir c d) {base : Nat} {σ : St} {o : LOper} : Le (Ja1 c base o σ) (Ja1 d base o σ) := by
 intro v hv
 unfold Ja1 at hv ⊢
 split at hv
 ·cases hv
 ·rename_i hn; rw [if_neg hn]; exact Jju h v hv
theorem Jgj {c d : Call} (h : Jir c d) {base : Nat} : ∀ {l : List LOper} {σ : St}, Le (Jc2 c base l σ) (Jc2 d base l σ)
 | [], σ => .refl _
 | o :: l, σ => by
  intro v hv
  simp only [Jc2] at hv ⊢
  split at hv
  ·rename_i σ1 h1; rw [Jju h _ h1]; exact Jgj h v hv
  ·cases hv
theorem Jfe {c d : Call} (h : Jir c d) {base : Nat} : ∀ {l : List LOper} {σ : St}, Le (Z0 c base l σ) (Z0 d base l σ)
 | [], σ => .refl _
 | o :: l, σ => by
  intro v hv
  simp only [Z0] at hv ⊢
  split at hv
  ·rename_i σ1 h1; rw [Jlz h _ h1]; exact Jfe h v hv
  ·cases hv
theorem Jeq {x y : Option (LE × St)} {k k' : St → Option (LE × St)} (h : Le x y) (hk : ∀ σ, Le (k σ) (k' σ)) : Le (andThen x k) (andThen y k') := by
 intro v hv
 unfold andThen at hv ⊢
 split at hv
 ·rw [h _ rfl]; exact hk _ v hv
 ·rename_i hne
  rw [h v hv]
  obtain ⟨e, σ⟩ := v
  cases e
  ·exact (hne _ hv).elim
  ·rfl
  ·rfl
theorem Jpf {x y : Option (LE × St)} {id : Nat} (h : Le x y) : Le (Jn3 id x) (Jn3 id y) := by
 intro v hv
 cases x with
 | none => cases hv
 | some p => rw [h p rfl]; exact hv
theorem Jjd {b b' : St → Option (LE × St)} (hb : ∀ σ, Le (b σ) (b' σ)) : ∀ {n m : Nat} {σ : St}, n ≤ m → Le (Jqj b n σ) (Jqj b' m σ)
 | 0, _, _, _ => fun v hv => by cases hv
 | n + 1, 0, _, h => by omega
 | n + 1, m + 1, σ, h => Jeq (hb σ) fun σ' => Jjd hb (by omega)
theorem Jrb {α β : Type} {x : Option α} {k k' : α → Option β} (hk : ∀ a, Le (k a) (k' a)) : Le (x.bind k) (x.bind k') := by
 intro v hv
 cases x with
 | none => cases hv
 | some a => exact hk a v hv
theorem Jje {c d : Call} (h : Jir c d) {n m : Nat} (hn : n ≤ m) {pins : List Nat} {base : Nat} : ∀ (lc : LC) (σ : St), Le (Ja9 n c pins base lc σ) (Ja9 m d pins base lc σ) := by
 intro lc
 induction lc with
 | skip => intro σ; exact .refl _
 | reg dr ops =>
  intro σ v hv
  cases dr with
  | false =>
   simp only [Ja9] at hv ⊢
   obtain ⟨σ', h1, h2⟩ := Jby hv
   rw [Jgj h _ h1]; exact congrArg some h2.symm
  | true =>
   simp only [Ja9] at hv ⊢
   obtain ⟨σ', h1, h2⟩ := Jby hv
   rw [Jfe h _ h1]; exact congrArg some h2.symm
 | seq a b iha ihb => intro σ; simp only [Ja9]; exact Jeq (iha σ) ihb
 | cond x a b iha ihb =>
  intro σ
  simp only [Ja9]
  split
  ·split
   ·exact iha σ
   ·exact ihb σ
  ·exact .refl _
 | blk id b ih => intro σ; simp only [Ja9]; exact Jpf (ih σ)
 | loop ks b ih => intro σ; simp only [Ja9]; exact Jjd (fun σ => Jrb ih) hn
 | exit id => intro σ; exact .refl _
 | ret => intro σ; exact .refl _
 | trim ks => intro σ; exact .refl _
theorem Jmy {lf : LFunc} {ps : List Nat} {x y : Option (LE × St)} (h : Le x y) : Le (Jf1 lf ps x) (Jf1 lf ps y) := by
 intro v hv
 cases x with
 | none => cases hv
 | some p => rw [h p rfl]; exact hv
theorem Joj {Γ : Env} : ∀ n, Jir (Jcx Γ n) (Jcx Γ (n + 1))
 | 0 => fun f a m v hv => by cases hv
 | n + 1 => by
  have ih := Joj (Γ := Γ) n
  intro f a m v hv
  rw [Jcx] at hv ⊢
  split at hv
  ·exact hv
  ·split at hv
   ·rename_i hlen
    rw [if_pos hlen]
    split at hv
    ·exact Jmy (Jje ih (Nat.le_succ _) _ _) v hv
    ·exact Jmy (Jje ih (Nat.le_succ _) _ _) v hv
    ·cases hv
   ·cases hv
theorem Jee {Γ : Env} {n m : Nat} (h : n ≤ m) : Jir (Jcx Γ n) (Jcx Γ m) := by
 induction h with
 | refl => exact fun _ _ _ => .refl _
 | step _ ih => exact fun f a x v hv => Joj _ f a x v (ih f a x v hv)
open Classical in
noncomputable def lim {α : Type} (x : Nat → Option α) : Option α := if h : ∃ n v, x n = some v then x (Classical.choose h) else none
def Up {α : Type} (x : Nat → Option α) : Prop := ∀ n m, n ≤ m → Le (x n) (x m)
theorem Jjs {α : Type} {x : Nat → Option α} (hx : Up x) {v : α} : lim x = some v ↔ ∃ n, x n = some v := by
 unfold lim
 refine ⟨fun h => ?_, fun ⟨n, hn⟩ => ?_⟩
 ·split at h
  ·exact ⟨_, h⟩
  ·cases h
 ·have hex : ∃ n v, x n = some v := ⟨n, v, hn⟩
  rw [dif_pos hex]
  obtain ⟨u, hu⟩ := Classical.choose_spec hex
  have h1 := hx _ _ (Nat.le_max_left (Classical.choose hex) n) u hu
  have h2 := hx _ _ (Nat.le_max_right (Classical.choose hex) n) v hn
  rw [h1] at h2
  rw [hu, h2]
noncomputable def FC (Γ : Env) : Call := fun f a m => lim fun n => Jcx Γ n f a m
noncomputable def EC (Γ : Env) (pins : List Nat) (base : Nat) (lc : LC) (σ : St) : Option (LE × St) := lim fun n => Ja9 n (Jcx Γ n) pins base lc σ
section
variable {Γ : Env} {pins : List Nat} {base : Nat}
theorem upF (f : FuncId) (a : List AV) (m : Option (Heap × Nat)) : Up fun n => Jcx Γ n f a m := fun _ _ h => Jee h f a m
theorem upL (lc : LC) (σ : St) : Up fun n => Ja9 n (Jcx Γ n) pins base lc σ := fun _ _ h => Jje (Jee h) h lc σ
theorem Jge {f : FuncId} {a : List AV} {m : Option (Heap × Nat)} {v : AV × Heap} : FC Γ f a m = some v ↔ ∃ n, Jcx Γ n f a m = some v := Jjs (upF f a m)
theorem Jft {lc : LC} {σ : St} {v : LE × St} : EC Γ pins base lc σ = some v ↔ ∃ n, Ja9 n (Jcx Γ n) pins base lc σ = some v := Jjs (upL lc σ)
theorem le_FC (n : Nat) : Jir (Jcx Γ n) (FC Γ) := fun _ _ _ _ hv => Jge.2 ⟨n, hv⟩
theorem FC_ok {P : Program} (hΓ : J2a P Γ) : Jhe P (FC Γ) where
 fn f vs m r h := by obtain ⟨n, hn⟩ := Jge.1 h; exact (Jmj hΓ n).fn f vs m r hn
 pure f vs v h' h := by obtain ⟨n, hn⟩ := Jge.1 h; exact (Jmj hΓ n).pure f vs v h' hn
 byref f vs h0 b v h' h := by obtain ⟨n, hn⟩ := Jge.1 h; exact (Jmj hΓ n).byref f vs h0 b v h' hn
theorem Jnd {α : Type} {x y : Option α} (h : ∀ v, x = some v ↔ y = some v) : x = y := by
 cases x with
 | none =>
  cases y with
  | none => rfl
  | some b => exact ((h b).2 rfl)
 | some a => exact ((h a).1 rfl).symm
theorem Jr6 {f : FuncId} {hp : Heap} {vs : List AV} {v : AV × Heap} (h : Jak (FC Γ) f hp vs = some v) : ∃ n, Jak (Jcx Γ n) f hp vs = some v := by
 unfold Jak Jv0 at h ⊢
 split at h
 ·rename_i τ hτ
  unfold Jsh at h
  split at h
  ·rename_i u h1 hc
   obtain ⟨n, hn⟩ := Jge.1 hc
   refine ⟨n, ?_⟩
   unfold Jsh
   simp only [hn]
   exact h
  ·cases h
 ·cases h
theorem Jsl {σ : St} {g0 : Nat} {op : LOp} {v : AV × Heap} (hm : ∀ ds o, op ≠ .msk ds o) (h : Jy (FC Γ) base σ g0 op = some v) : ∃ n, Jy (Jcx Γ n) base σ g0 op = some v := by
 cases op <;> simp only [Jy] at h ⊢ <;> try (exact ⟨0, h⟩)
 case msk ds o => exact (hm ds o rfl).elim
 case callp f l =>
  split at h
  ·split at h
   ·rename_i u h0 hc
    obtain ⟨n, hn⟩ := Jge.1 hc
    exact ⟨n, by rw [hn]; exact h⟩
   ·cases h
  ·cases h
 case callz f l =>
  split at h
  ·split at h
   ·rename_i u h0 hc
    obtain ⟨n, hn⟩ := Jge.1 hc
    exact ⟨n, by rw [hn]; exact h⟩
   ·cases h
  ·cases h
 case callr f l => exact Jr6 h
 case callq f l =>
  unfold calQ at h ⊢
  split at h
  ·unfold retQ at h
   split at h
   ·rename_i u h0 hc
    obtain ⟨n, hn⟩ := Jge.1 hc
    exact ⟨n, by simp only [hn]; exact h⟩
   ·cases h
  ·cases h
 case callu x l =>
  split at h
  ·unfold calQ at h ⊢
   split at h
   ·unfold retQ at h
    split at h
    ·rename_i u h0 hc
     obtain ⟨n, hn⟩ := Jge.1 hc
     exact ⟨n, by simp only [hn]; exact h⟩
    ·cases h
   ·cases h
  ·cases h
 case callw x l =>
  split at h
  ·exact Jr6 h
  ·exact ⟨0, by cases h⟩
 case callv x l =>
  split at h
  ·split at h
   ·rename_i u h0 hc
    obtain ⟨n, hn⟩ := Jge.1 hc
    exact ⟨n, by rw [hn]; exact h⟩
   ·cases h
  ·cases h
theorem Joq {g0 : Nat} {op : LOp} : ∀ {σ : St} {v : AV × Heap}, Jy (FC Γ) base σ g0 op = some v → ∃ n, Jy (Jcx Γ n) base σ g0 op = some v := by
 induction op with
 | msk ds op ih =>
  intro σ v h
  simp only [Jy] at h ⊢
  split at h
  ·rename_i hc
   simp only [if_pos hc]
   cases hr : Jy (FC Γ) base ⟨σ.f, Jbu base ds σ.h⟩ g0 op with
   | none => rw [hr] at h; cases h
   | some r =>
    obtain ⟨n, hn⟩ := ih hr
    exact ⟨n, by rw [hn]; rw [hr] at h; exact h⟩
  ·cases h
 | _ => exact fun {σ v} h => Jsl (by rintro _ _ ⟨⟩) h
theorem Jop {σ : St} {o : LOper} {v : St} (h : Jbq (FC Γ) base o σ = some v) : ∃ n, Jbq (Jcx Γ n) base o σ = some v := by
 unfold Jbq at h ⊢
 split at h
 ·split at h
  ·rename_i u k he
   obtain ⟨n, hn⟩ := Joq he
   exact ⟨n, by rw [hn]; exact h⟩
  ·cases h
 ·split at h
  ·split at h
   ·rename_i hb
    split at h
    ·rename_i u k he
     obtain ⟨n, hn⟩ := Joq he
     exact ⟨n, by rw [if_pos hb, hn]; exact h⟩
    ·cases h
   ·rename_i hb; exact ⟨0, by rw [if_neg hb]; exact h⟩
  ·exact ⟨0, h⟩
  ·cases h
theorem Jnz : ∀ {l : List LOper} {σ v : St}, Jc2 (FC Γ) base l σ = some v → ∃ n, Jc2 (Jcx Γ n) base l σ = some v
 | [], σ, v, h => ⟨0, h⟩
 | o :: l, σ, v, h => by
  simp only [Jc2] at h ⊢
  split at h
  ·rename_i σ1 h1
   obtain ⟨n, hn⟩ := Jop h1
   obtain ⟨m, hm⟩ := Jnz h
   refine ⟨max n m, ?_⟩
   rw [Jju (Jee (Nat.le_max_left n m)) _ hn]
   exact Jgj (Jee (Nat.le_max_right n m)) _ hm
  ·cases h
theorem Jl2 : ∀ {l : List LOper} {σ v : St}, Z0 (FC Γ) base l σ = some v → ∃ n, Z0 (Jcx Γ n) base l σ = some v
 | [], σ, v, h => ⟨0, h⟩
 | o :: l, σ, v, h => by
  simp only [Z0] at h ⊢
  split at h
  ·rename_i σ1 h1
   have : ∃ n, Ja1 (Jcx Γ n) base o σ = some σ1 := by
    unfold Ja1 at h1 ⊢
    split at h1
    ·cases h1
    ·rename_i hn
     obtain ⟨n, h2⟩ := Jop h1
     exact ⟨n, by rw [if_neg hn]; exact h2⟩
   obtain ⟨n, hn⟩ := this
   obtain ⟨m, hm⟩ := Jl2 h
   refine ⟨max n m, ?_⟩
   rw [Jlz (Jee (Nat.le_max_left n m)) _ hn]
   exact Jfe (Jee (Nat.le_max_right n m)) _ hm
  ·cases h
theorem EC_skip (σ : St) : EC Γ pins base .skip σ = some (.normal, σ) := Jft.2 ⟨0, rfl⟩
theorem EC_exit (id : Nat) (σ : St) : EC Γ pins base (.exit id) σ = some (.exit id, σ) := Jft.2 ⟨0, rfl⟩
theorem EC_ret (σ : St) : EC Γ pins base .ret σ = some (.ret, σ) := Jft.2 ⟨0, rfl⟩
theorem EC_reg (ops : List LOper) (σ : St) : EC Γ pins base (.reg false ops) σ = (Jc2 (FC Γ) base ops σ).map fun σ' => (.normal, σ') := Jnd fun v => by
 rw [Jft]
 simp only [Ja9]
 refine ⟨fun ⟨n, hn⟩ => ?_, fun h => ?_⟩
 ·obtain ⟨σ', h1, h2⟩ := Jby hn
  rw [Jgj (le_FC n) _ h1]; exact congrArg some h2.symm
 ·obtain ⟨σ', h1, h2⟩ := Jby h
  obtain ⟨n, hn⟩ := Jnz h1
  exact ⟨n, by rw [hn]; exact congrArg some h2.symm⟩
theorem EC_regD (ops : List LOper) (σ : St) : EC Γ pins base (.reg true ops) σ = (Z0 (FC Γ) base ops σ).map fun σ' => (.normal, σ') := Jnd fun v => by
 rw [Jft]
 simp only [Ja9]
 refine ⟨fun ⟨n, hn⟩ => ?_, fun h => ?_⟩
 ·obtain ⟨σ', h1, h2⟩ := Jby hn
  rw [Jfe (le_FC n) _ h1]; exact congrArg some h2.symm
 ·obtain ⟨σ', h1, h2⟩ := Jby h
  obtain ⟨n, hn⟩ := Jl2 h1
  exact ⟨n, by rw [hn]; exact congrArg some h2.symm⟩
theorem Jnk {x : Nat → Option (LE × St)} {k : Nat → St → Option (LE × St)} (hx : Up x) (hk : ∀ σ, Up fun n => k n σ) {v : LE × St} :
  andThen (lim x) (fun σ => lim fun n => k n σ) = some v ↔ ∃ n, andThen (x n) (k n) = some v := by
 refine ⟨fun h => ?_, fun ⟨n, hn⟩ => ?_⟩
 ·unfold andThen at h
  split at h
  ·rename_i σ hl
   obtain ⟨n, hn⟩ := (Jjs hx).1 hl
   obtain ⟨m, hm⟩ := (Jjs (hk σ)).1 h
   refine ⟨max n m, ?_⟩
   unfold andThen
   rw [hx _ _ (Nat.le_max_left n m) _ hn]
   exact hk σ _ _ (Nat.le_max_right n m) _ hm
  ·rename_i hne
   obtain ⟨n, hn⟩ := (Jjs hx).1 h
   refine ⟨n, ?_⟩
   unfold andThen
   rw [hn]
   obtain ⟨e, σ⟩ := v
   cases e
   ·exact (hne _ h).elim
   ·rfl
   ·rfl
 ·exact Jeq (x := x n) (y := lim x) (fun u hu => (Jjs hx).2 ⟨n, hu⟩) (fun σ u hu => (Jjs (hk σ)).2 ⟨n, hu⟩) v hn
theorem EC_seq (a b : LC) (σ : St) : EC Γ pins base (.seq a b) σ = andThen (EC Γ pins base a σ) (EC Γ pins base b) := Jnd fun v => by
 rw [Jft]
 exact (Jnk (upL a σ) (fun σ => upL b σ)).symm
theorem EC_cond (c : LO) (a b : LC) (σ : St) : EC Γ pins base (.cond c a b) σ = match σ.ev c with | .bool t => if t then EC Γ pins base a σ else EC Γ pins base b σ | _ => none := Jnd fun v => by
 rw [Jft]
 simp only [Ja9]
 cases hc : σ.ev c with
 | bool t => cases t with
  | true => simp only [if_true]; exact Jft.symm
  | false => simp only [Bool.false_eq_true, if_false]; exact Jft.symm
 | _ => simp
theorem EC_blk (id : Nat) (b : LC) (σ : St) : EC Γ pins base (.blk id b) σ = Jn3 id (EC Γ pins base b σ) := Jnd fun v => by
 rw [Jft]
 simp only [Ja9]
 refine ⟨fun ⟨n, hn⟩ => Jpf (fun u hu => Jft.2 ⟨n, hu⟩) v hn, fun h => ?_⟩
 cases hx : EC Γ pins base b σ with
 | none => rw [hx] at h; cases h
 | some p =>
  obtain ⟨n, hn⟩ := Jft.1 hx
  exact ⟨n, by rw [hn]; rw [hx] at h; exact h⟩
theorem EC_trim (ks : List Nat) (σ : St) : EC Γ pins base (.trim ks) σ = (norm pins ks σ).map fun σ' => (.normal, σ') := Jnd fun v => by
 rw [Jft]
 simp only [Ja9]
 exact ⟨fun ⟨_, h⟩ => h, fun h => ⟨0, h⟩⟩
theorem EC_loop (ks : List Nat) (b : LC) (σ : St) : EC Γ pins base (.loop ks b) σ = andThen ((norm pins ks σ).bind (EC Γ pins base b)) (EC Γ pins base (.loop ks b)) := Jnd fun v => by
 have hb : ∀ σ, ((norm pins ks σ).bind (EC Γ pins base b)) = lim fun n => (norm pins ks σ).bind (Ja9 n (Jcx Γ n) pins base b) := fun σ => by
  cases norm pins ks σ with
  | none =>
   simp only [Option.bind_none]
   unfold lim
   split
   ·rename_i h; obtain ⟨n, v, hv⟩ := h; cases hv
   ·rfl
  | some σ0 => rfl
 have upb : ∀ σ, Up fun n => (norm pins ks σ).bind (Ja9 n (Jcx Γ n) pins base b) := fun σ n m h => Jrb fun a => Jje (Jee h) h b a
 rw [hb σ]
 have e := Jnk (upb σ) (fun σ => upL (Γ := Γ) (pins := pins) (base := base) (.loop ks b) σ) (v := v)
 refine Iff.trans ?_ e.symm
 rw [Jft]
 refine ⟨fun ⟨n, hn⟩ => ?_, fun ⟨n, hn⟩ => ⟨n + 1, ?_⟩⟩
 ·simp only [Ja9] at hn
  cases n with
  | zero => cases hn
  | succ n =>
   refine ⟨n + 1, Jeq (.refl _) (fun σ' => ?_) v hn⟩
   simp only [Ja9]
   exact Jjd (fun _ => .refl _) (Nat.le_succ n)
 ·simp only [Ja9, Jqj]
  refine Jeq (upb σ n (n + 1) (Nat.le_succ n)) (fun σ' => ?_) v hn
  simp only [Ja9]
  exact Jjd (upb · n (n + 1) (Nat.le_succ n)) (Nat.le_refl n)
theorem Jor {lf : LFunc} {ps : List Nat} {lc : LC} {σ : St} {v : AV × Heap} (h : Jf1 lf ps (EC Γ pins base lc σ) = some v) : ∃ n, Jf1 lf ps (Ja9 n (Jcx Γ n) pins base lc σ) = some v := by
 cases hx : EC Γ pins base lc σ with
 | none => rw [hx] at h; cases h
 | some p =>
  obtain ⟨n, hn⟩ := Jft.1 hx
  exact ⟨n, by rw [hn]; rw [hx] at h; exact h⟩
theorem J4 {f : FuncId} {lf : LFunc} {args : List AV} (hf : Γ.code f = some lf) (hp : lf.pm = true) (hn : args.length = lf.np) {v : AV} {h : Heap}
  (he : Jf1 lf [] (EC Γ [] 0 lf.body ⟨fr (Jey 0 args), fun _ => none⟩) = some (v, h)) : FC Γ f args none = some (v, h) := by
 obtain ⟨n, hn'⟩ := Jor he
 refine Jge.2 ⟨n + 1, ?_⟩
 simp only [Jcx, hf, hn, if_true, hp]
 exact hn'
theorem j7 {f : FuncId} {lf : LFunc} {args : List AV} {h0 : Heap} (hf : Γ.code f = some lf) (hp : lf.pm = false) (hn : args.length = lf.np) {v : AV} {h : Heap}
  (he : Jf1 lf (Jfo 0 args) (EC Γ (Jfo 0 args) 0 lf.body ⟨fr (Jey 0 args), h0⟩) = some (v, h)) : FC Γ f args (some (h0, base)) = some (v, h) := by
 obtain ⟨n, hn'⟩ := Jor he
 refine Jge.2 ⟨n + 1, ?_⟩
 simp only [Jcx, hf, hn, if_true, hp]
 exact hn'
end
end Go.Vv
