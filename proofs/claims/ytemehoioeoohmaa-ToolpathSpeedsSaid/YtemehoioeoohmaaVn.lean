/- The evaluator without a bound on its depth: its equations. Conditions: none. -/
import Derived.Test.YtemehoioeoohmaaVm
namespace Go.Vv
open Go

def Le {α : Type} (x y : Option α) : Prop := ∀ v, x = some v → y = some v
theorem Le.refl {α : Type} (x : Option α) : Le x x := fun _ h => h
def Jfu (c d : Call) : Prop := ∀ f a m, Le (c f a m) (d f a m)
theorem Jmt {c d : Call} (h : Jfu c d) {f : FuncId} {hp : Heap} {vs : List AV} : Le (jt c f hp vs) (jt d f hp vs) := by
  intro v hv
  unfold jt Jsv at hv ⊢
  split at hv
  · rename_i τ hτ
    unfold Jpr at hv ⊢
    split at hv
    · rename_i u h1 hc
      rw [h _ _ _ _ hc]
      exact hv
    · cases hv
  · cases hv
theorem Jo7 {c d : Call} (h : Jfu c d) {base g0 : Nat} {σ : St} {op : LOp} (hm : ∀ ds o, op ≠ .msk ds o) : Le (Jo c base σ g0 op) (Jo d base σ g0 op) := by
  intro v hv
  cases op <;> simp only [Jo] at hv ⊢ <;> try (exact hv)
  case msk ds o => exact (hm ds o rfl).elim
  case callp f l =>
    split at hv
    · split at hv
      · rename_i u h0 hc
        rw [h _ _ _ _ hc]
        exact hv
      · cases hv
    · cases hv
  case callz f l =>
    split at hv
    · split at hv
      · rename_i u h0 hc
        rw [h _ _ _ _ hc]
        exact hv
      · cases hv
    · cases hv
  case callr f l => exact Jmt h v hv
  case callq f l =>
    unfold calQ at hv ⊢
    split at hv
    · unfold retQ at hv
      split at hv
      · rename_i u h0 hc
        rw [h _ _ _ _ hc]
        exact hv
      · cases hv
    · cases hv
  case callu x l =>
    split at hv
    · unfold calQ at hv ⊢
      split at hv
      · unfold retQ at hv
        split at hv
        · rename_i u h0 hc
          rw [h _ _ _ _ hc]
          exact hv
        · cases hv
      · cases hv
    · cases hv
  case callw x l =>
    split at hv
    · exact Jmt h v hv
    · cases hv
  case callv x l =>
    split at hv
    · split at hv
      · rename_i u h0 hc
        rw [h _ _ _ _ hc]
        exact hv
      · cases hv
    · cases hv
theorem Jk2 {c d : Call} (h : Jfu c d) {base g0 : Nat} {op : LOp} : ∀ {σ : St}, Le (Jo c base σ g0 op) (Jo d base σ g0 op) := by
  induction op with
  | msk ds op ih =>
    intro σ v hv
    simp only [Jo] at hv ⊢
    split at hv
    · rename_i hc
      rw [if_pos hc]
      cases hr : Jo c base ⟨σ.f, z4 base ds σ.h⟩ g0 op with
      | none => rw [hr] at hv; cases hv
      | some r => rw [hr] at hv; rw [ih r hr]; exact hv
    · cases hv
  | _ => exact fun {σ} => Jo7 h (by rintro _ _ ⟨⟩)
theorem Jgn {c d : Call} (h : Jfu c d) {base : Nat} {σ : St} {o : LOper} : Le (zs c base o σ) (zs d base o σ) := by
  intro v hv
  unfold zs at hv ⊢
  split at hv
  · split at hv
    · rename_i u k he; rw [Jk2 h _ he]; exact hv
    · cases hv
  · split at hv
    · split at hv
      · rename_i hb
        split at hv
        · rename_i u k he; rw [if_pos hb, Jk2 h _ he]; exact hv
        · cases hv
      · rename_i hb; rw [if_neg hb]; exact hv
    · exact hv
    · cases hv
theorem Ji5 {c d : Call} (h : Jfu c d) {base : Nat} {σ : St} {o : LOper} : Le (za c base o σ) (za d base o σ) := by
  intro v hv
  unfold za at hv ⊢
  split at hv
  · cases hv
  · rename_i hn; rw [if_neg hn]; exact Jgn h v hv
theorem Jdj {c d : Call} (h : Jfu c d) {base : Nat} : ∀ {l : List LOper} {σ : St}, Le (Jay c base l σ) (Jay d base l σ)
  | [], σ => .refl _
  | o :: l, σ => by
    intro v hv
    simp only [Jay] at hv ⊢
    split at hv
    · rename_i σ1 h1; rw [Jgn h _ h1]; exact Jdj h v hv
    · cases hv
theorem Jck {c d : Call} (h : Jfu c d) {base : Nat} : ∀ {l : List LOper} {σ : St}, Le (Y6 c base l σ) (Y6 d base l σ)
  | [], σ => .refl _
  | o :: l, σ => by
    intro v hv
    simp only [Y6] at hv ⊢
    split at hv
    · rename_i σ1 h1; rw [Ji5 h _ h1]; exact Jck h v hv
    · cases hv
theorem Jb3 {x y : Option (LE × St)} {k k' : St → Option (LE × St)} (h : Le x y) (hk : ∀ σ, Le (k σ) (k' σ)) : Le (andThen x k) (andThen y k') := by
  intro v hv
  unfold andThen at hv ⊢
  split at hv
  · rw [h _ rfl]; exact hk _ v hv
  · rename_i hne
    rw [h v hv]
    obtain ⟨e, σ⟩ := v
    cases e
    · exact (hne _ hv).elim
    · rfl
    · rfl
theorem Jl8 {x y : Option (LE × St)} {id : Nat} (h : Le x y) : Le (Jjx id x) (Jjx id y) := by
  intro v hv
  cases x with
  | none => cases hv
  | some p => rw [h p rfl]; exact hv
theorem Jgb {b b' : St → Option (LE × St)} (hb : ∀ σ, Le (b σ) (b' σ)) : ∀ {n m : Nat} {σ : St}, n ≤ m → Le (Jo2 b n σ) (Jo2 b' m σ)
  | 0, _, _, _ => fun v hv => by cases hv
  | n + 1, 0, _, h => by omega
  | n + 1, m + 1, σ, h => Jb3 (hb σ) fun σ' => Jgb hb (by omega)
theorem Jn9 {α β : Type} {x : Option α} {k k' : α → Option β} (hk : ∀ a, Le (k a) (k' a)) : Le (x.bind k) (x.bind k') := by
  intro v hv
  cases x with
  | none => cases hv
  | some a => exact hk a v hv
theorem Jf6 {c d : Call} (h : Jfu c d) {n m : Nat} (hn : n ≤ m) {pins : List Nat} {base : Nat} : ∀ (lc : LC) (σ : St), Le (zm n c pins base lc σ) (zm m d pins base lc σ) := by
  intro lc
  induction lc with
  | skip => intro σ; exact .refl _
  | reg dr ops =>
    intro σ v hv
    cases dr with
    | false =>
      simp only [zm] at hv ⊢
      obtain ⟨σ', h1, h2⟩ := Jaa hv
      rw [Jdj h _ h1]; exact congrArg some h2.symm
    | true =>
      simp only [zm] at hv ⊢
      obtain ⟨σ', h1, h2⟩ := Jaa hv
      rw [Jck h _ h1]; exact congrArg some h2.symm
  | seq a b iha ihb => intro σ; simp only [zm]; exact Jb3 (iha σ) ihb
  | cond x a b iha ihb =>
    intro σ
    simp only [zm]
    split
    · split
      · exact iha σ
      · exact ihb σ
    · exact .refl _
  | blk id b ih => intro σ; simp only [zm]; exact Jl8 (ih σ)
  | loop ks b ih => intro σ; simp only [zm]; exact Jgb (fun σ => Jn9 ih) hn
  | exit id => intro σ; exact .refl _
  | ret => intro σ; exact .refl _
  | trim ks => intro σ; exact .refl _
theorem Jkq {lf : X5} {ps : List Nat} {x y : Option (LE × St)} (h : Le x y) : Le (Jcw lf ps x) (Jcw lf ps y) := by
  intro v hv
  cases x with
  | none => cases hv
  | some p => rw [h p rfl]; exact hv
theorem Jls {Γ : Env} : ∀ n, Jfu (Ja0 Γ n) (Ja0 Γ (n + 1))
  | 0 => fun f a m v hv => by cases hv
  | n + 1 => by
    have ih := Jls (Γ := Γ) n
    intro f a m v hv
    rw [Ja0] at hv ⊢
    split at hv
    · exact hv
    · split at hv
      · rename_i hlen
        rw [if_pos hlen]
        split at hv
        · exact Jkq (Jf6 ih (Nat.le_succ _) _ _) v hv
        · exact Jkq (Jf6 ih (Nat.le_succ _) _ _) v hv
        · cases hv
      · cases hv
theorem Jbr {Γ : Env} {n m : Nat} (h : n ≤ m) : Jfu (Ja0 Γ n) (Ja0 Γ m) := by
  induction h with
  | refl => exact fun _ _ _ => .refl _
  | step _ ih => exact fun f a x v hv => Jls _ f a x v (ih f a x v hv)

/-! ### The limit -/
open Classical in
noncomputable def lim {α : Type} (x : Nat → Option α) : Option α := if h : ∃ n v, x n = some v then x (Classical.choose h) else none
def Up {α : Type} (x : Nat → Option α) : Prop := ∀ n m, n ≤ m → Le (x n) (x m)
theorem Jg2 {α : Type} {x : Nat → Option α} (hx : Up x) {v : α} : lim x = some v ↔ ∃ n, x n = some v := by
  unfold lim
  refine ⟨fun h => ?_, fun ⟨n, hn⟩ => ?_⟩
  · split at h
    · exact ⟨_, h⟩
    · cases h
  · have hex : ∃ n v, x n = some v := ⟨n, v, hn⟩
    rw [dif_pos hex]
    obtain ⟨u, hu⟩ := Classical.choose_spec hex
    have h1 := hx _ _ (Nat.le_max_left (Classical.choose hex) n) u hu
    have h2 := hx _ _ (Nat.le_max_right (Classical.choose hex) n) v hn
    rw [h1] at h2
    rw [hu, h2]
noncomputable def FC (Γ : Env) : Call := fun f a m => lim fun n => Ja0 Γ n f a m
noncomputable def EC (Γ : Env) (pins : List Nat) (base : Nat) (lc : LC) (σ : St) : Option (LE × St) := lim fun n => zm n (Ja0 Γ n) pins base lc σ
section
variable {Γ : Env} {pins : List Nat} {base : Nat}
theorem upF (f : FuncId) (a : List AV) (m : Option (Heap × Nat)) : Up fun n => Ja0 Γ n f a m := fun _ _ h => Jbr h f a m
theorem upL (lc : LC) (σ : St) : Up fun n => zm n (Ja0 Γ n) pins base lc σ := fun _ _ h => Jf6 (Jbr h) h lc σ
theorem Jdl {f : FuncId} {a : List AV} {m : Option (Heap × Nat)} {v : AV × Heap} : FC Γ f a m = some v ↔ ∃ n, Ja0 Γ n f a m = some v := Jg2 (upF f a m)
theorem Jcy {lc : LC} {σ : St} {v : LE × St} : EC Γ pins base lc σ = some v ↔ ∃ n, zm n (Ja0 Γ n) pins base lc σ = some v := Jg2 (upL lc σ)
theorem le_FC (n : Nat) : Jfu (Ja0 Γ n) (FC Γ) := fun _ _ _ _ hv => Jdl.2 ⟨n, hv⟩
theorem FC_ok {P : Program} (hΓ : Jwv P Γ) : Jd9 P (FC Γ) where
  fn f vs m r h := by obtain ⟨n, hn⟩ := Jdl.1 h; exact (Jjh hΓ n).fn f vs m r hn
  pure f vs v h' h := by obtain ⟨n, hn⟩ := Jdl.1 h; exact (Jjh hΓ n).pure f vs v h' hn
  byref f vs h0 b v h' h := by obtain ⟨n, hn⟩ := Jdl.1 h; exact (Jjh hΓ n).byref f vs h0 b v h' hn
theorem Jkm {α : Type} {x y : Option α} (h : ∀ v, x = some v ↔ y = some v) : x = y := by
  cases x with
  | none =>
    cases y with
    | none => rfl
    | some b => exact ((h b).2 rfl)
  | some a => exact ((h a).1 rfl).symm
theorem Joj {f : FuncId} {hp : Heap} {vs : List AV} {v : AV × Heap} (h : jt (FC Γ) f hp vs = some v) : ∃ n, jt (Ja0 Γ n) f hp vs = some v := by
  unfold jt Jsv at h ⊢
  split at h
  · rename_i τ hτ
    unfold Jpr at h
    split at h
    · rename_i u h1 hc
      obtain ⟨n, hn⟩ := Jdl.1 hc
      refine ⟨n, ?_⟩
      unfold Jpr
      simp only [hn]
      exact h
    · cases h
  · cases h
theorem Jpy {σ : St} {g0 : Nat} {op : LOp} {v : AV × Heap} (hm : ∀ ds o, op ≠ .msk ds o) (h : Jo (FC Γ) base σ g0 op = some v) : ∃ n, Jo (Ja0 Γ n) base σ g0 op = some v := by
  cases op <;> simp only [Jo] at h ⊢ <;> try (exact ⟨0, h⟩)
  case msk ds o => exact (hm ds o rfl).elim
  case callp f l =>
    split at h
    · split at h
      · rename_i u h0 hc
        obtain ⟨n, hn⟩ := Jdl.1 hc
        exact ⟨n, by rw [hn]; exact h⟩
      · cases h
    · cases h
  case callz f l =>
    split at h
    · split at h
      · rename_i u h0 hc
        obtain ⟨n, hn⟩ := Jdl.1 hc
        exact ⟨n, by rw [hn]; exact h⟩
      · cases h
    · cases h
  case callr f l => exact Joj h
  case callq f l =>
    unfold calQ at h ⊢
    split at h
    · unfold retQ at h
      split at h
      · rename_i u h0 hc
        obtain ⟨n, hn⟩ := Jdl.1 hc
        exact ⟨n, by simp only [hn]; exact h⟩
      · cases h
    · cases h
  case callu x l =>
    split at h
    · unfold calQ at h ⊢
      split at h
      · unfold retQ at h
        split at h
        · rename_i u h0 hc
          obtain ⟨n, hn⟩ := Jdl.1 hc
          exact ⟨n, by simp only [hn]; exact h⟩
        · cases h
      · cases h
    · cases h
  case callw x l =>
    split at h
    · exact Joj h
    · exact ⟨0, by cases h⟩
  case callv x l =>
    split at h
    · split at h
      · rename_i u h0 hc
        obtain ⟨n, hn⟩ := Jdl.1 hc
        exact ⟨n, by rw [hn]; exact h⟩
      · cases h
    · cases h
theorem Jmp {g0 : Nat} {op : LOp} : ∀ {σ : St} {v : AV × Heap}, Jo (FC Γ) base σ g0 op = some v → ∃ n, Jo (Ja0 Γ n) base σ g0 op = some v := by
  induction op with
  | msk ds op ih =>
    intro σ v h
    simp only [Jo] at h ⊢
    split at h
    · rename_i hc
      simp only [if_pos hc]
      cases hr : Jo (FC Γ) base ⟨σ.f, z4 base ds σ.h⟩ g0 op with
      | none => rw [hr] at h; cases h
      | some r =>
        obtain ⟨n, hn⟩ := ih hr
        exact ⟨n, by rw [hn]; rw [hr] at h; exact h⟩
    · cases h
  | _ => exact fun {σ v} h => Jpy (by rintro _ _ ⟨⟩) h
theorem Jl1 {σ : St} {o : LOper} {v : St} (h : zs (FC Γ) base o σ = some v) : ∃ n, zs (Ja0 Γ n) base o σ = some v := by
  unfold zs at h ⊢
  split at h
  · split at h
    · rename_i u k he
      obtain ⟨n, hn⟩ := Jmp he
      exact ⟨n, by rw [hn]; exact h⟩
    · cases h
  · split at h
    · split at h
      · rename_i hb
        split at h
        · rename_i u k he
          obtain ⟨n, hn⟩ := Jmp he
          exact ⟨n, by rw [if_pos hb, hn]; exact h⟩
        · cases h
      · rename_i hb; exact ⟨0, by rw [if_neg hb]; exact h⟩
    · exact ⟨0, h⟩
    · cases h
theorem Jlg : ∀ {l : List LOper} {σ v : St}, Jay (FC Γ) base l σ = some v → ∃ n, Jay (Ja0 Γ n) base l σ = some v
  | [], σ, v, h => ⟨0, h⟩
  | o :: l, σ, v, h => by
    simp only [Jay] at h ⊢
    split at h
    · rename_i σ1 h1
      obtain ⟨n, hn⟩ := Jl1 h1
      obtain ⟨m, hm⟩ := Jlg h
      refine ⟨max n m, ?_⟩
      rw [Jgn (Jbr (Nat.le_max_left n m)) _ hn]
      exact Jdj (Jbr (Nat.le_max_right n m)) _ hm
    · cases h
theorem Jiu : ∀ {l : List LOper} {σ v : St}, Y6 (FC Γ) base l σ = some v → ∃ n, Y6 (Ja0 Γ n) base l σ = some v
  | [], σ, v, h => ⟨0, h⟩
  | o :: l, σ, v, h => by
    simp only [Y6] at h ⊢
    split at h
    · rename_i σ1 h1
      have : ∃ n, za (Ja0 Γ n) base o σ = some σ1 := by
        unfold za at h1 ⊢
        split at h1
        · cases h1
        · rename_i hn
          obtain ⟨n, h2⟩ := Jl1 h1
          exact ⟨n, by rw [if_neg hn]; exact h2⟩
      obtain ⟨n, hn⟩ := this
      obtain ⟨m, hm⟩ := Jiu h
      refine ⟨max n m, ?_⟩
      rw [Ji5 (Jbr (Nat.le_max_left n m)) _ hn]
      exact Jck (Jbr (Nat.le_max_right n m)) _ hm
    · cases h

/-! ### The equations -/
theorem EC_skip (σ : St) : EC Γ pins base .skip σ = some (.normal, σ) := Jcy.2 ⟨0, rfl⟩
theorem EC_exit (id : Nat) (σ : St) : EC Γ pins base (.exit id) σ = some (.exit id, σ) := Jcy.2 ⟨0, rfl⟩
theorem EC_ret (σ : St) : EC Γ pins base .ret σ = some (.ret, σ) := Jcy.2 ⟨0, rfl⟩
theorem EC_reg (ops : List LOper) (σ : St) : EC Γ pins base (.reg false ops) σ = (Jay (FC Γ) base ops σ).map fun σ' => (.normal, σ') := Jkm fun v => by
  rw [Jcy]
  simp only [zm]
  refine ⟨fun ⟨n, hn⟩ => ?_, fun h => ?_⟩
  · obtain ⟨σ', h1, h2⟩ := Jaa hn
    rw [Jdj (le_FC n) _ h1]; exact congrArg some h2.symm
  · obtain ⟨σ', h1, h2⟩ := Jaa h
    obtain ⟨n, hn⟩ := Jlg h1
    exact ⟨n, by rw [hn]; exact congrArg some h2.symm⟩
theorem EC_regD (ops : List LOper) (σ : St) : EC Γ pins base (.reg true ops) σ = (Y6 (FC Γ) base ops σ).map fun σ' => (.normal, σ') := Jkm fun v => by
  rw [Jcy]
  simp only [zm]
  refine ⟨fun ⟨n, hn⟩ => ?_, fun h => ?_⟩
  · obtain ⟨σ', h1, h2⟩ := Jaa hn
    rw [Jck (le_FC n) _ h1]; exact congrArg some h2.symm
  · obtain ⟨σ', h1, h2⟩ := Jaa h
    obtain ⟨n, hn⟩ := Jiu h1
    exact ⟨n, by rw [hn]; exact congrArg some h2.symm⟩
theorem Jj5 {x : Nat → Option (LE × St)} {k : Nat → St → Option (LE × St)} (hx : Up x) (hk : ∀ σ, Up fun n => k n σ) {v : LE × St} :
    andThen (lim x) (fun σ => lim fun n => k n σ) = some v ↔ ∃ n, andThen (x n) (k n) = some v := by
  refine ⟨fun h => ?_, fun ⟨n, hn⟩ => ?_⟩
  · unfold andThen at h
    split at h
    · rename_i σ hl
      obtain ⟨n, hn⟩ := (Jg2 hx).1 hl
      obtain ⟨m, hm⟩ := (Jg2 (hk σ)).1 h
      refine ⟨max n m, ?_⟩
      unfold andThen
      rw [hx _ _ (Nat.le_max_left n m) _ hn]
      exact hk σ _ _ (Nat.le_max_right n m) _ hm
    · rename_i hne
      obtain ⟨n, hn⟩ := (Jg2 hx).1 h
      refine ⟨n, ?_⟩
      unfold andThen
      rw [hn]
      obtain ⟨e, σ⟩ := v
      cases e
      · exact (hne _ h).elim
      · rfl
      · rfl
  · exact Jb3 (x := x n) (y := lim x) (fun u hu => (Jg2 hx).2 ⟨n, hu⟩) (fun σ u hu => (Jg2 (hk σ)).2 ⟨n, hu⟩) v hn
theorem EC_seq (a b : LC) (σ : St) : EC Γ pins base (.seq a b) σ = andThen (EC Γ pins base a σ) (EC Γ pins base b) := Jkm fun v => by
  rw [Jcy]
  exact (Jj5 (upL a σ) (fun σ => upL b σ)).symm
theorem EC_cond (c : LO) (a b : LC) (σ : St) : EC Γ pins base (.cond c a b) σ = match σ.ev c with | .bool t => if t then EC Γ pins base a σ else EC Γ pins base b σ | _ => none := Jkm fun v => by
  rw [Jcy]
  simp only [zm]
  cases hc : σ.ev c with
  | bool t => cases t with
    | true => simp only [if_true]; exact Jcy.symm
    | false => simp only [Bool.false_eq_true, if_false]; exact Jcy.symm
  | _ => simp
theorem EC_blk (id : Nat) (b : LC) (σ : St) : EC Γ pins base (.blk id b) σ = Jjx id (EC Γ pins base b σ) := Jkm fun v => by
  rw [Jcy]
  simp only [zm]
  refine ⟨fun ⟨n, hn⟩ => Jl8 (fun u hu => Jcy.2 ⟨n, hu⟩) v hn, fun h => ?_⟩
  cases hx : EC Γ pins base b σ with
  | none => rw [hx] at h; cases h
  | some p =>
    obtain ⟨n, hn⟩ := Jcy.1 hx
    exact ⟨n, by rw [hn]; rw [hx] at h; exact h⟩
theorem EC_trim (ks : List Nat) (σ : St) : EC Γ pins base (.trim ks) σ = (norm pins ks σ).map fun σ' => (.normal, σ') := Jkm fun v => by
  rw [Jcy]
  simp only [zm]
  exact ⟨fun ⟨_, h⟩ => h, fun h => ⟨0, h⟩⟩
theorem EC_loop (ks : List Nat) (b : LC) (σ : St) : EC Γ pins base (.loop ks b) σ = andThen ((norm pins ks σ).bind (EC Γ pins base b)) (EC Γ pins base (.loop ks b)) := Jkm fun v => by
  have hb : ∀ σ, ((norm pins ks σ).bind (EC Γ pins base b)) = lim fun n => (norm pins ks σ).bind (zm n (Ja0 Γ n) pins base b) := fun σ => by
    cases norm pins ks σ with
    | none =>
      simp only [Option.bind_none]
      unfold lim
      split
      · rename_i h; obtain ⟨n, v, hv⟩ := h; cases hv
      · rfl
    | some σ0 => rfl
  have upb : ∀ σ, Up fun n => (norm pins ks σ).bind (zm n (Ja0 Γ n) pins base b) := fun σ n m h => Jn9 fun a => Jf6 (Jbr h) h b a
  rw [hb σ]
  have e := Jj5 (upb σ) (fun σ => upL (Γ := Γ) (pins := pins) (base := base) (.loop ks b) σ) (v := v)
  refine Iff.trans ?_ e.symm
  rw [Jcy]
  refine ⟨fun ⟨n, hn⟩ => ?_, fun ⟨n, hn⟩ => ⟨n + 1, ?_⟩⟩
  · simp only [zm] at hn
    cases n with
    | zero => cases hn
    | succ n =>
      refine ⟨n + 1, Jb3 (.refl _) (fun σ' => ?_) v hn⟩
      simp only [zm]
      exact Jgb (fun _ => .refl _) (Nat.le_succ n)
  · simp only [zm, Jo2]
    refine Jb3 (upb σ n (n + 1) (Nat.le_succ n)) (fun σ' => ?_) v hn
    simp only [zm]
    exact Jgb (upb · n (n + 1) (Nat.le_succ n)) (Nat.le_refl n)
theorem Jl2 {lf : X5} {ps : List Nat} {lc : LC} {σ : St} {v : AV × Heap} (h : Jcw lf ps (EC Γ pins base lc σ) = some v) : ∃ n, Jcw lf ps (zm n (Ja0 Γ n) pins base lc σ) = some v := by
  cases hx : EC Γ pins base lc σ with
  | none => rw [hx] at h; cases h
  | some p =>
    obtain ⟨n, hn⟩ := Jcy.1 hx
    exact ⟨n, by rw [hn]; rw [hx] at h; exact h⟩
/-- A pure call: enough to run the body. -/
theorem J9 {f : FuncId} {lf : X5} {args : List AV} (hf : Γ.code f = some lf) (hp : lf.pm = true) (hn : args.length = lf.np) {v : AV} {h : Heap}
    (he : Jcw lf [] (EC Γ [] 0 lf.body ⟨fr (Jb6 0 args), fun _ => none⟩) = some (v, h)) : FC Γ f args none = some (v, h) := by
  obtain ⟨n, hn'⟩ := Jl2 he
  refine Jdl.2 ⟨n + 1, ?_⟩
  simp only [Ja0, hf, hn, if_true, hp]
  exact hn'
theorem Zr {f : FuncId} {lf : X5} {args : List AV} {h0 : Heap} (hf : Γ.code f = some lf) (hp : lf.pm = false) (hn : args.length = lf.np) {v : AV} {h : Heap}
    (he : Jcw lf (Jc1 0 args) (EC Γ (Jc1 0 args) 0 lf.body ⟨fr (Jb6 0 args), h0⟩) = some (v, h)) : FC Γ f args (some (h0, base)) = some (v, h) := by
  obtain ⟨n, hn'⟩ := Jl2 he
  refine Jdl.2 ⟨n + 1, ?_⟩
  simp only [Ja0, hf, hn, if_true, hp]
  exact hn'
end
end Go.Vv
