/- The evaluator without a bound on its depth: its equations. Conditions: none. -/
import Derived.Test.YtchiiiahgmfofaaVm
namespace Go.Vv
open Go

def Le {α : Type} (x y : Option α) : Prop := ∀ v, x = some v → y = some v
theorem Le.refl {α : Type} (x : Option α) : Le x x := fun _ h => h
def CallLe (c d : Call) : Prop := ∀ f a m, Le (c f a m) (d f a m)
theorem callR_mono {c d : Call} (h : CallLe c d) {f : FuncId} {hp : Heap} {vs : List AV} : Le (callR c f hp vs) (callR d f hp vs) := by
  intro v hv
  unfold callR callS at hv ⊢
  split at hv
  · rename_i τ hτ
    unfold callB at hv ⊢
    split at hv
    · rename_i u h1 hc
      rw [h _ _ _ _ hc]
      exact hv
    · cases hv
  · cases hv
theorem evalOp_mono {c d : Call} (h : CallLe c d) {base g0 : Nat} {σ : St} {op : LOp} : Le (evalOp c base σ g0 op) (evalOp d base σ g0 op) := by
  intro v hv
  cases op <;> simp only [evalOp] at hv ⊢ <;> try (exact hv)
  case callp f l =>
    split at hv
    · split at hv
      · rename_i u h0 hc
        rw [h _ _ _ _ hc]
        exact hv
      · cases hv
    · cases hv
  case callz f l =>
    split at hv
    · split at hv
      · rename_i u h0 hc
        rw [h _ _ _ _ hc]
        exact hv
      · cases hv
    · cases hv
  case callr f l => exact callR_mono h v hv
  case callq f l =>
    unfold calQ at hv ⊢
    split at hv
    · unfold retQ at hv
      split at hv
      · rename_i u h0 hc
        rw [h _ _ _ _ hc]
        exact hv
      · cases hv
    · cases hv
  case callw x l =>
    split at hv
    · exact callR_mono h v hv
    · cases hv
  case callv x l =>
    split at hv
    · split at hv
      · rename_i u h0 hc
        rw [h _ _ _ _ hc]
        exact hv
      · cases hv
    · cases hv
theorem stepOp_mono {c d : Call} (h : CallLe c d) {base : Nat} {σ : St} {o : LOper} : Le (stepOp c base o σ) (stepOp d base o σ) := by
  intro v hv
  unfold stepOp at hv ⊢
  split at hv
  · split at hv
    · rename_i u k he; rw [evalOp_mono h _ he]; exact hv
    · cases hv
  · split at hv
    · split at hv
      · rename_i hb
        split at hv
        · rename_i u k he; rw [if_pos hb, evalOp_mono h _ he]; exact hv
        · cases hv
      · rename_i hb; rw [if_neg hb]; exact hv
    · exact hv
    · cases hv
theorem stepOpD_mono {c d : Call} (h : CallLe c d) {base : Nat} {σ : St} {o : LOper} : Le (stepOpD c base o σ) (stepOpD d base o σ) := by
  intro v hv
  unfold stepOpD at hv ⊢
  split at hv
  · cases hv
  · rename_i hn; rw [if_neg hn]; exact stepOp_mono h v hv
theorem evalOps_mono {c d : Call} (h : CallLe c d) {base : Nat} : ∀ {l : List LOper} {σ : St}, Le (evalOps c base l σ) (evalOps d base l σ)
  | [], σ => .refl _
  | o :: l, σ => by
    intro v hv
    simp only [evalOps] at hv ⊢
    split at hv
    · rename_i σ1 h1; rw [stepOp_mono h _ h1]; exact evalOps_mono h v hv
    · cases hv
theorem evalOpsD_mono {c d : Call} (h : CallLe c d) {base : Nat} : ∀ {l : List LOper} {σ : St}, Le (evalOpsD c base l σ) (evalOpsD d base l σ)
  | [], σ => .refl _
  | o :: l, σ => by
    intro v hv
    simp only [evalOpsD] at hv ⊢
    split at hv
    · rename_i σ1 h1; rw [stepOpD_mono h _ h1]; exact evalOpsD_mono h v hv
    · cases hv
theorem andThen_mono {x y : Option (LE × St)} {k k' : St → Option (LE × St)} (h : Le x y) (hk : ∀ σ, Le (k σ) (k' σ)) : Le (andThen x k) (andThen y k') := by
  intro v hv
  unfold andThen at hv ⊢
  split at hv
  · rw [h _ rfl]; exact hk _ v hv
  · rename_i hne
    rw [h v hv]
    obtain ⟨e, σ⟩ := v
    cases e
    · exact (hne _ hv).elim
    · rfl
    · rfl
theorem inBlk_mono {x y : Option (LE × St)} {id : Nat} (h : Le x y) : Le (inBlk id x) (inBlk id y) := by
  intro v hv
  cases x with
  | none => cases hv
  | some p => rw [h p rfl]; exact hv
theorem loopF_mono {b b' : St → Option (LE × St)} (hb : ∀ σ, Le (b σ) (b' σ)) : ∀ {n m : Nat} {σ : St}, n ≤ m → Le (loopF b n σ) (loopF b' m σ)
  | 0, _, _, _ => fun v hv => by cases hv
  | n + 1, 0, _, h => by omega
  | n + 1, m + 1, σ, h => andThen_mono (hb σ) fun σ' => loopF_mono hb (by omega)
theorem bind_mono {α β : Type} {x : Option α} {k k' : α → Option β} (hk : ∀ a, Le (k a) (k' a)) : Le (x.bind k) (x.bind k') := by
  intro v hv
  cases x with
  | none => cases hv
  | some a => exact hk a v hv
theorem evalL_mono {c d : Call} (h : CallLe c d) {n m : Nat} (hn : n ≤ m) {pins : List Nat} {base : Nat} : ∀ (lc : LC) (σ : St), Le (evalL n c pins base lc σ) (evalL m d pins base lc σ) := by
  intro lc
  induction lc with
  | skip => intro σ; exact .refl _
  | reg dr ops =>
    intro σ v hv
    cases dr with
    | false =>
      simp only [evalL] at hv ⊢
      obtain ⟨σ', h1, h2⟩ := optOut hv
      rw [evalOps_mono h _ h1]; exact congrArg some h2.symm
    | true =>
      simp only [evalL] at hv ⊢
      obtain ⟨σ', h1, h2⟩ := optOut hv
      rw [evalOpsD_mono h _ h1]; exact congrArg some h2.symm
  | seq a b iha ihb => intro σ; simp only [evalL]; exact andThen_mono (iha σ) ihb
  | cond x a b iha ihb =>
    intro σ
    simp only [evalL]
    split
    · split
      · exact iha σ
      · exact ihb σ
    · exact .refl _
  | blk id b ih => intro σ; simp only [evalL]; exact inBlk_mono (ih σ)
  | loop ks b ih => intro σ; simp only [evalL]; exact loopF_mono (fun σ => bind_mono ih) hn
  | exit id => intro σ; exact .refl _
  | ret => intro σ; exact .refl _
  | trim ks => intro σ; exact .refl _
theorem finish_mono {lf : LFunc} {ps : List Nat} {x y : Option (LE × St)} (h : Le x y) : Le (finish lf ps x) (finish lf ps y) := by
  intro v hv
  cases x with
  | none => cases hv
  | some p => rw [h p rfl]; exact hv
theorem evalF_step {Γ : Env} : ∀ n, CallLe (evalF Γ n) (evalF Γ (n + 1))
  | 0 => fun f a m v hv => by cases hv
  | n + 1 => by
    have ih := evalF_step (Γ := Γ) n
    intro f a m v hv
    rw [evalF] at hv ⊢
    split at hv
    · exact hv
    · split at hv
      · rename_i hlen
        rw [if_pos hlen]
        split at hv
        · exact finish_mono (evalL_mono ih (Nat.le_succ _) _ _) v hv
        · exact finish_mono (evalL_mono ih (Nat.le_succ _) _ _) v hv
        · cases hv
      · cases hv
theorem evalF_mono {Γ : Env} {n m : Nat} (h : n ≤ m) : CallLe (evalF Γ n) (evalF Γ m) := by
  induction h with
  | refl => exact fun _ _ _ => .refl _
  | step _ ih => exact fun f a x v hv => evalF_step _ f a x v (ih f a x v hv)

/-! ### The limit -/
open Classical in
noncomputable def lim {α : Type} (x : Nat → Option α) : Option α := if h : ∃ n v, x n = some v then x (Classical.choose h) else none
def Up {α : Type} (x : Nat → Option α) : Prop := ∀ n m, n ≤ m → Le (x n) (x m)
theorem lim_iff {α : Type} {x : Nat → Option α} (hx : Up x) {v : α} : lim x = some v ↔ ∃ n, x n = some v := by
  unfold lim
  refine ⟨fun h => ?_, fun ⟨n, hn⟩ => ?_⟩
  · split at h
    · exact ⟨_, h⟩
    · cases h
  · have hex : ∃ n v, x n = some v := ⟨n, v, hn⟩
    rw [dif_pos hex]
    obtain ⟨u, hu⟩ := Classical.choose_spec hex
    have h1 := hx _ _ (Nat.le_max_left (Classical.choose hex) n) u hu
    have h2 := hx _ _ (Nat.le_max_right (Classical.choose hex) n) v hn
    rw [h1] at h2
    rw [hu, h2]
noncomputable def FC (Γ : Env) : Call := fun f a m => lim fun n => evalF Γ n f a m
noncomputable def EC (Γ : Env) (pins : List Nat) (base : Nat) (lc : LC) (σ : St) : Option (LE × St) := lim fun n => evalL n (evalF Γ n) pins base lc σ
section
variable {Γ : Env} {pins : List Nat} {base : Nat}
theorem upF (f : FuncId) (a : List AV) (m : Option (Heap × Nat)) : Up fun n => evalF Γ n f a m := fun _ _ h => evalF_mono h f a m
theorem upL (lc : LC) (σ : St) : Up fun n => evalL n (evalF Γ n) pins base lc σ := fun _ _ h => evalL_mono (evalF_mono h) h lc σ
theorem FC_iff {f : FuncId} {a : List AV} {m : Option (Heap × Nat)} {v : AV × Heap} : FC Γ f a m = some v ↔ ∃ n, evalF Γ n f a m = some v := lim_iff (upF f a m)
theorem EC_iff {lc : LC} {σ : St} {v : LE × St} : EC Γ pins base lc σ = some v ↔ ∃ n, evalL n (evalF Γ n) pins base lc σ = some v := lim_iff (upL lc σ)
theorem le_FC (n : Nat) : CallLe (evalF Γ n) (FC Γ) := fun _ _ _ _ hv => FC_iff.2 ⟨n, hv⟩
theorem FC_ok {P : Program} (hΓ : EnvOK P Γ) : CallOK P (FC Γ) where
  fn f vs m r h := by obtain ⟨n, hn⟩ := FC_iff.1 h; exact (evalF_ok hΓ n).fn f vs m r hn
  pure f vs v h' h := by obtain ⟨n, hn⟩ := FC_iff.1 h; exact (evalF_ok hΓ n).pure f vs v h' hn
  byref f vs h0 b v h' h := by obtain ⟨n, hn⟩ := FC_iff.1 h; exact (evalF_ok hΓ n).byref f vs h0 b v h' hn
theorem ext_eq {α : Type} {x y : Option α} (h : ∀ v, x = some v ↔ y = some v) : x = y := by
  cases x with
  | none =>
    cases y with
    | none => rfl
    | some b => exact ((h b).2 rfl)
  | some a => exact ((h a).1 rfl).symm
theorem callR_lim {f : FuncId} {hp : Heap} {vs : List AV} {v : AV × Heap} (h : callR (FC Γ) f hp vs = some v) : ∃ n, callR (evalF Γ n) f hp vs = some v := by
  unfold callR callS at h ⊢
  split at h
  · rename_i τ hτ
    unfold callB at h
    split at h
    · rename_i u h1 hc
      obtain ⟨n, hn⟩ := FC_iff.1 hc
      refine ⟨n, ?_⟩
      unfold callB
      simp only [hn]
      exact h
    · cases h
  · cases h
theorem evalOp_lim {σ : St} {g0 : Nat} {op : LOp} {v : AV × Heap} (h : evalOp (FC Γ) base σ g0 op = some v) : ∃ n, evalOp (evalF Γ n) base σ g0 op = some v := by
  cases op <;> simp only [evalOp] at h ⊢ <;> try (exact ⟨0, h⟩)
  case callp f l =>
    split at h
    · split at h
      · rename_i u h0 hc
        obtain ⟨n, hn⟩ := FC_iff.1 hc
        exact ⟨n, by rw [hn]; exact h⟩
      · cases h
    · cases h
  case callz f l =>
    split at h
    · split at h
      · rename_i u h0 hc
        obtain ⟨n, hn⟩ := FC_iff.1 hc
        exact ⟨n, by rw [hn]; exact h⟩
      · cases h
    · cases h
  case callr f l => exact callR_lim h
  case callq f l =>
    unfold calQ at h ⊢
    split at h
    · unfold retQ at h
      split at h
      · rename_i u h0 hc
        obtain ⟨n, hn⟩ := FC_iff.1 hc
        exact ⟨n, by simp only [hn]; exact h⟩
      · cases h
    · cases h
  case callw x l =>
    split at h
    · exact callR_lim h
    · exact ⟨0, by cases h⟩
  case callv x l =>
    split at h
    · split at h
      · rename_i u h0 hc
        obtain ⟨n, hn⟩ := FC_iff.1 hc
        exact ⟨n, by rw [hn]; exact h⟩
      · cases h
    · cases h
theorem stepOp_lim {σ : St} {o : LOper} {v : St} (h : stepOp (FC Γ) base o σ = some v) : ∃ n, stepOp (evalF Γ n) base o σ = some v := by
  unfold stepOp at h ⊢
  split at h
  · split at h
    · rename_i u k he
      obtain ⟨n, hn⟩ := evalOp_lim he
      exact ⟨n, by rw [hn]; exact h⟩
    · cases h
  · split at h
    · split at h
      · rename_i hb
        split at h
        · rename_i u k he
          obtain ⟨n, hn⟩ := evalOp_lim he
          exact ⟨n, by rw [if_pos hb, hn]; exact h⟩
        · cases h
      · rename_i hb; exact ⟨0, by rw [if_neg hb]; exact h⟩
    · exact ⟨0, h⟩
    · cases h
theorem evalOps_lim : ∀ {l : List LOper} {σ v : St}, evalOps (FC Γ) base l σ = some v → ∃ n, evalOps (evalF Γ n) base l σ = some v
  | [], σ, v, h => ⟨0, h⟩
  | o :: l, σ, v, h => by
    simp only [evalOps] at h ⊢
    split at h
    · rename_i σ1 h1
      obtain ⟨n, hn⟩ := stepOp_lim h1
      obtain ⟨m, hm⟩ := evalOps_lim h
      refine ⟨max n m, ?_⟩
      rw [stepOp_mono (evalF_mono (Nat.le_max_left n m)) _ hn]
      exact evalOps_mono (evalF_mono (Nat.le_max_right n m)) _ hm
    · cases h
theorem evalOpsD_lim : ∀ {l : List LOper} {σ v : St}, evalOpsD (FC Γ) base l σ = some v → ∃ n, evalOpsD (evalF Γ n) base l σ = some v
  | [], σ, v, h => ⟨0, h⟩
  | o :: l, σ, v, h => by
    simp only [evalOpsD] at h ⊢
    split at h
    · rename_i σ1 h1
      have : ∃ n, stepOpD (evalF Γ n) base o σ = some σ1 := by
        unfold stepOpD at h1 ⊢
        split at h1
        · cases h1
        · rename_i hn
          obtain ⟨n, h2⟩ := stepOp_lim h1
          exact ⟨n, by rw [if_neg hn]; exact h2⟩
      obtain ⟨n, hn⟩ := this
      obtain ⟨m, hm⟩ := evalOpsD_lim h
      refine ⟨max n m, ?_⟩
      rw [stepOpD_mono (evalF_mono (Nat.le_max_left n m)) _ hn]
      exact evalOpsD_mono (evalF_mono (Nat.le_max_right n m)) _ hm
    · cases h

/-! ### The equations -/
theorem EC_skip (σ : St) : EC Γ pins base .skip σ = some (.normal, σ) := EC_iff.2 ⟨0, rfl⟩
theorem EC_exit (id : Nat) (σ : St) : EC Γ pins base (.exit id) σ = some (.exit id, σ) := EC_iff.2 ⟨0, rfl⟩
theorem EC_ret (σ : St) : EC Γ pins base .ret σ = some (.ret, σ) := EC_iff.2 ⟨0, rfl⟩
theorem EC_reg (ops : List LOper) (σ : St) : EC Γ pins base (.reg false ops) σ = (evalOps (FC Γ) base ops σ).map fun σ' => (.normal, σ') := ext_eq fun v => by
  rw [EC_iff]
  simp only [evalL]
  refine ⟨fun ⟨n, hn⟩ => ?_, fun h => ?_⟩
  · obtain ⟨σ', h1, h2⟩ := optOut hn
    rw [evalOps_mono (le_FC n) _ h1]; exact congrArg some h2.symm
  · obtain ⟨σ', h1, h2⟩ := optOut h
    obtain ⟨n, hn⟩ := evalOps_lim h1
    exact ⟨n, by rw [hn]; exact congrArg some h2.symm⟩
theorem EC_regD (ops : List LOper) (σ : St) : EC Γ pins base (.reg true ops) σ = (evalOpsD (FC Γ) base ops σ).map fun σ' => (.normal, σ') := ext_eq fun v => by
  rw [EC_iff]
  simp only [evalL]
  refine ⟨fun ⟨n, hn⟩ => ?_, fun h => ?_⟩
  · obtain ⟨σ', h1, h2⟩ := optOut hn
    rw [evalOpsD_mono (le_FC n) _ h1]; exact congrArg some h2.symm
  · obtain ⟨σ', h1, h2⟩ := optOut h
    obtain ⟨n, hn⟩ := evalOpsD_lim h1
    exact ⟨n, by rw [hn]; exact congrArg some h2.symm⟩
theorem andThen_lim {x : Nat → Option (LE × St)} {k : Nat → St → Option (LE × St)} (hx : Up x) (hk : ∀ σ, Up fun n => k n σ) {v : LE × St} :
    andThen (lim x) (fun σ => lim fun n => k n σ) = some v ↔ ∃ n, andThen (x n) (k n) = some v := by
  refine ⟨fun h => ?_, fun ⟨n, hn⟩ => ?_⟩
  · unfold andThen at h
    split at h
    · rename_i σ hl
      obtain ⟨n, hn⟩ := (lim_iff hx).1 hl
      obtain ⟨m, hm⟩ := (lim_iff (hk σ)).1 h
      refine ⟨max n m, ?_⟩
      unfold andThen
      rw [hx _ _ (Nat.le_max_left n m) _ hn]
      exact hk σ _ _ (Nat.le_max_right n m) _ hm
    · rename_i hne
      obtain ⟨n, hn⟩ := (lim_iff hx).1 h
      refine ⟨n, ?_⟩
      unfold andThen
      rw [hn]
      obtain ⟨e, σ⟩ := v
      cases e
      · exact (hne _ h).elim
      · rfl
      · rfl
  · exact andThen_mono (x := x n) (y := lim x) (fun u hu => (lim_iff hx).2 ⟨n, hu⟩) (fun σ u hu => (lim_iff (hk σ)).2 ⟨n, hu⟩) v hn
theorem EC_seq (a b : LC) (σ : St) : EC Γ pins base (.seq a b) σ = andThen (EC Γ pins base a σ) (EC Γ pins base b) := ext_eq fun v => by
  rw [EC_iff]
  exact (andThen_lim (upL a σ) (fun σ => upL b σ)).symm
theorem EC_cond (c : LO) (a b : LC) (σ : St) : EC Γ pins base (.cond c a b) σ = match σ.ev c with | .bool t => if t then EC Γ pins base a σ else EC Γ pins base b σ | _ => none := ext_eq fun v => by
  rw [EC_iff]
  simp only [evalL]
  cases hc : σ.ev c with
  | bool t => cases t with
    | true => simp only [if_true]; exact EC_iff.symm
    | false => simp only [Bool.false_eq_true, if_false]; exact EC_iff.symm
  | _ => simp
theorem EC_blk (id : Nat) (b : LC) (σ : St) : EC Γ pins base (.blk id b) σ = inBlk id (EC Γ pins base b σ) := ext_eq fun v => by
  rw [EC_iff]
  simp only [evalL]
  refine ⟨fun ⟨n, hn⟩ => inBlk_mono (fun u hu => EC_iff.2 ⟨n, hu⟩) v hn, fun h => ?_⟩
  cases hx : EC Γ pins base b σ with
  | none => rw [hx] at h; cases h
  | some p =>
    obtain ⟨n, hn⟩ := EC_iff.1 hx
    exact ⟨n, by rw [hn]; rw [hx] at h; exact h⟩
theorem EC_trim (ks : List Nat) (σ : St) : EC Γ pins base (.trim ks) σ = (norm pins ks σ).map fun σ' => (.normal, σ') := ext_eq fun v => by
  rw [EC_iff]
  simp only [evalL]
  exact ⟨fun ⟨_, h⟩ => h, fun h => ⟨0, h⟩⟩
theorem EC_loop (ks : List Nat) (b : LC) (σ : St) : EC Γ pins base (.loop ks b) σ = andThen ((norm pins ks σ).bind (EC Γ pins base b)) (EC Γ pins base (.loop ks b)) := ext_eq fun v => by
  have hb : ∀ σ, ((norm pins ks σ).bind (EC Γ pins base b)) = lim fun n => (norm pins ks σ).bind (evalL n (evalF Γ n) pins base b) := fun σ => by
    cases norm pins ks σ with
    | none =>
      simp only [Option.bind_none]
      unfold lim
      split
      · rename_i h; obtain ⟨n, v, hv⟩ := h; cases hv
      · rfl
    | some σ0 => rfl
  have upb : ∀ σ, Up fun n => (norm pins ks σ).bind (evalL n (evalF Γ n) pins base b) := fun σ n m h => bind_mono fun a => evalL_mono (evalF_mono h) h b a
  rw [hb σ]
  have e := andThen_lim (upb σ) (fun σ => upL (Γ := Γ) (pins := pins) (base := base) (.loop ks b) σ) (v := v)
  refine Iff.trans ?_ e.symm
  rw [EC_iff]
  refine ⟨fun ⟨n, hn⟩ => ?_, fun ⟨n, hn⟩ => ⟨n + 1, ?_⟩⟩
  · simp only [evalL] at hn
    cases n with
    | zero => cases hn
    | succ n =>
      refine ⟨n + 1, andThen_mono (.refl _) (fun σ' => ?_) v hn⟩
      simp only [evalL]
      exact loopF_mono (fun _ => .refl _) (Nat.le_succ n)
  · simp only [evalL, loopF]
    refine andThen_mono (upb σ n (n + 1) (Nat.le_succ n)) (fun σ' => ?_) v hn
    simp only [evalL]
    exact loopF_mono (upb · n (n + 1) (Nat.le_succ n)) (Nat.le_refl n)
theorem finish_lim {lf : LFunc} {ps : List Nat} {lc : LC} {σ : St} {v : AV × Heap} (h : finish lf ps (EC Γ pins base lc σ) = some v) : ∃ n, finish lf ps (evalL n (evalF Γ n) pins base lc σ) = some v := by
  cases hx : EC Γ pins base lc σ with
  | none => rw [hx] at h; cases h
  | some p =>
    obtain ⟨n, hn⟩ := EC_iff.1 hx
    exact ⟨n, by rw [hn]; rw [hx] at h; exact h⟩
/-- A pure call: enough to run the body. -/
theorem FC_pure {f : FuncId} {lf : LFunc} {args : List AV} (hf : Γ.code f = some lf) (hp : lf.pm = true) (hn : args.length = lf.np) {v : AV} {h : Heap}
    (he : finish lf [] (EC Γ [] 0 lf.body ⟨fr (argsF 0 args), fun _ => none⟩) = some (v, h)) : FC Γ f args none = some (v, h) := by
  obtain ⟨n, hn'⟩ := finish_lim he
  refine FC_iff.2 ⟨n + 1, ?_⟩
  simp only [evalF, hf, hn, if_true, hp]
  exact hn'
theorem FC_byref {f : FuncId} {lf : LFunc} {args : List AV} {h0 : Heap} (hf : Γ.code f = some lf) (hp : lf.pm = false) (hn : args.length = lf.np) {v : AV} {h : Heap}
    (he : finish lf (pinsOf 0 args) (EC Γ (pinsOf 0 args) 0 lf.body ⟨fr (argsF 0 args), h0⟩) = some (v, h)) : FC Γ f args (some (h0, base)) = some (v, h) := by
  obtain ⟨n, hn'⟩ := finish_lim he
  refine FC_iff.2 ⟨n + 1, ?_⟩
  simp only [evalF, hf, hn, if_true, hp]
  exact hn'
end
end Go.Vv
