/- The evaluator's regions are right of the model's, whatever order is drawn. Conditions: those that 'drawOK' asks of a region. -/
import Derived.Test.YtchiiiahgmfofaaVj
import Derived.Tactics
import Derived.Orders
namespace Go.Vv
open Go

section
variable {P : Program} {w : World} {S : Nat → Prop} {σ : St} {μ : Gh} {a : Act} {nt : Nat}
def valB : Value → Option Bool
  | .bool b => some b
  | _ => none
theorem yielded_of {ops : Array Oper} {j d : Nat} (hs : RepS nt w S σ μ a) (hj : (ops[j]?).bind (·.dst) = some d) (hd : d < nt) {v : Value} (hv : a.tmps.getD d undef = v) : yielded ops a.tmps j = valB v := by
  unfold yielded
  rw [hj]
  have hlt : d < a.tmps.size := by have := hs.sz; omega
  have : a.tmps[d]? = some v := by rw [← hv]; exact getD_some hlt
  simp only [Option.bind_some, this]
  cases v <;> rfl
/-- One operation. -/
theorem step_wp {call : Call} {cm : List (Nat × CM)} {ops : Array Oper} {o : Oper} {lo : LOper} {base : Nat} {σ' : St} {K : Act → World → Prop} {Q : Exit → Act → World → Prop} (hcall : CallOK P call) (hs : RepS nt w S σ μ a)
    (hc : comp P cm nt ops o = some lo) (he : stepOp call base lo σ = some σ')
    (hK : ∀ a' w' S' μ', RepS nt w' S' σ' μ' a' → Evo w S σ.h μ w' S' σ'.h μ' → EvoV σ.h μ σ'.h μ' → K a' w') :
    if Region.wanted o (yielded ops a.tmps) = true then o.wp P a w K Q else K (a.put o.dst undef) w := by
  unfold comp at hc
  split at hc
  · cases hc
  · rename_i lop hlop
    split at hc
    · rename_i hd
      have run : ∀ {g0 v h}, evalOp call base σ g0 lop = some (v, h) → σ' = σ.put o.dst v h → o.wp P a w K Q := by
        rintro g0 v h hev rfl
        refine op_wp hcall hs hlop hev fun cv w' ⟨S', μ', r1, r2, r3, r4⟩ => hK _ _ S' μ' (put_sound hs hd r1 r2 r3 r4) ?_ ?_
        · cases o.dst <;> exact r3
        · cases o.dst <;> exact r4
      have skip : σ' = σ.put o.dst (.tup []) σ.h → K (a.put o.dst undef) w := by
        rintro rfl
        refine hK _ _ S μ (put_sound hs hd (.tup [] #[] rfl (fun i x hi => by simp at hi)) hs.hp .refl (.refl _ _)) ?_ ?_
        · cases o.dst <;> exact .refl
        · cases o.dst <;> exact .refl _ _
      split at hc
      · rename_i hg
        injection hc with hc
        subst hc
        rw [if_pos (by simp [Region.wanted, hg])]
        simp only [stepOp] at he
        split at he
        · rename_i v h hev
          injection he with he
          exact run hev he.symm
        · cases he
      · rename_i j want hg
        split at hc
        · rename_i d hj
          split at hc
          · rename_i hlt
            injection hc with hc
            subst hc
            simp only [stepOp] at he
            have hrd := hs.fr d
            split at he
            · rename_i b hb
              rw [hb] at hrd
              have hy := yielded_of hs hj hlt hrd.bool_inv
              have hw : Region.wanted o (yielded ops a.tmps) = (b == want) := by simp [Region.wanted, hg, hy, valB]
              split at he
              · rename_i hbw
                rw [if_pos (by rw [hw]; simpa using hbw)]
                split at he
                · rename_i v h hev
                  injection he with he
                  exact run hev he.symm
                · cases he
              · rename_i hbw
                rw [if_neg (by rw [hw]; simpa using hbw)]
                injection he with he
                exact skip he.symm
            · rename_i hb
              rw [hb] at hrd
              have hy := yielded_of hs hj hlt hrd.tup0_inv
              rw [if_neg (by simp [Region.wanted, hg, hy, valB])]
              injection he with he
              exact skip he.symm
            · cases he
          · cases hc
        · cases hc
    · cases hc
/-- A region in the order of the text. -/
theorem ops_wp {call : Call} {cm : List (Nat × CM)} {ops : Array Oper} {base : Nat} {Q : Exit → Act → World → Prop} (hcall : CallOK P call) : ∀ {l : List Oper} {ll : List LOper} {w : World} {S : Nat → Prop} {σ σ' : St} {μ : Gh} {a : Act},
    RepS nt w S σ μ a → compOps P cm nt ops l = some ll → evalOps call base ll σ = some σ' →
    (∀ a' w' S' μ', RepS nt w' S' σ' μ' a' → Evo w S σ.h μ w' S' σ'.h μ' → EvoV σ.h μ σ'.h μ' → Q .normal a' w') → wpList P ops Q l a w
  | [], ll, w, S, σ, σ', μ, a, hs, hc, he, hQ => by
    simp [compOps] at hc
    subst hc
    simp [evalOps] at he
    subst he
    exact hQ _ _ _ _ hs .refl (.refl _ _)
  | o :: l, ll, w, S, σ, σ', μ, a, hs, hc, he, hQ => by
    unfold compOps at hc
    split at hc
    · rename_i lo l' hlo hl'
      injection hc with hc
      subst hc
      unfold evalOps at he
      split at he
      · rename_i σ1 h1
        refine wpList_step fun K hK => step_wp hcall hs hlo h1 fun a1 w1 S1 μ1 r1 r2 r3 => hK _ _ ?_
        exact ops_wp hcall r1 hl' he fun a2 w2 S2 μ2 q1 q2 q3 => hQ _ _ _ _ q1 (r2.trans q2) (r3.trans q3)
      · cases he
    · cases hc
end

/-! ### A drawn order -/
def LO.tmp? : LO → List Nat
  | .t n => [n]
  | .c _ => []
def LOp.looks : LOp → List Nat
  | .alloc _ | .mkM => []
  | .mov x | .frz x | .box x | .load _ _ x | .un _ x | .conv _ x | .nilck x | .faddr _ x | .fld _ _ _ x | .ext x _ | .len x | .lenM x | .lenS x => x.tmp?
  | .pick c a b => c.tmp? ++ a.tmp? ++ b.tmp?
  | .build _ ps | .bslice _ _ _ _ ps | .bslz _ _ _ _ ps => ps.flatMap fun p => p.2.2.tmp?
  | .store _ x y | .ibin _ x y | .eqv _ _ _ x y | .mkS _ _ _ _ x y | .iaddr _ x y | .iaddrA _ _ x y | .idx _ _ _ x y | .app _ _ _ _ x y | .look _ _ _ _ x y | .delM _ _ x y | .shf _ x y | .mm _ x y => x.tmp? ++ y.tmp?
  | .setM _ _ x k v => x.tmp? ++ k.tmp? ++ v.tmp?
  | .mkfn _ l | .callp _ l | .callz _ l | .callr _ l | .callq _ l => l.flatMap LO.tmp?
  | .callv x l | .callw x l => x.tmp? ++ l.flatMap LO.tmp?
  | .slc _ x lo hi => x.tmp? ++ (lo.map LO.tmp?).getD [] ++ (hi.map LO.tmp?).getD []
def LOper.looks (o : LOper) : List Nat := o.op.looks ++ (o.guard.map fun g => [g.1]).getD []
/-- 0: no look at the heap; 1: a look; 2: a name given; 3: a write. -/
def LOp.cls : LOp → Nat
  | .mov _ | .pick .. | .build .. | .ibin .. | .eqv .. | .un .. | .conv .. | .mkfn .. | .fld .. | .idx .. | .ext .. | .lenS _ | .shf .. | .mm .. => 0
  | .load .. | .nilck _ | .slc .. | .faddr .. | .iaddr .. | .iaddrA .. | .len _ | .lenM _ | .callp .. | .callv .. | .look .. | .callq .. => 1
  | .alloc _ | .box _ | .bslice .. | .bslz .. | .mkS .. | .mkM => 2
  | .store .. | .app .. | .callz .. | .callr .. | .callw .. | .frz _ | .setM .. | .delM .. => 3
/-- May the second be taken ahead of the first? -/
def indep (i j : LOper) : Bool :=
  (match i.dst with | some d => !j.looks.contains d && j.dst != some d | none => true) &&
  (match j.dst with | some d => !i.looks.contains d | none => true) &&
  (i.op.cls == 0 || j.op.cls == 0 || (i.op.cls == 1 && (j.op.cls == 1 || j.op.cls == 2)) || (i.op.cls == 2 && j.op.cls == 2)) &&
  (i.op.cls != 2 || i.dst.isSome) && (j.op.cls != 2 || j.dst.isSome)

theorem ev_congr {σ σ' : St} {x : LO} (h : ∀ n ∈ x.tmp?, σ.f n = σ'.f n) : σ.ev x = σ'.ev x := by
  cases x with
  | t n => exact h n (by simp [LO.tmp?])
  | c v => rfl
theorem map_ev_congr {σ σ' : St} {l : List LO} (h : ∀ n ∈ l.flatMap LO.tmp?, σ.f n = σ'.f n) : l.map σ.ev = l.map σ'.ev :=
  List.map_congr_left fun x hx => ev_congr fun n hn => h n (List.mem_flatMap.2 ⟨x, hx, hn⟩)
theorem fills_congr {σ σ' : St} : ∀ {ps : List (Nat × Nat × LO)} {z : List AV}, (∀ n ∈ ps.flatMap (fun p => p.2.2.tmp?), σ.f n = σ'.f n) → fills σ.ev z ps = fills σ'.ev z ps
  | [], z, _ => rfl
  | (off, n, x) :: r, z, h => by
    simp only [fills]
    rw [ev_congr (x := x) (σ' := σ') fun m hm => h m (by simp [hm])]
    split
    · split
      · exact fills_congr fun m hm => h m (by simp only [List.flatMap_cons, List.mem_append]; exact .inr hm)
      · rfl
    · rfl
theorem evalOp_congr {call : Call} {base g0 : Nat} {σ σ' : St} {op : LOp} (hh : σ.h = σ'.h) (h : ∀ n ∈ op.looks, σ.f n = σ'.f n) : evalOp call base σ g0 op = evalOp call base σ' g0 op := by
  cases op <;> simp only [LOp.looks, List.mem_append] at h <;> simp only [evalOp, hh]
  case slc e x lo hi =>
    rw [ev_congr (x := x) fun n hn => h n (.inl (.inl hn))]
    have h1 : lo.map σ.ev = lo.map σ'.ev := by
      cases lo with
      | none => rfl
      | some y => simp only [Option.map_some]; rw [ev_congr fun n hn => h n (.inl (.inr (by simpa using hn)))]
    have h2 : hi.map σ.ev = hi.map σ'.ev := by
      cases hi with
      | none => rfl
      | some y => simp only [Option.map_some]; rw [ev_congr fun n hn => h n (.inr (by simpa using hn))]
    rw [h1, h2]
  case pick c x y => rw [ev_congr (x := c) fun n hn => h n (.inl (.inl hn)), ev_congr (x := x) fun n hn => h n (.inl (.inr hn)), ev_congr (x := y) fun n hn => h n (.inr hn)]
  case setM ag sh x k v => rw [ev_congr (x := x) fun n hn => h n (.inl (.inl hn)), ev_congr (x := k) fun n hn => h n (.inl (.inr hn)), ev_congr (x := v) fun n hn => h n (.inr hn)]
  case build z ps => rw [fills_congr h]
  case bslice n e t z ps => rw [fills_congr h]
  case bslz n e t z ps => rw [fills_congr h]
  case mkfn f l => rw [map_ev_congr h]
  case callp f l => rw [map_ev_congr h]
  case callz f l => rw [map_ev_congr h]
  case callr f l => rw [map_ev_congr h]
  case callq f l => rw [map_ev_congr h]
  case callw x l => rw [ev_congr (x := x) fun n hn => h n (.inl hn), map_ev_congr fun n hn => h n (.inr hn)]
  case callv x l => rw [ev_congr (x := x) fun n hn => h n (.inl hn), map_ev_congr fun n hn => h n (.inr hn)]
  all_goals first
    | rw [ev_congr h]
    | (rename_i x y; rw [ev_congr (x := x) fun n hn => h n (.inl hn), ev_congr (x := y) fun n hn => h n (.inr hn)])
/-- The value and the heap of a step. -/
def evG (call : Call) (base : Nat) (o : LOper) (f : Nat → AV) (h : Heap) : Option (AV × Heap) :=
  match o.guard with
  | none => evalOp call base ⟨f, h⟩ (base + o.dst.getD 0) o.op
  | some (g, want) =>
    match f g with
    | .bool b => if b = want then evalOp call base ⟨f, h⟩ (base + o.dst.getD 0) o.op else some (.tup [], h)
    | .tup [] => some (.tup [], h)
    | _ => none
theorem stepOp_evG (call : Call) (base : Nat) (o : LOper) (σ : St) : stepOp call base o σ = (evG call base o σ.f σ.h).map fun r => σ.put o.dst r.1 r.2 := by
  unfold stepOp evG
  cases hg : o.guard with
  | none =>
    simp only
    cases evalOp call base σ (base + o.dst.getD 0) o.op <;> rfl
  | some g =>
    obtain ⟨g, want⟩ := g
    simp only
    cases hf : σ.f g with
    | bool b =>
      simp only
      by_cases hb : b = want
      · rw [if_pos hb, if_pos hb]
        cases evalOp call base σ (base + o.dst.getD 0) o.op <;> rfl
      · rw [if_neg hb, if_neg hb]; rfl
    | tup l => cases l <;> rfl
    | _ => rfl
theorem evG_congr {call : Call} {base : Nat} {o : LOper} {f f' : Nat → AV} {h : Heap} (hl : ∀ n ∈ o.looks, f n = f' n) : evG call base o f h = evG call base o f' h := by
  unfold evG
  have hop : evalOp call base ⟨f, h⟩ (base + o.dst.getD 0) o.op = evalOp call base ⟨f', h⟩ (base + o.dst.getD 0) o.op := evalOp_congr rfl fun n hn => hl n (by simp [LOper.looks, hn])
  split
  · exact hop
  · rename_i g want hg
    rw [hl g (by simp [LOper.looks, hg]), hop]

/-! #### What the classes promise -/
theorem cls0_ev {call : Call} {base g0 : Nat} {op : LOp} (hc : op.cls = 0) {f : Nat → AV} {h h1 : Heap} {v : AV} (he : evalOp call base ⟨f, h⟩ g0 op = some (v, h1)) : h1 = h ∧ ∀ h', evalOp call base ⟨f, h'⟩ g0 op = some (v, h') := by
  have ev : ∀ x h h', (St.mk f h).ev x = (St.mk f h').ev x := fun x h h' => by cases x <;> rfl
  have evf : ∀ h h', (St.mk f h).ev = (St.mk f h').ev := fun h h' => funext fun x => ev x h h'
  cases op <;> simp [LOp.cls] at hc
  all_goals
    simp only [evalOp] at he ⊢
    refine ⟨?_, fun h' => ?_⟩
    all_goals try rw [evf h' h]
    all_goals (repeat' split at he) <;> first | (cases he; done) | (injection he with he; simp only [Prod.mk.injEq] at he; obtain ⟨rfl, rfl⟩ := he; first | rfl | simp_all)
theorem grow_get {h : Heap} {g g' : Nat} {ob o : AObj} (hg : h g = none) (ho : h g' = some o) : upd h g (some ob) g' = some o := by
  rw [upd_other]
  · exact ho
  · rintro rfl; rw [hg] at ho; cases ho
theorem derefC_grow {h : Heap} {g : Nat} {ob : AObj} (hg : h g = none) {x : AV} {r : List AV × Nat} (hd : derefC h x = some r) : derefC (upd h g (some ob)) x = some r := by
  unfold derefC at hd ⊢
  split at hd
  · exact hd
  · split at hd
    · rename_i v' c ho; rw [grow_get hg ho]; exact hd
    · rename_i v' e t c z ho; rw [grow_get hg ho]; exact hd
    · cases hd
  · cases hd
theorem cur_grow {h : Heap} {g g' ver : Nat} {ob : AObj} (hg : h g = none) (hd : cur h g' ver = true) : cur (upd h g (some ob)) g' ver = true := by
  obtain ⟨o, ho, e⟩ := cur_iff hd
  simp [cur, grow_get hg ho, e]
theorem curA_grow {h : Heap} {g g' ver esz : Nat} {ob : AObj} (hg : h g = none) (hd : curA h g' ver esz = true) : curA (upd h g (some ob)) g' ver esz = true := by
  obtain ⟨el, c, z, ho⟩ := curA_iff hd
  simp [curA, grow_get hg ho]
theorem curAny_grow {h : Heap} {g g' ver : Nat} {ob : AObj} (hg : h g = none) (hd : curAny h g' ver = true) : curAny (upd h g (some ob)) g' ver = true := by
  obtain ⟨e, el, c, z, ho⟩ := curAny_iff hd
  simp [curAny, grow_get hg ho]
theorem curM_grow {h : Heap} {g g' ver : Nat} {ob : AObj} {es : List (AV × AV)} (hg : h g = none) (hd : curM h g' ver = some es) : curM (upd h g (some ob)) g' ver = some es := by
  simp [curM, grow_get hg (curM_iff hd)]
theorem mapM_congr_some {α β : Type} {f f' : α → Option β} : ∀ {l : List α} {r : List β}, (∀ x y, f x = some y → f' x = some y) → l.mapM f = some r → l.mapM f' = some r
  | [], r, _, h => by simpa using h
  | x :: l, r, hf, h => by
    rw [List.mapM_cons] at h ⊢
    cases hx : f x with
    | none => rw [hx] at h; cases h
    | some y =>
      cases hl : l.mapM f with
      | none => rw [hx, hl] at h; cases h
      | some q => rw [hx, hl] at h; rw [hf x y hx, mapM_congr_some hf hl]; exact h
theorem snap_grow {h : Heap} {g : Nat} {ob : AObj} (hg : h g = none) : ∀ (k : Nat) (x : AV) (r : AV × List Nat), snap h k x = some r → snap (upd h g (some ob)) k x = some r
  | 0, x, r, hs => by simp [snap] at hs
  | k + 1, x, r, hs => by
    have ih := snap_grow hg (ob := ob) k
    cases x <;> (try simp only [snap] at hs ⊢) <;> try (exact hs)
    case map g' ver =>
      split at hs
      · rename_i v' es ho
        rw [grow_get hg ho]
        exact hs
      · cases hs
    case arr g' ver off len =>
      split at hs
      · rename_i v' e t c z ho
        rw [grow_get hg ho]
        simp only
        split at hs
        · rename_i hc
          rw [if_pos hc]
          split at hs
          · rename_i hf; rw [if_pos hf]; exact hs
          · rename_i hf
            rw [if_neg hf]
            split at hs
            · rename_i ps hps
              rw [mapM_congr_some ih hps]
              exact hs
            · cases hs
        · cases hs
      · cases hs
    case fn f caps =>
      split at hs
      · rename_i ps hps; rw [mapM_congr_some ih hps]; exact hs
      · cases hs
    case agg l =>
      split at hs
      · rename_i hf; rw [if_pos hf]; exact hs
      · rename_i hf
        rw [if_neg hf]
        split at hs
        · rename_i ps hps; rw [mapM_congr_some ih hps]; exact hs
        · cases hs
    case tup l =>
      split at hs
      · rename_i ps hps; rw [mapM_congr_some ih hps]; exact hs
      · cases hs
theorem snaps_grow {h : Heap} {g : Nat} {ob : AObj} (hg : h g = none) {l : List AV} {r : List AV × List Nat} (hs : snaps h l = some r) : snaps (upd h g (some ob)) l = some r := by
  unfold snaps at hs ⊢
  split at hs
  · rename_i ps hps; rw [mapM_congr_some (snap_grow hg depth) hps]; exact hs
  · cases hs
theorem qarg1_grow {h : Heap} {g : Nat} {ob : AObj} (hg : h g = none) {x : AV} {r : AV × List Nat} (hs : qarg1 h x = some r) : qarg1 (upd h g (some ob)) x = some r := by
  unfold qarg1 at hs ⊢
  split at hs
  · rename_i g' ver off
    cases ho : h g' with
    | none => rw [ho] at hs; cases hs
    | some o =>
      rw [ho] at hs
      rw [grow_get hg ho]
      unfold qbox at hs ⊢
      split at hs
      · split at hs
        · rename_i hv
          simp only [if_pos hv]
          split at hs
          · rename_i hf; rw [if_pos hf]; exact hs
          · rename_i hf
            rw [if_neg hf]
            unfold qboxM at hs ⊢
            split at hs
            · rename_i ps hps
              rw [mapM_congr_some (snap_grow hg depth) hps]
              exact hs
            · cases hs
        · cases hs
      · cases hs
  · exact snap_grow hg depth _ r hs
theorem qcaps_grow {h : Heap} {g : Nat} {ob : AObj} (hg : h g = none) : ∀ {l : List AV} {r : List AV × List Nat}, qcaps h l = some r → qcaps (upd h g (some ob)) l = some r
  | [], r, hs => hs
  | x :: l, r, hs => by
    simp only [qcaps] at hs ⊢
    unfold consQ at hs
    split at hs
    · rename_i u n1 us n2 h1 h2
      rw [qarg1_grow hg h1, qcaps_grow hg h2]
      exact hs
    · cases hs
theorem qarg_grow {h : Heap} {g : Nat} {ob : AObj} (hg : h g = none) {x : AV} {r : AV × List Nat} (hs : qarg h x = some r) : qarg (upd h g (some ob)) x = some r := by
  unfold qarg at hs ⊢
  split at hs
  · unfold qfn at hs
    split at hs
    · rename_i us ms hq
      rw [qcaps_grow hg hq]
      exact hs
    · cases hs
  · exact qarg1_grow hg hs
theorem qargs_grow {h : Heap} {g : Nat} {ob : AObj} (hg : h g = none) : ∀ {l : List AV} {r : List AV × List Nat}, qargs h l = some r → qargs (upd h g (some ob)) l = some r
  | [], r, hs => hs
  | x :: l, r, hs => by
    simp only [qargs] at hs ⊢
    unfold consQ at hs
    split at hs
    · rename_i u n1 us n2 h1 h2
      rw [qarg_grow hg h1, qargs_grow hg h2]
      exact hs
    · cases hs
theorem cls1_ev {call : Call} {base g0 : Nat} {op : LOp} (hc : op.cls = 1) {f : Nat → AV} {h h1 : Heap} {v : AV} (he : evalOp call base ⟨f, h⟩ g0 op = some (v, h1)) :
    h1 = h ∧ ∀ g ob, h g = none → evalOp call base ⟨f, upd h g (some ob)⟩ g0 op = some (v, upd h g (some ob)) := by
  have evf : ∀ h h', (St.mk f h).ev = (St.mk f h').ev := fun h h' => funext fun x => by cases x <;> rfl
  cases op <;> simp [LOp.cls] at hc
  case load ag n x =>
    simp only [evalOp] at he ⊢
    obtain ⟨hy, e2⟩ := hOut he
    subst e2
    refine ⟨rfl, fun g ob hg => ?_⟩
    have : loadV (upd h g (some ob)) ag n ((St.mk f (upd h g (some ob))).ev x) = some v := by
      rw [evf _ h]
      unfold loadV at hy ⊢
      split at hy
      · rename_i l off hd; rw [derefC_grow hg hd]; exact hy
      · cases hy
    rw [this]
  case nilck x =>
    simp only [evalOp] at he ⊢
    split at he
    · rename_i g' ver off hx
      split at he
      · rename_i hcur
        injection he with he
        simp only [Prod.mk.injEq] at he
        obtain ⟨rfl, rfl⟩ := he
        refine ⟨rfl, fun g ob hg => ?_⟩
        rw [evf _ h, hx]
        simp only
        rw [if_pos (cur_grow hg hcur)]
      · cases he
    · rename_i l hx
      injection he with he
      simp only [Prod.mk.injEq] at he
      obtain ⟨rfl, rfl⟩ := he
      exact ⟨rfl, fun g ob hg => by rw [evf _ h, hx]⟩
    · rename_i f' l hx
      injection he with he
      simp only [Prod.mk.injEq] at he
      obtain ⟨rfl, rfl⟩ := he
      exact ⟨rfl, fun g ob hg => by rw [evf _ h, hx]⟩
    · cases he
  case slc e x lo hi =>
    simp only [evalOp] at he ⊢
    obtain ⟨hy, e2⟩ := hOut he
    subst e2
    refine ⟨rfl, fun g ob hg => ?_⟩
    have : sliceV (upd h g (some ob)) e ((St.mk f (upd h g (some ob))).ev x) (lo.map (St.mk f (upd h g (some ob))).ev) (hi.map (St.mk f (upd h g (some ob))).ev) = some v := by
      rw [evf _ h]
      unfold sliceV at hy ⊢
      split at hy
      · exact hy
      · split at hy
        · split at hy
          · rename_i hcc
            obtain ⟨c1, c2, c3, c4⟩ := hcc
            rw [if_pos ⟨c1, c2, c3, curA_grow hg c4⟩]
            exact hy
          · cases hy
        · cases hy
      · exact hy
      · cases hy
    rw [this]
  case faddr off x =>
    simp only [evalOp] at he ⊢
    obtain ⟨hy, e2⟩ := hOut he
    subst e2
    refine ⟨rfl, fun g ob hg => ?_⟩
    have : faddrV (upd h g (some ob)) off ((St.mk f (upd h g (some ob))).ev x) = some v := by
      rw [evf _ h]
      unfold faddrV at hy ⊢
      split at hy
      · split at hy
        · rename_i hc; rw [if_pos (cur_grow hg hc)]; exact hy
        · cases hy
      · exact hy
      · cases hy
    rw [this]
  case iaddr e x i =>
    simp only [evalOp] at he ⊢
    obtain ⟨hy, e2⟩ := hOut he
    subst e2
    refine ⟨rfl, fun g ob hg => ?_⟩
    have : iaddrV (upd h g (some ob)) e ((St.mk f (upd h g (some ob))).ev x) ((St.mk f (upd h g (some ob))).ev i) = some v := by
      rw [evf _ h]
      unfold iaddrV at hy ⊢
      split at hy
      · exact hy
      · split at hy
        · rename_i hc; rw [if_pos ⟨hc.1, hc.2.1, curA_grow hg hc.2.2⟩]; exact hy
        · cases hy
      · cases hy
    rw [this]
  case iaddrA n e x i =>
    simp only [evalOp] at he ⊢
    obtain ⟨hy, e2⟩ := hOut he
    subst e2
    refine ⟨rfl, fun g ob hg => ?_⟩
    have : iaddrAV (upd h g (some ob)) n e ((St.mk f (upd h g (some ob))).ev x) ((St.mk f (upd h g (some ob))).ev i) = some v := by
      rw [evf _ h]
      unfold iaddrAV at hy ⊢
      split at hy
      · split at hy
        · rename_i hc; rw [if_pos ⟨hc.1, hc.2.1, cur_grow hg hc.2.2⟩]; exact hy
        · cases hy
      · exact hy
      · cases hy
    rw [this]
  case len x =>
    simp only [evalOp] at he ⊢
    split at he
    · rename_i n hn
      injection he with he
      simp only [Prod.mk.injEq] at he
      obtain ⟨rfl, rfl⟩ := he
      refine ⟨rfl, fun g ob hg => ?_⟩
      have : lenV (upd h g (some ob)) ((St.mk f (upd h g (some ob))).ev x) = some n := by
        rw [evf _ h]
        unfold lenV at hn ⊢
        split at hn
        · exact hn
        · exact hn
        · split at hn
          · rename_i hc; rw [if_pos (curAny_grow hg hc)]; exact hn
          · cases hn
        · cases hn
      rw [this]
    · cases he
  case lenM x =>
    simp only [evalOp] at he ⊢
    split at he
    · rename_i n hn
      injection he with he
      simp only [Prod.mk.injEq] at he
      obtain ⟨rfl, rfl⟩ := he
      refine ⟨rfl, fun g ob hg => ?_⟩
      have : lenM (upd h g (some ob)) ((St.mk f (upd h g (some ob))).ev x) = some n := by
        rw [evf _ h]
        unfold lenM at hn ⊢
        split at hn
        · exact hn
        · exact hn
        · split at hn
          · rename_i es hc; rw [curM_grow hg hc]; exact hn
          · cases hn
        · cases hn
      rw [this]
    · cases he
  case look ok ag sh z x k =>
    simp only [evalOp] at he ⊢
    obtain ⟨hy, e2⟩ := hOut he
    subst e2
    refine ⟨rfl, fun g ob hg => ?_⟩
    rw [evf _ h]
    have : ∀ y es, esOf h y = some es → esOf (upd h g (some ob)) y = some es := fun y es hes => by
      unfold esOf at hes ⊢
      split at hes
      · exact hes
      · exact hes
      · exact curM_grow hg hes
      · cases hes
    cases hes : esOf h ((St.mk f h).ev x) with
    | none => rw [hes] at hy; cases hy
    | some es => rw [this _ es hes, ← hes, hy]
  case callq f' l =>
    simp only [evalOp] at he ⊢
    unfold calQ at he
    split at he
    · rename_i vs ns hq
      unfold retQ at he
      split at he
      · rename_i u h0 hcall
        split at he
        · rename_i hsc
          injection he with he
          simp only [Prod.mk.injEq] at he
          obtain ⟨rfl, rfl⟩ := he
          refine ⟨rfl, fun g ob hg => ?_⟩
          rw [evf _ h, qargs_grow hg hq]
          simp only [calQ, retQ, hcall]
          rw [if_pos hsc]
        · cases he
      · cases he
    · cases he
  case callp f' l =>
    simp only [evalOp] at he ⊢
    split at he
    · rename_i vs ns hsn
      split at he
      · rename_i u h0 hv
        split at he
        · rename_i hcase
          injection he with he
          simp only [Prod.mk.injEq] at he
          obtain ⟨rfl, rfl⟩ := he
          refine ⟨rfl, fun g ob hg => ?_⟩
          rw [evf _ h, snaps_grow hg hsn]
          simp only [hv]
          rw [if_pos hcase]
        · cases he
      · cases he
    · cases he
  case callv x l =>
    simp only [evalOp] at he ⊢
    split at he
    · rename_i f' caps vs ns hsn
      split at he
      · rename_i u h0 hv
        split at he
        · rename_i hcase
          injection he with he
          simp only [Prod.mk.injEq] at he
          obtain ⟨rfl, rfl⟩ := he
          refine ⟨rfl, fun g ob hg => ?_⟩
          rw [evf _ h, snaps_grow hg hsn]
          simp only [hv]
          rw [if_pos hcase]
        · cases he
      · cases he
    · cases he
theorem cls2_ev {call : Call} {base g0 : Nat} {op : LOp} (hc : op.cls = 2) {f : Nat → AV} {h h1 : Heap} {v : AV} (h0 : h g0 = none) (he : evalOp call base ⟨f, h⟩ g0 op = some (v, h1)) :
    ∃ ob, h1 = upd h g0 (some ob) ∧ ∀ h', h' g0 = none → evalOp call base ⟨f, h'⟩ g0 op = some (v, upd h' g0 (some ob)) := by
  have evf : ∀ h h', (St.mk f h).ev = (St.mk f h').ev := fun h h' => funext fun x => by cases x <;> rfl
  have nv : ∀ h', h' g0 = none → newVer h' g0 = 0 := fun h' hh => by simp [newVer, hh]
  cases op <;> simp [LOp.cls] at hc
  all_goals
    simp only [evalOp, nv h h0] at he
    (repeat' split at he) <;> first | (cases he; done) | skip
    all_goals
      injection he with he
      simp only [Prod.mk.injEq] at he
      obtain ⟨rfl, rfl⟩ := he
      refine ⟨_, rfl, fun h' hh => ?_⟩
      simp only [evalOp, nv h' hh]
      try rw [evf h' h]
      try simp_all

/-! #### Two operations change places -/
/-- What a step in a drawn region does: the value, and the heap: the same, or with a new name. -/
theorem cls2_new {op : LOp} (h : op.cls = 2) : op.isNew = true := by cases op <;> simp [LOp.cls] at h <;> rfl
theorem new_cls2 {op : LOp} (h : op.isNew = true) : op.cls = 2 := by cases op <;> simp [LOp.isNew] at h <;> rfl
def ClsOK (call : Call) (base : Nat) (o : LOper) (f : Nat → AV) (h h1 : Heap) (v : AV) : Prop :=
  (o.op.cls = 0 → h1 = h ∧ ∀ h', evG call base o f h' = some (v, h')) ∧
    (o.op.cls = 1 → h1 = h ∧ ∀ g ob, h g = none → evG call base o f (upd h g (some ob)) = some (v, upd h g (some ob))) ∧
    (o.op.cls = 2 → (h1 = h ∧ ∀ h', evG call base o f h' = some (v, h')) ∨
      ∃ ob, h1 = upd h (base + o.dst.getD 0) (some ob) ∧ ∀ h', h' (base + o.dst.getD 0) = none → evG call base o f h' = some (v, upd h' (base + o.dst.getD 0) (some ob)))
theorem evG_cls {call : Call} {base : Nat} {o : LOper} {f : Nat → AV} {h h1 : Heap} {v : AV} (he : evG call base o f h = some (v, h1)) (hnew : o.op.isNew = true → h (base + o.dst.getD 0) = none) : ClsOK call base o f h h1 v := by
  have main : evalOp call base ⟨f, h⟩ (base + o.dst.getD 0) o.op = some (v, h1) → (∀ h' r, evalOp call base ⟨f, h'⟩ (base + o.dst.getD 0) o.op = some r → evG call base o f h' = some r) → ClsOK call base o f h h1 v := fun hev hall =>
    ⟨fun hc => ⟨(cls0_ev hc hev).1, fun h' => hall h' _ ((cls0_ev hc hev).2 h')⟩, fun hc => ⟨(cls1_ev hc hev).1, fun g ob hg => hall _ _ ((cls1_ev hc hev).2 g ob hg)⟩, fun hc => by
      obtain ⟨ob, e, hob⟩ := cls2_ev hc (hnew (cls2_new hc)) hev
      exact .inr ⟨ob, e, fun h' hh => hall _ _ (hob h' hh)⟩⟩
  have skip : h1 = h → (∀ h', evG call base o f h' = some (v, h')) → ClsOK call base o f h h1 v := fun e hall =>
    ⟨fun _ => ⟨e, hall⟩, fun _ => ⟨e, fun g ob _ => hall _⟩, fun _ => .inl ⟨e, hall⟩⟩
  unfold evG at he
  split at he
  · rename_i hg
    exact main he fun h' r hr => by unfold evG; rw [hg]; exact hr
  · rename_i g want hg
    split at he
    · rename_i b hb
      split at he
      · rename_i hbw
        exact main he fun h' r hr => by unfold evG; rw [hg]; simp only [hb]; rw [if_pos hbw]; exact hr
      · rename_i hbw
        injection he with he
        simp only [Prod.mk.injEq] at he
        obtain ⟨rfl, rfl⟩ := he
        exact skip rfl fun h' => by unfold evG; rw [hg]; simp only [hb]; rw [if_neg hbw]
    · rename_i hb
      injection he with he
      simp only [Prod.mk.injEq] at he
      obtain ⟨rfl, rfl⟩ := he
      exact skip rfl fun h' => by unfold evG; rw [hg]; simp only [hb]
    · cases he
theorem upd_comm {α : Type} (f : Nat → α) {d e : Nat} (u v : α) (h : d ≠ e) : upd (upd f d u) e v = upd (upd f e v) d u := by
  funext n
  unfold upd
  by_cases h1 : n = e <;> by_cases h2 : n = d <;> simp_all
theorem put_f_comm {σ : St} {d e : Option Nat} {u v : AV} {h1 h2 h3 h4 : Heap} (hne : ∀ x, d = some x → e ≠ some x) : ((σ.put d u h1).put e v h3).f = ((σ.put e v h2).put d u h4).f := by
  cases d <;> cases e <;> simp only [St.put]
  rename_i d e
  exact upd_comm σ.f u v (by rintro rfl; exact hne d rfl rfl)
theorem put_h {σ : St} {d : Option Nat} {u : AV} {h : Heap} : (σ.put d u h).h = h := by cases d <;> rfl
theorem put_f_other {σ : St} {d : Option Nat} {u : AV} {h : Heap} {n : Nat} (hn : d ≠ some n) : (σ.put d u h).f n = σ.f n := by
  cases d with
  | none => rfl
  | some d => exact upd_other _ _ _ _ (by rintro rfl; exact hn rfl)
theorem St.ext' {σ τ : St} (h1 : σ.f = τ.f) (h2 : σ.h = τ.h) : σ = τ := by cases σ; cases τ; simp_all
theorem stepOpD_iff {call : Call} {base : Nat} {o : LOper} {σ σ' : St} (h : stepOpD call base o σ = some σ') :
    (o.op.isNew = true → σ.h (base + o.dst.getD 0) = none) ∧ ∃ v h1, evG call base o σ.f σ.h = some (v, h1) ∧ σ' = σ.put o.dst v h1 := by
  unfold stepOpD at h
  split at h
  · cases h
  · rename_i hn
    rw [stepOp_evG] at h
    obtain ⟨⟨v, h1⟩, h2, h3⟩ := optOut h
    refine ⟨fun hi => ?_, v, h1, h2, h3⟩
    cases hh : σ.h (base + o.dst.getD 0) with
    | none => rfl
    | some x => exact absurd ⟨hi, by rw [hh]; rfl⟩ hn
theorem stepOpD_mk {call : Call} {base : Nat} {o : LOper} {σ : St} {v : AV} {h1 : Heap} (hn : o.op.isNew = true → σ.h (base + o.dst.getD 0) = none) (he : evG call base o σ.f σ.h = some (v, h1)) : stepOpD call base o σ = some (σ.put o.dst v h1) := by
  unfold stepOpD
  rw [if_neg (by rintro ⟨h1, h2⟩; rw [hn h1] at h2; cases h2), stepOp_evG, he]
  rfl
theorem swap {call : Call} {base : Nat} {i j : LOper} {σ σ1 σ2 : St} (hi : indep i j = true) (h1 : stepOpD call base i σ = some σ1) (h2 : stepOpD call base j σ1 = some σ2) :
    ∃ σ', stepOpD call base j σ = some σ' ∧ stepOpD call base i σ' = some σ2 := by
  simp only [indep, Bool.and_eq_true] at hi
  obtain ⟨⟨⟨⟨t1, t2⟩, t3⟩, t4⟩, t5⟩ := hi
  have a1 : ∀ n ∈ j.looks, i.dst ≠ some n := fun n hn e => by rw [e] at t1; simp at t1; exact t1.1 hn
  have a2 : ∀ n ∈ i.looks, j.dst ≠ some n := fun n hn e => by rw [e] at t2; simp at t2; exact t2 hn
  have a3 : ∀ x, i.dst = some x → j.dst ≠ some x := fun x e => by rw [e] at t1; simp at t1; exact t1.2
  have a3' : ∀ x, j.dst = some x → i.dst ≠ some x := fun x e e' => a3 x e' e
  obtain ⟨n1, v1, g1, e1, rfl⟩ := stepOpD_iff h1
  obtain ⟨n2, v2, g2, e2, rfl⟩ := stepOpD_iff h2
  rw [put_h] at n2 e2
  have e2' : evG call base j σ.f g1 = some (v2, g2) := by
    rw [← e2]; exact evG_congr fun n hn => (put_f_other (a1 n hn)).symm
  obtain ⟨i0, i1, i2⟩ := evG_cls e1 n1
  obtain ⟨j0, j1, j2⟩ := evG_cls e2' n2
  -- it is enough to give the two heaps
  have fin : ∀ k, (j.op.isNew = true → σ.h (base + j.dst.getD 0) = none) → evG call base j σ.f σ.h = some (v2, k) → (i.op.isNew = true → k (base + i.dst.getD 0) = none) → evG call base i σ.f k = some (v1, g2) →
      ∃ σ', stepOpD call base j σ = some σ' ∧ stepOpD call base i σ' = some ((σ.put i.dst v1 g1).put j.dst v2 g2) := by
    intro k q1 q2 q3 q4
    refine ⟨σ.put j.dst v2 k, stepOpD_mk q1 q2, ?_⟩
    have : evG call base i (σ.put j.dst v2 k).f (σ.put j.dst v2 k).h = some (v1, g2) := by
      rw [put_h, ← q4]; exact evG_congr fun n hn => put_f_other (a2 n hn)
    rw [stepOpD_mk (by rw [put_h]; exact q3) this]
    congr 1
    exact St.ext' (put_f_comm a3') (by rw [put_h, put_h])
  have notnew : ∀ {o : LOper} {n : Nat}, o.op.cls = n → n ≠ 2 → o.op.isNew = true → False := fun {o n} h hn hnew => hn (h ▸ new_cls2 hnew)
  simp only [Bool.or_eq_true, Bool.and_eq_true, beq_iff_eq] at t3
  by_cases c0 : i.op.cls = 0
  · obtain ⟨rfl, r⟩ := i0 c0
    exact fin g2 n2 e2' (fun h => (notnew c0 (by decide) h).elim) (r g2)
  · by_cases d0 : j.op.cls = 0
    · obtain ⟨rfl, r⟩ := j0 d0
      exact fin σ.h (fun h => (notnew d0 (by decide) h).elim) (r σ.h) n1 e1
    · rcases t3 with (((t3 | t3) | t3) | t3)
      · exact (c0 t3).elim
      · exact (d0 t3).elim
      · obtain ⟨c1, t3⟩ := t3
        obtain ⟨rfl, r⟩ := i1 c1
        rcases t3 with d1 | d2
        · obtain ⟨rfl, _⟩ := j1 d1
          exact fin σ.h n2 e2' n1 e1
        · rcases j2 d2 with ⟨rfl, _⟩ | ⟨ob, rfl, _⟩
          · exact fin σ.h n2 e2' n1 e1
          · exact fin _ n2 e2' (fun h => (notnew c1 (by decide) h).elim) (r _ ob (n2 (cls2_new d2)))
      · obtain ⟨c2, d2⟩ := t3
        have hj : j.op.isNew = true := cls2_new d2
        have hni : i.op.isNew = true := cls2_new c2
        have hne : base + j.dst.getD 0 ≠ base + i.dst.getD 0 := by
          rw [c2] at t4
          rw [d2] at t5
          cases hdi : i.dst with
          | none => rw [hdi] at t4; simp at t4
          | some x =>
            cases hdj : j.dst with
            | none => rw [hdj] at t5; simp at t5
            | some y =>
              have := a3 x hdi
              rw [hdj] at this
              simp
              rintro rfl
              exact this rfl
        rcases i2 c2 with ⟨rfl, r⟩ | ⟨oi, rfl, r⟩
        · rcases j2 d2 with ⟨rfl, _⟩ | ⟨oj, rfl, _⟩
          · exact fin σ.h n2 e2' n1 e1
          · exact fin _ n2 e2' (fun h => by rw [upd_other _ _ _ _ hne.symm]; exact n1 h) (r _)
        · have hg : σ.h (base + j.dst.getD 0) = none := by have := n2 hj; rwa [upd_other _ _ _ _ hne] at this
          rcases j2 d2 with ⟨rfl, q⟩ | ⟨oj, rfl, q⟩
          · exact fin σ.h (fun _ => hg) (q σ.h) n1 e1
          · refine fin _ (fun _ => hg) (q σ.h hg) (fun h => by rw [upd_other _ _ _ _ hne.symm]; exact n1 h) ?_
            rw [r _ (by rw [upd_other _ _ _ _ hne.symm]; exact n1 hni)]
            rw [upd_comm _ _ _ hne]
theorem bubble {call : Call} {base : Nat} {j : LOper} : ∀ {A B : List LOper} {σ σf : St}, (∀ i ∈ A, indep i j = true) → evalOpsD call base (A ++ j :: B) σ = some σf → ∃ σ', stepOpD call base j σ = some σ' ∧ evalOpsD call base (A ++ B) σ' = some σf
  | [], B, σ, σf, _, h => by
    simp only [List.nil_append, evalOpsD] at h ⊢
    split at h
    · rename_i σ' h'; exact ⟨σ', h', h⟩
    · cases h
  | i :: A, B, σ, σf, hA, h => by
    simp only [List.cons_append, evalOpsD] at h ⊢
    split at h
    · rename_i σ1 h1
      obtain ⟨σ2, h2, h3⟩ := bubble (fun k hk => hA k (List.mem_cons_of_mem _ hk)) h
      obtain ⟨σ', s1, s2⟩ := swap (hA i (List.mem_cons_self ..)) h1 h2
      refine ⟨σ', s1, ?_⟩
      rw [s2]
      exact h3
    · cases h
end Go.Vv
