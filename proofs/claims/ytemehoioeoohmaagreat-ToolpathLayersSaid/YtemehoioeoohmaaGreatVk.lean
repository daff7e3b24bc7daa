/- The evaluator's regions are right of the model's, whatever order is drawn. Conditions: those that 'drawOK' asks of a region. -/
import Derived.Test.YtemehoioeoohmaaGreatVj
import Derived.Tactics
import Derived.Orders
namespace Go.Vv
open Go
open Prod.mk renaming injEq → Aa
open Bool renaming false_eq_true → Ab
open List renaming all_eq_true → Ac
section
variable {P : Program} {w : World} {S : Nat → Prop} {σ : St} {μ : Gh} {a : Act} {nt : Nat}
def valB : Value → Option Bool
 | .bool b => some b
 | _ => none
theorem Jr0 {ops : Array Oper} {j d : Nat} (hs : RepS nt w S σ μ a) (hj : (ops[j]?).bind (·.dst) = some d) (hd : d < nt) {v : Value} (hv : a.tmps.getD d undef = v) : yielded ops a.tmps j = valB v := by
 unfold yielded
 rw [hj]
 have hlt : d < a.tmps.size := by have := hs.sz; omega
 have : a.tmps[d]? = some v := by rw [← hv]; exact getD_some hlt
 simp only [Option.bind_some, this]
 cases v <;> rfl
theorem J3m {call : Call} {cm : List (Nat × CM)} {ops : Array Oper} {o : Oper} {lo : LOper} {base : Nat} {σ' : St} {K : Act → World → Prop} {Q : Exit → Act → World → Prop} (hcall : Jjx P call) (hs : RepS nt w S σ μ a)
  (hc : comp P cm nt ops o = some lo) (he : Jdh call base lo σ = some σ')
  (hK : ∀ a' w' S' μ', RepS nt w' S' σ' μ' a' → Evo w S σ.h μ w' S' σ'.h μ' → EvoV σ.h μ σ'.h μ' → K a' w') :
  if Region.wanted o (yielded ops a.tmps) = true then o.wp P a w K Q else K (a.put o.dst undef) w := by
 unfold comp at hc
 split at hc
 ·cases hc
 ·rename_i lop hlop
  split at hc
  ·rename_i hd
   have run : ∀ {g0 v h}, Jz call base σ g0 lop = some (v, h) → σ' = σ.put o.dst v h → o.wp P a w K Q := by
    rintro g0 v h hev rfl
    refine op_wp hcall hs hlop hev fun cv w' ⟨S', μ', r1, r2, r3, r4⟩ => hK _ _ S' μ' (Jtg hs hd r1 r2 r3 r4) ?_ ?_
    ·cases o.dst <;> exact r3
    ·cases o.dst <;> exact r4
   have skip : σ' = σ.put o.dst (.tup []) σ.h → K (a.put o.dst undef) w := by
    rintro rfl
    refine hK _ _ S μ (Jtg hs hd (.tup [] #[] rfl (fun i x hi => by simp at hi)) hs.hp .refl (.refl _ _)) ?_ ?_
    ·cases o.dst <;> exact .refl
    ·cases o.dst <;> exact .refl _ _
   split at hc
   ·rename_i hg
    injection hc with hc
    subst hc
    rw [if_pos (by simp [Region.wanted, hg])]
    simp only [Jdh] at he
    split at he
    ·rename_i v h hev
     injection he with he
     exact run hev he.symm
    ·cases he
   ·rename_i j want hg
    split at hc
    ·rename_i d hj
     split at hc
     ·rename_i hlt
      injection hc with hc
      subst hc
      simp only [Jdh] at he
      have hrd := hs.fr d
      split at he
      ·rename_i b hb
       rw [hb] at hrd
       have hy := Jr0 hs hj hlt hrd.bool_inv
       have hw : Region.wanted o (yielded ops a.tmps) = (b == want) := by simp [Region.wanted, hg, hy, valB]
       split at he
       ·rename_i hbw
        rw [if_pos (by rw [hw]; simpa using hbw)]
        split at he
        ·rename_i v h hev
         injection he with he
         exact run hev he.symm
        ·cases he
       ·rename_i hbw
        rw [if_neg (by rw [hw]; simpa using hbw)]
        injection he with he
        exact skip he.symm
      ·rename_i hb
       rw [hb] at hrd
       have hy := Jr0 hs hj hlt hrd.tup0_inv
       rw [if_neg (by simp [Region.wanted, hg, hy, valB])]
       injection he with he
       exact skip he.symm
      ·cases he
     ·cases hc
    ·cases hc
  ·cases hc
theorem ops_wp {call : Call} {cm : List (Nat × CM)} {ops : Array Oper} {base : Nat} {Q : Exit → Act → World → Prop} (hcall : Jjx P call) : ∀ {l : List Oper} {ll : List LOper} {w : World} {S : Nat → Prop} {σ σ' : St} {μ : Gh} {a : Act},
  RepS nt w S σ μ a → Jqe P cm nt ops l = some ll → Jep call base ll σ = some σ' →
  (∀ a' w' S' μ', RepS nt w' S' σ' μ' a' → Evo w S σ.h μ w' S' σ'.h μ' → EvoV σ.h μ σ'.h μ' → Q .normal a' w') → wpList P ops Q l a w
 | [], ll, w, S, σ, σ', μ, a, hs, hc, he, hQ => by
  simp [Jqe] at hc
  subst hc
  simp [Jep] at he
  subst he
  exact hQ _ _ _ _ hs .refl (.refl _ _)
 | o :: l, ll, w, S, σ, σ', μ, a, hs, hc, he, hQ => by
  unfold Jqe at hc
  split at hc
  ·rename_i lo l' hlo hl'
   injection hc with hc
   subst hc
   unfold Jep at he
   split at he
   ·rename_i σ1 h1
    refine wpList_step fun K hK => J3m hcall hs hlo h1 fun a1 w1 S1 μ1 r1 r2 r3 => hK _ _ ?_
    exact ops_wp hcall r1 hl' he fun a2 w2 S2 μ2 q1 q2 q3 => hQ _ _ _ _ q1 (r2.trans q2) (r3.trans q3)
   ·cases he
  ·cases hc
end
def LO.tmp? : LO → List Nat
 | .t n => [n]
 | .c _ => []
def LOp.looks : LOp → List Nat
 | .alloc _ | .allocA .. | .mkM => []
 | .mov x | .frz x | .box x | .load _ _ x | .un _ x | .conv _ x | .nilck x | .faddr _ x | .fld _ _ _ x | .ext x _ | .len x | .lenM x | .lenS x | .isnil _ x | .slcA _ _ x => x.tmp?
 | .pick c a b => c.tmp? ++ a.tmp? ++ b.tmp?
 | .build _ ps | .bslice _ _ _ _ ps | .bslz _ _ _ _ ps => ps.flatMap fun p => p.2.2.tmp?
 | .store _ x y | .ibin _ x y | .eqv _ _ _ x y | .mkS _ _ _ _ x y | .iaddr _ x y | .iaddrA _ _ x y | .idx _ _ _ x y | .app _ _ _ _ x y | .appz _ _ _ _ x y | .appn _ _ _ _ _ _ x y | .ston _ _ x y | .look _ _ _ _ x y | .delM _ _ x y | .shf _ x y | .mm _ x y => x.tmp? ++ y.tmp?
 | .setM _ _ x k v => x.tmp? ++ k.tmp? ++ v.tmp?
 | .mkfn _ l | .callp _ l | .callz _ l | .callr _ l | .callq _ l => l.flatMap LO.tmp?
 | .callv x l | .callw x l | .callu x l => x.tmp? ++ l.flatMap LO.tmp?
 | .slc _ x lo hi => x.tmp? ++ (lo.map LO.tmp?).getD [] ++ (hi.map LO.tmp?).getD []
 | .msk _ op => op.looks
def LOper.looks (o : LOper) : List Nat := o.op.looks ++ (o.guard.map fun g => [g.1]).getD []
def LOp.still : LOp → Bool
 | .load .. | .nilck _ | .slc .. | .faddr .. | .iaddr .. | .iaddrA .. | .len _ | .isnil .. | .slcA .. | .callp _ [] => true
 | _ => false
def LOp.frzs : LOp → Bool
 | .callz .. | .frz _ => true
 | _ => false
def LOp.aps : LOp → Bool
 | .app .. => true
 | .appn false .. => true
 | _ => false
def LOp.nwD : LOp → Option (List Nat)
 | .appn _ ds _ _ _ _ _ _ => some ds
 | .ston ds _ _ _ => some ds
 | _ => none
def LOp.past (i j : LOp) : Bool :=
 match i, j.nwD with
 | .msk ds _, some ds' => ds'.all fun d => ds.contains d
 | _, _ => false
def Jur (i j : LOper) : Bool :=
 (match i.dst with | some d => !j.looks.contains d && j.dst != some d | none => true) &&
 (match j.dst with | some d => !i.looks.contains d | none => true) &&
 (i.op.cls == 0 || j.op.cls == 0 || (i.op.cls == 1 && (j.op.cls == 1 || j.op.cls == 2)) || (i.op.cls == 2 && j.op.cls == 2) || (i.op.still && j.op.frzs) || i.op.past j.op || (i.op.frzs && j.op.cls == 2) || (i.op.aps && i.dst.isSome && j.op.cls == 2)) &&
 (i.op.cls != 2 || i.dst.isSome) && (j.op.cls != 2 || j.dst.isSome)
theorem Jdg {σ σ' : St} {x : LO} (h : ∀ n ∈ x.tmp?, σ.f n = σ'.f n) : σ.ev x = σ'.ev x := by
 cases x with
 | t n => exact h n (by simp [LO.tmp?])
 | c v => rfl
theorem Jd0 {σ σ' : St} {l : List LO} (h : ∀ n ∈ l.flatMap LO.tmp?, σ.f n = σ'.f n) : l.map σ.ev = l.map σ'.ev :=
 List.map_congr_left fun x hx => Jdg fun n hn => h n (List.mem_flatMap.2 ⟨x, hx, hn⟩)
theorem Jke {σ σ' : St} : ∀ {ps : List (Nat × Nat × LO)} {z : List AV}, (∀ n ∈ ps.flatMap (fun p => p.2.2.tmp?), σ.f n = σ'.f n) → Jm5 σ.ev z ps = Jm5 σ'.ev z ps
 | [], z, _ => rfl
 | (off, n, x) :: r, z, h => by
  simp only [Jm5]
  rw [Jdg (x := x) (σ' := σ') fun m hm => h m (by simp [hm])]
  split
  ·split
   ·exact Jke fun m hm => h m (by simp only [List.flatMap_cons, List.mem_append]; exact .inr hm)
   ·rfl
  ·rfl
theorem Jse {call : Call} {base g0 : Nat} {σ σ' : St} {op : LOp} (hm : ∀ ds o, op ≠ .msk ds o) (hh : σ.h = σ'.h) (h : ∀ n ∈ op.looks, σ.f n = σ'.f n) : Jz call base σ g0 op = Jz call base σ' g0 op := by
 cases op <;> (try (exact (hm _ _ rfl).elim)) <;> simp only [LOp.looks, List.mem_append] at h <;> simp only [Jz, hh]
 case slc e x lo hi =>
  rw [Jdg (x := x) fun n hn => h n (.inl (.inl hn))]
  have h1 : lo.map σ.ev = lo.map σ'.ev := by
   cases lo with
   | none => rfl
   | some y => simp only [Option.map_some]; rw [Jdg fun n hn => h n (.inl (.inr (by simpa using hn)))]
  have h2 : hi.map σ.ev = hi.map σ'.ev := by
   cases hi with
   | none => rfl
   | some y => simp only [Option.map_some]; rw [Jdg fun n hn => h n (.inr (by simpa using hn))]
  rw [h1, h2]
 case pick c x y => rw [Jdg (x := c) fun n hn => h n (.inl (.inl hn)), Jdg (x := x) fun n hn => h n (.inl (.inr hn)), Jdg (x := y) fun n hn => h n (.inr hn)]
 case setM ag sh x k v => rw [Jdg (x := x) fun n hn => h n (.inl (.inl hn)), Jdg (x := k) fun n hn => h n (.inl (.inr hn)), Jdg (x := v) fun n hn => h n (.inr hn)]
 case build z ps => rw [Jke h]
 case bslice n e t z ps => rw [Jke h]
 case bslz n e t z ps => rw [Jke h]
 case mkfn f l => rw [Jd0 h]
 case callp f l => rw [Jd0 h]
 case callz f l => rw [Jd0 h]
 case callr f l => rw [Jd0 h]
 case callq f l => rw [Jd0 h]
 case callw x l => rw [Jdg (x := x) fun n hn => h n (.inl hn), Jd0 fun n hn => h n (.inr hn)]
 case callu x l => rw [Jdg (x := x) fun n hn => h n (.inl hn), Jd0 fun n hn => h n (.inr hn)]
 case callv x l => rw [Jdg (x := x) fun n hn => h n (.inl hn), Jd0 fun n hn => h n (.inr hn)]
 all_goals first
  | rw [Jdg h]
  | (rename_i x y; rw [Jdg (x := x) fun n hn => h n (.inl hn), Jdg (x := y) fun n hn => h n (.inr hn)])
theorem Jui {call : Call} {base g0 : Nat} {op : LOp} : ∀ {σ σ' : St}, σ.h = σ'.h → (∀ n ∈ op.looks, σ.f n = σ'.f n) → Jz call base σ g0 op = Jz call base σ' g0 op := by
 induction op with
 | msk ds op ih =>
  intro σ σ' hh h
  simp only [Jz, hh]
  rw [ih (σ := ⟨σ.f, Jdn base ds σ'.h⟩) (σ' := ⟨σ'.f, Jdn base ds σ'.h⟩) rfl h]
 | _ => exact fun hh h => Jse (by rintro _ _ ⟨⟩) hh h
def evG (call : Call) (base : Nat) (o : LOper) (f : Nat → AV) (h : Heap) : Option (AV × Heap) :=
 match o.guard with
 | none => Jz call base ⟨f, h⟩ (base + o.dst.getD 0) o.op
 | some (g, want) =>
  match f g with
  | .bool b => if b = want then Jz call base ⟨f, h⟩ (base + o.dst.getD 0) o.op else some (.tup [], h)
  | .tup [] => some (.tup [], h)
  | _ => none
theorem Jrc (call : Call) (base : Nat) (o : LOper) (σ : St) : Jdh call base o σ = (evG call base o σ.f σ.h).map fun r => σ.put o.dst r.1 r.2 := by
 unfold Jdh evG
 cases hg : o.guard with
 | none =>
  simp only
  cases Jz call base σ (base + o.dst.getD 0) o.op <;> rfl
 | some g =>
  obtain ⟨g, want⟩ := g
  simp only
  cases hf : σ.f g with
  | bool b =>
   simp only
   by_cases hb : b = want
   ·rw [if_pos hb, if_pos hb]
    cases Jz call base σ (base + o.dst.getD 0) o.op <;> rfl
   ·rw [if_neg hb, if_neg hb]; rfl
  | tup l => cases l <;> rfl
  | _ => rfl
theorem Jt4 {call : Call} {base : Nat} {o : LOper} {f f' : Nat → AV} {h : Heap} (hl : ∀ n ∈ o.looks, f n = f' n) : evG call base o f h = evG call base o f' h := by
 unfold evG
 have hop : Jz call base ⟨f, h⟩ (base + o.dst.getD 0) o.op = Jz call base ⟨f', h⟩ (base + o.dst.getD 0) o.op := Jui rfl fun n hn => hl n (by simp [LOper.looks, hn])
 split
 ·exact hop
 ·rename_i g want hg
  rw [hl g (by simp [LOper.looks, hg]), hop]
theorem J58 {call : Call} {base g0 : Nat} {op : LOp} (hc : op.cls = 0) {f : Nat → AV} {h h1 : Heap} {v : AV} (he : Jz call base ⟨f, h⟩ g0 op = some (v, h1)) : h1 = h ∧ ∀ h', Jz call base ⟨f, h'⟩ g0 op = some (v, h') := by
 have ev : ∀ x h h', (St.mk f h).ev x = (St.mk f h').ev x := fun x h h' => by cases x <;> rfl
 have evf : ∀ h h', (St.mk f h).ev = (St.mk f h').ev := fun h h' => funext fun x => ev x h h'
 cases op <;> simp [LOp.cls] at hc
 all_goals
  simp only [Jz] at he ⊢
  refine ⟨?_, fun h' => ?_⟩
  all_goals try rw [evf h' h]
  all_goals (repeat' split at he) <;> first | (cases he; done) | (injection he with he; simp only [Aa] at he; obtain ⟨rfl, rfl⟩ := he; first | rfl | simp_all)
theorem Jfh {h : Heap} {g g' : Nat} {ob o : AObj} (hg : h g = none) (ho : h g' = some o) : upd h g (some ob) g' = some o := by
 rw [Qd]
 ·exact ho
 ·rintro rfl; rw [hg] at ho; cases ho
theorem Jwb {h : Heap} {g : Nat} {ob : AObj} (hg : h g = none) {x : AV} {r : List AV × Nat} (hd : Jl4 h x = some r) : Jl4 (upd h g (some ob)) x = some r := by
 unfold Jl4 at hd ⊢
 split at hd
 ·exact hd
 ·split at hd
  ·rename_i v' c ho; rw [Jfh hg ho]; exact hd
  ·rename_i v' e t c z ho; rw [Jfh hg ho]; exact hd
  ·cases hd
 ·cases hd
theorem Jsc {h : Heap} {g g' ver : Nat} {ob : AObj} (hg : h g = none) (hd : cur h g' ver = true) : cur (upd h g (some ob)) g' ver = true := by
 obtain ⟨o, ho, e⟩ := Js4 hd
 simp [cur, Jfh hg ho, e]
theorem Jt7 {h : Heap} {g g' ver esz : Nat} {ob : AObj} (hg : h g = none) (hd : curA h g' ver esz = true) : curA (upd h g (some ob)) g' ver esz = true := by
 obtain ⟨el, c, z, ho⟩ := Jsh hd
 simp [curA, Jfh hg ho]
theorem Jmw {h : Heap} {g g' ver : Nat} {ob : AObj} (hg : h g = none) (hd : Jek h g' ver = true) : Jek (upd h g (some ob)) g' ver = true := by
 obtain ⟨e, el, c, z, ho⟩ := Jnz hd
 simp [Jek, Jfh hg ho]
theorem Jtc {h : Heap} {g g' ver : Nat} {ob : AObj} {es : List (AV × AV)} (hg : h g = none) (hd : curM h g' ver = some es) : curM (upd h g (some ob)) g' ver = some es := by
 simp [curM, Jfh hg (Jx0 hd)]
theorem Jcz {α β : Type} {f f' : α → Option β} : ∀ {l : List α} {r : List β}, (∀ x y, f x = some y → f' x = some y) → l.mapM f = some r → l.mapM f' = some r
 | [], r, _, h => by simpa using h
 | x :: l, r, hf, h => by
  rw [List.mapM_cons] at h ⊢
  cases hx : f x with
  | none => rw [hx] at h; cases h
  | some y =>
   cases hl : l.mapM f with
   | none => rw [hx, hl] at h; cases h
   | some q => rw [hx, hl] at h; rw [hf x y hx, Jcz hf hl]; exact h
theorem Jlh {h : Heap} {g : Nat} {ob : AObj} (hg : h g = none) : ∀ (k : Nat) (x : AV) (r : AV × List Nat), snap h k x = some r → snap (upd h g (some ob)) k x = some r
 | 0, x, r, hs => by simp [snap] at hs
 | k + 1, x, r, hs => by
  have ih := Jlh hg (ob := ob) k
  cases x <;> (try simp only [snap] at hs ⊢) <;> try (exact hs)
  case map g' ver =>
   split at hs
   ·rename_i v' es ho
    rw [Jfh hg ho]
    exact hs
   ·cases hs
  case arr g' ver off len =>
   split at hs
   ·rename_i v' e t c z ho
    rw [Jfh hg ho]
    simp only
    split at hs
    ·rename_i hc
     rw [if_pos hc]
     split at hs
     ·rename_i hf; rw [if_pos hf]; exact hs
     ·rename_i hf
      rw [if_neg hf]
      split at hs
      ·rename_i ps hps
       rw [Jcz ih hps]
       exact hs
      ·cases hs
    ·cases hs
   ·cases hs
  case fn f caps =>
   split at hs
   ·rename_i ps hps; rw [Jcz ih hps]; exact hs
   ·cases hs
  case agg l =>
   split at hs
   ·rename_i hf; rw [if_pos hf]; exact hs
   ·rename_i hf
    rw [if_neg hf]
    split at hs
    ·rename_i ps hps; rw [Jcz ih hps]; exact hs
    ·cases hs
  case tup l =>
   split at hs
   ·rename_i ps hps; rw [Jcz ih hps]; exact hs
   ·cases hs
theorem Joj {h : Heap} {g : Nat} {ob : AObj} (hg : h g = none) {l : List AV} {r : List AV × List Nat} (hs : Jjk h l = some r) : Jjk (upd h g (some ob)) l = some r := by
 unfold Jjk at hs ⊢
 split at hs
 ·rename_i ps hps; rw [Jcz (Jlh hg depth) hps]; exact hs
 ·cases hs
theorem Jr4 {h : Heap} {g : Nat} {ob : AObj} (hg : h g = none) {x : AV} {r : AV × List Nat} (hs : Jli h x = some r) : Jli (upd h g (some ob)) x = some r := by
 unfold Jli at hs ⊢
 split at hs
 ·rename_i g' ver off
  cases ho : h g' with
  | none => rw [ho] at hs; cases hs
  | some o =>
   rw [ho] at hs
   rw [Jfh hg ho]
   unfold qbox at hs ⊢
   split at hs
   ·split at hs
    ·rename_i hv
     simp only [if_pos hv]
     split at hs
     ·rename_i hf; rw [if_pos hf]; exact hs
     ·rename_i hf
      rw [if_neg hf]
      unfold Jyf at hs ⊢
      split at hs
      ·rename_i ps hps
       rw [Jcz (Jlh hg depth) hps]
       exact hs
      ·cases hs
    ·cases hs
   ·cases hs
 ·exact Jlh hg depth _ r hs
theorem Jrg {h : Heap} {g : Nat} {ob : AObj} (hg : h g = none) : ∀ {l : List AV} {r : List AV × List Nat}, Joi h l = some r → Joi (upd h g (some ob)) l = some r
 | [], r, hs => hs
 | x :: l, r, hs => by
  simp only [Joi] at hs ⊢
  unfold Jq5 at hs
  split at hs
  ·rename_i u n1 us n2 h1 h2
   rw [Jr4 hg h1, Jrg hg h2]
   exact hs
  ·cases hs
theorem J7x {h : Heap} {g : Nat} {ob : AObj} (hg : h g = none) {x : AV} {r : AV × List Nat} (hs : qarg h x = some r) : qarg (upd h g (some ob)) x = some r := by
 unfold qarg at hs ⊢
 split at hs
 ·unfold qfn at hs
  split at hs
  ·rename_i us ms hq
   rw [Jrg hg hq]
   exact hs
  ·cases hs
 ·exact Jr4 hg hs
theorem Joa {h : Heap} {g : Nat} {ob : AObj} (hg : h g = none) : ∀ {l : List AV} {r : List AV × List Nat}, Jmr h l = some r → Jmr (upd h g (some ob)) l = some r
 | [], r, hs => hs
 | x :: l, r, hs => by
  simp only [Jmr] at hs ⊢
  unfold Jq5 at hs
  split at hs
  ·rename_i u n1 us n2 h1 h2
   rw [J7x hg h1, Joa hg h2]
   exact hs
  ·cases hs
theorem cls1_ev0 {call : Call} {base g0 : Nat} {op : LOp} (hm : ∀ ds o, op ≠ .msk ds o) (hc : op.cls = 1) {f : Nat → AV} {h h1 : Heap} {v : AV} (he : Jz call base ⟨f, h⟩ g0 op = some (v, h1)) :
  h1 = h ∧ ∀ g ob, h g = none → Jz call base ⟨f, upd h g (some ob)⟩ g0 op = some (v, upd h g (some ob)) := by
 have evf : ∀ h h', (St.mk f h).ev = (St.mk f h').ev := fun h h' => funext fun x => by cases x <;> rfl
 cases op <;> simp [LOp.cls] at hc
 case msk ds o => exact (hm ds o rfl).elim
 case load ag n x =>
  simp only [Jz] at he ⊢
  obtain ⟨hy, e2⟩ := hOut he
  subst e2
  refine ⟨rfl, fun g ob hg => ?_⟩
  have : Jql (upd h g (some ob)) ag n ((St.mk f (upd h g (some ob))).ev x) = some v := by
   rw [evf _ h]
   unfold Jql at hy ⊢
   split at hy
   ·rename_i l off hd; rw [Jwb hg hd]; exact hy
   ·cases hy
  rw [this]
 case nilck x =>
  simp only [Jz] at he ⊢
  split at he
  ·rename_i g' ver off hx
   split at he
   ·rename_i hcur
    injection he with he
    simp only [Aa] at he
    obtain ⟨rfl, rfl⟩ := he
    refine ⟨rfl, fun g ob hg => ?_⟩
    rw [evf _ h, hx]
    simp only
    rw [if_pos (Jsc hg hcur)]
   ·cases he
  ·rename_i l hx
   injection he with he
   simp only [Aa] at he
   obtain ⟨rfl, rfl⟩ := he
   exact ⟨rfl, fun g ob hg => by rw [evf _ h, hx]⟩
  ·rename_i f' l hx
   injection he with he
   simp only [Aa] at he
   obtain ⟨rfl, rfl⟩ := he
   exact ⟨rfl, fun g ob hg => by rw [evf _ h, hx]⟩
  ·cases he
 case slc e x lo hi =>
  simp only [Jz] at he ⊢
  obtain ⟨hy, e2⟩ := hOut he
  subst e2
  refine ⟨rfl, fun g ob hg => ?_⟩
  have : Jf2 (upd h g (some ob)) e ((St.mk f (upd h g (some ob))).ev x) (lo.map (St.mk f (upd h g (some ob))).ev) (hi.map (St.mk f (upd h g (some ob))).ev) = some v := by
   rw [evf _ h]
   unfold Jf2 at hy ⊢
   split at hy
   ·exact hy
   ·split at hy
    ·split at hy
     ·rename_i hcc
      obtain ⟨c1, c2, c3, c4⟩ := hcc
      rw [if_pos ⟨c1, c2, c3, Jt7 hg c4⟩]
      exact hy
     ·cases hy
    ·cases hy
   ·exact hy
   ·cases hy
  rw [this]
 case faddr off x =>
  simp only [Jz] at he ⊢
  obtain ⟨hy, e2⟩ := hOut he
  subst e2
  refine ⟨rfl, fun g ob hg => ?_⟩
  have : Jk5 (upd h g (some ob)) off ((St.mk f (upd h g (some ob))).ev x) = some v := by
   rw [evf _ h]
   unfold Jk5 at hy ⊢
   split at hy
   ·split at hy
    ·rename_i hc; rw [if_pos (Jsc hg hc)]; exact hy
    ·cases hy
   ·exact hy
   ·cases hy
  rw [this]
 case iaddr e x i =>
  simp only [Jz] at he ⊢
  obtain ⟨hy, e2⟩ := hOut he
  subst e2
  refine ⟨rfl, fun g ob hg => ?_⟩
  have : Jij (upd h g (some ob)) e ((St.mk f (upd h g (some ob))).ev x) ((St.mk f (upd h g (some ob))).ev i) = some v := by
   rw [evf _ h]
   unfold Jij at hy ⊢
   split at hy
   ·exact hy
   ·split at hy
    ·rename_i hc; rw [if_pos ⟨hc.1, hc.2.1, Jt7 hg hc.2.2⟩]; exact hy
    ·cases hy
   ·cases hy
  rw [this]
 case iaddrA n e x i =>
  simp only [Jz] at he ⊢
  obtain ⟨hy, e2⟩ := hOut he
  subst e2
  refine ⟨rfl, fun g ob hg => ?_⟩
  have : Jgx (upd h g (some ob)) n e ((St.mk f (upd h g (some ob))).ev x) ((St.mk f (upd h g (some ob))).ev i) = some v := by
   rw [evf _ h]
   unfold Jgx at hy ⊢
   split at hy
   ·split at hy
    ·rename_i hc; rw [if_pos ⟨hc.1, hc.2.1, Jsc hg hc.2.2⟩]; exact hy
    ·cases hy
   ·exact hy
   ·cases hy
  rw [this]
 case len x =>
  simp only [Jz] at he ⊢
  split at he
  ·rename_i n hn
   injection he with he
   simp only [Aa] at he
   obtain ⟨rfl, rfl⟩ := he
   refine ⟨rfl, fun g ob hg => ?_⟩
   have : lenV (upd h g (some ob)) ((St.mk f (upd h g (some ob))).ev x) = some n := by
    rw [evf _ h]
    unfold lenV at hn ⊢
    split at hn
    ·exact hn
    ·exact hn
    ·split at hn
     ·rename_i hc; rw [if_pos (Jmw hg hc)]; exact hn
     ·cases hn
    ·cases hn
   rw [this]
  ·cases he
 case lenM x =>
  simp only [Jz] at he ⊢
  split at he
  ·rename_i n hn
   injection he with he
   simp only [Aa] at he
   obtain ⟨rfl, rfl⟩ := he
   refine ⟨rfl, fun g ob hg => ?_⟩
   have : lenM (upd h g (some ob)) ((St.mk f (upd h g (some ob))).ev x) = some n := by
    rw [evf _ h]
    unfold lenM at hn ⊢
    split at hn
    ·exact hn
    ·exact hn
    ·split at hn
     ·rename_i es hc; rw [Jtc hg hc]; exact hn
     ·cases hn
    ·cases hn
   rw [this]
  ·cases he
 case isnil ne x =>
  simp only [Jz] at he ⊢
  split at he
  ·rename_i n hn
   injection he with he
   simp only [Aa] at he
   obtain ⟨rfl, rfl⟩ := he
   refine ⟨rfl, fun g ob hg => ?_⟩
   have : Jkq (upd h g (some ob)) ((St.mk f (upd h g (some ob))).ev x) = some n := by
    rw [evf _ h]
    unfold Jkq at hn ⊢
    split at hn
    ·exact hn
    ·exact hn
    ·exact hn
    ·split at hn
     ·rename_i hc; rw [if_pos (Jmw hg hc)]; exact hn
     ·cases hn
    ·cases hn
   rw [this]
  ·cases he
 case slcA n e x =>
  simp only [Jz] at he ⊢
  obtain ⟨hy, e2⟩ := hOut he
  subst e2
  refine ⟨rfl, fun g ob hg => ?_⟩
  have : Jpo (upd h g (some ob)) n e ((St.mk f (upd h g (some ob))).ev x) = some v := by
   rw [evf _ h]
   unfold Jpo at hy ⊢
   split at hy
   ·rename_i g' ver hx
    cases ho : h g' with
    | none => rw [ho] at hy; cases hy
    | some o => rw [Jfh hg ho]; rw [ho] at hy; exact hy
   ·cases hy
  rw [this]
 case look ok ag sh z x k =>
  simp only [Jz] at he ⊢
  obtain ⟨hy, e2⟩ := hOut he
  subst e2
  refine ⟨rfl, fun g ob hg => ?_⟩
  rw [evf _ h]
  have : ∀ y es, esOf h y = some es → esOf (upd h g (some ob)) y = some es := fun y es hes => by
   unfold esOf at hes ⊢
   split at hes
   ·exact hes
   ·exact hes
   ·exact Jtc hg hes
   ·cases hes
  cases hes : esOf h ((St.mk f h).ev x) with
  | none => rw [hes] at hy; cases hy
  | some es => rw [this _ es hes, ← hes, hy]
 case callq f' l =>
  simp only [Jz] at he ⊢
  unfold calQ at he
  split at he
  ·rename_i vs ns hq
   unfold retQ at he
   split at he
   ·rename_i u h0 hcall
    split at he
    ·rename_i hsc
     injection he with he
     simp only [Aa] at he
     obtain ⟨rfl, rfl⟩ := he
     refine ⟨rfl, fun g ob hg => ?_⟩
     rw [evf _ h, Joa hg hq]
     simp only [calQ, retQ, hcall]
     rw [if_pos hsc]
    ·cases he
   ·cases he
  ·cases he
 case callu x l =>
  simp only [Jz] at he ⊢
  split at he
  ·rename_i f' caps hx
   unfold calQ at he
   split at he
   ·rename_i vs ns hq
    unfold retQ at he
    split at he
    ·rename_i u h0 hcall
     split at he
     ·rename_i hsc
      injection he with he
      simp only [Aa] at he
      obtain ⟨rfl, rfl⟩ := he
      refine ⟨rfl, fun g ob hg => ?_⟩
      rw [evf _ h, hx]
      simp only [Joa hg hq, calQ, retQ, hcall]
      rw [if_pos hsc]
     ·cases he
    ·cases he
   ·cases he
  ·cases he
 case callp f' l =>
  simp only [Jz] at he ⊢
  split at he
  ·rename_i vs ns hsn
   split at he
   ·rename_i u h0 hv
    split at he
    ·rename_i hcase
     injection he with he
     simp only [Aa] at he
     obtain ⟨rfl, rfl⟩ := he
     refine ⟨rfl, fun g ob hg => ?_⟩
     rw [evf _ h, Joj hg hsn]
     simp only [hv]
     rw [if_pos hcase]
    ·cases he
   ·cases he
  ·cases he
 case callv x l =>
  simp only [Jz] at he ⊢
  split at he
  ·rename_i f' caps vs ns hsn
   split at he
   ·rename_i u h0 hv
    split at he
    ·rename_i hcase
     injection he with he
     simp only [Aa] at he
     obtain ⟨rfl, rfl⟩ := he
     refine ⟨rfl, fun g ob hg => ?_⟩
     rw [evf _ h, Joj hg hsn]
     simp only [hv]
     rw [if_pos hcase]
    ·cases he
   ·cases he
  ·cases he
theorem Jiu {base g : Nat} {ds : List Nat} {h : Heap} {o : Option AObj} (hg : inNm base ds g = true) : Jdn base ds (upd h g o) = Jdn base ds h := by
 funext k
 unfold Jdn upd
 by_cases hk : inNm base ds k = true
 ·rw [if_pos hk, if_pos hk]
 ·rw [if_neg hk, if_neg hk, if_neg (by rintro rfl; exact hk hg)]
theorem Jsl {base g : Nat} {ds : List Nat} {h : Heap} {o : Option AObj} (hg : ¬ inNm base ds g = true) : Jdn base ds (upd h g o) = upd (Jdn base ds h) g o := by
 funext k
 by_cases hk : inNm base ds k = true
 ·have hne : k ≠ g := by rintro rfl; exact hg hk
  rw [Qd _ _ _ _ hne]
  unfold Jdn
  rw [if_pos hk, if_pos hk]
 ·simp only [Jdn, upd, hk, if_false, Ab]
theorem J0s {base : Nat} {ds ns : List Nat} {h : Heap} (hn : ns.all (inNm base ds) = true) : Jdn base ds (Kg h ns) = Jdn base ds h := by
 funext k
 unfold Jdn Kg
 by_cases hk : inNm base ds k = true
 ·rw [if_pos hk, if_pos hk]
 ·rw [if_neg hk, if_neg hk, if_neg (fun hm => hk (Ac.1 hn k hm))]
theorem Jqb {call : Call} {base g0 : Nat} {op : LOp} : op.cls = 1 → ∀ {f : Nat → AV} {h h1 : Heap} {v : AV}, Jz call base ⟨f, h⟩ g0 op = some (v, h1) →
  h1 = h ∧ ∀ g ob, h g = none → Jz call base ⟨f, upd h g (some ob)⟩ g0 op = some (v, upd h g (some ob)) := by
 induction op with
 | msk ds op ih =>
  intro _ f h h1 v he
  simp only [Jz] at he ⊢
  split at he
  ·rename_i hc
   cases hr : Jz call base ⟨f, Jdn base ds h⟩ g0 op with
   | none => rw [hr] at he; cases he
   | some r =>
    obtain ⟨u, h2⟩ := r
    rw [hr] at he
    injection he with he
    simp only [Aa] at he
    obtain ⟨rfl, rfl⟩ := he
    obtain ⟨rfl, hall⟩ := ih hc hr
    refine ⟨rfl, fun g ob hg => ?_⟩
    rw [if_pos hc]
    by_cases hin : inNm base ds g = true
    ·rw [Jiu hin, hr]; rfl
    ·rw [Jsl hin, hall g ob (by unfold Jdn; split <;> first | rfl | exact hg)]; rfl
  ·cases he
 | _ => exact fun hc _ _ _ _ he => cls1_ev0 (by rintro _ _ ⟨⟩) hc he
theorem Jqk {call : Call} {base g0 : Nat} {op : LOp} (hc : op.cls = 1) {f : Nat → AV} {h : Heap} {v : AV} : ∀ {ds : List Nat} {h2 : Heap}, Jz call base ⟨f, Jdn base ds h⟩ g0 op = some (v, h2) → Jz call base ⟨f, h⟩ g0 op = some (v, h)
 | [], h2, he => by
  have : Jdn base [] h = h := by funext k; rfl
  rw [this] at he
  rw [he, (Jqb hc he).1]
 | d :: ds, h2, he => by
  have key : Jdn base (d :: ds) h = Jdn base ds h ∨ ∃ ob, Jdn base (d :: ds) h (base + d) = none ∧ Jdn base ds h = upd (Jdn base (d :: ds) h) (base + d) (some ob) := by
   cases ho : Jdn base ds h (base + d) with
   | none =>
    refine .inl (funext fun k => ?_)
    by_cases hk : k = base + d
    ·subst hk; rw [ho]; unfold Jdn; rw [if_pos (by simp [inNm])]
    ·unfold Jdn
     have : inNm base (d :: ds) k = inNm base ds k := by simp [inNm, List.any_cons]; intro h'; exact (hk h'.symm).elim
     rw [this]
   | some ob =>
    refine .inr ⟨ob, by unfold Jdn; rw [if_pos (by simp [inNm])], funext fun k => ?_⟩
    by_cases hk : k = base + d
    ·subst hk; rw [ho, Yf]
    ·rw [Qd _ _ _ _ hk]
     unfold Jdn
     have : inNm base (d :: ds) k = inNm base ds k := by simp [inNm, List.any_cons]; intro h'; exact (hk h'.symm).elim
     rw [this]
  rcases key with e | ⟨ob, hn, e⟩
  ·rw [e] at he; exact Jqk hc he
  ·have := (Jqb hc he).2 (base + d) ob hn
   rw [← e] at this
   exact Jqk hc this
theorem msk_ev {call : Call} {base g0 : Nat} {σ : St} {op : LOp} {ds : List Nat} {v : AV} {h1 : Heap} (he : Jz call base σ g0 (.msk ds op) = some (v, h1)) : Jz call base σ g0 op = some (v, h1) := by
 simp only [Jz] at he
 split at he
 ·rename_i hc
  cases hr : Jz call base ⟨σ.f, Jdn base ds σ.h⟩ g0 op with
  | none => rw [hr] at he; cases he
  | some r =>
   obtain ⟨u, h2⟩ := r
   rw [hr] at he
   injection he with he
   simp only [Aa] at he
   obtain ⟨rfl, rfl⟩ := he
   exact Jqk hc hr
 ·cases he
theorem J33 {call : Call} {base g0 : Nat} {σ : St} {z : Bool} {ds : List Nat} {esz bytes : Nat} {el : TypeId} {zz : List AV} {x y : LO} {v : AV} {h1 : Heap} (he : Jz call base σ g0 (.appn z ds esz bytes el zz x y) = some (v, h1)) :
  Jz call base σ g0 (if z = true then .appz esz bytes el zz x y else .app esz bytes el zz x y) = some (v, h1) := by
 simp only [Jz, apnV] at he
 split at he
 ·cases hr : appV σ.h g0 esz bytes el (σ.ev x) (σ.ev y) with
  | none => rw [hr] at he; cases he
  | some r =>
   obtain ⟨u, h2⟩ := r
   rw [hr] at he
   simp only [apnZ] at he
   cases z with
   | false => simp only [Ab, if_false, Jz] at he ⊢; rw [hr]; exact he
   | true =>
    simp only [if_true] at he ⊢
    simp only [Jz, hr]
    cases hs : snap h2 depth u with
    | none => rw [hs] at he; cases he
    | some q =>
     obtain ⟨u', ns⟩ := q
     rw [hs] at he
     simp only [apnF] at he
     split at he
     ·exact he
     ·cases he
 ·cases he
theorem J51 {call : Call} {base g0 : Nat} {σ : St} {z : Bool} {ds ds' : List Nat} {esz bytes : Nat} {el : TypeId} {zz : List AV} {x y : LO} {v : AV} {h1 : Heap} (hd : ∀ g, inNm base ds g = true → inNm base ds' g = true)
  (he : Jz call base σ g0 (.appn z ds esz bytes el zz x y) = some (v, h1)) : Jdn base ds' h1 = Jdn base ds' σ.h := by
 simp only [Jz, apnV] at he
 split at he
 ·rename_i hn
  have hap : ∀ u h2, appV σ.h g0 esz bytes el (σ.ev x) (σ.ev y) = some (u, h2) → Jdn base ds' h2 = Jdn base ds' σ.h := by
   intro u h2 hr
   unfold appV at hr
   split at hr
   ·split at hr
    ·rename_i hx
     rw [hx] at hn
     (repeat' split at hr) <;> first | (cases hr; done) | (injection hr with hr; simp only [Aa] at hr; obtain ⟨-, rfl⟩ := hr; first | rfl | exact Jiu (hd _ hn))
    ·rename_i hx
     rw [hx] at hn
     (repeat' split at hr) <;> first | (cases hr; done) | (injection hr with hr; simp only [Aa] at hr; obtain ⟨-, rfl⟩ := hr; first | rfl | exact Jiu (hd _ hn))
    ·cases hr
   ·cases hr
  cases hr : appV σ.h g0 esz bytes el (σ.ev x) (σ.ev y) with
  | none => rw [hr] at he; cases he
  | some r =>
   obtain ⟨u, h2⟩ := r
   rw [hr] at he
   simp only [apnZ] at he
   split at he
   ·cases hs : snap h2 depth u with
    | none => rw [hs] at he; cases he
    | some q =>
     obtain ⟨u', ns⟩ := q
     rw [hs] at he
     simp only [apnF] at he
     split at he
     ·rename_i hns
      injection he with he
      simp only [Aa] at he
      obtain ⟨-, rfl⟩ := he
      rw [J0s (Ac.2 fun g hg => hd g (Ac.1 hns g hg))]
      exact hap _ _ hr
     ·cases he
   ·injection he with he
    simp only [Aa] at he
    obtain ⟨-, rfl⟩ := he
    exact hap _ _ hr
 ·cases he
theorem ston_ev {call : Call} {base g0 : Nat} {σ : St} {ds : List Nat} {n : Nat} {x y : LO} {v : AV} {h1 : Heap} (he : Jz call base σ g0 (.ston ds n x y) = some (v, h1)) :
  Jz call base σ g0 (.store n x y) = some (v, h1) := by
 simp only [Jz] at he ⊢
 split at he
 ·exact he
 ·cases he
theorem J4b {call : Call} {base g0 : Nat} {σ : St} {ds ds' : List Nat} {n : Nat} {x y : LO} {v : AV} {h1 : Heap} (hd : ∀ g, inNm base ds g = true → inNm base ds' g = true)
  (he : Jz call base σ g0 (.ston ds n x y) = some (v, h1)) : Jdn base ds' h1 = Jdn base ds' σ.h := by
 simp only [Jz] at he
 split at he
 ·rename_i hn
  split at he
  ·rename_i h2 hst
   injection he with he
   simp only [Aa] at he
   obtain ⟨-, rfl⟩ := he
   unfold Jl3 at hst
   split at hst
   ·rename_i g ver off c hx hc
    rw [hx] at hn
    (repeat' split at hst) <;> first | (cases hst; done) | (injection hst with hst; subst hst; exact Jiu (hd _ hn))
   ·cases hst
  ·cases he
 ·cases he
theorem J91 {call : Call} {base g0 : Nat} {σ : St} {op : LOp} {ds ds' : List Nat} {v : AV} {h1 : Heap} (ho : op.nwD = some ds) (hd : ∀ g, inNm base ds g = true → inNm base ds' g = true)
  (he : Jz call base σ g0 op = some (v, h1)) : Jdn base ds' h1 = Jdn base ds' σ.h := by
 unfold LOp.nwD at ho
 split at ho
 ·injection ho with ho; subst ho; exact J51 hd he
 ·injection ho with ho; subst ho; exact J4b hd he
 ·cases ho
theorem cls2_ev {call : Call} {base g0 : Nat} {op : LOp} (hc : op.cls = 2) {f : Nat → AV} {h h1 : Heap} {v : AV} (h0 : h g0 = none) (he : Jz call base ⟨f, h⟩ g0 op = some (v, h1)) :
  ∃ ob, h1 = upd h g0 (some ob) ∧ ∀ h', h' g0 = none → Jz call base ⟨f, h'⟩ g0 op = some (v, upd h' g0 (some ob)) := by
 have evf : ∀ h h', (St.mk f h).ev = (St.mk f h').ev := fun h h' => funext fun x => by cases x <;> rfl
 have nv : ∀ h', h' g0 = none → Kj h' g0 = 0 := fun h' hh => by simp [Kj, hh]
 cases op <;> simp [LOp.cls] at hc
 all_goals
  simp only [Jz, nv h h0] at he
  (repeat' split at he) <;> first | (cases he; done) | skip
  all_goals
   injection he with he
   simp only [Aa] at he
   obtain ⟨rfl, rfl⟩ := he
   refine ⟨_, rfl, fun h' hh => ?_⟩
   simp only [Jz, nv h' hh]
   try rw [evf h' h]
   try simp_all
theorem Jlr {op : LOp} (h : op.cls = 2) : op.isNew = true := by cases op <;> simp [LOp.cls] at h <;> rfl
theorem new_cls2 {op : LOp} (h : op.isNew = true) : op.cls = 2 := by cases op <;> simp [LOp.isNew] at h <;> rfl
def ClsOK (call : Call) (base : Nat) (o : LOper) (f : Nat → AV) (h h1 : Heap) (v : AV) : Prop :=
 (o.op.cls = 0 → h1 = h ∧ ∀ h', evG call base o f h' = some (v, h')) ∧
  (o.op.cls = 1 → h1 = h ∧ ∀ g ob, h g = none → evG call base o f (upd h g (some ob)) = some (v, upd h g (some ob))) ∧
  (o.op.cls = 2 → (h1 = h ∧ ∀ h', evG call base o f h' = some (v, h')) ∨
   ∃ ob, h1 = upd h (base + o.dst.getD 0) (some ob) ∧ ∀ h', h' (base + o.dst.getD 0) = none → evG call base o f h' = some (v, upd h' (base + o.dst.getD 0) (some ob)))
theorem J3s {call : Call} {base : Nat} {o : LOper} {f : Nat → AV} {h h1 : Heap} {v : AV} (he : evG call base o f h = some (v, h1)) (hnew : o.op.isNew = true → h (base + o.dst.getD 0) = none) : ClsOK call base o f h h1 v := by
 have main : Jz call base ⟨f, h⟩ (base + o.dst.getD 0) o.op = some (v, h1) → (∀ h' r, Jz call base ⟨f, h'⟩ (base + o.dst.getD 0) o.op = some r → evG call base o f h' = some r) → ClsOK call base o f h h1 v := fun hev hall =>
  ⟨fun hc => ⟨(J58 hc hev).1, fun h' => hall h' _ ((J58 hc hev).2 h')⟩, fun hc => ⟨(Jqb hc hev).1, fun g ob hg => hall _ _ ((Jqb hc hev).2 g ob hg)⟩, fun hc => by
   obtain ⟨ob, e, hob⟩ := cls2_ev hc (hnew (Jlr hc)) hev
   exact .inr ⟨ob, e, fun h' hh => hall _ _ (hob h' hh)⟩⟩
 have skip : h1 = h → (∀ h', evG call base o f h' = some (v, h')) → ClsOK call base o f h h1 v := fun e hall =>
  ⟨fun _ => ⟨e, hall⟩, fun _ => ⟨e, fun g ob _ => hall _⟩, fun _ => .inl ⟨e, hall⟩⟩
 unfold evG at he
 split at he
 ·rename_i hg
  exact main he fun h' r hr => by unfold evG; rw [hg]; exact hr
 ·rename_i g want hg
  split at he
  ·rename_i b hb
   split at he
   ·rename_i hbw
    exact main he fun h' r hr => by unfold evG; rw [hg]; simp only [hb]; rw [if_pos hbw]; exact hr
   ·rename_i hbw
    injection he with he
    simp only [Aa] at he
    obtain ⟨rfl, rfl⟩ := he
    exact skip rfl fun h' => by unfold evG; rw [hg]; simp only [hb]; rw [if_neg hbw]
  ·rename_i hb
   injection he with he
   simp only [Aa] at he
   obtain ⟨rfl, rfl⟩ := he
   exact skip rfl fun h' => by unfold evG; rw [hg]; simp only [hb]
  ·cases he
section
variable {h : Heap} {ns : List Nat}
theorem Jzf (x : AV) : Jl4 (Kg h ns) x = Jl4 h x := by
 cases x <;> try rfl
 rename_i g ver off
 simp only [Jl4, Kg]
 by_cases hm : g ∈ ns
 ·simp only [hm, if_true]
  cases h g with
  | none => rfl
  | some o => cases o <;> rfl
 ·simp only [hm, if_false]
theorem Jv1 (g ver : Nat) : cur (Kg h ns) g ver = cur h g ver := by
 simp only [cur, Kg]
 by_cases hm : g ∈ ns
 ·simp only [hm, if_true]
  cases h g with
  | none => rfl
  | some o => cases o <;> rfl
 ·simp only [hm, if_false]
theorem Jxl (g ver esz : Nat) : curA (Kg h ns) g ver esz = curA h g ver esz := by
 simp only [curA, Kg]
 by_cases hm : g ∈ ns
 ·simp only [hm, if_true]
  cases h g with
  | none => rfl
  | some o => cases o <;> rfl
 ·simp only [hm, if_false]
theorem Jrl (g ver : Nat) : Jek (Kg h ns) g ver = Jek h g ver := by
 simp only [Jek, Kg]
 by_cases hm : g ∈ ns
 ·simp only [hm, if_true]
  cases h g with
  | none => rfl
  | some o => cases o <;> rfl
 ·simp only [hm, if_false]
theorem J2o (g ver n esz k : Nat) : Jyh g ver n esz (Kg h ns k) = Jyh g ver n esz (h k) := by
 simp only [Kg]
 by_cases hm : k ∈ ns
 ·simp only [hm, if_true]
  cases h k with
  | none => rfl
  | some o => cases o <;> rfl
 ·simp only [hm, if_false]
theorem Jnw : Kg h [] = h := by funext g; simp [Kg]
theorem ev_heap (f : Nat → AV) (h h' : Heap) (x : LO) : (St.mk f h).ev x = (St.mk f h').ev x := by cases x <;> rfl
theorem Jw9 {call : Call} {base g0 : Nat} {f : Nat → AV} {op : LOp} {v : AV} {h1 : Heap} (hc : op.still = true) (he : Jz call base ⟨f, h⟩ g0 op = some (v, h1)) :
  h1 = h ∧ Jz call base ⟨f, Kg h ns⟩ g0 op = some (v, Kg h ns) := by
 have E : ∀ x, (St.mk f (Kg h ns)).ev x = (St.mk f h).ev x := fun x => ev_heap f _ _ x
 cases op <;> (try (simp [LOp.still] at hc; done)) <;> simp only [Jz, E] at he ⊢
 case load ag n x =>
  obtain ⟨h2, h3⟩ := hOut he
  refine ⟨h3.symm, ?_⟩
  simp only [Jql, Jzf] at h2 ⊢
  rw [h2]
 case nilck x =>
  split at he
  ·rename_i g ver off hx
   split at he
   ·rename_i hc
    injection he with he
    simp only [Aa] at he
    obtain ⟨rfl, rfl⟩ := he
    exact ⟨rfl, by rw [Jv1, if_pos hc]⟩
   ·cases he
  ·injection he with he
   simp only [Aa] at he
   obtain ⟨rfl, rfl⟩ := he
   exact ⟨rfl, rfl⟩
  ·injection he with he
   simp only [Aa] at he
   obtain ⟨rfl, rfl⟩ := he
   exact ⟨rfl, rfl⟩
  ·cases he
 case slc e x lo hi =>
  obtain ⟨h2, h3⟩ := hOut he
  refine ⟨h3.symm, ?_⟩
  have E2 : (St.mk f (Kg h ns)).ev = (St.mk f h).ev := funext E
  simp only [E2]
  have : ∀ x lo hi, Jf2 (Kg h ns) e x lo hi = Jf2 h e x lo hi := fun x lo hi => by
   cases x <;> simp only [Jf2, Jxl]
  rw [this, h2]
 case faddr off x =>
  obtain ⟨h2, h3⟩ := hOut he
  refine ⟨h3.symm, ?_⟩
  have : ∀ x, Jk5 (Kg h ns) off x = Jk5 h off x := fun x => by cases x <;> simp only [Jk5, Jv1]
  rw [this, h2]
 case iaddr e x i =>
  obtain ⟨h2, h3⟩ := hOut he
  refine ⟨h3.symm, ?_⟩
  have : ∀ x i, Jij (Kg h ns) e x i = Jij h e x i := fun x i => by cases x <;> cases i <;> simp only [Jij, Jxl]
  rw [this, h2]
 case iaddrA n e x i =>
  obtain ⟨h2, h3⟩ := hOut he
  refine ⟨h3.symm, ?_⟩
  have : ∀ x i, Jgx (Kg h ns) n e x i = Jgx h n e x i := fun x i => by cases x <;> cases i <;> simp only [Jgx, Jv1]
  rw [this, h2]
 case len x =>
  have : ∀ x, lenV (Kg h ns) x = lenV h x := fun x => by cases x <;> simp only [lenV, Jrl]
  rw [this]
  split at he
  ·rename_i n hn
   injection he with he
   simp only [Aa] at he
   obtain ⟨rfl, rfl⟩ := he
   exact ⟨rfl, rfl⟩
  ·cases he
 case isnil ne x =>
  have : ∀ x, Jkq (Kg h ns) x = Jkq h x := fun x => by
   cases x
   case arr g ver off len => show (if Jek (Kg h ns) g ver = true then some false else none) = (if Jek h g ver = true then some false else none); rw [Jrl]
   case lst n l => cases n <;> cases l <;> rfl
   all_goals rfl
  rw [this]
  split at he
  ·rename_i n hn
   injection he with he
   simp only [Aa] at he
   obtain ⟨rfl, rfl⟩ := he
   exact ⟨rfl, rfl⟩
  ·cases he
 case callp g l =>
  cases l with
  | cons a l => simp [LOp.still] at hc
  | nil =>
   have hs : ∀ h, Jjk h [] = some ([], []) := fun h => rfl
   simp only [List.map_nil, hs] at he ⊢
   split at he
   ·rename_i u h0 hcall
    rw [if_pos (.inl trivial)] at he
    injection he with he
    simp only [Aa] at he
    obtain ⟨rfl, rfl⟩ := he
    exact ⟨rfl, by rw [if_pos (.inl trivial)]⟩
   ·cases he
 case slcA n e x =>
  obtain ⟨h2, h3⟩ := hOut he
  refine ⟨h3.symm, ?_⟩
  have : ∀ x, Jpo (Kg h ns) n e x = Jpo h n e x := fun x => by
   cases x <;> try rfl
   rename_i g ver off
   cases off <;> simp only [Jpo, J2o]
  rw [this, h2]
theorem J3f {call : Call} {base g0 : Nat} {f : Nat → AV} {op : LOp} {v : AV} {h1 : Heap} (hc : op.frzs = true) (he : Jz call base ⟨f, h⟩ g0 op = some (v, h1)) : ∃ ns, h1 = Kg h ns := by
 cases op <;> (try (simp [LOp.frzs] at hc; done)) <;> simp only [Jz] at he
 case frz x =>
  split at he
  ·injection he with he
   simp only [Aa] at he
   exact ⟨_, he.2.symm⟩
  ·cases he
 case callz g l =>
  split at he
  ·split at he
   ·injection he with he
    simp only [Aa] at he
    exact ⟨_, he.2.symm⟩
   ·cases he
  ·cases he
end
theorem Jxa {call : Call} {base : Nat} {o : LOper} {f : Nat → AV} {h h1 : Heap} {v : AV} (hc : o.op.frzs = true) (he : evG call base o f h = some (v, h1)) : ∃ ns, h1 = Kg h ns := by
 unfold evG at he
 split at he
 ·exact J3f hc he
 ·split at he
  ·split at he
   ·exact J3f hc he
   ·injection he with he; simp only [Aa] at he; exact ⟨[], by rw [Jnw]; exact he.2.symm⟩
  ·injection he with he; simp only [Aa] at he; exact ⟨[], by rw [Jnw]; exact he.2.symm⟩
  ·cases he
theorem J8v {call : Call} {base : Nat} {o : LOper} {f : Nat → AV} {h h1 : Heap} {v : AV} (hc : o.op.still = true) (he : evG call base o f h = some (v, h1)) (ns : List Nat) : h1 = h ∧ evG call base o f (Kg h ns) = some (v, Kg h ns) := by
 unfold evG at he ⊢
 split at he
 ·exact Jw9 hc he
 ·split at he
  ·split at he
   ·rename_i hb; rw [if_pos hb]; exact Jw9 hc he
   ·rename_i hb
    rw [if_neg hb]
    injection he with he; simp only [Aa] at he; exact ⟨he.2.symm, by rw [he.1]⟩
  ·injection he with he; simp only [Aa] at he; exact ⟨he.2.symm, by rw [he.1]⟩
  ·cases he
theorem evG_past {call : Call} {base : Nat} {i j : LOper} {f : Nat → AV} {h h1 h2 : Heap} {v1 v2 : AV} {ds ds' : List Nat} {op : LOp} (hi : i.op = .msk ds op) (hj : j.op.nwD = some ds')
  (hd : ∀ g, inNm base ds' g = true → inNm base ds g = true) (e1 : evG call base i f h = some (v1, h1)) (e2 : evG call base j f h1 = some (v2, h2)) : h1 = h ∧ evG call base i f h2 = some (v1, h2) := by
 have hmask : Jdn base ds h2 = Jdn base ds h1 := by
  unfold evG at e2
  split at e2
  ·exact J91 hj hd e2
  ·split at e2
   ·split at e2
    ·exact J91 hj hd e2
    ·injection e2 with e2; simp only [Aa] at e2; rw [e2.2]
   ·injection e2 with e2; simp only [Aa] at e2; rw [e2.2]
   ·cases e2
 have main : ∀ g0, Jz call base ⟨f, h⟩ g0 (.msk ds op) = some (v1, h1) → h1 = h ∧ Jz call base ⟨f, h2⟩ g0 (.msk ds op) = some (v1, h2) := fun g0 he => by
  have hh : h1 = h := (Jqb (op := .msk ds op) rfl he).1
  subst hh
  refine ⟨rfl, ?_⟩
  simp only [Jz] at he ⊢
  rw [hmask]
  split at he
  ·rename_i hc
   rw [if_pos hc]
   cases hr : Jz call base ⟨f, Jdn base ds h1⟩ g0 op with
   | none => rw [hr] at he; cases he
   | some r =>
    obtain ⟨u, h3⟩ := r
    rw [hr] at he
    injection he with he
    simp only [Aa] at he
    obtain ⟨rfl, -⟩ := he
    rfl
  ·cases he
 unfold evG at e1 ⊢
 rw [hi] at e1 ⊢
 split at e1
 ·exact main _ e1
 ·split at e1
  ·split at e1
   ·rename_i hb; rw [if_pos hb]; exact main _ e1
   ·rename_i hb
    rw [if_neg hb]
    injection e1 with e1; simp only [Aa] at e1; exact ⟨e1.2.symm, by rw [e1.1]⟩
  ·injection e1 with e1; simp only [Aa] at e1; exact ⟨e1.2.symm, by rw [e1.1]⟩
  ·cases e1
theorem Jm6 {h : Heap} {ns : List Nat} {g : Nat} {ob : AObj} (hn : g ∉ ns) : Kg (upd h g (some ob)) ns = upd (Kg h ns) g (some ob) := by
 funext k
 by_cases hk : k = g
 ·subst hk; rw [Yf]; unfold Kg; rw [if_neg hn, Yf]
 ·rw [Qd _ _ _ _ hk]; unfold Kg; rw [Qd _ _ _ _ hk]
theorem Jug {call : Call} {base g0 : Nat} {f : Nat → AV} {op : LOp} {v : AV} {h h1 : Heap} (hc : op.frzs = true) (he : Jz call base ⟨f, h⟩ g0 op = some (v, h1)) {g : Nat} {ob : AObj} (hg : h g = none) :
  Jz call base ⟨f, upd h g (some ob)⟩ g0 op = some (v, upd h1 g (some ob)) := by
 have evf : ∀ h h', (St.mk f h).ev = (St.mk f h').ev := fun h h' => funext fun x => by cases x <;> rfl
 cases op <;> (try (simp [LOp.frzs] at hc; done)) <;> simp only [Jz] at he ⊢
 case frz x =>
  rw [evf _ h]
  split at he
  ·rename_i u ns hs
   injection he with he
   simp only [Aa] at he
   obtain ⟨rfl, rfl⟩ := he
   rw [Jlh hg _ _ _ hs]
   have : g ∉ ns := fun hm => by
    obtain ⟨o, ho, _⟩ := Jea _ hs g hm
    rw [hg] at ho; cases ho
   simp only [Jm6 this]
  ·cases he
 case callz f' l =>
  rw [evf _ h]
  split at he
  ·rename_i vs ns hs
   split at he
   ·rename_i u h0 hcall
    injection he with he
    simp only [Aa] at he
    obtain ⟨rfl, rfl⟩ := he
    have : g ∉ ns := fun hm => by
     obtain ⟨o, ho, _⟩ := Jmh hs g hm
     rw [hg] at ho; cases ho
    simp only [Joj hg hs, hcall, Jm6 this]
   ·cases he
  ·cases he
theorem Js1 {call : Call} {base : Nat} {o : LOper} {f : Nat → AV} {h h1 : Heap} {v : AV} (hc : o.op.frzs = true) (he : evG call base o f h = some (v, h1)) {g : Nat} {ob : AObj} (hg : h g = none) :
  evG call base o f (upd h g (some ob)) = some (v, upd h1 g (some ob)) := by
 unfold evG at he ⊢
 split at he
 ·exact Jug hc he hg
 ·split at he
  ·split at he
   ·rename_i hb; rw [if_pos hb]; exact Jug hc he hg
   ·rename_i hb
    rw [if_neg hb]
    injection he with he; simp only [Aa] at he; rw [he.1, he.2]
  ·injection he with he; simp only [Aa] at he; rw [he.1, he.2]
  ·cases he
theorem Jm8 {α : Type} (f : Nat → α) {d e : Nat} (u v : α) (h : d ≠ e) : upd (upd f d u) e v = upd (upd f e v) d u := by
 funext n
 unfold upd
 by_cases h1 : n = e <;> by_cases h2 : n = d <;> simp_all
theorem J6j {h : Heap} {g : Nat} {ob : AObj} (hg : h g = none) {x : AV} {n : Int} (hs : lenV h x = some n) : lenV (upd h g (some ob)) x = some n := by
 cases x <;> try exact hs
 rename_i g' ver off len
 simp only [lenV] at hs ⊢
 split at hs
 ·rename_i hc; rw [if_pos (Jmw hg hc)]; exact hs
 ·cases hs
theorem Jwh {h : Heap} {g esz : Nat} {ob : AObj} (hg : h g = none) {x : AV} {l : List AV} (hs : Jfr h esz x = some l) : Jfr (upd h g (some ob)) esz x = some l := by
 cases x <;> try exact hs
 rename_i g' ver off len
 simp only [Jfr] at hs ⊢
 split at hs
 ·rename_i ho; rw [Jfh hg ho]; exact hs
 ·cases hs
theorem Juw {h h1 : Heap} {g g0 esz bytes : Nat} {el : TypeId} {x y v : AV} {ob : AObj} (hg : h g = none) (hne : g0 ≠ g) (he : appV h g0 esz bytes el x y = some (v, h1)) : appV (upd h g (some ob)) g0 esz bytes el x y = some (v, upd h1 g (some ob)) := by
 unfold appV at he
 split at he
 ·rename_i m new hl hn
  have hl' := J6j (ob := ob) hg hl
  have hn' := Jwh (ob := ob) hg hn
  have hv : Kj (upd h g (some ob)) g0 = Kj h g0 := by unfold Kj; rw [Qd _ _ _ _ hne]
  unfold appV
  rw [hl', hn', hv]
  split at he
  ·simp only
   split at he
   ·rename_i hc; rw [if_pos hc]; injection he with he; simp only [Aa] at he; obtain ⟨rfl, rfl⟩ := he; rfl
   ·rename_i hc
    rw [if_neg hc]
    split at he
    ·rename_i hc2; rw [if_pos hc2]; injection he with he; simp only [Aa] at he; obtain ⟨rfl, rfl⟩ := he
     rw [Jm8 _ _ _ hne]
    ·cases he
  ·rename_i g' ver off len
   simp only
   split at he
   ·rename_i ver' esz' el' cells ho
    have hgg : g' ≠ g := by rintro rfl; rw [hg] at ho; cases ho
    rw [Jfh hg ho]
    simp only
    split at he
    ·rename_i hc
     rw [if_pos hc]
     split at he
     ·rename_i hc1; rw [if_pos hc1]; injection he with he; simp only [Aa] at he; obtain ⟨rfl, rfl⟩ := he; rfl
     ·rename_i hc1
      rw [if_neg hc1]
      split at he
      ·rename_i hc2; rw [if_pos hc2]; injection he with he; simp only [Aa] at he; obtain ⟨rfl, rfl⟩ := he
       rw [Jm8 _ _ _ hgg]
      ·cases he
    ·rename_i hc
     rw [if_neg hc]
     split at he
     ·rename_i hc'
      rw [if_pos hc']
      split at he
      ·rename_i hc1; rw [if_pos hc1]; injection he with he; simp only [Aa] at he; obtain ⟨rfl, rfl⟩ := he; rfl
      ·rename_i hc1
       rw [if_neg hc1]
       split at he
       ·rename_i hc2; rw [if_pos hc2]; injection he with he; simp only [Aa] at he; obtain ⟨rfl, rfl⟩ := he
        rw [Jm8 _ _ _ hgg]
       ·cases he
     ·cases he
   ·cases he
  ·cases he
 ·cases he
theorem Jx3 {call : Call} {base g0 : Nat} {f : Nat → AV} {op : LOp} {v : AV} {h h1 : Heap} (hc : op.aps = true) (he : Jz call base ⟨f, h⟩ g0 op = some (v, h1)) {g : Nat} {ob : AObj} (hg : h g = none) (hne : g0 ≠ g) :
  Jz call base ⟨f, upd h g (some ob)⟩ g0 op = some (v, upd h1 g (some ob)) := by
 have evf : ∀ h h', (St.mk f h).ev = (St.mk f h').ev := fun h h' => funext fun x => by cases x <;> rfl
 cases op <;> (try (simp [LOp.aps] at hc; done)) <;> simp only [Jz] at he ⊢
 case app esz bytes el zz x y =>
  rw [evf _ h]
  exact Juw hg hne he
 case appn z ds esz bytes el zz x y =>
  cases z with
  | true => simp [LOp.aps] at hc
  | false =>
   rw [evf _ h]
   unfold apnV at he ⊢
   split at he
   ·rename_i hn
    rw [if_pos hn]
    cases hr : appV h g0 esz bytes el ((St.mk f h).ev x) ((St.mk f h).ev y) with
    | none => rw [hr] at he; cases he
    | some r =>
     obtain ⟨u, h2⟩ := r
     rw [hr] at he
     simp only [apnZ, Ab, if_false] at he
     injection he with he
     simp only [Aa] at he
     obtain ⟨rfl, rfl⟩ := he
     rw [Juw hg hne hr]
     rfl
   ·cases he
theorem Jub {call : Call} {base : Nat} {o : LOper} {f : Nat → AV} {h h1 : Heap} {v : AV} (hc : o.op.aps = true) (he : evG call base o f h = some (v, h1)) {g : Nat} {ob : AObj} (hg : h g = none) (hne : base + o.dst.getD 0 ≠ g) :
  evG call base o f (upd h g (some ob)) = some (v, upd h1 g (some ob)) := by
 unfold evG at he ⊢
 split at he
 ·exact Jx3 hc he hg hne
 ·split at he
  ·split at he
   ·rename_i hb; rw [if_pos hb]; exact Jx3 hc he hg hne
   ·rename_i hb
    rw [if_neg hb]
    injection he with he; simp only [Aa] at he; rw [he.1, he.2]
  ·injection he with he; simp only [Aa] at he; rw [he.1, he.2]
  ·cases he
theorem Jun {h h1 : Heap} {g g0 esz bytes : Nat} {el : TypeId} {x y v : AV} (he : appV h g0 esz bytes el x y = some (v, h1)) (hg : h1 g = none) : h g = none := by
 have key : ∀ (k : Nat) (o : AObj), upd h k (some o) g = none → h g = none := fun k o hk => by
  by_cases hgk : g = k
  ·subst hgk; rw [Yf] at hk; cases hk
  ·rwa [Qd _ _ _ _ hgk] at hk
 unfold appV at he
 (repeat' split at he) <;> first | (cases he; done) | (injection he with he; simp only [Aa] at he; obtain ⟨-, rfl⟩ := he; first | exact hg | exact key _ _ hg)
theorem aps_none {call : Call} {base : Nat} {o : LOper} {f : Nat → AV} {h h1 : Heap} {v : AV} {g : Nat} (hc : o.op.aps = true) (he : evG call base o f h = some (v, h1)) (hg : h1 g = none) : h g = none := by
 have main : ∀ g0, Jz call base ⟨f, h⟩ g0 o.op = some (v, h1) → h g = none := fun g0 he => by
  cases hop : o.op <;> rw [hop] at hc he <;> (try (simp [LOp.aps] at hc; done)) <;> simp only [Jz] at he
  ·exact Jun he hg
  ·rename_i z ds esz bytes el zz x y
   cases z with
   | true => simp [LOp.aps] at hc
   | false =>
    unfold apnV at he
    split at he
    ·cases hr : appV h g0 esz bytes el ((St.mk f h).ev x) ((St.mk f h).ev y) with
     | none => rw [hr] at he; cases he
     | some r =>
      obtain ⟨u, h2⟩ := r
      rw [hr] at he
      simp only [apnZ, Ab, if_false] at he
      injection he with he
      simp only [Aa] at he
      obtain ⟨rfl, rfl⟩ := he
      exact Jun hr hg
    ·cases he
 unfold evG at he
 split at he
 ·exact main _ he
 ·split at he
  ·split at he
   ·exact main _ he
   ·injection he with he; simp only [Aa] at he; rw [he.2]; exact hg
  ·injection he with he; simp only [Aa] at he; rw [he.2]; exact hg
  ·cases he
theorem Jy7 {σ : St} {d e : Option Nat} {u v : AV} {h1 h2 h3 h4 : Heap} (hne : ∀ x, d = some x → e ≠ some x) : ((σ.put d u h1).put e v h3).f = ((σ.put e v h2).put d u h4).f := by
 cases d <;> cases e <;> simp only [St.put]
 rename_i d e
 exact Jm8 σ.f u v (by rintro rfl; exact hne d rfl rfl)
theorem J10 {σ : St} {d : Option Nat} {u : AV} {h : Heap} : (σ.put d u h).h = h := by cases d <;> rfl
theorem Jp5 {σ : St} {d : Option Nat} {u : AV} {h : Heap} {n : Nat} (hn : d ≠ some n) : (σ.put d u h).f n = σ.f n := by
 cases d with
 | none => rfl
 | some d => exact Qd _ _ _ _ (by rintro rfl; exact hn rfl)
theorem St.ext' {σ τ : St} (h1 : σ.f = τ.f) (h2 : σ.h = τ.h) : σ = τ := by cases σ; cases τ; simp_all
theorem Jqj {call : Call} {base : Nat} {o : LOper} {σ σ' : St} (h : Jcs call base o σ = some σ') :
  (o.op.isNew = true → σ.h (base + o.dst.getD 0) = none) ∧ ∃ v h1, evG call base o σ.f σ.h = some (v, h1) ∧ σ' = σ.put o.dst v h1 := by
 unfold Jcs at h
 split at h
 ·cases h
 ·rename_i hn
  rw [Jrc] at h
  obtain ⟨⟨v, h1⟩, h2, h3⟩ := Jdp h
  refine ⟨fun hi => ?_, v, h1, h2, h3⟩
  cases hh : σ.h (base + o.dst.getD 0) with
  | none => rfl
  | some x => exact absurd ⟨hi, by rw [hh]; rfl⟩ hn
theorem Jrv {call : Call} {base : Nat} {o : LOper} {σ : St} {v : AV} {h1 : Heap} (hn : o.op.isNew = true → σ.h (base + o.dst.getD 0) = none) (he : evG call base o σ.f σ.h = some (v, h1)) : Jcs call base o σ = some (σ.put o.dst v h1) := by
 unfold Jcs
 rw [if_neg (by rintro ⟨h1, h2⟩; rw [hn h1] at h2; cases h2), Jrc, he]
 rfl
theorem swap {call : Call} {base : Nat} {i j : LOper} {σ σ1 σ2 : St} (hi : Jur i j = true) (h1 : Jcs call base i σ = some σ1) (h2 : Jcs call base j σ1 = some σ2) :
  ∃ σ', Jcs call base j σ = some σ' ∧ Jcs call base i σ' = some σ2 := by
 simp only [Jur, Bool.and_eq_true] at hi
 obtain ⟨⟨⟨⟨t1, t2⟩, t3⟩, t4⟩, t5⟩ := hi
 have a1 : ∀ n ∈ j.looks, i.dst ≠ some n := fun n hn e => by rw [e] at t1; simp at t1; exact t1.1 hn
 have a2 : ∀ n ∈ i.looks, j.dst ≠ some n := fun n hn e => by rw [e] at t2; simp at t2; exact t2 hn
 have a3 : ∀ x, i.dst = some x → j.dst ≠ some x := fun x e => by rw [e] at t1; simp at t1; exact t1.2
 have a3' : ∀ x, j.dst = some x → i.dst ≠ some x := fun x e e' => a3 x e' e
 obtain ⟨n1, v1, g1, e1, rfl⟩ := Jqj h1
 obtain ⟨n2, v2, g2, e2, rfl⟩ := Jqj h2
 rw [J10] at n2 e2
 have e2' : evG call base j σ.f g1 = some (v2, g2) := by
  rw [← e2]; exact Jt4 fun n hn => (Jp5 (a1 n hn)).symm
 obtain ⟨i0, i1, i2⟩ := J3s e1 n1
 obtain ⟨j0, j1, j2⟩ := J3s e2' n2
 have fin : ∀ k, (j.op.isNew = true → σ.h (base + j.dst.getD 0) = none) → evG call base j σ.f σ.h = some (v2, k) → (i.op.isNew = true → k (base + i.dst.getD 0) = none) → evG call base i σ.f k = some (v1, g2) →
   ∃ σ', Jcs call base j σ = some σ' ∧ Jcs call base i σ' = some ((σ.put i.dst v1 g1).put j.dst v2 g2) := by
  intro k q1 q2 q3 q4
  refine ⟨σ.put j.dst v2 k, Jrv q1 q2, ?_⟩
  have : evG call base i (σ.put j.dst v2 k).f (σ.put j.dst v2 k).h = some (v1, g2) := by
   rw [J10, ← q4]; exact Jt4 fun n hn => Jp5 (a2 n hn)
  rw [Jrv (by rw [J10]; exact q3) this]
  congr 1
  exact St.ext' (Jy7 a3') (by rw [J10, J10])
 have notnew : ∀ {o : LOper} {n : Nat}, o.op.cls = n → n ≠ 2 → o.op.isNew = true → False := fun {o n} h hn hnew => hn (h ▸ new_cls2 hnew)
 simp only [Bool.or_eq_true, Bool.and_eq_true, beq_iff_eq] at t3
 by_cases c0 : i.op.cls = 0
 ·obtain ⟨rfl, r⟩ := i0 c0
  exact fin g2 n2 e2' (fun h => (notnew c0 (by decide) h).elim) (r g2)
 ·by_cases d0 : j.op.cls = 0
  ·obtain ⟨rfl, r⟩ := j0 d0
   exact fin σ.h (fun h => (notnew d0 (by decide) h).elim) (r σ.h) n1 e1
  ·rcases t3 with (((((((t3 | t3) | t3) | t3) | t3) | t3) | t3) | t3)
   ·exact (c0 t3).elim
   ·exact (d0 t3).elim
   ·obtain ⟨c1, t3⟩ := t3
    obtain ⟨rfl, r⟩ := i1 c1
    rcases t3 with d1 | d2
    ·obtain ⟨rfl, _⟩ := j1 d1
     exact fin σ.h n2 e2' n1 e1
    ·rcases j2 d2 with ⟨rfl, _⟩ | ⟨ob, rfl, _⟩
     ·exact fin σ.h n2 e2' n1 e1
     ·exact fin _ n2 e2' (fun h => (notnew c1 (by decide) h).elim) (r _ ob (n2 (Jlr d2)))
   ·obtain ⟨c2, d2⟩ := t3
    have hj : j.op.isNew = true := Jlr d2
    have hni : i.op.isNew = true := Jlr c2
    have hne : base + j.dst.getD 0 ≠ base + i.dst.getD 0 := by
     rw [c2] at t4
     rw [d2] at t5
     cases hdi : i.dst with
     | none => rw [hdi] at t4; simp at t4
     | some x =>
      cases hdj : j.dst with
      | none => rw [hdj] at t5; simp at t5
      | some y =>
       have := a3 x hdi
       rw [hdj] at this
       simp
       rintro rfl
       exact this rfl
    rcases i2 c2 with ⟨rfl, r⟩ | ⟨oi, rfl, r⟩
    ·rcases j2 d2 with ⟨rfl, _⟩ | ⟨oj, rfl, _⟩
     ·exact fin σ.h n2 e2' n1 e1
     ·exact fin _ n2 e2' (fun h => by rw [Qd _ _ _ _ hne.symm]; exact n1 h) (r _)
    ·have hg : σ.h (base + j.dst.getD 0) = none := by have := n2 hj; rwa [Qd _ _ _ _ hne] at this
     rcases j2 d2 with ⟨rfl, q⟩ | ⟨oj, rfl, q⟩
     ·exact fin σ.h (fun _ => hg) (q σ.h) n1 e1
     ·refine fin _ (fun _ => hg) (q σ.h hg) (fun h => by rw [Qd _ _ _ _ hne.symm]; exact n1 h) ?_
      rw [r _ (by rw [Qd _ _ _ _ hne.symm]; exact n1 hni)]
      rw [Jm8 _ _ _ hne]
   ·obtain ⟨hs, hf⟩ := t3
    have hjn : j.op.isNew = true → False := fun hn => by cases hop : j.op <;> rw [hop] at hf hn <;> simp [LOp.frzs, LOp.isNew] at hf hn
    have hin : i.op.isNew = true → False := fun hn => by cases hop : i.op <;> rw [hop] at hs hn <;> simp [LOp.still, LOp.isNew] at hs hn
    obtain ⟨ns, hg2⟩ := Jxa hf e2'
    obtain ⟨q1, q2⟩ := J8v hs e1 ns
    subst q1
    rw [← hg2] at q2
    exact fin g2 (fun h => (hjn h).elim) e2' (fun h => (hin h).elim) q2
   ·obtain ⟨ds, op, ds', hio, hjo, hall⟩ : ∃ ds op ds', i.op = .msk ds op ∧ j.op.nwD = some ds' ∧ (ds'.all fun d => ds.contains d) = true := by
     unfold LOp.past at t3
     split at t3
     ·rename_i ds op ds' h1 h2
      exact ⟨_, _, _, h1, h2, t3⟩
     ·cases t3
    have hjn : j.op.isNew = true → False := fun hn => by cases hop : j.op <;> rw [hop] at hjo hn <;> first | (cases hjo; done) | (cases hn; done)
    have hin : i.op.isNew = true → False := fun hn => by rw [hio] at hn; cases hn
    have hd : ∀ g, inNm base ds' g = true → inNm base ds g = true := fun g hg => by
     obtain ⟨d, hd, e⟩ := List.any_eq_true.1 hg
     exact List.any_eq_true.2 ⟨d, by simpa using Ac.1 hall d hd, e⟩
    obtain ⟨q1, q2⟩ := evG_past hio hjo hd e1 e2'
    subst q1
    exact fin g2 (fun h => (hjn h).elim) e2' (fun h => (hin h).elim) q2
   ·obtain ⟨hf, d2⟩ := t3
    have hjn : j.op.isNew = true := Jlr d2
    have hin : i.op.isNew = true → False := fun hn => by cases hop : i.op <;> rw [hop] at hf hn <;> simp [LOp.frzs, LOp.isNew] at hf hn
    obtain ⟨ns, hg1⟩ := Jxa hf e1
    have hnone : σ.h (base + j.dst.getD 0) = none := by
     have := n2 hjn
     rw [hg1] at this
     unfold Kg at this
     split at this
     ·cases ho : σ.h (base + j.dst.getD 0) with
      | none => rfl
      | some o => rw [ho] at this; cases this
     ·exact this
    rcases j2 d2 with ⟨rfl, q⟩ | ⟨oj, rfl, q⟩
    ·exact fin σ.h (fun _ => hnone) (q σ.h) (fun h => (hin h).elim) e1
    ·exact fin _ (fun _ => hnone) (q σ.h hnone) (fun h => (hin h).elim) (Js1 hf e1 hnone)
   ·obtain ⟨⟨hf, di⟩, d2⟩ := t3
    have hjn : j.op.isNew = true := Jlr d2
    have hin : i.op.isNew = true → False := fun hn => by
     cases hop : i.op <;> rw [hop] at hf hn <;> simp [LOp.aps, LOp.isNew] at hf hn
    have hnone : σ.h (base + j.dst.getD 0) = none := aps_none hf e1 (n2 hjn)
    have hne : base + i.dst.getD 0 ≠ base + j.dst.getD 0 := by
     rw [d2] at t5
     cases hdi : i.dst with
     | none => rw [hdi] at di; simp at di
     | some x =>
      cases hdj : j.dst with
      | none => rw [hdj] at t5; simp at t5
      | some y =>
       have := a3 x hdi
       rw [hdj] at this
       simp
       rintro rfl
       exact this rfl
    rcases j2 d2 with ⟨rfl, q⟩ | ⟨oj, rfl, q⟩
    ·exact fin σ.h (fun _ => hnone) (q σ.h) (fun h => (hin h).elim) e1
    ·exact fin _ (fun _ => hnone) (q σ.h hnone) (fun h => (hin h).elim) (Jub hf e1 hnone hne)
theorem bubble {call : Call} {base : Nat} {j : LOper} : ∀ {A B : List LOper} {σ σf : St}, (∀ i ∈ A, Jur i j = true) → zb call base (A ++ j :: B) σ = some σf → ∃ σ', Jcs call base j σ = some σ' ∧ zb call base (A ++ B) σ' = some σf
 | [], B, σ, σf, _, h => by
  simp only [List.nil_append, zb] at h ⊢
  split at h
  ·rename_i σ' h'; exact ⟨σ', h', h⟩
  ·cases h
 | i :: A, B, σ, σf, hA, h => by
  simp only [List.cons_append, zb] at h ⊢
  split at h
  ·rename_i σ1 h1
   obtain ⟨σ2, h2, h3⟩ := bubble (fun k hk => hA k (List.mem_cons_of_mem _ hk)) h
   obtain ⟨σ', s1, s2⟩ := swap (hA i (List.mem_cons_self ..)) h1 h2
   refine ⟨σ', s1, ?_⟩
   rw [s2]
   exact h3
  ·cases h
end Go.Vv
