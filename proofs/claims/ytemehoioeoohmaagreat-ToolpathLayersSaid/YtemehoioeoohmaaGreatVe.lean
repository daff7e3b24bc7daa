/- More operations of the evaluator are right of the model: arithmetic, equality, slices' bounds; what the heap holds, read as a value. Conditions: none. -/
import Derived.Test.YtemehoioeoohmaaGreatVd
import Derived.Laws.StructEq
namespace Go.Vv
open Go
open Bool renaming false_eq_true → Aa
open List renaming drop_eq_nil_of_le → Ab
open Nat renaming le_refl → Ac
section
variable {w : World} {S : Nat → Prop} {h : Heap} {μ : Gh} {P : Program}
theorem Jzq {t : TypeId} {op : BinOp} {k : IntKind} {a b : Int} {v : AV} (hv : Jim op k a b = some v) : ∃ cv, (binOp op t (.int k a) (.int k b)).run P w = .ok cv w ∧ Rep w S h μ v cv := by
  unfold Jim at hv
  split at hv
  all_goals first
    | cases hv; done
    | (injection hv with hv; subst hv; first
        | exact ⟨_, by simp only [go_sem]; simp [go_sem], .pure (.int _ _)⟩
        | exact ⟨_, by simp only [go_sem]; simp [go_sem], .pure (.bool _)⟩)
    | (split at hv
       · cases hv
       · rename_i hb
         injection hv with hv; subst hv
         exact ⟨_, by simp only [go_sem]; simp [hb], .pure (.int _ _)⟩)
theorem Jpy {op : BinOp} {t : TypeId} {x y : Operand} {k : IntKind} {a : Int} {v : Value} : (eqGuard op t x y (.int k a) v).run P w = .ok () w := by simp [go_sem]
theorem Jyv {s d : TypeId} {k k' : IntKind} {n : Int} (hs : ∃ j, P.underlying s = some (.int j)) (hd : P.underlying d = some (.int k)) : (convert s d (.int k' n)).run P w = .ok (.int k (k.wrap n)) w := by
  obtain ⟨j, hs⟩ := hs
  simp [convert, run_underlying hs, run_underlying hd, Conv.intToInt]
theorem Jko : ∀ {sh : List Bool} {l m : List AV} {b : Bool}, Zl sh l m = some b → l.length = sh.length ∧ m.length = sh.length
  | [], [], [], _, _ => ⟨rfl, rfl⟩
  | s :: ss, x :: xs, y :: ys, b, h => by
    unfold Zl at h
    split at h
    · rename_i h2
      obtain ⟨h3, h4⟩ := Jko h2
      exact ⟨by simp [h3], by simp [h4]⟩
    · cases h
  | [], _ :: _, _, _, h => by simp [Zl] at h
  | [], [], _ :: _, _, h => by simp [Zl] at h
  | _ :: _, [], _, _, h => by simp [Zl] at h
  | _ :: _, _ :: _, [], _, h => by simp [Zl] at h
theorem Ji9 : ∀ {s1 s2 : List Bool} {l m : List AV} {b : Bool}, Zl (s1 ++ s2) l m = some b →
    ∃ b1 b2, Zl s1 (l.take s1.length) (m.take s1.length) = some b1 ∧ Zl s2 (l.drop s1.length) (m.drop s1.length) = some b2 ∧ b = (b1 && b2)
  | [], s2, l, m, b, h => ⟨true, b, by simp [Zl], by simpa using h, by simp⟩
  | s :: s1, s2, [], m, b, h => by simp [Zl] at h
  | s :: s1, s2, x :: l, [], b, h => by simp [Zl] at h
  | s :: s1, s2, x :: l, y :: m, b, h => by
    simp only [List.cons_append, Zl] at h
    split at h
    · rename_i a c h1 h2
      injection h with h
      subst h
      obtain ⟨b1, b2, e1, e2, e3⟩ := Ji9 h2
      refine ⟨a && b1, b2, ?_, by simpa using e2, by rw [e3, Bool.and_assoc]⟩
      simp [Zl, h1, e1]
    · cases h
theorem Jti {g : TypeId → Option (List Bool)} {d : Nat} (ih : ∀ {t : TypeId} {sh : List Bool} {ag : Bool} {x y : AV} {cx cy : Value} {b : Bool}, g t = some sh → aggT P t = some ag →
    Rep w S h μ x cx → Rep w S h μ y cy → eqV ag sh x y = some b → (Op.equalIn d t cx cy).run P w = .ok b w) : ∀ {fs : List Field} {k : Nat} {sh : List Bool} {l m : List AV} {cs cs' : Array Value} {b : Bool}, Jv6 P g fs k = some sh →
    l.length = cs.size → Holds w S h μ l cs → m.length = cs'.size → Holds w S h μ m cs' → Zl sh (l.drop k) (m.drop k) = some b → l.length = k + sh.length → m.length = k + sh.length → (Op.eqFields d cs cs' fs).run P w = .ok b w
  | [], k, sh, l, m, cs, cs', b, hsh, hl, hh, hl', hh', he, h1, h2 => by
    simp [Jv6] at hsh
    subst hsh
    have e1 : l.drop k = [] := Ab (by simp at h1; omega)
    have e2 : m.drop k = [] := Ab (by simp at h2; omega)
    rw [e1, e2] at he
    simp [Zl] at he
    subst he
    simp [Op.eqFields]
  | f :: r, k, sh, l, m, cs, cs', b, hsh, hl, hh, hl', hh', he, h1, h2 => by
    unfold Jv6 at hsh
    split at hsh
    · rename_i a ag q ha hag hq
      split at hsh
      · rename_i hc
        obtain ⟨ho, hn, hqa, hone⟩ := hc
        split at hsh
        · rename_i r' hr
          injection hsh with hsh
          subst hsh hqa
          obtain ⟨b1, b2, e1, e2, e3⟩ := Ji9 he
          have hk1 : k + a.length ≤ l.length := by simp at h1; omega
          have hk2 : k + a.length ≤ m.length := by simp at h2; omega
          have pk : ∀ (l : List AV), k + a.length ≤ l.length → ∃ v, pack ag l f.offset a.length = some v ∧ (ag = true → v = .agg (cut l k a.length)) ∧ (ag = false → cut l k a.length = [v]) := by
            intro l hle
            rw [ho]
            cases ag with
            | true => exact ⟨_, by simp [pack, hle], fun _ => rfl, fun h => by cases h⟩
            | false =>
              have h1 : a.length = 1 := by simpa using hone
              have hlt : k < l.length := by omega
              refine ⟨l[k], by simp [pack, hle, hlt], (fun h => by cases h), fun _ => ?_⟩
              simp only [cut, h1]
              rw [List.drop_eq_getElem_cons hlt]
              rfl
          obtain ⟨v1, p1, q1, r1⟩ := pk l hk1
          obtain ⟨v2, p2, q2, r2⟩ := pk m hk2
          obtain ⟨c1, s1, t1⟩ := Jjt (P := P) hag hq hone hl hh p1
          obtain ⟨c2, s2, t2⟩ := Jjt (P := P) hag hq hone hl' hh' p2
          have hev : eqV ag a v1 v2 = some b1 := by
            cases ag with
            | true => rw [q1 rfl, q2 rfl]; simpa [eqV, cut] using e1
            | false =>
              simp only [eqV, Aa, if_false]
              rw [← r1 rfl, ← r2 rfl]
              exact e1
          have hrun := ih ha hag t1 t2 hev
          simp only [Op.eqFields, hn, ne_eq, not_false_eq_true, if_true, Sem.run_bind, s1, s2, Result.andThen_ok, hrun, Sem.run_ite]
          cases b1 with
          | false => simp at e3; simp [e3]
          | true =>
            simp at e3
            subst e3
            simp only [Bool.not_true, Aa, if_false]
            refine Jti ih hr hl hh hl' hh' (by simpa [List.drop_drop] using e2) (by simp at h1; omega) (by simp at h2; omega)
        · cases hsh
      · cases hsh
    · cases hsh
theorem Jsx : ∀ (n d : Nat) {t : TypeId} {sh : List Bool} {ag : Bool} {x y : AV} {cx cy : Value} {b : Bool}, n ≤ d → eqSh P n t = some sh → aggT P t = some ag →
    Rep w S h μ x cx → Rep w S h μ y cy → eqV ag sh x y = some b → (Op.equalIn d t cx cy).run P w = .ok b w
  | 0, _, _, _, _, _, _, _, _, _, _, h, _, _, _, _ => by simp [eqSh] at h
  | n + 1, 0, _, _, _, _, _, _, _, _, hd, _, _, _, _, _ => by omega
  | n + 1, d + 1, t, sh, ag, x, y, cx, cy, b, hd, hsh, hag, hx, hy, he => by
    unfold eqSh at hsh
    unfold aggT at hag
    split at hsh
    · rename_i hu
      rw [hu] at hag
      simp at hag
      injection hsh with hsh
      subst hsh hag
      simp only [eqV, Aa, if_false, Zl] at he
      split at he
      · rename_i a c h1 h2
        injection he with he
        injection h2 with h2
        subst h2
        unfold Jg6 at h1
        split at h1
        · cases ‹true = false›
        · injection h1 with h1
          rw [hx.bool_inv, hy.bool_inv]
          simp only [Op.equalIn, Sem.run_bind, run_underlying hu, Result.andThen_ok, Sem.run_pure]
          rw [← he, ← h1, Bool.and_true]
        · cases h1
      · cases he
    · rename_i k hu
      rw [hu] at hag
      simp at hag
      injection hsh with hsh
      subst hsh hag
      simp only [eqV, Aa, if_false, Zl] at he
      split at he
      · rename_i a c h1 h2
        injection he with he
        injection h2 with h2
        subst h2
        unfold Jg6 at h1
        split at h1
        · split at h1
          · rename_i hk
            subst hk
            injection h1 with h1
            rw [hx.int_inv, hy.int_inv]
            simp only [Op.equalIn, Sem.run_bind, run_underlying hu, Result.andThen_ok, if_true, Sem.run_pure]
            rw [← he, ← h1, Bool.and_true]
          · cases h1
        · cases ‹false = true›
        · cases h1
      · cases he
    · rename_i fs hu
      rw [hu] at hag
      simp at hag
      subst hag
      split at hsh
      · cases hsh
      · rename_i hst
        simp only [eqV, if_true] at he
        split at he
        · rename_i l m
          obtain ⟨cs, rfl, hl, hh⟩ := hx.agg_inv
          obtain ⟨cs', rfl, hl', hh'⟩ := hy.agg_inv
          have hf : P.fieldsOf t = fs := by simp [Program.fieldsOf, hu]
          rw [run_equalIn_struct w d t cs cs' (by rw [hf]; exact hu) (by simpa using hst), hf]
          have hlen := Jko he
          refine Jti (fun hx hy => Jsx n d (by omega) hx hy) hsh hl hh hl' hh' (by simp; exact he) (by simp [hlen]) (by simp [hlen])
        · cases he
    · cases hsh
theorem J7u {t : TypeId} {ag ne : Bool} {sh : List Bool} (ht : eqT P t = some (ag, sh)) (hni : ∀ k, P.underlying t ≠ some (.int k)) {x y : AV} {cx cy : Value} {X Y : Operand} {b : Bool} (hx : Rep w S h μ x cx) (hy : Rep w S h μ y cy) (he : eqV ag sh x y = some b) :
    (eqGuard (if ne then .neq else .eql) t X Y cx cy).run P w = .ok () w ∧ (binOp (if ne then .neq else .eql) t cx cy).run P w = .ok (.bool (if ne then !b else b)) w := by
  unfold eqT at ht
  split at ht
  · rename_i sh' ag' h1 h2
    split at ht
    · cases ht
    · rename_i hg
      simp at ht
      obtain ⟨rfl, rfl⟩ := ht
      have hrun := Jsx 6 10000 (by omega) h1 h2 hx hy he
      cases ag' with
      | true =>
        simp only [eqV, if_true] at he
        split at he
        · obtain ⟨cs, rfl, _⟩ := hx.agg_inv
          obtain ⟨cs', rfl, _⟩ := hy.agg_inv
          refine ⟨run_eqGuard_agg w _ t X Y cs cs' (by simpa using hg), ?_⟩
          cases ne with
          | true => simp only [if_true]; rw [run_neq_struct, hrun]; rfl
          | false => simp only [Aa, if_false]; rw [run_eql_struct, hrun]; rfl
        · cases he
      | false =>
        simp only [eqV, Aa, if_false] at he
        match sh', he with
        | s :: [], he =>
          simp only [Zl] at he
          split at he
          · rename_i a c h3 h4
            injection he with he
            injection h4 with h4
            subst h4
            unfold Jg6 at h3
            split at h3
            · exfalso
              unfold eqSh at h1
              split at h1
              · simp at h1
              · rename_i k hu; exact hni k hu
              · rename_i fs hu; unfold aggT at h2; rw [hu] at h2; simp at h2
              · cases h1
            · injection h3 with h3
              have e1 := hx.bool_inv
              have e2 := hy.bool_inv
              subst e1 e2
              refine ⟨by simp [go_sem], ?_⟩
              cases ne with
              | true => simp only [if_true]; simp [binOp, Op.equal, Op.maxDepth, hrun]
              | false => simp only [Aa, if_false]; simp [binOp, Op.equal, Op.maxDepth, hrun]
            · cases h3
          · cases he
        | [], he => simp [Zl] at he
        | _ :: _ :: _, he => simp [Zl] at he
  · cases ht
def Jro (w : World) (S : Nat → Prop) (h : Heap) (μ : Gh) : Option AV → Option Value → Prop
  | none, none => True
  | some x, some c => Rep w S h μ x c
  | _, _ => False
theorem Jiw {len cap : Nat} {lo hi : Option AV} {clo chi : Option Value} (hlo : Jro w S h μ lo clo) (hhi : Jro w S h μ hi chi) {a b : Int} (ha : Jf8 0 lo = some a) (hb : Jf8 len hi = some b)
    (h0 : 0 ≤ a) (hab : a ≤ b) (hbl : b ≤ len) (hlc : len ≤ cap) : (Instr.sliceBounds true len cap clo chi none).run P w = .ok (a.toNat, b.toNat, cap) w := by
  have bd : ∀ (y : Nat) (code : BoundsCode) (k : IntKind) (n : Int), 0 ≤ n → n ≤ y → (Instr.sliceBound (.int k n) y code).run P w = .ok n.toNat w := fun y code k n h1 h2 => by
    simp [Instr.sliceBound, asIntOf, h1, h2]
  cases hi with
  | none => cases chi with
    | some c => exact hhi.elim
    | none =>
      simp [Jf8] at hb
      cases lo with
      | none => cases clo with
        | some c => exact hlo.elim
        | none =>
          simp [Jf8] at ha
          subst ha hb
          simp [Instr.sliceBounds]
      | some x => cases clo with
        | none => exact hlo.elim
        | some c =>
          cases x <;> simp [Jf8] at ha
          have e := Rep.int_inv hlo
          subst e ha hb
          simp [Instr.sliceBounds, bd len _ _ _ h0 hab]
  | some x => cases chi with
    | none => exact hhi.elim
    | some c =>
      cases x <;> simp [Jf8] at hb
      have e := Rep.int_inv hhi
      subst e hb
      rename_i kb nb
      have hb1 := bd cap .sliceAcap kb nb (by omega) (by omega)
      cases lo with
      | none => cases clo with
        | some c => exact hlo.elim
        | none =>
          simp [Jf8] at ha
          subst ha
          simp [Instr.sliceBounds, hb1]
      | some x => cases clo with
        | none => exact hlo.elim
        | some c =>
          cases x <;> simp [Jf8] at ha
          have e := Rep.int_inv hlo
          subst e ha
          simp [Instr.sliceBounds, hb1, bd nb.toNat .sliceB _ _ h0 (by omega)]
theorem Jvr {t e : TypeId} {n : Nat} (ht : P.underlying t = some (.slice e)) (hn : szT P e = some n) {x v : AV} {cx : Value} {lo hi : Option AV} {clo chi : Option Value} (hr : Rep w S h μ x cx)
    (hlo : Jro w S h μ lo clo) (hhi : Jro w S h μ hi chi) (hv : Jf2 h n x lo hi = some v) : ∃ cv, (Instr.sliceAt t cx clo chi none).run P w = .ok cv w ∧ Rep w S h μ v cv := by
  unfold Jf2 at hv
  split at hv
  · rename_i m l
    split at hv
    · rename_i a b ha hb
      split at hv
      · rename_i hc
        obtain ⟨h0, hab, hbl, hll⟩ := hc
        injection hv with hv
        subst hv
        cases hr with
        | pure hp =>
          cases hp with
          | lst0 =>
            have hb' : b = 0 := by omega
            have ha' : a = 0 := by omega
            subst hb' ha'
            have hbn := Jiw (P := P) (len := 0) (cap := 0) hlo hhi ha hb h0 hab hbl (Ac _)
            exact ⟨.slice none 0 0, by simp [Instr.sliceAt, run_underlying ht, Instr.slice, hbn, Jb9 hn], by simpa [cut] using Rep.pure RepP.lst0⟩
          | lst _ _ ad cap cv hs hn' hc h1 hr =>
            have hbn := Jiw (P := P) (len := m) (cap := cap) hlo hhi ha hb h0 hab hbl hn'
            refine ⟨.slice (some (if cap = a.toNat then ad else ad.add (a.toNat * n))) (b.toNat - a.toNat) (cap - a.toNat), ?_, .pure ?_⟩
            · simp only [Instr.sliceAt, Sem.run_bind, run_underlying ht, Result.andThen_ok, Instr.slice, hbn, Jb9 hn, Sem.run_pure]
              split <;> simp
            · rw [show (b - a).toNat = b.toNat - a.toNat by omega]
              have hb : ∀ k, (ad.add k).block = ad.block := fun k => by unfold Addr.add; split <;> rfl
              by_cases hca : cap = a.toNat
              · have hz : b.toNat - a.toNat = 0 := by omega
                rw [hz]
                simp only [Nat.zero_mul, cut, List.take_zero, hca, if_true]
                exact .lst 0 [] ad _ (fun _ => undef) (fun h0 => (h0 rfl).elim) (by omega) (fun i x hi => by simp at hi) (fun i x hi => by simp at hi) (fun i x hi => by simp at hi)
              · rw [if_neg hca]
                have key : ∀ i x, (cut l (a.toNat * n) ((b.toNat - a.toNat) * n))[i]? = some x → l[a.toNat * n + i]? = some x := fun i x hi => by
                  simp only [cut, List.getElem?_take, List.getElem?_drop] at hi
                  split at hi
                  · exact hi
                  · cases hi
                exact .lst _ _ _ _ (fun i => cv (a.toNat * n + i)) (fun h0 => by rw [hb]; exact hs (by rintro rfl; simp [cut] at h0)) (by omega) (fun i x hi => by rw [Jwk]; exact hc _ x (key i x hi)) (fun i x hi => h1 _ x (key i x hi)) (fun i x hi => hr _ x (key i x hi))
      · cases hv
    · cases hv
  · rename_i g ver off len
    split at hv
    · rename_i a b ha hb
      split at hv
      · rename_i hc
        obtain ⟨h0, hab, hbl, hcur⟩ := hc
        injection hv with hv
        subst hv
        obtain ⟨el, cells, fz, ho⟩ := Jsh hcur
        obtain ⟨ad, cap, cs, el', z, rfl, hl, hbk, hsz, had⟩ := hr.arr_inv ho
        have hbn := Jiw (P := P) (len := len) (cap := cap) hlo hhi ha hb h0 hab hbl hl
        refine ⟨.slice (some (if cap = a.toNat then ad else ad.add (a.toNat * n))) (b.toNat - a.toNat) (cap - a.toNat), ?_, ?_⟩
        · simp only [Instr.sliceAt, Sem.run_bind, run_underlying ht, Result.andThen_ok, Instr.slice, hbn, Jb9 hn, Sem.run_pure]
          split <;> simp
        · rw [show (b - a).toNat = b.toNat - a.toNat by omega]
          refine .arr _ _ _ _ _ _ ho (Ac _) rfl fun _ => ⟨n, el, cells, fz, rfl, _, _, cs, el', z, rfl, by omega, hbk, ?_, fun hpos => ?_⟩
          · have : off + a.toNat + (cap - a.toNat) = off + cap := by omega
            rw [this]; exact hsz
          · rw [if_neg (by omega), had (by omega), Addr.add_lit, Nat.add_mul, Nat.add_assoc]
      · cases hv
    · cases hv
  · split at hv
    · rename_i a b ha hb
      split at hv
      · rename_i hc
        obtain ⟨rfl, rfl⟩ := hc
        injection hv with hv
        subst hv
        rw [hr.nils_inv]
        have hbn := Jiw (P := P) (len := 0) (cap := 0) hlo hhi ha hb (by omega) (by omega) (by omega) (Ac _)
        exact ⟨.slice none 0 0, by simp [Instr.sliceAt, run_underlying ht, Instr.slice, hbn, Jb9 hn], .pure .nils⟩
      · cases hv
    · cases hv
  · cases hv
end
end Go.Vv
