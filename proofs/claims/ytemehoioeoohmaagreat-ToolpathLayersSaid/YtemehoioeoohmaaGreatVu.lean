/- Straight code with guards, one operation after the other, without parting into ways. Conditions: none. -/
import Derived.Test.YtemehoioeoohmaaGreatVt
namespace Go.Vv
open Go
open Bool renaming false_eq_true → Aa
variable {call : Call} {base : Nat} {F : Nat → AV} {h : Heap} {r : List LOper} {op : LOp} {d g : Nat} {v : AV} {c w : Bool}
theorem Q2 (hn : op.isNew = false) (hv : Jz call base ⟨F, h⟩ (base + d) op = some (v, h)) : zb call base (⟨some d, op, none⟩ :: r) ⟨F, h⟩ = zb call base r ⟨upd F d v, h⟩ := by
 simp only [zb, Jcs, hn, Aa, false_and, if_false, Jdh, Option.getD_some, hv, St.put]
theorem Xd (hn : op.isNew = false) (hg : F g = .bool c) (hv : c = w → Jz call base ⟨F, h⟩ (base + d) op = some (v, h)) : zb call base (⟨some d, op, some (g, w)⟩ :: r) ⟨F, h⟩ = zb call base r ⟨upd F d (if c = w then v else .tup []), h⟩ := by
 by_cases hc : c = w
 ·simp only [zb, Jcs, hn, Aa, false_and, if_false, Jdh, hg, if_pos hc, Option.getD_some, hv hc, St.put]
 ·simp only [zb, Jcs, hn, Aa, false_and, if_false, Jdh, hg, if_neg hc, St.put]
def Lst {α : Type} (x : FS α) : Prop := ∃ l, x = .lst l
theorem Jja {α : Type} {l : List α} (h : (FS.nil : FS α) = .lst l) : False := by cases h
theorem Jjy {S R : Type} {Γ : Env} {pins ks : List Nat} {b : LC} {body : S → Option (LR S R)} {st : S → St} {out : R → LE × St} {P : S → Prop} {Q : R → Prop}
  (hb : ∀ s x, body s = some x → match x with | .nx s' => LK Γ pins 0 ks b (some (st s)) = LK Γ pins 0 ks b (some (st s')) ∧ (P s → P s') | .dn r => LK Γ pins 0 ks b (some (st s)) = some (out r) ∧ (P s → Q r)) :
  ∀ n s r, Kn body n s = some r → LK Γ pins 0 ks b (some (st s)) = some (out r) ∧ (P s → Q r)
 | 0, s, r, h => by cases h
 | n + 1, s, r, h => by
  simp only [Kn] at h
  split at h
  ·cases h
  ·rename_i s' hs
   have h1 := hb s _ hs
   have h2 := Jjy hb n s' r h
   exact ⟨h1.1.trans h2.1, fun p => h2.2 (h1.2 p)⟩
  ·rename_i r' hs
   cases h
   exact hb s _ hs
section
variable (h : Heap) (tb : List Win) (k : Nat)
theorem addW_any  : addW h tb k (.any ) = tb := rfl
theorem J8s (b : Bool) : addW h tb k (.bool b) = tb := rfl
theorem addW_int (q : IntKind) (n : Int) : addW h tb k (.int q n) = tb := rfl
theorem addW_str (x : ByteArray) : addW h tb k (.str x) = tb := rfl
theorem J5j  : addW h tb k (.nils ) = tb := rfl
theorem J7e  : addW h tb k (.nilp ) = tb := rfl
theorem J7p  : addW h tb k (.nilf ) = tb := rfl
theorem J8y  : addW h tb k (.nilm ) = tb := rfl
theorem addW_lst (n : Nat) (l : List AV) : addW h tb k (.lst n l) = tb := rfl
theorem J1f (l : List AV) : addW h tb k (.rptr l) = tb := rfl
theorem addW_fn (f : FuncId) (l : List AV) : addW h tb k (.fn f l) = tb := rfl
theorem addW_agg (l : List AV) : addW h tb k (.agg l) = tb := rfl
theorem addW_tup (l : List AV) : addW h tb k (.tup l) = tb := rfl
theorem addW_ptr (g v o : Nat) : addW h tb k (.ptr g v o) = tb := rfl
theorem addW_mpr (a b : List AV) : addW h tb k (.mpr a b) = tb := rfl
end
attribute [simp] addW_any J8s addW_int addW_str J5j J7e J7p J8y addW_lst J1f addW_fn addW_agg addW_tup addW_ptr addW_mpr
end Go.Vv
