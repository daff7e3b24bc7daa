/- The rules of a walk as a rewriting set; loops of typed functions. Conditions: none. -/
import Derived.Test.YtchiiiahgmfofaaVp
namespace Go.Vv
open Go
set_option linter.unusedSectionVars false

/-! Typed loops. -/
inductive LR (S R : Type) where
  | nx (s : S)
  | dn (r : R)
def loopT {S R : Type} (body : S → Option (LR S R)) : Nat → S → Option R
  | 0, _ => none
  | n + 1, s => match body s with
    | none => none
    | some (.nx s') => loopT body n s'
    | some (.dn r) => some r
def bigN : Nat := 18446744073709551616
theorem loop_walk {S R : Type} {Γ : Env} {pins ks : List Nat} {b : LC} {body : S → Option (LR S R)} {st : S → St} {out : R → LE × St}
    (hb : ∀ s x, body s = some x → LK Γ pins 0 ks b (some (st s)) = match x with | .nx s' => LK Γ pins 0 ks b (some (st s')) | .dn r => some (out r)) :
    ∀ n s r, loopT body n s = some r → LK Γ pins 0 ks b (some (st s)) = some (out r)
  | 0, s, r, h => by cases h
  | n + 1, s, r, h => by
    simp only [loopT] at h
    split at h
    · cases h
    · rename_i s' hs
      rw [hb s _ hs]
      exact loop_walk hb n s' r h
    · rename_i r' hs
      cases h
      exact hb s _ hs
def gOpt {α : Type} (c : Bool) (o : Option α) : Option (Option α) := if c = true then (match o with | some v => some (some v) | none => none) else some none
theorem gOpt_some {α : Type} {c : Bool} {o : Option α} {v : Option α} (h : gOpt c o = some v) (hc : c = true) : ∃ u, v = some u ∧ o = some u := by
  unfold gOpt at h
  rw [if_pos hc] at h
  cases o with
  | none => cases h
  | some u => cases h; exact ⟨u, rfl, rfl⟩
theorem gOpt_getD {α : Type} {c : Bool} {o : Option α} {v : Option α} (d : α) (h : gOpt c o = some v) (hc : c = true) : o = some (v.getD d) := by
  obtain ⟨u, rfl, h2⟩ := gOpt_some h hc
  exact h2
theorem band_mk {a b : Bool} (ha : a = true) (hb : b = true) : band a b = true := by rw [ha, hb]; rfl
theorem bnot_mk {a : Bool} (ha : a = false) : bnot a = true := by rw [ha]; rfl

/-! States. -/
theorem addS_flat (h : Heap) (c : Bool) (tb : List Win) (k : Nat) (v : AV) (hv : v.flat = true) : addS h c tb k v = tb := by
  cases v <;> first | rfl | cases hv
theorem addW_flat (h : Heap) (tb : List Win) (k : Nat) (v : AV) (hv : v.flat = true) : addW h tb k v = tb := by
  cases v <;> first | rfl | cases hv
section
variable (h : Heap) (tb : List Win) (c : Bool) (k : Nat)
theorem addS_any : addS h c tb k .any = tb := rfl
theorem addS_bool (b : Bool) : addS h c tb k (.bool b) = tb := rfl
theorem addS_int (q : IntKind) (n : Int) : addS h c tb k (.int q n) = tb := rfl
theorem addS_str (s : ByteArray) : addS h c tb k (.str s) = tb := rfl
theorem addS_nils : addS h c tb k .nils = tb := rfl
theorem addS_nilp : addS h c tb k .nilp = tb := rfl
theorem addS_nilf : addS h c tb k .nilf = tb := rfl
theorem addS_nilm : addS h c tb k .nilm = tb := rfl
theorem addS_lst (n : Nat) (l : List AV) : addS h c tb k (.lst n l) = tb := rfl
theorem addS_rptr (l : List AV) : addS h c tb k (.rptr l) = tb := rfl
theorem addS_agg (l : List AV) : addS h c tb k (.agg l) = tb := rfl
theorem addS_tup (l : List AV) : addS h c tb k (.tup l) = tb := rfl
theorem addS_fn (f : FuncId) (l : List AV) : addS h c tb k (.fn f l) = tb := rfl
theorem addS_arr (g v o n : Nat) : addS h c tb k (.arr g v o n) = addW h tb k (.arr g v o n) := rfl
theorem addS_map (g v : Nat) : addS h c tb k (.map g v) = addW h tb k (.map g v) := rfl
theorem addS_ptr (g v o : Nat) : addS h c tb k (.ptr g v o) = addP h c tb k g v (h g) := rfl
theorem addW_arr (g v o n : Nat) : addW h tb k (.arr g v o n) = if curW h g v o = true ∧ findW tb g = none then tb ++ [⟨g, k, 0, o, n⟩] else tb := rfl
theorem addW_map (g v : Nat) : addW h tb k (.map g v) = if curMap h g v = true ∧ findW tb g = none then tb ++ [⟨g, k, 0, 0, 0⟩] else tb := rfl
theorem addP_box (g ver v : Nat) (cells : List AV) : addP h c tb k g ver (some (.box v cells)) = if v = ver then addB h tb g (if c = true then k else g) cells else tb := rfl
theorem ren_F {α : Type} {w : Nat} {e : α → List AV} [hE : EncOK w e] (x : FS α) : ren h tb (encF e x) = encF e x := ren_flat (encF_flat x)
theorem addS_F {α : Type} {w : Nat} {e : α → List AV} [hE : EncOK w e] (x : FS α) : addS h c tb k (encF e x) = tb := addS_flat _ _ _ _ _ (encF_flat x)
theorem addW_F {α : Type} {w : Nat} {e : α → List AV} [hE : EncOK w e] (x : FS α) : addW h tb k (encF e x) = tb := addW_flat _ _ _ _ (encF_flat x)
end
theorem findW_nil (g : Nat) : findW [] g = none := rfl
theorem findW_cons (x : Win) (r : List Win) (g : Nat) : findW (x :: r) g = if x.g = g then some x else findW r g := rfl
theorem norm_nil (ks : List Nat) (F : Nat → AV) (h : Heap) : norm [] ks ⟨F, h⟩ = normT h F ks (mkTb h false F ks []) := rfl
theorem mkTb_nil (h : Heap) (c : Bool) (F : Nat → AV) (tb : List Win) : mkTb h c F [] tb = tb := rfl
theorem mkTb_cons (h : Heap) (c : Bool) (F : Nat → AV) (k : Nat) (r : List Nat) (tb : List Win) : mkTb h c F (k :: r) tb = mkTb h c F r (addS h c tb k (F k)) := rfl
theorem frR_nil (h : Heap) (tb : List Win) (F : Nat → AV) : frR h tb F [] = [] := rfl
theorem frR_cons (h : Heap) (tb : List Win) (F : Nat → AV) (k : Nat) (r : List Nat) : frR h tb F (k :: r) = (k, ren h tb (F k)) :: frR h tb F r := rfl
theorem hlR_nil (h : Heap) (tb : List Win) : hlR h tb [] = [] := rfl
theorem hlR_cons (h : Heap) (tb : List Win) (x : Win) (r : List Win) : hlR h tb (x :: r) = hlRC x.nn (renM h tb x (h x.g)) (hlR h tb r) := rfl
theorem hlRC_some (n : Nat) (o : AObj) (r : List (Nat × AObj)) : hlRC n (some o) r = (n, o) :: r := rfl
theorem renM_some (h : Heap) (tb : List Win) (x : Win) (o : AObj) : renM h tb x (some o) = some (renO h tb x o) := rfl
theorem renO_box (h : Heap) (tb : List Win) (x : Win) (v : Nat) (c : List AV) : renO h tb x (.box v c) = .box x.v (renC h tb c) := rfl
theorem renO_arr (h : Heap) (tb : List Win) (x : Win) (v e : Nat) (t : TypeId) (c : List AV) (z : Bool) : renO h tb x (.arr v e t c z) = .arr x.v e t (renC h tb (cut c (x.off * e) (x.len * e))) z := rfl
theorem renO_map (h : Heap) (tb : List Win) (x : Win) (v : Nat) (es : List (AV × AV)) (z : Bool) : renO h tb x (.map v es z) = .map x.v (renE h tb es) z := rfl
theorem renC_flat (h : Heap) (tb : List Win) (c : List AV) (hf : c.all AV.flat = true) : renC h tb c = c := by unfold renC; rw [if_pos hf]
theorem iaddrA_ptr (h : Heap) (len esz g v o : Nat) (k : IntKind) (i : Int) : iaddrAV h len esz (.ptr g v o) (.int k i) = if 0 ≤ i ∧ i < len ∧ cur h g v = true then some (.ptr g v (o + i.toNat * esz)) else none := rfl
theorem finP_some (h : Heap) (v : AV) : finishP h (some v) = match snap h depth v with | some (u, _) => some (u, fun _ => none) | none => none := rfl
theorem aggV_some (h : Heap) (l : List AV) : aggV h (some l) = some (.agg l, h) := rfl
theorem pack_f (v : AV) (l : List AV) : pack false (v :: l) 0 1 = some v := rfl
theorem frz_0 (h : Heap) : freezeAll h [] = h := by funext g; simp [freezeAll]
theorem flat_bool (b : Bool) : AV.flat (.bool b) = true := rfl
theorem flat_int (k : IntKind) (n : Int) : AV.flat (.int k n) = true := rfl
theorem flat_str (b : ByteArray) : AV.flat (.str b) = true := rfl
theorem flat_nils : AV.flat .nils = true := rfl
theorem flat_nilp : AV.flat .nilp = true := rfl
theorem flat_nilf : AV.flat .nilf = true := rfl
theorem flat_nilm : AV.flat .nilm = true := rfl
theorem flat_lst (n : Nat) (l : List AV) : AV.flat (.lst n l) = true := rfl
theorem flat_arr (a b c d : Nat) : AV.flat (.arr a b c d) = false := rfl
theorem flat_ptr (a b c : Nat) : AV.flat (.ptr a b c) = false := rfl
theorem flat_mpr (a b : List AV) : AV.flat (.mpr a b) = true := rfl
theorem flat_map (a b : Nat) : AV.flat (.map a b) = false := rfl
theorem flat_agg (l : List AV) : AV.flat (.agg l) = false := rfl
theorem flat_tup (l : List AV) : AV.flat (.tup l) = false := rfl
theorem flat_fn (f : FuncId) (l : List AV) : AV.flat (.fn f l) = false := rfl
theorem flat_any : AV.flat .any = false := rfl
theorem cv_agg (l : List AV) : AV.cells (.agg l) = some l := rfl
theorem cv_bool (b : Bool) : AV.cells (.bool b) = some [.bool b] := rfl
theorem cv_int (k : IntKind) (n : Int) : AV.cells (.int k n) = some [.int k n] := rfl
theorem cv_str (b : ByteArray) : AV.cells (.str b) = some [.str b] := rfl
theorem cv_nils : AV.cells .nils = some [.nils] := rfl
theorem cv_nilp : AV.cells .nilp = some [.nilp] := rfl
theorem cv_nilf : AV.cells .nilf = some [.nilf] := rfl
theorem cv_nilm : AV.cells .nilm = some [.nilm] := rfl
theorem cv_lst (n : Nat) (l : List AV) : AV.cells (.lst n l) = some [.lst n l] := rfl
theorem cv_fn (f : FuncId) (l : List AV) : AV.cells (.fn f l) = some [.fn f l] := rfl
theorem cv_arr (a b c d : Nat) : AV.cells (.arr a b c d) = some [.arr a b c d] := rfl
theorem cv_ptr (a b c : Nat) : AV.cells (.ptr a b c) = some [.ptr a b c] := rfl
theorem cv_mpr (a b : List AV) : AV.cells (.mpr a b) = some [.mpr a b] := rfl
theorem cv_map (a b : Nat) : AV.cells (.map a b) = some [.map a b] := rfl
section
variable (h : Heap) (n g v off len esz : Nat) (l : List AV) (k : IntKind) (i : Int)
theorem lenV_nils : lenV h .nils = some 0 := rfl
theorem lenV_lst : lenV h (.lst n l) = some n := rfl
theorem lenV_arr : lenV h (.arr g v off len) = if curAny h g v then some (len : Int) else none := rfl
theorem elemsV_nils : elemsV h esz .nils = some [] := rfl
theorem elemsV_arr : elemsV h esz (.arr g v off len) = match h g with
    | some (.arr ver' esz' _ cells _) => if v = ver' ∧ esz = esz' ∧ (off + len) * esz ≤ cells.length then some (cut cells (off * esz) (len * esz)) else none
    | _ => none := rfl
end
theorem snap_arrE {α : Type} {w : Nat} {e : α → List AV} [hE : EncOK w e] {h : Heap} {g v : Nat} {l : List α} {el : TypeId} {fz : Bool} (k : Nat) (e1 : h g = some (.arr v w el (cellsE e l) fz)) :
    snap h (k + 1) (.arr g v 0 l.length) = some (encF e (.lst l), [g]) := by
  simp only [snap, e1]
  rw [if_pos ⟨trivial, by rw [cellsE_len (e := e)]; simp⟩, if_pos]
  · rw [Nat.zero_mul, cut_cells (e := e) l _ rfl]; rfl
  · rw [Nat.zero_mul, cut_cells (e := e) l _ rfl]; exact cellsE_flat l
theorem band_t (x : Bool) : band true x = x := by cases x <;> rfl
theorem band_f (x : Bool) : band false x = false := by cases x <;> rfl
theorem band_t' (x : Bool) : band x true = x := by cases x <;> rfl
theorem band_f' (x : Bool) : band x false = false := by cases x <;> rfl
theorem bor_t (x : Bool) : bor true x = true := by cases x <;> rfl
theorem bor_f (x : Bool) : bor false x = x := by cases x <;> rfl
theorem bor_t' (x : Bool) : bor x true = true := by cases x <;> rfl
theorem bor_f' (x : Bool) : bor x false = x := by cases x <;> rfl
theorem bnot_t : bnot true = false := rfl
theorem bnot_f : bnot false = true := rfl
theorem beqB_tt : beqB true true = true := rfl
theorem beqB_ff : beqB false false = true := rfl
theorem beqB_tf : beqB true false = false := rfl
theorem beqB_ft : beqB false true = false := rfl
theorem tof (x : Bool) : x = true ∨ x = false := by cases x <;> simp
theorem pack_cons (ag : Bool) (v : AV) (l : List AV) (off n : Nat) : pack ag (v :: l) off n = if off + n ≤ (v :: l).length then (if ag = true then some (.agg (((v :: l).drop off).take n)) else (v :: l)[off]?) else none := rfl
theorem cut_cons (v : AV) (l : List AV) (off n : Nat) : cut (v :: l) off n = ((v :: l).drop off).take n := rfl
theorem cut_nil0 (off n : Nat) : cut [] off n = [] := by simp [cut]
theorem paste_cons (v : AV) (l : List AV) (off : Nat) (c : List AV) : paste (v :: l) off c = (v :: l).take off ++ c ++ (v :: l).drop (off + c.length) := rfl
theorem cellsE_nil {α : Type} (e : α → List AV) : cellsE e [] = [] := rfl
theorem frz_at (h : Heap) (ns : List Nat) (g : Nat) : freezeAll h ns g = if g ∈ ns then (h g).map AObj.freeze else h g := rfl
/-- A row of the call's own, or nil. -/
inductive OS (α : Type) where
  | nil
  | own (l : List α)
def OS.l {α : Type} : OS α → List α
  | .nil => []
  | .own l => l
def OS.f {α : Type} : OS α → FS α
  | .nil => .nil
  | .own l => .lst l
theorem lenV_1 (h : Heap) (g v off : Nat) : lenV h (.arr g v off 1) = if curAny h g v = true then some 1 else none := rfl
theorem lenV_0 (h : Heap) (g v off : Nat) : lenV h (.arr g v off 0) = if curAny h g v = true then some 0 else none := rfl
theorem encF_nil {α : Type} (e : α → List AV) : encF e .nil = .nils := rfl
theorem bslV_1 (h : Heap) (g0 esz : Nat) (el : TypeId) (l : List AV) : bslV h g0 1 esz el (some l) = some (.arr g0 (newVer h g0) 0 1, upd h g0 (some (.arr (newVer h g0) esz el l false))) := rfl
def tupS : Option (List (AV × List Nat)) → Option (AV × List Nat)
  | some ps => some (.tup (ps.map (·.1)), ps.flatMap (·.2))
  | none => none
theorem snap_tupE (h : Heap) (l : List AV) : snap h depth (.tup l) = tupS (l.mapM (snap h 7)) := rfl
theorem snap7_int (h : Heap) (k : IntKind) (n : Int) : snap h 7 (.int k n) = some (.int k n, []) := rfl
theorem snap7_bool (h : Heap) (b : Bool) : snap h 7 (.bool b) = some (.bool b, []) := rfl
theorem snap7_str (h : Heap) (b : ByteArray) : snap h 7 (.str b) = some (.str b, []) := rfl
theorem snap7_nils (h : Heap) : snap h 7 .nils = some (.nils, []) := rfl
theorem snap7_agg (h : Heap) (l : List AV) (hl : l.all AV.flat = true) : snap h 7 (.agg l) = some (.agg l, []) := by
  simp only [snap]
  rw [if_pos hl]
theorem gOpt_eqD {α : Type} {c : Bool} {o : Option α} {v : Option α} {u : α} (d : α) (h : gOpt c o = some v) (hc : c = true) (ho : o = some u) : v.getD d = u := by
  have := gOpt_getD d h hc
  rw [ho] at this
  exact (Option.some.inj this).symm
theorem snap_arrD {α : Type} {w : Nat} {e : α → List AV} [hE : EncOK w e] {h : Heap} {g v : Nat} {l : List α} {el : TypeId} {fz : Bool} (e1 : h g = some (.arr v w el (cellsE e l) fz)) :
    snap h depth (.arr g v 0 l.length) = some (encF e (.lst l), [g]) := snap_arrE 7 e1
theorem snap_arr7 {α : Type} {w : Nat} {e : α → List AV} [hE : EncOK w e] {h : Heap} {g v : Nat} {l : List α} {el : TypeId} {fz : Bool} (e1 : h g = some (.arr v w el (cellsE e l) fz)) :
    snap h 7 (.arr g v 0 l.length) = some (encF e (.lst l), [g]) := snap_arrE 6 e1
attribute [simp ↓]
  EC_seq RC_reg RC_regD EC_ret EC_skip RC_cond EC_blk EC_exit step_none step_guard ops_nil ops_cons opsD_nil opsD_cons stepD op_mov op_pick op_alloc
  op_box op_build op_bslice op_bslz op_load op_store op_ibin op_eqv op_un op_conv op_nilck op_mkfn op_mkS op_slc op_faddr op_fld op_iaddr op_iaddrA op_idx
  op_ext op_len op_lenM op_lenS op_app op_callp op_callz op_callr op_callv op_callw op_callq op_frz op_mkM op_look op_setM op_delM op_shf op_mm evF_t evF_c evs_nil evs_cons evO_none evO_some fillsF_nil fillsF_cons upd_at
  fr_at hl_at hl_nil loop_eq trim_eq norm_nil mkTb_nil mkTb_cons frR_nil frR_cons hlR_nil hlR_cons
attribute [simp]
  band_t band_f band_t' band_f' bor_t bor_f bor_t' bor_f' bnot_t bnot_f beqB_tt beqB_ff beqB_tf beqB_ft
  guard_bool guard_tup guard_ite guard_ite' bindS_some bindS_ite doneS_some doneS_ite cond_bool then_normal then_exit then_ret then_ite blk_normal
  blk_ret blk_exit blk_ite fin_ret fin_normal fin_ite putR_some putR_none putR_ite ite_pairs LOp.isNew retV_some retV_none retI_some pick_bool binV_int
  bin_add bin_sub bin_mul bin_quo bin_rem bin_and bin_or bin_xor bin_andn bin_eql bin_neq bin_lss bin_leq bin_gtr bin_geq un_not un_neg conv_int shf_shl shf_shr mm_max mm_min
  cell_int cell_bool cells_eq cells_eq0 consEq_some eqV_agg eqV_one eqR_t eqR_f ite_boolV ite_intV ite_bor ite_band ite_born ite_bandn not_bool not_boolf
  boxV aggV_some bslV_1 stoV fldV extV nilV retP retZ calP calZ calV frzV retQ calQ argsF resV RV.get mapM_opt_nil mapM_opt_cons snap_bool
  snap_int snap_str snap_lst snap_nils snap_rptr snap_fn0 snap_agg snaps_nil snaps_cons AV.scalar newVer loadV storeV derefC
  cut_cons cut_nil0 cellsE_nil frz_at cur curA curAny curM curBox curW curMap boundV faddrV repeatL AObj.ver AObj.fz
  lenV_nils lenV_lst lenV_1 lenV_0 elemsV_nils elemsV_arr
  flat_bool flat_int flat_str flat_nils flat_nilp flat_nilf flat_nilm flat_lst flat_arr flat_ptr flat_map flat_mpr flat_agg flat_tup flat_fn flat_any
  cv_agg cv_bool cv_int cv_str cv_nils cv_nilp cv_nilf cv_nilm cv_lst cv_fn cv_arr cv_ptr cv_map cv_mpr
  addS_any addS_bool addS_int addS_str addS_nils addS_nilp addS_nilf addS_nilm addS_lst addS_rptr addS_agg addS_tup addS_fn addS_arr addS_map addS_ptr addW_arr addW_map addP_box addB addC
  addW_flat findW_nil findW_cons trimR_some normT nnB hlRC_some renM_some renO_box renO_arr renO_map renC_flat ren renL renC finP_some frz_0
  encF_nil encF_flat lenV_F cells_F snap_F snap7_F ren_F addS_F addW_F cellsE_flat cellsE_len cut_cells elems_F
theorem idx_agg (len esz : Nat) (ag : Bool) (l : List AV) (k : IntKind) (i : Int) : idxV len esz ag (.agg l) (.int k i) = if 0 ≤ i ∧ i < len then pack ag l (i.toNat * esz) esz else none := rfl
theorem iaddrA_rl (h : Heap) (len esz : Nat) (l : List AV) (k : IntKind) (i : Int) : iaddrAV h len esz (.rptr l) (.int k i) = if 0 ≤ i ∧ i < len then some (.rptr (l.drop (i.toNat * esz))) else none := rfl
attribute [simp 500] pack_cons paste_cons iaddrA_ptr idx_agg iaddrA_rl
end Go.Vv
